/- wire: the encodings and the reader, in plain Lean. -/
/- wire: what was written is read again, and what is read was written so: in plain Lean. -/
/- wire: the reference's reader, in plain Lean: it reads what the reader reads. -/
/- chain: entries, right chains, encodings, in plain Lean. -/
import Derived.Lib.AtoiAll
import Derived.Lib.ItoaNum
import Derived.IntWalk
namespace Go.Proofs.YtjncmlglhegnaaaGreatDoor
open Go.Lib

/-- a decimal digit -/
def isDig (c : UInt8) : Prop := 48 ≤ c.toNat ∧ c.toNat ≤ 57
theorem dig_of {d : Nat} (h : d < 10) : isDig (UInt8.ofNat (48 + d)) ∧ (UInt8.ofNat (48 + d)).toNat - 48 = d := by
  have e : (UInt8.ofNat (48 + d)).toNat = 48 + d := by simp; omega
  unfold isDig
  rw [e]
  omega
theorem dec_dig (u : Nat) : ∀ c ∈ decDigits u, isDig c := by
  induction u using Nat.strongRecOn with
  | _ u ih =>
    intro c hc
    by_cases h : u < 10
    · rw [decDigits, dif_pos h] at hc
      simp only [List.mem_cons, List.not_mem_nil, or_false] at hc
      subst hc
      exact (dig_of h).1
    · rw [decDigits, dif_neg h] at hc
      rcases List.mem_append.1 hc with hc | hc
      · exact ih (u / 10) (by omega) c hc
      · simp only [List.mem_cons, List.not_mem_nil, or_false] at hc
        subst hc
        exact (dig_of (Nat.mod_lt _ (by omega))).1
theorem dec_ne (u : Nat) : decDigits u ≠ [] := by
  intro h
  have h1 := decDigits_length u
  have h2 := nDigits_pos u
  rw [h] at h1
  simp at h1
  omega
theorem parse_snoc : ∀ (l : List UInt8) (acc v : Nat) (c : UInt8), parseUint10 acc l = .ok v → isDig c → v * 10 + (c.toNat - 48) < 18446744073709551616 → parseUint10 acc (l ++ [c]) = .ok (v * 10 + (c.toNat - 48))
  | [], acc, v, c, h, hc, hb => by
    simp only [parseUint10] at h
    injection h with h
    subst h
    unfold isDig at hc
    simp only [List.nil_append, parseUint10]
    rw [if_pos hc, if_neg (by omega), if_neg (by omega)]
  | x :: l, acc, v, c, h, hc, hb => by
    simp only [List.cons_append, parseUint10] at h ⊢
    split at h
    · rename_i h1
      rw [if_pos h1]
      split at h
      · cases h
      · rename_i h2
        rw [if_neg h2]
        split at h
        · cases h
        · rename_i h3
          rw [if_neg h3]
          exact parse_snoc l _ v c h hc hb
    · cases h
theorem parse_dec (u : Nat) : u < 18446744073709551616 → parseUint10 0 (decDigits u) = .ok u := by
  induction u using Nat.strongRecOn with
  | _ u ih =>
    intro hu
    by_cases h : u < 10
    · rw [decDigits, dif_pos h]
      have h1 := dig_of h
      have := parse_snoc [] 0 0 (UInt8.ofNat (48 + u)) rfl h1.1 (by omega)
      rw [h1.2, Nat.zero_mul, Nat.zero_add] at this
      exact this
    · rw [decDigits, dif_neg h]
      have h1 := dig_of (Nat.mod_lt u (show 0 < 10 by omega))
      have := parse_snoc _ 0 (u / 10) (UInt8.ofNat (48 + u % 10)) (ih (u / 10) (by omega) (by omega)) h1.1 (by rw [h1.2]; omega)
      rw [h1.2, show u / 10 * 10 + u % 10 = u by omega] at this
      exact this
/-- an int's numeral has digits and perhaps a sign -/
theorem itoa_chars (n : Int) : ∀ c ∈ itoa n, c = 45 ∨ isDig c := by
  intro c hc
  unfold itoa at hc
  split at hc
  · rcases List.mem_cons.1 hc with rfl | hc
    · exact .inl rfl
    · exact .inr (dec_dig _ c hc)
  · exact .inr (dec_dig _ c hc)
/-- Atoi reads what Itoa wrote -/
theorem atoi_itoa {n : Int} (h0 : -9223372036854775808 ≤ n) (h1 : n ≤ 9223372036854775807) : atoiAll (itoa n) = .ok n := by
  unfold itoa
  split
  · rename_i hn
    unfold atoiAll
    have hp : parseMag (decDigits n.natAbs) = .ok n.natAbs := by
      unfold parseMag
      rw [if_neg (dec_ne _)]
      exact parse_dec _ (by omega)
    have h45 : (45 : UInt8).toNat = 45 := rfl
    simp only [h45, or_true, if_true, hp, not_true_eq_false, false_and, if_false, true_and]
    rw [if_neg (by omega)]
    congr 1
    omega
  · rename_i hn
    have hp : parseMag (decDigits n.toNat) = .ok n.toNat := by
      unfold parseMag
      rw [if_neg (dec_ne _)]
      exact parse_dec _ (by omega)
    have hd := dec_dig n.toNat
    revert hp hd
    cases hl : decDigits n.toNat with
    | nil => exact absurd hl (dec_ne _)
    | cons c r =>
      intro hp hd
      have hc := hd c (by simp)
      unfold isDig at hc
      unfold atoiAll
      have e1 : ¬ (c.toNat = 43 ∨ c.toNat = 45) := by omega
      have e2 : ¬ c.toNat = 45 := by omega
      simp only
      rw [if_neg e1, hp]
      simp only [e2, if_false, not_false_eq_true, true_and, false_and]
      rw [if_neg (by omega)]
      congr 1
      omega
theorem nDigits_le : ∀ (k u : Nat), u < 10 ^ (k + 1) → nDigits u ≤ k + 1
  | 0, u, h => by rw [nDigits_small (by simpa using h)]; exact Nat.le_refl _
  | k + 1, u, h => by
    by_cases hs : u < 10
    · rw [nDigits_small hs]; omega
    · rw [nDigits_big hs]
      have := nDigits_le k (u / 10) (by rw [Nat.pow_succ] at h; omega)
      omega
theorem itoa_length {n : Int} (h0 : -9223372036854775808 ≤ n) (h1 : n ≤ 9223372036854775807) : (itoa n).length ≤ 20 := by
  have h : ∀ u : Nat, u ≤ 9223372036854775808 → (decDigits u).length ≤ 19 := fun u hu => by
    rw [decDigits_length]
    exact nDigits_le 18 u (by omega)
  unfold itoa
  split
  · have := h n.natAbs (by omega)
    simp only [List.length_cons]
    omega
  · have := h n.toNat (by omega)
    omega
/-- Itoa is one to one -/
theorem itoa_inj {a b : Int} (ha : -9223372036854775808 ≤ a ∧ a ≤ 9223372036854775807) (hb : -9223372036854775808 ≤ b ∧ b ≤ 9223372036854775807) (h : itoa a = itoa b) : a = b := by
  have h1 := atoi_itoa ha.1 ha.2
  rw [h, atoi_itoa hb.1 hb.2] at h1
  injection h1 with h1
  exact h1.symm
theorem atoiAll_rng {l : List UInt8} {n : Int} (h : atoiAll l = .ok n) : -9223372036854775808 ≤ n ∧ n ≤ 9223372036854775807 := by
  unfold atoiAll at h
  split at h
  · cases h
  · simp only at h
    split at h
    · cases h
    · cases h
    · split at h
      · cases h
      · split at h
        · cases h
        · injection h with h
          subst h
          split <;> omega

/-! the encodings -/
def encI (n : Int) : List UInt8 := itoa n ++ [59]
def encN (n : Int) : List UInt8 := if n < 0 then [] else encI n
def encT (s : List UInt8) : List UInt8 := itoa (s.length : Int) ++ 58 :: (s ++ [44])
def encIs (l : List Int) : List UInt8 := itoa (l.length : Int) ++ 91 :: ((l.map encI).flatten ++ [93])
def encTs (l : List (List UInt8)) : List UInt8 := itoa (l.length : Int) ++ 91 :: ((l.map encT).flatten ++ [93])

/-! the reader: what is left, and whether it has failed -/
structure RdV where
  rest : List UInt8
  bad : Bool
def RdV.fail : RdV := ⟨[], true⟩
/-- the first place of a byte -/
def placeOf (e : UInt8) : List UInt8 → Option Nat
  | [] => none
  | c :: l => if c = e then some 0 else (placeOf e l).map (· + 1)
theorem placeOf_here {e : UInt8} {t : List UInt8} : ∀ {l : List UInt8}, (∀ c ∈ l, c ≠ e) → placeOf e (l ++ e :: t) = some l.length
  | [], _ => by simp [placeOf]
  | c :: l, h => by
    simp only [List.cons_append, placeOf]
    rw [if_neg (h c (by simp)), placeOf_here fun c hc => h c (by simp [hc])]
    rfl
theorem placeOf_some {e : UInt8} : ∀ {l : List UInt8} {i : Nat}, placeOf e l = some i → ∃ t, l = l.take i ++ e :: t ∧ i < l.length ∧ ∀ c ∈ l.take i, c ≠ e
  | [], i, h => by simp [placeOf] at h
  | c :: l, i, h => by
    simp only [placeOf] at h
    split at h
    · rename_i he
      injection h with h
      subst h
      exact ⟨l, by simp [he], by simp, by simp⟩
    · rename_i he
      cases hp : placeOf e l with
      | none => rw [hp] at h; cases h
      | some j =>
        rw [hp] at h
        injection h with h
        subst h
        obtain ⟨t, h1, h2, h3⟩ := placeOf_some hp
        refine ⟨t, ?_, by simp; omega, ?_⟩
        · simp only [List.take_succ_cons, List.cons_append]
          rw [← h1]
        · intro x hx
          simp only [List.take_succ_cons, List.mem_cons] at hx
          rcases hx with rfl | hx
          · exact he
          · exact h3 x hx
def numF (e : UInt8) (least : Int) (r : RdV) : Int × RdV :=
  match placeOf e (r.rest.take 21) with
  | none => (0, .fail)
  | some i =>
    match atoiAll (r.rest.take i) with
    | .ok n => if itoa n = r.rest.take i ∧ least ≤ n then (n, ⟨r.rest.drop (i + 1), r.bad⟩) else (0, .fail)
    | _ => (0, .fail)
/-- a byte that ends a number -/
def Ender (e : UInt8) : Prop := e ≠ 45 ∧ ¬ isDig e
theorem ender_59 : Ender 59 := by unfold Ender isDig; decide
theorem ender_58 : Ender 58 := by unfold Ender isDig; decide
theorem ender_91 : Ender 91 := by unfold Ender isDig; decide
theorem itoa_no {e : UInt8} (he : Ender e) (n : Int) : ∀ c ∈ itoa n, c ≠ e := fun c hc h => by
  subst h
  rcases itoa_chars n c hc with h | h
  · exact he.1 h
  · exact he.2 h
/-- a number that was written is read -/
theorem numF_read {e : UInt8} (he : Ender e) {least n : Int} (h0 : -9223372036854775808 ≤ n) (h1 : n ≤ 9223372036854775807) (hl : least ≤ n) (t : List UInt8) (b : Bool) : numF e least ⟨itoa n ++ e :: t, b⟩ = (n, ⟨t, b⟩) := by
  have hlen := itoa_length h0 h1
  have htk : (itoa n ++ e :: t).take 21 = itoa n ++ e :: t.take (20 - (itoa n).length) := by
    rw [List.take_append, List.take_of_length_le (by omega), show 21 - (itoa n).length = (20 - (itoa n).length) + 1 by omega, List.take_succ_cons]
  have hp : placeOf e ((itoa n ++ e :: t).take 21) = some (itoa n).length := by
    rw [htk]
    exact placeOf_here (itoa_no he n)
  have h2 : (itoa n ++ e :: t).take (itoa n).length = itoa n := by simp
  have h3 : (itoa n ++ e :: t).drop ((itoa n).length + 1) = t := by
    rw [List.drop_append]
    simp
  unfold numF
  simp only [hp, h2, atoi_itoa h0 h1, hl, and_self, if_true, h3]
/-- what is read without failing was written so -/
theorem numF_was {e : UInt8} {least : Int} {r r' : RdV} {n : Int} (h : numF e least r = (n, r')) : (n = 0 ∧ r' = .fail) ∨ (r.rest = itoa n ++ e :: r'.rest ∧ r'.bad = r.bad ∧ least ≤ n ∧ -9223372036854775808 ≤ n ∧ n ≤ 9223372036854775807) := by
  unfold numF at h
  split at h
  · injection h with h1 h2
    exact .inl ⟨h1.symm, h2.symm⟩
  · rename_i i hi
    split at h
    · rename_i m hm
      split at h
      · rename_i hc
        injection h with h1 h2
        subst h1 h2
        refine .inr ⟨?_, rfl, hc.2, (atoiAll_rng hm).1, (atoiAll_rng hm).2⟩
        obtain ⟨t, h1, h2, h3⟩ := placeOf_some hi
        rw [List.length_take] at h2
        have h4 : r.rest[i]? = some e := by
          have : (r.rest.take 21)[i]? = some e := by
            rw [h1, List.getElem?_append_right (by simp; omega)]
            simp
            rw [Nat.sub_eq_zero_of_le (by omega)]
            rfl
          rw [List.getElem?_take_of_lt (by omega)] at this
          exact this
        rw [hc.1]
        obtain ⟨hlt, h5⟩ := List.getElem?_eq_some_iff.1 h4
        rw [← h5, List.getElem_cons_drop, List.take_append_drop]
      · injection h with h1 h2
        exact .inl ⟨h1.symm, h2.symm⟩
    · injection h with h1 h2
      exact .inl ⟨h1.symm, h2.symm⟩
end Go.Proofs.YtjncmlglhegnaaaGreatDoor
namespace Go.Proofs.YtjncmlglhegnaaaGreatDoor
open Go.Lib

def closeF (e : UInt8) (r : RdV) : RdV :=
  match r.rest with
  | [] => .fail
  | c :: t => if c = e then ⟨t, r.bad⟩ else .fail
def intF (r : RdV) : Int × RdV := numF 59 (-9223372036854775808) r
def natF (r : RdV) : Int × RdV := numF 59 0 r
def textF (r : RdV) : List UInt8 × RdV :=
  if ((numF 58 0 r).2.rest.length : Int) < (numF 58 0 r).1 then ([], .fail)
  else if (closeF 44 ⟨(numF 58 0 r).2.rest.drop (numF 58 0 r).1.toNat, (numF 58 0 r).2.bad⟩).bad = true then ([], closeF 44 ⟨(numF 58 0 r).2.rest.drop (numF 58 0 r).1.toNat, (numF 58 0 r).2.bad⟩)
  else ((numF 58 0 r).2.rest.take (numF 58 0 r).1.toNat, closeF 44 ⟨(numF 58 0 r).2.rest.drop (numF 58 0 r).1.toNat, (numF 58 0 r).2.bad⟩)
section
variable {α : Type} (one : RdV → α × RdV)
/-- at most k items, while the reader has not failed -/
def runF : Nat → RdV → List α × RdV
  | 0, r => ([], r)
  | k + 1, r => if r.bad = true then ([], r) else ((one r).1 :: (runF k (one r).2).1, (runF k (one r).2).2)
def itemsF (r : RdV) : List α × RdV :=
  if (closeF 93 (runF one (numF 91 0 r).1.toNat (numF 91 0 r).2).2).bad = true then ([], closeF 93 (runF one (numF 91 0 r).1.toNat (numF 91 0 r).2).2)
  else ((runF one (numF 91 0 r).1.toNat (numF 91 0 r).2).1, closeF 93 (runF one (numF 91 0 r).1.toNat (numF 91 0 r).2).2)
end
def intsF : RdV → List Int × RdV := itemsF intF

theorem closeF_read (e : UInt8) (t : List UInt8) (b : Bool) : closeF e ⟨e :: t, b⟩ = ⟨t, b⟩ := by simp [closeF]
theorem closeF_was {e : UInt8} {r r' : RdV} (h : closeF e r = r') (hb : r'.bad = false) : r.rest = e :: r'.rest ∧ r.bad = false := by
  unfold closeF at h
  split at h
  · rw [← h] at hb
    cases hb
  · rename_i c t he
    split at h
    · rename_i hc
      subst h
      exact ⟨by rw [he, hc], hb⟩
    · rw [← h] at hb
      cases hb
theorem intF_read {n : Int} (h0 : -9223372036854775808 ≤ n) (h1 : n ≤ 9223372036854775807) (t : List UInt8) (b : Bool) : intF ⟨encI n ++ t, b⟩ = (n, ⟨t, b⟩) := by
  unfold intF encI
  rw [List.append_assoc]
  exact numF_read ender_59 h0 h1 h0 t b
theorem natF_read {n : Int} (h0 : 0 ≤ n) (h1 : n ≤ 9223372036854775807) (t : List UInt8) (b : Bool) : natF ⟨encN n ++ t, b⟩ = (n, ⟨t, b⟩) := by
  unfold natF encN encI
  rw [if_neg (by omega), List.append_assoc]
  exact numF_read ender_59 (by omega) h1 h0 t b
theorem textF_read {s : List UInt8} (h1 : (s.length : Int) ≤ 9223372036854775807) (t : List UInt8) : textF ⟨encT s ++ t, false⟩ = (s, ⟨t, false⟩) := by
  have h := numF_read ender_58 (least := 0) (n := (s.length : Int)) (by omega) h1 (by omega) (s ++ 44 :: t) false
  have e : encT s ++ t = itoa (s.length : Int) ++ 58 :: (s ++ 44 :: t) := by unfold encT; simp
  unfold textF
  rw [e, h]
  simp only [Int.toNat_natCast]
  rw [if_neg (by simp; omega)]
  simp [closeF_read]
section
variable {α : Type} {one : RdV → α × RdV} {enc : α → List UInt8}
theorem runF_read : ∀ (l : List α) (t : List UInt8), (∀ x ∈ l, ∀ t, one ⟨enc x ++ t, false⟩ = (x, ⟨t, false⟩)) → runF one l.length ⟨(l.map enc).flatten ++ t, false⟩ = (l, ⟨t, false⟩)
  | [], t, _ => rfl
  | x :: l, t, h => by
    have h1 := h x (by simp) ((l.map enc).flatten ++ t)
    have h2 := runF_read l t fun y hy => h y (by simp [hy])
    simp only [List.length_cons, List.map_cons, List.flatten_cons, runF, Bool.false_eq_true, if_false, List.append_assoc, h1, h2]
theorem itemsF_read {l : List α} (hl : (l.length : Int) ≤ 9223372036854775807) (t : List UInt8) (h : ∀ x ∈ l, ∀ t, one ⟨enc x ++ t, false⟩ = (x, ⟨t, false⟩)) : itemsF one ⟨itoa (l.length : Int) ++ 91 :: ((l.map enc).flatten ++ 93 :: t), false⟩ = (l, ⟨t, false⟩) := by
  have h1 := numF_read ender_91 (least := 0) (n := (l.length : Int)) (by omega) hl (by omega) ((l.map enc).flatten ++ 93 :: t) false
  unfold itemsF
  rw [h1]
  simp only [Int.toNat_natCast, runF_read l (93 :: t) h, closeF_read, Bool.false_eq_true, if_false]
/-- what a reader of one value promises -/
def Was (one : RdV → α × RdV) (enc : α → List UInt8) : Prop := ∀ r x r', one r = (x, r') → r'.bad = false → r.rest = enc x ++ r'.rest ∧ r.bad = false
theorem runF_was (ho : Was one enc) : ∀ (k : Nat) (r : RdV) (l : List α) (r' : RdV), runF one k r = (l, r') → r'.bad = false → r.rest = (l.map enc).flatten ++ r'.rest ∧ r.bad = false ∧ l.length = k
  | 0, r, l, r', h, hb => by
    simp only [runF] at h
    injection h with h1 h2
    subst h1 h2
    exact ⟨rfl, hb, rfl⟩
  | k + 1, r, l, r', h, hb => by
    simp only [runF] at h
    split at h
    · rename_i hbad
      injection h with h1 h2
      subst h2
      rw [hbad] at hb
      cases hb
    · injection h with h1 h2
      obtain ⟨x, r1, h3⟩ : ∃ x r1, one r = (x, r1) := ⟨_, _, rfl⟩
      rw [h3] at h1 h2
      obtain ⟨l2, r2, h4⟩ : ∃ l2 r2, runF one k r1 = (l2, r2) := ⟨_, _, rfl⟩
      rw [h4] at h1 h2
      subst h1 h2
      obtain ⟨a1, a2, a3⟩ := runF_was ho k r1 l2 r2 h4 hb
      obtain ⟨b1, b2⟩ := ho r x r1 h3 a2
      exact ⟨by rw [b1, a1]; simp, b2, by simp [a3]⟩
theorem itemsF_was (ho : Was one enc) : Was (itemsF one) fun l => itoa (l.length : Int) ++ 91 :: ((l.map enc).flatten ++ [93]) := by
  intro r l r' h hb
  obtain ⟨n, r1, h1⟩ : ∃ n r1, numF 91 0 r = (n, r1) := ⟨_, _, rfl⟩
  obtain ⟨l2, r2, h2⟩ : ∃ l2 r2, runF one n.toNat r1 = (l2, r2) := ⟨_, _, rfl⟩
  unfold itemsF at h
  simp only [h1, h2] at h
  split at h
  · rename_i hbad
    injection h with _ h3
    subst h3
    rw [hbad] at hb
    cases hb
  · injection h with h3 h4
    subst h3
    obtain ⟨a1, a2⟩ := closeF_was h4 hb
    obtain ⟨b1, b2, b3⟩ := runF_was ho _ _ _ _ h2 a2
    rcases numF_was h1 with ⟨_, c2⟩ | ⟨c1, c2, c3, c4, c5⟩
    · rw [c2] at b2
      cases b2
    · refine ⟨?_, by rw [← c2]; exact b2⟩
      have e : ((l2.length : Nat) : Int) = n := by rw [b3]; omega
      show r.rest = (itoa (l2.length : Int) ++ 91 :: ((l2.map enc).flatten ++ [93])) ++ r'.rest
      rw [c1, b1, a1, e]
      simp
end
theorem intF_was : Was intF encI := by
  intro r n r' h hb
  rcases numF_was h with ⟨_, c2⟩ | ⟨c1, c2, _⟩
  · rw [c2] at hb
    cases hb
  · exact ⟨by rw [c1]; simp [encI], by rw [← c2]; exact hb⟩
theorem natF_was : Was natF encN := by
  intro r n r' h hb
  rcases numF_was h with ⟨_, c2⟩ | ⟨c1, c2, c3, _⟩
  · rw [c2] at hb
    cases hb
  · exact ⟨by rw [c1]; unfold encN encI; rw [if_neg (by omega)]; simp, by rw [← c2]; exact hb⟩
theorem textF_was : Was textF encT := by
  intro r s r' h hb
  obtain ⟨n, r1, h1⟩ : ∃ n r1, numF 58 0 r = (n, r1) := ⟨_, _, rfl⟩
  unfold textF at h
  simp only [h1] at h
  split at h
  · injection h with _ h
    rw [← h] at hb
    cases hb
  · rename_i hlen
    split at h
    · rename_i hbad
      injection h with _ h3
      subst h3
      rw [hbad] at hb
      cases hb
    · injection h with h3 h4
      obtain ⟨a1, a2⟩ := closeF_was h4 hb
      simp only at a1 a2
      rcases numF_was h1 with ⟨_, c2⟩ | ⟨c1, c2, c3, c4, c5⟩
      · rw [c2] at a2
        cases a2
      · refine ⟨?_, by rw [← c2]; exact a2⟩
        have e : (s.length : Int) = n := by rw [← h3, List.length_take]; omega
        have e2 : r1.rest = s ++ 44 :: r'.rest := by rw [← h3, ← a1, List.take_append_drop]
        rw [c1, e2]
        unfold encT
        rw [e]
        simp
theorem intsF_was : Was intsF encIs := itemsF_was intF_was
theorem intsF_read {l : List Int} (hl : (l.length : Int) ≤ 9223372036854775807) (h : ∀ n ∈ l, -9223372036854775808 ≤ n ∧ n ≤ 9223372036854775807) (t : List UInt8) : intsF ⟨encIs l ++ t, false⟩ = (l, ⟨t, false⟩) := by
  have := itemsF_read (enc := encI) hl t fun n hn t => intF_read (h n hn).1 (h n hn).2 t false
  unfold intsF encIs
  simpa using this

/-! a value to write -/
inductive WV where
  | nat (n : Int)
  | int (n : Int)
  | text (s : List UInt8)
  | ints (l : List Int)
  | texts (l : List (List UInt8))
def WV.kind : WV → Nat
  | .nat _ => 0
  | .int _ => 1
  | .text _ => 2
  | .ints _ => 3
  | .texts _ => 4
def WV.enc : WV → List UInt8
  | .nat n => encN n
  | .int n => encI n
  | .text s => encT s
  | .ints l => encIs l
  | .texts l => encTs l
def WV.ok : WV → Prop
  | .nat n => 0 ≤ n ∧ n ≤ 9223372036854775807
  | .int n => -9223372036854775808 ≤ n ∧ n ≤ 9223372036854775807
  | .text s => (s.length : Int) ≤ 9223372036854775807
  | .ints l => (l.length : Int) ≤ 9223372036854775807 ∧ ∀ n ∈ l, -9223372036854775808 ≤ n ∧ n ≤ 9223372036854775807
  | .texts l => (l.length : Int) ≤ 9223372036854775807 ∧ ∀ s ∈ l, ((s.length : Nat) : Int) ≤ 9223372036854775807
/-- behind a reader that has failed nothing is left -/
def RdV.ok (r : RdV) : Prop := r.bad = true → r.rest = []
end Go.Proofs.YtjncmlglhegnaaaGreatDoor
namespace Go.Proofs.YtjncmlglhegnaaaGreatDoor
open Go.Lib

/-- the digits behind a sign, added from the left as a negative number; i: the place of the first -/
def backGo : List UInt8 → Nat → Int → Option Int
  | [], _, n => some n
  | c :: l, i, n => if (48 ≤ c.toNat ∧ c.toNat ≤ 57) ∧ i ≤ 20 then backGo l (i + 1) (IntKind.i64.wrap (IntKind.i64.wrap (10 * n) - ((c.toNat : Int) - 48))) else none
def signed (s : List UInt8) : Bool := s.head?.map (·.toNat) = some 45
def backF (s : List UInt8) : Int × Bool :=
  match backGo (if signed s = true then s.drop 1 else s) (if signed s = true then 1 else 0) 0 with
  | none => (0, false)
  | some n => (if signed s = true then n else IntKind.i64.wrap (-n), decide (itoa (if signed s = true then n else IntKind.i64.wrap (-n)) = s))
theorem wrap_rng (n : Int) : -9223372036854775808 ≤ IntKind.i64.wrap n ∧ IntKind.i64.wrap n ≤ 9223372036854775807 := by rw [IntKind.wrap_i64]; omega
theorem backGo_rng : ∀ (l : List UInt8) (i : Nat) (n v : Int), -9223372036854775808 ≤ n ∧ n ≤ 9223372036854775807 → backGo l i n = some v → -9223372036854775808 ≤ v ∧ v ≤ 9223372036854775807
  | [], i, n, v, h, e => by
    simp only [backGo] at e
    injection e with e
    subst e
    exact h
  | c :: l, i, n, v, h, e => by
    simp only [backGo] at e
    split at e
    · exact backGo_rng l _ _ v (wrap_rng _) e
    · cases e
theorem backGo_snoc : ∀ (l : List UInt8) (i : Nat) (n v : Int) (c : UInt8), backGo l i n = some v → isDig c → i + l.length ≤ 20 → -9223372036854775808 ≤ 10 * v - ((c.toNat : Int) - 48) → v ≤ 0 → backGo (l ++ [c]) i n = some (10 * v - ((c.toNat : Int) - 48))
  | [], i, n, v, c, h, hc, hi, hb, hv => by
    simp only [backGo] at h
    injection h with h
    subst h
    unfold isDig at hc
    simp only [List.length_nil, Nat.add_zero] at hi
    simp only [List.nil_append, backGo]
    rw [if_pos ⟨hc, hi⟩]
    have e1 : IntKind.i64.wrap (10 * n) = 10 * n := IntWalk.i64_in _ (by omega)
    rw [e1]
    congr 1
    exact IntWalk.i64_in _ (by omega)
  | x :: l, i, n, v, c, h, hc, hi, hb, hv => by
    simp only [List.length_cons] at hi
    simp only [List.cons_append, backGo] at h ⊢
    split at h
    · rename_i h1
      rw [if_pos h1]
      exact backGo_snoc l (i + 1) _ v c h hc (by omega) hb hv
    · cases h
theorem backGo_dec (i : Nat) (u : Nat) : u ≤ 9223372036854775808 → i + (decDigits u).length ≤ 21 → backGo (decDigits u) i 0 = some (-(u : Int)) := by
  induction u using Nat.strongRecOn with
  | _ u ih =>
    intro hu hlen
    by_cases h : u < 10
    · rw [decDigits, dif_pos h] at hlen ⊢
      have h1 := dig_of h
      have e : (((UInt8.ofNat (48 + u)).toNat : Nat) : Int) - 48 = (u : Int) := by have := h1.1; unfold isDig at this; omega
      have := backGo_snoc [] i 0 0 (UInt8.ofNat (48 + u)) rfl h1.1 (by simpa using hlen) (by omega) (by omega)
      rw [e] at this
      simpa using this
    · rw [decDigits, dif_neg h] at hlen ⊢
      have h1 := dig_of (Nat.mod_lt u (show 0 < 10 by omega))
      have e : (((UInt8.ofNat (48 + u % 10)).toNat : Nat) : Int) - 48 = ((u % 10 : Nat) : Int) := by have := h1.1; unfold isDig at this; omega
      rw [List.length_append] at hlen
      simp only [List.length_cons, List.length_nil] at hlen
      have := backGo_snoc _ i 0 (-((u / 10 : Nat) : Int)) (UInt8.ofNat (48 + u % 10)) (ih (u / 10) (by omega) (by omega) (by omega)) h1.1 (by omega) (by omega) (by omega)
      rw [e] at this
      rw [this]
      congr 1
      omega
theorem signed_itoa (n : Int) : signed (itoa n) = decide (n < 0) := by
  unfold itoa
  split
  · rename_i h
    simp [signed, h]
  · rename_i h
    have hd := dec_dig n.toNat
    cases hl : decDigits n.toNat with
    | nil => exact absurd hl (dec_ne _)
    | cons c r =>
      rw [hl] at hd
      have hc := hd c (by simp)
      unfold isDig at hc
      have : ¬ c.toNat = 45 := by omega
      simp [signed, this, h]
/-- the reference reads what Itoa wrote -/
theorem back_itoa {n : Int} (h0 : -9223372036854775808 ≤ n) (h1 : n ≤ 9223372036854775807) : backF (itoa n) = (n, true) := by
  have hs := signed_itoa n
  have hlen := itoa_length h0 h1
  unfold backF
  rw [hs]
  by_cases hn : n < 0
  · have e : itoa n = 45 :: decDigits n.natAbs := by unfold itoa; rw [if_pos hn]
    have hg := backGo_dec 1 n.natAbs (by omega) (by rw [e] at hlen; simp only [List.length_cons] at hlen; omega)
    have e2 : (itoa n).drop 1 = decDigits n.natAbs := by rw [e]; rfl
    have e3 : -((n.natAbs : Nat) : Int) = n := by omega
    rw [e3] at hg
    simp only [hn, decide_true, if_true, e2, hg]
  · have e : itoa n = decDigits n.toNat := by unfold itoa; rw [if_neg hn]
    have hg := backGo_dec 0 n.toNat (by omega) (by rw [e] at hlen; omega)
    have e4 : IntKind.i64.wrap (-(-((n.toNat : Nat) : Int))) = n := by rw [show -(-((n.toNat : Nat) : Int)) = n by omega]; exact IntWalk.i64_in _ (by omega)
    rw [← e] at hg
    simp only [hn, decide_false, Bool.false_eq_true, if_false, hg, e4, decide_true]
/-- what the reference accepts is a numeral -/
theorem back_true {s : List UInt8} {n : Int} (h : backF s = (n, true)) : itoa n = s ∧ -9223372036854775808 ≤ n ∧ n ≤ 9223372036854775807 := by
  unfold backF at h
  split at h
  · injection h with _ h
    cases h
  · rename_i v hv
    have hr := backGo_rng _ _ _ v (by omega) hv
    injection h with h1 h2
    rw [h1] at h2
    refine ⟨of_decide_eq_true h2, ?_⟩
    rw [← h1]
    split
    · exact hr
    · exact wrap_rng _
/-- how far the reference looks for the byte -/
def upTo (e : UInt8) : Nat → List UInt8 → Nat
  | 0, _ => 0
  | _ + 1, [] => 0
  | k + 1, c :: l => if c = e then 0 else upTo e k l + 1
theorem upTo_place {e : UInt8} : ∀ (k : Nat) (l : List UInt8), upTo e k l = match placeOf e (l.take k) with | some i => i | none => min k l.length
  | 0, l => by simp [upTo, placeOf]
  | k + 1, [] => by simp [upTo, placeOf]
  | k + 1, c :: l => by
    simp only [upTo, List.take_succ_cons, placeOf]
    split
    · rfl
    · rw [upTo_place k l]
      cases placeOf e (l.take k) with
      | none => show min k l.length + 1 = min (k + 1) (l.length + 1); omega
      | some i => rfl
def aheadF (e : UInt8) (r : RdV) : Int × RdV :=
  if r.rest[upTo e 21 r.rest]? = some e then
    if (backF (r.rest.take (upTo e 21 r.rest))).2 = true then ((backF (r.rest.take (upTo e 21 r.rest))).1, ⟨r.rest.drop (upTo e 21 r.rest + 1), r.bad⟩) else (0, .fail)
  else (0, .fail)
theorem aheadF_eq (e : UInt8) (r : RdV) : aheadF e r = numF e (-9223372036854775808) r := by
  unfold aheadF numF
  have hu := upTo_place (e := e) 21 r.rest
  cases hp : placeOf e (r.rest.take 21) with
  | none =>
    rw [hp] at hu
    simp only at hu
    simp only
    rw [hu]
    split
    · rename_i he
      have hlt := (List.getElem?_eq_some_iff.1 he).1
      have hm : min 21 r.rest.length = 21 := by omega
      rw [hm]
      split
      · rename_i hb
        exfalso
        have h1 := back_true (Prod.ext rfl hb : backF (r.rest.take 21) = ((backF (r.rest.take 21)).1, true))
        have h2 := itoa_length h1.2.1 h1.2.2
        rw [h1.1, List.length_take] at h2
        omega
      · rfl
    · rfl
  | some i =>
    rw [hp] at hu
    simp only at hu
    simp only
    rw [hu]
    obtain ⟨t, h1, h2, h3⟩ := placeOf_some hp
    rw [List.length_take] at h2
    have h4 : r.rest[i]? = some e := by
      have : (r.rest.take 21)[i]? = some e := by
        rw [h1, List.getElem?_append_right (by simp; omega)]
        simp
        rw [Nat.sub_eq_zero_of_le (by omega)]
        rfl
      rw [List.getElem?_take_of_lt (by omega)] at this
      exact this
    rw [if_pos h4]
    by_cases hc : ∃ n, itoa n = r.rest.take i ∧ -9223372036854775808 ≤ n ∧ n ≤ 9223372036854775807
    · obtain ⟨n, hn, hr0, hr1⟩ := hc
      have hb := back_itoa hr0 hr1
      have ha := atoi_itoa hr0 hr1
      rw [hn] at hb ha
      simp only [hb, ha, hn, hr0, and_self, if_true]
    · have hb : ¬ (backF (r.rest.take i)).2 = true := fun hb => by
        have h5 := back_true (Prod.ext rfl hb : backF (r.rest.take i) = ((backF (r.rest.take i)).1, true))
        exact hc ⟨_, h5.1, h5.2.1, h5.2.2⟩
      rw [if_neg hb]
      split
      · rename_i n hn
        split
        · rename_i h5
          exact absurd ⟨n, h5.1, (atoiAll_rng hn).1, (atoiAll_rng hn).2⟩ hc
        · rfl
      · rfl
/-- a number that is not negative, as the reference reads it -/
theorem numF_zero (e : UInt8) (r : RdV) : numF e 0 r = if (numF e (-9223372036854775808) r).1 < 0 then (0, .fail) else numF e (-9223372036854775808) r := by
  unfold numF
  split
  · rw [if_neg (by simp)]
  · split
    · rename_i n hn
      have hr := atoiAll_rng hn
      rename_i i _ _
      by_cases hi : itoa n = r.rest.take i
      · by_cases h0 : 0 ≤ n
        · have hn0 : ¬ n < 0 := by omega
          simp [hi, h0, hr.1, hn0]
        · have hn0 : n < 0 := by omega
          simp [hi, h0, hr.1, hn0]
      · simp [hi]
    · rw [if_neg (by simp)]
end Go.Proofs.YtjncmlglhegnaaaGreatDoor
namespace Go.Proofs.YtjncmlglhegnaaaGreatDoor
open Go.Lib

structure EntV where
  dev : Int
  no : Int
  day : Int
  seen : List Int
  text : List UInt8
def EntV.zero : EntV := ⟨0, 0, 0, [], []⟩
def inSeen (l : List Int) : Bool := l.all fun n => decide (0 ≤ n) && decide (n ≤ 400)
def rightB (x : EntV) : Bool :=
  decide (0 ≤ x.dev) && decide (x.dev ≤ 7) && decide (0 ≤ x.no) && decide (x.no ≤ 399) && decide (0 ≤ x.day) && decide (x.day ≤ 100000) && decide (x.seen.length = 8) && inSeen x.seen && decide (x.seen[x.dev.toNat]? = some x.no) && decide (x.text.length ≤ 4000)
structure RightE (x : EntV) : Prop where
  d0 : 0 ≤ x.dev
  d1 : x.dev ≤ 7
  n0 : 0 ≤ x.no
  n1 : x.no ≤ 399
  y0 : 0 ≤ x.day
  y1 : x.day ≤ 100000
  len : x.seen.length = 8
  rng : ∀ n ∈ x.seen, 0 ≤ n ∧ n ≤ 400
  own : x.seen[x.dev.toNat]? = some x.no
  txt : x.text.length ≤ 4000
theorem inSeen_true {l : List Int} : inSeen l = true ↔ ∀ n ∈ l, 0 ≤ n ∧ n ≤ 400 := by
  unfold inSeen
  simp
theorem rightB_true {x : EntV} : rightB x = true ↔ RightE x := by
  unfold rightB
  simp only [Bool.and_eq_true, decide_eq_true_eq, inSeen_true]
  exact ⟨fun ⟨⟨⟨⟨⟨⟨⟨⟨⟨a, b⟩, c⟩, d⟩, e⟩, f⟩, g⟩, h⟩, i⟩, j⟩ => ⟨a, b, c, d, e, f, g, h, i, j⟩, fun h => ⟨⟨⟨⟨⟨⟨⟨⟨⟨h.d0, h.d1⟩, h.n0⟩, h.n1⟩, h.y0⟩, h.y1⟩, h.len⟩, h.rng⟩, h.own⟩, h.txt⟩⟩
def sameB (a b : EntV) : Bool := decide (a.dev = b.dev) && decide (a.no = b.no) && decide (a.day = b.day) && decide (a.seen = b.seen) && decide (a.text = b.text)
theorem sameB_true {a b : EntV} : sameB a b = true ↔ a = b := by
  obtain ⟨a1, a2, a3, a4, a5⟩ := a
  obtain ⟨b1, b2, b3, b4, b5⟩ := b
  simp [sameB]
  exact ⟨fun ⟨⟨⟨⟨a, b⟩, c⟩, d⟩, e⟩ => ⟨a, b, c, d, e⟩, fun ⟨a, b, c, d, e⟩ => ⟨⟨⟨⟨a, b⟩, c⟩, d⟩, e⟩⟩
/-- an element of the second list is less -/
def lessSome (a b : List Int) : Bool := (a.zip b).any fun p => decide (p.2 < p.1)
def followsF (a b : EntV) : Int := if b.day < a.day then 17 else if lessSome a.seen b.seen = true then 7 else 0
def errAt (l : List EntV) (i : Nat) : Int :=
  match l[i]? with
  | none => 0
  | some x =>
    if rightB x = true then
      if (l.head?.map (·.dev)) = some x.dev then
        if (i : Int) < x.no then 23 else if x.no < (i : Int) then 5
        else match i with
          | 0 => 0
          | j + 1 => match l[j]? with | none => 0 | some p => followsF p x
      else 21
    else 1
def scanE (f : Nat → Int) : Nat → Nat → Int
  | 0, _ => 0
  | k + 1, i => if f i = 0 then scanE f k (i + 1) else f i
def checkF (l : List EntV) : Int := if 400 < l.length then 6 else scanE (errAt l) l.length 0
theorem scanE_zero {f : Nat → Int} : ∀ {k i : Nat}, scanE f k i = 0 ↔ ∀ j, i ≤ j → j < i + k → f j = 0
  | 0, i => by simp [scanE]; intro j h1 h2; omega
  | k + 1, i => by
    simp only [scanE]
    by_cases h : f i = 0
    · rw [if_pos h, scanE_zero]
      constructor
      · intro h2 j h3 h4
        rcases Nat.lt_or_ge i j with h5 | h5
        · exact h2 j h5 (by omega)
        · obtain rfl : j = i := by omega
          exact h
      · intro h2 j h3 h4
        exact h2 j (by omega) (by omega)
    · rw [if_neg h]
      exact ⟨fun h2 => absurd h2 h, fun h2 => absurd (h2 i (Nat.le_refl _) (by omega)) h⟩
theorem checkF_zero {l : List EntV} : checkF l = 0 ↔ l.length ≤ 400 ∧ ∀ i, i < l.length → errAt l i = 0 := by
  unfold checkF
  split
  · rename_i h
    exact ⟨fun h2 => by omega, fun h2 => by omega⟩
  · rename_i h
    rw [scanE_zero]
    exact ⟨fun h2 => ⟨by omega, fun i hi => h2 i (Nat.zero_le _) (by omega)⟩, fun h2 j _ hj => h2.2 j (by omega)⟩
/-- an entry with no error at its place -/
structure OkAt (l : List EntV) (i : Nat) (x : EntV) : Prop where
  right : RightE x
  dev : l.head?.map (·.dev) = some x.dev
  no : x.no = (i : Int)
  day : ∀ j p, i = j + 1 → l[j]? = some p → p.day ≤ x.day
  seen : ∀ j p, i = j + 1 → l[j]? = some p → lessSome p.seen x.seen = false
theorem errAt_zero {l : List EntV} {i : Nat} {x : EntV} (hx : l[i]? = some x) : errAt l i = 0 ↔ OkAt l i x := by
  unfold errAt
  rw [hx]
  simp only
  constructor
  · intro h
    split at h
    · rename_i hr
      split at h
      · rename_i hd
        split at h
        · cases h
        · rename_i h1
          split at h
          · cases h
          · rename_i h2
            refine ⟨rightB_true.1 hr, hd, by omega, ?_, ?_⟩
            · rintro j p rfl hp
              simp only [hp] at h
              unfold followsF at h
              split at h
              · cases h
              · omega
            · rintro j p rfl hp
              simp only [hp] at h
              unfold followsF at h
              split at h
              · cases h
              · split at h
                · cases h
                · rename_i h3; simpa using h3
      · cases h
    · cases h
  · intro h
    rw [if_pos (rightB_true.2 h.right), if_pos h.dev, if_neg (by have := h.no; omega), if_neg (by have := h.no; omega)]
    cases i with
    | zero => rfl
    | succ j =>
      simp only
      cases hp : l[j]? with
      | none => rfl
      | some p =>
        simp only
        unfold followsF
        rw [if_neg (by have := h.day j p rfl hp; omega), if_neg (by rw [h.seen j p rfl hp]; simp)]
theorem check_at {l : List EntV} (h : checkF l = 0) {i : Nat} {x : EntV} (hx : l[i]? = some x) : OkAt l i x :=
  (errAt_zero hx).1 ((checkF_zero.1 h).2 i (List.getElem?_eq_some_iff.1 hx).1)

/-! the encoding -/
def encE (x : EntV) : List UInt8 := encN x.dev ++ (encN x.no ++ (encN x.day ++ (encIs x.seen ++ encT x.text)))
def decE (s : List UInt8) : EntV × RdV :=
  (⟨(natF ⟨s, false⟩).1, (natF (natF ⟨s, false⟩).2).1, (natF (natF (natF ⟨s, false⟩).2).2).1, (intsF (natF (natF (natF ⟨s, false⟩).2).2).2).1, (textF (intsF (natF (natF (natF ⟨s, false⟩).2).2).2).2).1⟩, (textF (intsF (natF (natF (natF ⟨s, false⟩).2).2).2).2).2)
def goodD (s : List UInt8) : Bool := (!(decE s).2.bad && decide ((decE s).2.rest = [])) && rightB (decE s).1
theorem decE_enc {x : EntV} (h : RightE x) : decE (encE x) = (x, ⟨[], false⟩) := by
  have e1 := natF_read h.d0 (by have := h.d1; omega) (encN x.no ++ (encN x.day ++ (encIs x.seen ++ encT x.text))) false
  have e2 := natF_read h.n0 (by have := h.n1; omega) (encN x.day ++ (encIs x.seen ++ encT x.text)) false
  have e3 := natF_read h.y0 (by have := h.y1; omega) (encIs x.seen ++ encT x.text) false
  have e4 := intsF_read (l := x.seen) (by have := h.len; omega) (fun n hn => by have := h.rng n hn; omega) (encT x.text)
  have e5 := textF_read (s := x.text) (by have := h.txt; omega) []
  rw [List.append_nil] at e5
  unfold decE encE
  simp only [e1, e2, e3, e4, e5]
theorem goodD_enc {x : EntV} (h : RightE x) : goodD (encE x) = true := by
  unfold goodD
  rw [decE_enc h]
  simp [rightB_true.2 h]
/-- what is read from a string is right, and has it as its encoding -/
theorem enc_decE {s : List UInt8} (h : goodD s = true) : encE (decE s).1 = s ∧ RightE (decE s).1 := by
  unfold goodD at h
  simp only [Bool.and_eq_true, Bool.not_eq_true', decide_eq_true_eq] at h
  obtain ⟨⟨hb, hr⟩, hx⟩ := h
  refine ⟨?_, rightB_true.1 hx⟩
  obtain ⟨d, r1, h1⟩ : ∃ d r, natF ⟨s, false⟩ = (d, r) := ⟨_, _, rfl⟩
  obtain ⟨n, r2, h2⟩ : ∃ d r, natF r1 = (d, r) := ⟨_, _, rfl⟩
  obtain ⟨y, r3, h3⟩ : ∃ d r, natF r2 = (d, r) := ⟨_, _, rfl⟩
  obtain ⟨l, r4, h4⟩ : ∃ d r, intsF r3 = (d, r) := ⟨_, _, rfl⟩
  obtain ⟨t, r5, h5⟩ : ∃ d r, textF r4 = (d, r) := ⟨_, _, rfl⟩
  unfold decE at hb hr ⊢
  simp only [h1, h2, h3, h4, h5] at hb hr ⊢
  obtain ⟨w5, b4⟩ := textF_was _ _ _ h5 hb
  obtain ⟨w4, b3⟩ := intsF_was _ _ _ h4 b4
  obtain ⟨w3, b2⟩ := natF_was _ _ _ h3 b3
  obtain ⟨w2, b1⟩ := natF_was _ _ _ h2 b2
  obtain ⟨w1, _⟩ := natF_was _ _ _ h1 b1
  simp only at w1
  rw [hr, List.append_nil] at w5
  unfold encE
  simp only
  rw [w1, w2, w3, w4, w5]
end Go.Proofs.YtjncmlglhegnaaaGreatDoor
