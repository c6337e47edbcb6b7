/- wire: the encodings and the reader, in plain Lean. -/
/- wire: what was written is read again, and what is read was written so: in plain Lean. -/
/- wire: the reference's reader, in plain Lean: it reads what the reader reads. -/
/- chain: entries, right chains, encodings, in plain Lean. -/
/- chain: what the laws say of right chains, in plain Lean. -/
/- merge: the order of entries, joined lists, in plain Lean. -/
/- merge: the past of a device, in plain Lean. -/
/- merge: the order in which entries count, in plain Lean. -/
/- merge: what counts goes on counting when more is joined, in plain Lean. -/
/- merge: what the reference says of pasts and of what is missing; what is convicted counts only below its first number, in plain Lean. -/
/- merge: what honest devices write counts as a whole, in plain Lean. -/
/- merge: an honest device writes, in plain Lean. -/
/- merge: the plain law of MergeTells: the reference's functions give the same. -/
import Derived.Lib.AtoiAll
import Derived.Lib.ItoaNum
import Derived.IntWalk
namespace Go.Proofs.YtnnnibkainlplaaGreatDoor
open Go.Lib

/-- a decimal digit -/
def isDig (c : UInt8) : Prop := 48 ≤ c.toNat ∧ c.toNat ≤ 57
theorem dig_of {d : Nat} (h : d < 10) : isDig (UInt8.ofNat (48 + d)) ∧ (UInt8.ofNat (48 + d)).toNat - 48 = d := by
  have e : (UInt8.ofNat (48 + d)).toNat = 48 + d := by simp; omega
  unfold isDig
  rw [e]
  omega
theorem dec_dig (u : Nat) : ∀ c ∈ decDigits u, isDig c := by
  induction u using Nat.strongRecOn with
  | _ u ih =>
    intro c hc
    by_cases h : u < 10
    · rw [decDigits, dif_pos h] at hc
      simp only [List.mem_cons, List.not_mem_nil, or_false] at hc
      subst hc
      exact (dig_of h).1
    · rw [decDigits, dif_neg h] at hc
      rcases List.mem_append.1 hc with hc | hc
      · exact ih (u / 10) (by omega) c hc
      · simp only [List.mem_cons, List.not_mem_nil, or_false] at hc
        subst hc
        exact (dig_of (Nat.mod_lt _ (by omega))).1
theorem dec_ne (u : Nat) : decDigits u ≠ [] := by
  intro h
  have h1 := decDigits_length u
  have h2 := nDigits_pos u
  rw [h] at h1
  simp at h1
  omega
theorem parse_snoc : ∀ (l : List UInt8) (acc v : Nat) (c : UInt8), parseUint10 acc l = .ok v → isDig c → v * 10 + (c.toNat - 48) < 18446744073709551616 → parseUint10 acc (l ++ [c]) = .ok (v * 10 + (c.toNat - 48))
  | [], acc, v, c, h, hc, hb => by
    simp only [parseUint10] at h
    injection h with h
    subst h
    unfold isDig at hc
    simp only [List.nil_append, parseUint10]
    rw [if_pos hc, if_neg (by omega), if_neg (by omega)]
  | x :: l, acc, v, c, h, hc, hb => by
    simp only [List.cons_append, parseUint10] at h ⊢
    split at h
    · rename_i h1
      rw [if_pos h1]
      split at h
      · cases h
      · rename_i h2
        rw [if_neg h2]
        split at h
        · cases h
        · rename_i h3
          rw [if_neg h3]
          exact parse_snoc l _ v c h hc hb
    · cases h
theorem parse_dec (u : Nat) : u < 18446744073709551616 → parseUint10 0 (decDigits u) = .ok u := by
  induction u using Nat.strongRecOn with
  | _ u ih =>
    intro hu
    by_cases h : u < 10
    · rw [decDigits, dif_pos h]
      have h1 := dig_of h
      have := parse_snoc [] 0 0 (UInt8.ofNat (48 + u)) rfl h1.1 (by omega)
      rw [h1.2, Nat.zero_mul, Nat.zero_add] at this
      exact this
    · rw [decDigits, dif_neg h]
      have h1 := dig_of (Nat.mod_lt u (show 0 < 10 by omega))
      have := parse_snoc _ 0 (u / 10) (UInt8.ofNat (48 + u % 10)) (ih (u / 10) (by omega) (by omega)) h1.1 (by rw [h1.2]; omega)
      rw [h1.2, show u / 10 * 10 + u % 10 = u by omega] at this
      exact this
/-- an int's numeral has digits and perhaps a sign -/
theorem itoa_chars (n : Int) : ∀ c ∈ itoa n, c = 45 ∨ isDig c := by
  intro c hc
  unfold itoa at hc
  split at hc
  · rcases List.mem_cons.1 hc with rfl | hc
    · exact .inl rfl
    · exact .inr (dec_dig _ c hc)
  · exact .inr (dec_dig _ c hc)
theorem itoa_ne (n : Int) : itoa n ≠ [] := by
  unfold itoa
  split
  · simp
  · exact dec_ne _
/-- Atoi reads what Itoa wrote -/
theorem atoi_itoa {n : Int} (h0 : -9223372036854775808 ≤ n) (h1 : n ≤ 9223372036854775807) : atoiAll (itoa n) = .ok n := by
  unfold itoa
  split
  · rename_i hn
    unfold atoiAll
    have hp : parseMag (decDigits n.natAbs) = .ok n.natAbs := by
      unfold parseMag
      rw [if_neg (dec_ne _)]
      exact parse_dec _ (by omega)
    have h45 : (45 : UInt8).toNat = 45 := rfl
    simp only [h45, or_true, if_true, hp, not_true_eq_false, false_and, if_false, true_and]
    rw [if_neg (by omega)]
    congr 1
    omega
  · rename_i hn
    have hp : parseMag (decDigits n.toNat) = .ok n.toNat := by
      unfold parseMag
      rw [if_neg (dec_ne _)]
      exact parse_dec _ (by omega)
    have hd := dec_dig n.toNat
    revert hp hd
    cases hl : decDigits n.toNat with
    | nil => exact absurd hl (dec_ne _)
    | cons c r =>
      intro hp hd
      have hc := hd c (by simp)
      unfold isDig at hc
      unfold atoiAll
      have e1 : ¬ (c.toNat = 43 ∨ c.toNat = 45) := by omega
      have e2 : ¬ c.toNat = 45 := by omega
      simp only
      rw [if_neg e1, hp]
      simp only [e2, if_false, not_false_eq_true, true_and, false_and]
      rw [if_neg (by omega)]
      congr 1
      omega
theorem nDigits_le : ∀ (k u : Nat), u < 10 ^ (k + 1) → nDigits u ≤ k + 1
  | 0, u, h => by rw [nDigits_small (by simpa using h)]; exact Nat.le_refl _
  | k + 1, u, h => by
    by_cases hs : u < 10
    · rw [nDigits_small hs]; omega
    · rw [nDigits_big hs]
      have := nDigits_le k (u / 10) (by rw [Nat.pow_succ] at h; omega)
      omega
theorem itoa_length {n : Int} (h0 : -9223372036854775808 ≤ n) (h1 : n ≤ 9223372036854775807) : (itoa n).length ≤ 20 := by
  have h : ∀ u : Nat, u ≤ 9223372036854775808 → (decDigits u).length ≤ 19 := fun u hu => by
    rw [decDigits_length]
    exact nDigits_le 18 u (by omega)
  unfold itoa
  split
  · have := h n.natAbs (by omega)
    simp only [List.length_cons]
    omega
  · have := h n.toNat (by omega)
    omega
/-- Itoa is one to one -/
theorem itoa_inj {a b : Int} (ha : -9223372036854775808 ≤ a ∧ a ≤ 9223372036854775807) (hb : -9223372036854775808 ≤ b ∧ b ≤ 9223372036854775807) (h : itoa a = itoa b) : a = b := by
  have h1 := atoi_itoa ha.1 ha.2
  rw [h, atoi_itoa hb.1 hb.2] at h1
  injection h1 with h1
  exact h1.symm
theorem atoiAll_rng {l : List UInt8} {n : Int} (h : atoiAll l = .ok n) : -9223372036854775808 ≤ n ∧ n ≤ 9223372036854775807 := by
  unfold atoiAll at h
  split at h
  · cases h
  · simp only at h
    split at h
    · cases h
    · cases h
    · split at h
      · cases h
      · split at h
        · cases h
        · injection h with h
          subst h
          split <;> omega

/-! the encodings -/
def encI (n : Int) : List UInt8 := itoa n ++ [59]
def encN (n : Int) : List UInt8 := if n < 0 then [] else encI n
def encT (s : List UInt8) : List UInt8 := itoa (s.length : Int) ++ 58 :: (s ++ [44])
def encIs (l : List Int) : List UInt8 := itoa (l.length : Int) ++ 91 :: ((l.map encI).flatten ++ [93])
def encTs (l : List (List UInt8)) : List UInt8 := itoa (l.length : Int) ++ 91 :: ((l.map encT).flatten ++ [93])

/-! the reader: what is left, and whether it has failed -/
structure RdV where
  rest : List UInt8
  bad : Bool
def RdV.fail : RdV := ⟨[], true⟩
/-- the first place of a byte -/
def placeOf (e : UInt8) : List UInt8 → Option Nat
  | [] => none
  | c :: l => if c = e then some 0 else (placeOf e l).map (· + 1)
theorem placeOf_here {e : UInt8} {t : List UInt8} : ∀ {l : List UInt8}, (∀ c ∈ l, c ≠ e) → placeOf e (l ++ e :: t) = some l.length
  | [], _ => by simp [placeOf]
  | c :: l, h => by
    simp only [List.cons_append, placeOf]
    rw [if_neg (h c (by simp)), placeOf_here fun c hc => h c (by simp [hc])]
    rfl
theorem placeOf_some {e : UInt8} : ∀ {l : List UInt8} {i : Nat}, placeOf e l = some i → ∃ t, l = l.take i ++ e :: t ∧ i < l.length ∧ ∀ c ∈ l.take i, c ≠ e
  | [], i, h => by simp [placeOf] at h
  | c :: l, i, h => by
    simp only [placeOf] at h
    split at h
    · rename_i he
      injection h with h
      subst h
      exact ⟨l, by simp [he], by simp, by simp⟩
    · rename_i he
      cases hp : placeOf e l with
      | none => rw [hp] at h; cases h
      | some j =>
        rw [hp] at h
        injection h with h
        subst h
        obtain ⟨t, h1, h2, h3⟩ := placeOf_some hp
        refine ⟨t, ?_, by simp; omega, ?_⟩
        · simp only [List.take_succ_cons, List.cons_append]
          rw [← h1]
        · intro x hx
          simp only [List.take_succ_cons, List.mem_cons] at hx
          rcases hx with rfl | hx
          · exact he
          · exact h3 x hx
def numF (e : UInt8) (least : Int) (r : RdV) : Int × RdV :=
  match placeOf e (r.rest.take 21) with
  | none => (0, .fail)
  | some i =>
    match atoiAll (r.rest.take i) with
    | .ok n => if itoa n = r.rest.take i ∧ least ≤ n then (n, ⟨r.rest.drop (i + 1), r.bad⟩) else (0, .fail)
    | _ => (0, .fail)
/-- a byte that ends a number -/
def Ender (e : UInt8) : Prop := e ≠ 45 ∧ ¬ isDig e
theorem ender_59 : Ender 59 := by unfold Ender isDig; decide
theorem ender_58 : Ender 58 := by unfold Ender isDig; decide
theorem ender_91 : Ender 91 := by unfold Ender isDig; decide
theorem itoa_no {e : UInt8} (he : Ender e) (n : Int) : ∀ c ∈ itoa n, c ≠ e := fun c hc h => by
  subst h
  rcases itoa_chars n c hc with h | h
  · exact he.1 h
  · exact he.2 h
/-- a number that was written is read -/
theorem numF_read {e : UInt8} (he : Ender e) {least n : Int} (h0 : -9223372036854775808 ≤ n) (h1 : n ≤ 9223372036854775807) (hl : least ≤ n) (t : List UInt8) (b : Bool) : numF e least ⟨itoa n ++ e :: t, b⟩ = (n, ⟨t, b⟩) := by
  have hlen := itoa_length h0 h1
  have htk : (itoa n ++ e :: t).take 21 = itoa n ++ e :: t.take (20 - (itoa n).length) := by
    rw [List.take_append, List.take_of_length_le (by omega), show 21 - (itoa n).length = (20 - (itoa n).length) + 1 by omega, List.take_succ_cons]
  have hp : placeOf e ((itoa n ++ e :: t).take 21) = some (itoa n).length := by
    rw [htk]
    exact placeOf_here (itoa_no he n)
  have h2 : (itoa n ++ e :: t).take (itoa n).length = itoa n := by simp
  have h3 : (itoa n ++ e :: t).drop ((itoa n).length + 1) = t := by
    rw [List.drop_append]
    simp
  unfold numF
  simp only [hp, h2, atoi_itoa h0 h1, hl, and_self, if_true, h3]
/-- what is read without failing was written so -/
theorem numF_was {e : UInt8} {least : Int} {r r' : RdV} {n : Int} (h : numF e least r = (n, r')) : (n = 0 ∧ r' = .fail) ∨ (r.rest = itoa n ++ e :: r'.rest ∧ r'.bad = r.bad ∧ least ≤ n ∧ -9223372036854775808 ≤ n ∧ n ≤ 9223372036854775807) := by
  unfold numF at h
  split at h
  · injection h with h1 h2
    exact .inl ⟨h1.symm, h2.symm⟩
  · rename_i i hi
    split at h
    · rename_i m hm
      split at h
      · rename_i hc
        injection h with h1 h2
        subst h1 h2
        refine .inr ⟨?_, rfl, hc.2, (atoiAll_rng hm).1, (atoiAll_rng hm).2⟩
        obtain ⟨t, h1, h2, h3⟩ := placeOf_some hi
        rw [List.length_take] at h2
        have h4 : r.rest[i]? = some e := by
          have : (r.rest.take 21)[i]? = some e := by
            rw [h1, List.getElem?_append_right (by simp; omega)]
            simp
            rw [Nat.sub_eq_zero_of_le (by omega)]
            rfl
          rw [List.getElem?_take_of_lt (by omega)] at this
          exact this
        rw [hc.1]
        obtain ⟨hlt, h5⟩ := List.getElem?_eq_some_iff.1 h4
        rw [← h5, List.getElem_cons_drop, List.take_append_drop]
      · injection h with h1 h2
        exact .inl ⟨h1.symm, h2.symm⟩
    · injection h with h1 h2
      exact .inl ⟨h1.symm, h2.symm⟩
end Go.Proofs.YtnnnibkainlplaaGreatDoor
namespace Go.Proofs.YtnnnibkainlplaaGreatDoor
open Go.Lib

def closeF (e : UInt8) (r : RdV) : RdV :=
  match r.rest with
  | [] => .fail
  | c :: t => if c = e then ⟨t, r.bad⟩ else .fail
def intF (r : RdV) : Int × RdV := numF 59 (-9223372036854775808) r
def natF (r : RdV) : Int × RdV := numF 59 0 r
def textF (r : RdV) : List UInt8 × RdV :=
  if ((numF 58 0 r).2.rest.length : Int) < (numF 58 0 r).1 then ([], .fail)
  else if (closeF 44 ⟨(numF 58 0 r).2.rest.drop (numF 58 0 r).1.toNat, (numF 58 0 r).2.bad⟩).bad = true then ([], closeF 44 ⟨(numF 58 0 r).2.rest.drop (numF 58 0 r).1.toNat, (numF 58 0 r).2.bad⟩)
  else ((numF 58 0 r).2.rest.take (numF 58 0 r).1.toNat, closeF 44 ⟨(numF 58 0 r).2.rest.drop (numF 58 0 r).1.toNat, (numF 58 0 r).2.bad⟩)
section
variable {α : Type} (one : RdV → α × RdV)
/-- at most k items, while the reader has not failed -/
def runF : Nat → RdV → List α × RdV
  | 0, r => ([], r)
  | k + 1, r => if r.bad = true then ([], r) else ((one r).1 :: (runF k (one r).2).1, (runF k (one r).2).2)
def itemsF (r : RdV) : List α × RdV :=
  if (closeF 93 (runF one (numF 91 0 r).1.toNat (numF 91 0 r).2).2).bad = true then ([], closeF 93 (runF one (numF 91 0 r).1.toNat (numF 91 0 r).2).2)
  else ((runF one (numF 91 0 r).1.toNat (numF 91 0 r).2).1, closeF 93 (runF one (numF 91 0 r).1.toNat (numF 91 0 r).2).2)
end
def intsF : RdV → List Int × RdV := itemsF intF
def textsF : RdV → List (List UInt8) × RdV := itemsF textF

theorem closeF_read (e : UInt8) (t : List UInt8) (b : Bool) : closeF e ⟨e :: t, b⟩ = ⟨t, b⟩ := by simp [closeF]
theorem closeF_was {e : UInt8} {r r' : RdV} (h : closeF e r = r') (hb : r'.bad = false) : r.rest = e :: r'.rest ∧ r.bad = false := by
  unfold closeF at h
  split at h
  · rw [← h] at hb
    cases hb
  · rename_i c t he
    split at h
    · rename_i hc
      subst h
      exact ⟨by rw [he, hc], hb⟩
    · rw [← h] at hb
      cases hb
theorem intF_read {n : Int} (h0 : -9223372036854775808 ≤ n) (h1 : n ≤ 9223372036854775807) (t : List UInt8) (b : Bool) : intF ⟨encI n ++ t, b⟩ = (n, ⟨t, b⟩) := by
  unfold intF encI
  rw [List.append_assoc]
  exact numF_read ender_59 h0 h1 h0 t b
theorem natF_read {n : Int} (h0 : 0 ≤ n) (h1 : n ≤ 9223372036854775807) (t : List UInt8) (b : Bool) : natF ⟨encN n ++ t, b⟩ = (n, ⟨t, b⟩) := by
  unfold natF encN encI
  rw [if_neg (by omega), List.append_assoc]
  exact numF_read ender_59 (by omega) h1 h0 t b
theorem textF_read {s : List UInt8} (h1 : (s.length : Int) ≤ 9223372036854775807) (t : List UInt8) : textF ⟨encT s ++ t, false⟩ = (s, ⟨t, false⟩) := by
  have h := numF_read ender_58 (least := 0) (n := (s.length : Int)) (by omega) h1 (by omega) (s ++ 44 :: t) false
  have e : encT s ++ t = itoa (s.length : Int) ++ 58 :: (s ++ 44 :: t) := by unfold encT; simp
  unfold textF
  rw [e, h]
  simp only [Int.toNat_natCast]
  rw [if_neg (by simp; omega)]
  simp [closeF_read]
section
variable {α : Type} {one : RdV → α × RdV} {enc : α → List UInt8}
theorem runF_read : ∀ (l : List α) (t : List UInt8), (∀ x ∈ l, ∀ t, one ⟨enc x ++ t, false⟩ = (x, ⟨t, false⟩)) → runF one l.length ⟨(l.map enc).flatten ++ t, false⟩ = (l, ⟨t, false⟩)
  | [], t, _ => rfl
  | x :: l, t, h => by
    have h1 := h x (by simp) ((l.map enc).flatten ++ t)
    have h2 := runF_read l t fun y hy => h y (by simp [hy])
    simp only [List.length_cons, List.map_cons, List.flatten_cons, runF, Bool.false_eq_true, if_false, List.append_assoc, h1, h2]
theorem itemsF_read {l : List α} (hl : (l.length : Int) ≤ 9223372036854775807) (t : List UInt8) (h : ∀ x ∈ l, ∀ t, one ⟨enc x ++ t, false⟩ = (x, ⟨t, false⟩)) : itemsF one ⟨itoa (l.length : Int) ++ 91 :: ((l.map enc).flatten ++ 93 :: t), false⟩ = (l, ⟨t, false⟩) := by
  have h1 := numF_read ender_91 (least := 0) (n := (l.length : Int)) (by omega) hl (by omega) ((l.map enc).flatten ++ 93 :: t) false
  unfold itemsF
  rw [h1]
  simp only [Int.toNat_natCast, runF_read l (93 :: t) h, closeF_read, Bool.false_eq_true, if_false]
/-- what a reader of one value promises -/
def Was (one : RdV → α × RdV) (enc : α → List UInt8) : Prop := ∀ r x r', one r = (x, r') → r'.bad = false → r.rest = enc x ++ r'.rest ∧ r.bad = false
theorem runF_was (ho : Was one enc) : ∀ (k : Nat) (r : RdV) (l : List α) (r' : RdV), runF one k r = (l, r') → r'.bad = false → r.rest = (l.map enc).flatten ++ r'.rest ∧ r.bad = false ∧ l.length = k
  | 0, r, l, r', h, hb => by
    simp only [runF] at h
    injection h with h1 h2
    subst h1 h2
    exact ⟨rfl, hb, rfl⟩
  | k + 1, r, l, r', h, hb => by
    simp only [runF] at h
    split at h
    · rename_i hbad
      injection h with h1 h2
      subst h2
      rw [hbad] at hb
      cases hb
    · injection h with h1 h2
      obtain ⟨x, r1, h3⟩ : ∃ x r1, one r = (x, r1) := ⟨_, _, rfl⟩
      rw [h3] at h1 h2
      obtain ⟨l2, r2, h4⟩ : ∃ l2 r2, runF one k r1 = (l2, r2) := ⟨_, _, rfl⟩
      rw [h4] at h1 h2
      subst h1 h2
      obtain ⟨a1, a2, a3⟩ := runF_was ho k r1 l2 r2 h4 hb
      obtain ⟨b1, b2⟩ := ho r x r1 h3 a2
      exact ⟨by rw [b1, a1]; simp, b2, by simp [a3]⟩
theorem itemsF_was (ho : Was one enc) : Was (itemsF one) fun l => itoa (l.length : Int) ++ 91 :: ((l.map enc).flatten ++ [93]) := by
  intro r l r' h hb
  obtain ⟨n, r1, h1⟩ : ∃ n r1, numF 91 0 r = (n, r1) := ⟨_, _, rfl⟩
  obtain ⟨l2, r2, h2⟩ : ∃ l2 r2, runF one n.toNat r1 = (l2, r2) := ⟨_, _, rfl⟩
  unfold itemsF at h
  simp only [h1, h2] at h
  split at h
  · rename_i hbad
    injection h with _ h3
    subst h3
    rw [hbad] at hb
    cases hb
  · injection h with h3 h4
    subst h3
    obtain ⟨a1, a2⟩ := closeF_was h4 hb
    obtain ⟨b1, b2, b3⟩ := runF_was ho _ _ _ _ h2 a2
    rcases numF_was h1 with ⟨_, c2⟩ | ⟨c1, c2, c3, c4, c5⟩
    · rw [c2] at b2
      cases b2
    · refine ⟨?_, by rw [← c2]; exact b2⟩
      have e : ((l2.length : Nat) : Int) = n := by rw [b3]; omega
      show r.rest = (itoa (l2.length : Int) ++ 91 :: ((l2.map enc).flatten ++ [93])) ++ r'.rest
      rw [c1, b1, a1, e]
      simp
end
theorem intF_was : Was intF encI := by
  intro r n r' h hb
  rcases numF_was h with ⟨_, c2⟩ | ⟨c1, c2, _⟩
  · rw [c2] at hb
    cases hb
  · exact ⟨by rw [c1]; simp [encI], by rw [← c2]; exact hb⟩
theorem natF_was : Was natF encN := by
  intro r n r' h hb
  rcases numF_was h with ⟨_, c2⟩ | ⟨c1, c2, c3, _⟩
  · rw [c2] at hb
    cases hb
  · exact ⟨by rw [c1]; unfold encN encI; rw [if_neg (by omega)]; simp, by rw [← c2]; exact hb⟩
theorem textF_was : Was textF encT := by
  intro r s r' h hb
  obtain ⟨n, r1, h1⟩ : ∃ n r1, numF 58 0 r = (n, r1) := ⟨_, _, rfl⟩
  unfold textF at h
  simp only [h1] at h
  split at h
  · injection h with _ h
    rw [← h] at hb
    cases hb
  · rename_i hlen
    split at h
    · rename_i hbad
      injection h with _ h3
      subst h3
      rw [hbad] at hb
      cases hb
    · injection h with h3 h4
      obtain ⟨a1, a2⟩ := closeF_was h4 hb
      simp only at a1 a2
      rcases numF_was h1 with ⟨_, c2⟩ | ⟨c1, c2, c3, c4, c5⟩
      · rw [c2] at a2
        cases a2
      · refine ⟨?_, by rw [← c2]; exact a2⟩
        have e : (s.length : Int) = n := by rw [← h3, List.length_take]; omega
        have e2 : r1.rest = s ++ 44 :: r'.rest := by rw [← h3, ← a1, List.take_append_drop]
        rw [c1, e2]
        unfold encT
        rw [e]
        simp
theorem intsF_was : Was intsF encIs := itemsF_was intF_was
theorem textsF_was : Was textsF encTs := itemsF_was textF_was
theorem intsF_read {l : List Int} (hl : (l.length : Int) ≤ 9223372036854775807) (h : ∀ n ∈ l, -9223372036854775808 ≤ n ∧ n ≤ 9223372036854775807) (t : List UInt8) : intsF ⟨encIs l ++ t, false⟩ = (l, ⟨t, false⟩) := by
  have := itemsF_read (enc := encI) hl t fun n hn t => intF_read (h n hn).1 (h n hn).2 t false
  unfold intsF encIs
  simpa using this
theorem textsF_read {l : List (List UInt8)} (hl : (l.length : Int) ≤ 9223372036854775807) (h : ∀ s ∈ l, ((s.length : Nat) : Int) ≤ 9223372036854775807) (t : List UInt8) : textsF ⟨encTs l ++ t, false⟩ = (l, ⟨t, false⟩) := by
  have := itemsF_read (enc := encT) hl t fun s hs t => textF_read (h s hs) t
  unfold textsF encTs
  simpa using this

/-! a value to write -/
inductive WV where
  | nat (n : Int)
  | int (n : Int)
  | text (s : List UInt8)
  | ints (l : List Int)
  | texts (l : List (List UInt8))
def WV.kind : WV → Nat
  | .nat _ => 0
  | .int _ => 1
  | .text _ => 2
  | .ints _ => 3
  | .texts _ => 4
def WV.enc : WV → List UInt8
  | .nat n => encN n
  | .int n => encI n
  | .text s => encT s
  | .ints l => encIs l
  | .texts l => encTs l
def WV.ok : WV → Prop
  | .nat n => 0 ≤ n ∧ n ≤ 9223372036854775807
  | .int n => -9223372036854775808 ≤ n ∧ n ≤ 9223372036854775807
  | .text s => (s.length : Int) ≤ 9223372036854775807
  | .ints l => (l.length : Int) ≤ 9223372036854775807 ∧ ∀ n ∈ l, -9223372036854775808 ≤ n ∧ n ≤ 9223372036854775807
  | .texts l => (l.length : Int) ≤ 9223372036854775807 ∧ ∀ s ∈ l, ((s.length : Nat) : Int) ≤ 9223372036854775807
/-- what the reader of a kind reads -/
def readF : Nat → RdV → WV × RdV
  | 0, r => (.nat (natF r).1, (natF r).2)
  | 1, r => (.int (intF r).1, (intF r).2)
  | 2, r => (.text (textF r).1, (textF r).2)
  | 3, r => (.ints (intsF r).1, (intsF r).2)
  | _, r => (.texts (textsF r).1, (textsF r).2)
theorem readF_read {v : WV} (h : v.ok) (t : List UInt8) : readF v.kind ⟨v.enc ++ t, false⟩ = (v, ⟨t, false⟩) := by
  cases v with
  | nat n => simp only [WV.kind, WV.enc, readF, natF_read h.1 h.2]
  | int n => simp only [WV.kind, WV.enc, readF, intF_read h.1 h.2]
  | text s => simp only [WV.kind, WV.enc, readF, textF_read h t]
  | ints l => simp only [WV.kind, WV.enc, readF, intsF_read h.1 h.2]
  | texts l => simp only [WV.kind, WV.enc, readF, textsF_read h.1 h.2]
theorem readF_was : ∀ (k : Nat) (r : RdV) (x : WV) (r' : RdV), readF k r = (x, r') → r'.bad = false → r.rest = x.enc ++ r'.rest ∧ r.bad = false
  | 0, r, x, r', h, hb => by
    simp only [readF] at h
    injection h with h1 h2
    subst h1
    exact natF_was r _ r' (Prod.ext rfl h2) hb
  | 1, r, x, r', h, hb => by
    simp only [readF] at h
    injection h with h1 h2
    subst h1
    exact intF_was r _ r' (Prod.ext rfl h2) hb
  | 2, r, x, r', h, hb => by
    simp only [readF] at h
    injection h with h1 h2
    subst h1
    exact textF_was r _ r' (Prod.ext rfl h2) hb
  | 3, r, x, r', h, hb => by
    simp only [readF] at h
    injection h with h1 h2
    subst h1
    exact intsF_was r _ r' (Prod.ext rfl h2) hb
  | k + 4, r, x, r', h, hb => by
    simp only [readF] at h
    injection h with h1 h2
    subst h1
    exact textsF_was r _ r' (Prod.ext rfl h2) hb
/-- THE PREFIX LAW: of two values of a kind, if the one's encoding begins the other's, they are equal -/
theorem enc_prefix {v x : WV} (hv : v.ok) (hx : x.ok) (hk : v.kind = x.kind) {t : List UInt8} (h : x.enc = v.enc ++ t) : v = x ∧ t = [] := by
  have h1 := readF_read hv t
  have h2 := readF_read hx []
  rw [List.append_nil, h, ← hk, h1] at h2
  injection h2 with h3 h4
  injection h4 with h5
  exact ⟨h3, h5⟩
/-- behind a reader that has failed nothing is left -/
def RdV.ok (r : RdV) : Prop := r.bad = true → r.rest = []
end Go.Proofs.YtnnnibkainlplaaGreatDoor
namespace Go.Proofs.YtnnnibkainlplaaGreatDoor
open Go.Lib

/-- the digits behind a sign, added from the left as a negative number; i: the place of the first -/
def backGo : List UInt8 → Nat → Int → Option Int
  | [], _, n => some n
  | c :: l, i, n => if (48 ≤ c.toNat ∧ c.toNat ≤ 57) ∧ i ≤ 20 then backGo l (i + 1) (IntKind.i64.wrap (IntKind.i64.wrap (10 * n) - ((c.toNat : Int) - 48))) else none
def signed (s : List UInt8) : Bool := s.head?.map (·.toNat) = some 45
def backF (s : List UInt8) : Int × Bool :=
  match backGo (if signed s = true then s.drop 1 else s) (if signed s = true then 1 else 0) 0 with
  | none => (0, false)
  | some n => (if signed s = true then n else IntKind.i64.wrap (-n), decide (itoa (if signed s = true then n else IntKind.i64.wrap (-n)) = s))
theorem wrap_rng (n : Int) : -9223372036854775808 ≤ IntKind.i64.wrap n ∧ IntKind.i64.wrap n ≤ 9223372036854775807 := by rw [IntKind.wrap_i64]; omega
theorem backGo_rng : ∀ (l : List UInt8) (i : Nat) (n v : Int), -9223372036854775808 ≤ n ∧ n ≤ 9223372036854775807 → backGo l i n = some v → -9223372036854775808 ≤ v ∧ v ≤ 9223372036854775807
  | [], i, n, v, h, e => by
    simp only [backGo] at e
    injection e with e
    subst e
    exact h
  | c :: l, i, n, v, h, e => by
    simp only [backGo] at e
    split at e
    · exact backGo_rng l _ _ v (wrap_rng _) e
    · cases e
theorem backGo_snoc : ∀ (l : List UInt8) (i : Nat) (n v : Int) (c : UInt8), backGo l i n = some v → isDig c → i + l.length ≤ 20 → -9223372036854775808 ≤ 10 * v - ((c.toNat : Int) - 48) → v ≤ 0 → backGo (l ++ [c]) i n = some (10 * v - ((c.toNat : Int) - 48))
  | [], i, n, v, c, h, hc, hi, hb, hv => by
    simp only [backGo] at h
    injection h with h
    subst h
    unfold isDig at hc
    simp only [List.length_nil, Nat.add_zero] at hi
    simp only [List.nil_append, backGo]
    rw [if_pos ⟨hc, hi⟩]
    have e1 : IntKind.i64.wrap (10 * n) = 10 * n := IntWalk.i64_in _ (by omega)
    rw [e1]
    congr 1
    exact IntWalk.i64_in _ (by omega)
  | x :: l, i, n, v, c, h, hc, hi, hb, hv => by
    simp only [List.length_cons] at hi
    simp only [List.cons_append, backGo] at h ⊢
    split at h
    · rename_i h1
      rw [if_pos h1]
      exact backGo_snoc l (i + 1) _ v c h hc (by omega) hb hv
    · cases h
theorem backGo_dec (i : Nat) (u : Nat) : u ≤ 9223372036854775808 → i + (decDigits u).length ≤ 21 → backGo (decDigits u) i 0 = some (-(u : Int)) := by
  induction u using Nat.strongRecOn with
  | _ u ih =>
    intro hu hlen
    by_cases h : u < 10
    · rw [decDigits, dif_pos h] at hlen ⊢
      have h1 := dig_of h
      have e : (((UInt8.ofNat (48 + u)).toNat : Nat) : Int) - 48 = (u : Int) := by have := h1.1; unfold isDig at this; omega
      have := backGo_snoc [] i 0 0 (UInt8.ofNat (48 + u)) rfl h1.1 (by simpa using hlen) (by omega) (by omega)
      rw [e] at this
      simpa using this
    · rw [decDigits, dif_neg h] at hlen ⊢
      have h1 := dig_of (Nat.mod_lt u (show 0 < 10 by omega))
      have e : (((UInt8.ofNat (48 + u % 10)).toNat : Nat) : Int) - 48 = ((u % 10 : Nat) : Int) := by have := h1.1; unfold isDig at this; omega
      rw [List.length_append] at hlen
      simp only [List.length_cons, List.length_nil] at hlen
      have := backGo_snoc _ i 0 (-((u / 10 : Nat) : Int)) (UInt8.ofNat (48 + u % 10)) (ih (u / 10) (by omega) (by omega) (by omega)) h1.1 (by omega) (by omega) (by omega)
      rw [e] at this
      rw [this]
      congr 1
      omega
theorem signed_itoa (n : Int) : signed (itoa n) = decide (n < 0) := by
  unfold itoa
  split
  · rename_i h
    simp [signed, h]
  · rename_i h
    have hd := dec_dig n.toNat
    cases hl : decDigits n.toNat with
    | nil => exact absurd hl (dec_ne _)
    | cons c r =>
      rw [hl] at hd
      have hc := hd c (by simp)
      unfold isDig at hc
      have : ¬ c.toNat = 45 := by omega
      simp [signed, this, h]
/-- the reference reads what Itoa wrote -/
theorem back_itoa {n : Int} (h0 : -9223372036854775808 ≤ n) (h1 : n ≤ 9223372036854775807) : backF (itoa n) = (n, true) := by
  have hs := signed_itoa n
  have hlen := itoa_length h0 h1
  unfold backF
  rw [hs]
  by_cases hn : n < 0
  · have e : itoa n = 45 :: decDigits n.natAbs := by unfold itoa; rw [if_pos hn]
    have hg := backGo_dec 1 n.natAbs (by omega) (by rw [e] at hlen; simp only [List.length_cons] at hlen; omega)
    have e2 : (itoa n).drop 1 = decDigits n.natAbs := by rw [e]; rfl
    have e3 : -((n.natAbs : Nat) : Int) = n := by omega
    rw [e3] at hg
    simp only [hn, decide_true, if_true, e2, hg]
  · have e : itoa n = decDigits n.toNat := by unfold itoa; rw [if_neg hn]
    have hg := backGo_dec 0 n.toNat (by omega) (by rw [e] at hlen; omega)
    have e4 : IntKind.i64.wrap (-(-((n.toNat : Nat) : Int))) = n := by rw [show -(-((n.toNat : Nat) : Int)) = n by omega]; exact IntWalk.i64_in _ (by omega)
    rw [← e] at hg
    simp only [hn, decide_false, Bool.false_eq_true, if_false, hg, e4, decide_true]
/-- what the reference accepts is a numeral -/
theorem back_true {s : List UInt8} {n : Int} (h : backF s = (n, true)) : itoa n = s ∧ -9223372036854775808 ≤ n ∧ n ≤ 9223372036854775807 := by
  unfold backF at h
  split at h
  · injection h with _ h
    cases h
  · rename_i v hv
    have hr := backGo_rng _ _ _ v (by omega) hv
    injection h with h1 h2
    rw [h1] at h2
    refine ⟨of_decide_eq_true h2, ?_⟩
    rw [← h1]
    split
    · exact hr
    · exact wrap_rng _
/-- how far the reference looks for the byte -/
def upTo (e : UInt8) : Nat → List UInt8 → Nat
  | 0, _ => 0
  | _ + 1, [] => 0
  | k + 1, c :: l => if c = e then 0 else upTo e k l + 1
theorem upTo_place {e : UInt8} : ∀ (k : Nat) (l : List UInt8), upTo e k l = match placeOf e (l.take k) with | some i => i | none => min k l.length
  | 0, l => by simp [upTo, placeOf]
  | k + 1, [] => by simp [upTo, placeOf]
  | k + 1, c :: l => by
    simp only [upTo, List.take_succ_cons, placeOf]
    split
    · rfl
    · rw [upTo_place k l]
      cases placeOf e (l.take k) with
      | none => show min k l.length + 1 = min (k + 1) (l.length + 1); omega
      | some i => rfl
def aheadF (e : UInt8) (r : RdV) : Int × RdV :=
  if r.rest[upTo e 21 r.rest]? = some e then
    if (backF (r.rest.take (upTo e 21 r.rest))).2 = true then ((backF (r.rest.take (upTo e 21 r.rest))).1, ⟨r.rest.drop (upTo e 21 r.rest + 1), r.bad⟩) else (0, .fail)
  else (0, .fail)
theorem aheadF_eq (e : UInt8) (r : RdV) : aheadF e r = numF e (-9223372036854775808) r := by
  unfold aheadF numF
  have hu := upTo_place (e := e) 21 r.rest
  cases hp : placeOf e (r.rest.take 21) with
  | none =>
    rw [hp] at hu
    simp only at hu
    simp only
    rw [hu]
    split
    · rename_i he
      have hlt := (List.getElem?_eq_some_iff.1 he).1
      have hm : min 21 r.rest.length = 21 := by omega
      rw [hm]
      split
      · rename_i hb
        exfalso
        have h1 := back_true (Prod.ext rfl hb : backF (r.rest.take 21) = ((backF (r.rest.take 21)).1, true))
        have h2 := itoa_length h1.2.1 h1.2.2
        rw [h1.1, List.length_take] at h2
        omega
      · rfl
    · rfl
  | some i =>
    rw [hp] at hu
    simp only at hu
    simp only
    rw [hu]
    obtain ⟨t, h1, h2, h3⟩ := placeOf_some hp
    rw [List.length_take] at h2
    have h4 : r.rest[i]? = some e := by
      have : (r.rest.take 21)[i]? = some e := by
        rw [h1, List.getElem?_append_right (by simp; omega)]
        simp
        rw [Nat.sub_eq_zero_of_le (by omega)]
        rfl
      rw [List.getElem?_take_of_lt (by omega)] at this
      exact this
    rw [if_pos h4]
    by_cases hc : ∃ n, itoa n = r.rest.take i ∧ -9223372036854775808 ≤ n ∧ n ≤ 9223372036854775807
    · obtain ⟨n, hn, hr0, hr1⟩ := hc
      have hb := back_itoa hr0 hr1
      have ha := atoi_itoa hr0 hr1
      rw [hn] at hb ha
      simp only [hb, ha, hn, hr0, and_self, if_true]
    · have hb : ¬ (backF (r.rest.take i)).2 = true := fun hb => by
        have h5 := back_true (Prod.ext rfl hb : backF (r.rest.take i) = ((backF (r.rest.take i)).1, true))
        exact hc ⟨_, h5.1, h5.2.1, h5.2.2⟩
      rw [if_neg hb]
      split
      · rename_i n hn
        split
        · rename_i h5
          exact absurd ⟨n, h5.1, (atoiAll_rng hn).1, (atoiAll_rng hn).2⟩ hc
        · rfl
      · rfl
/-- a number that is not negative, as the reference reads it -/
theorem numF_zero (e : UInt8) (r : RdV) : numF e 0 r = if (numF e (-9223372036854775808) r).1 < 0 then (0, .fail) else numF e (-9223372036854775808) r := by
  unfold numF
  split
  · rw [if_neg (by simp)]
  · split
    · rename_i n hn
      have hr := atoiAll_rng hn
      rename_i i _ _
      by_cases hi : itoa n = r.rest.take i
      · by_cases h0 : 0 ≤ n
        · have hn0 : ¬ n < 0 := by omega
          simp [hi, h0, hr.1, hn0]
        · have hn0 : n < 0 := by omega
          simp [hi, h0, hr.1, hn0]
      · simp [hi]
    · rw [if_neg (by simp)]
end Go.Proofs.YtnnnibkainlplaaGreatDoor
namespace Go.Proofs.YtnnnibkainlplaaGreatDoor
open Go.Lib

structure EntV where
  dev : Int
  no : Int
  day : Int
  seen : List Int
  text : List UInt8
def EntV.zero : EntV := ⟨0, 0, 0, [], []⟩
def inSeen (l : List Int) : Bool := l.all fun n => decide (0 ≤ n) && decide (n ≤ 400)
def rightB (x : EntV) : Bool :=
  decide (0 ≤ x.dev) && decide (x.dev ≤ 7) && decide (0 ≤ x.no) && decide (x.no ≤ 399) && decide (0 ≤ x.day) && decide (x.day ≤ 100000) && decide (x.seen.length = 8) && inSeen x.seen && decide (x.seen[x.dev.toNat]? = some x.no) && decide (x.text.length ≤ 4000)
structure RightE (x : EntV) : Prop where
  d0 : 0 ≤ x.dev
  d1 : x.dev ≤ 7
  n0 : 0 ≤ x.no
  n1 : x.no ≤ 399
  y0 : 0 ≤ x.day
  y1 : x.day ≤ 100000
  len : x.seen.length = 8
  rng : ∀ n ∈ x.seen, 0 ≤ n ∧ n ≤ 400
  own : x.seen[x.dev.toNat]? = some x.no
  txt : x.text.length ≤ 4000
theorem inSeen_true {l : List Int} : inSeen l = true ↔ ∀ n ∈ l, 0 ≤ n ∧ n ≤ 400 := by
  unfold inSeen
  simp
theorem rightB_true {x : EntV} : rightB x = true ↔ RightE x := by
  unfold rightB
  simp only [Bool.and_eq_true, decide_eq_true_eq, inSeen_true]
  exact ⟨fun ⟨⟨⟨⟨⟨⟨⟨⟨⟨a, b⟩, c⟩, d⟩, e⟩, f⟩, g⟩, h⟩, i⟩, j⟩ => ⟨a, b, c, d, e, f, g, h, i, j⟩, fun h => ⟨⟨⟨⟨⟨⟨⟨⟨⟨h.d0, h.d1⟩, h.n0⟩, h.n1⟩, h.y0⟩, h.y1⟩, h.len⟩, h.rng⟩, h.own⟩, h.txt⟩⟩
def sameB (a b : EntV) : Bool := decide (a.dev = b.dev) && decide (a.no = b.no) && decide (a.day = b.day) && decide (a.seen = b.seen) && decide (a.text = b.text)
theorem sameB_true {a b : EntV} : sameB a b = true ↔ a = b := by
  obtain ⟨a1, a2, a3, a4, a5⟩ := a
  obtain ⟨b1, b2, b3, b4, b5⟩ := b
  simp [sameB]
  exact ⟨fun ⟨⟨⟨⟨a, b⟩, c⟩, d⟩, e⟩ => ⟨a, b, c, d, e⟩, fun ⟨a, b, c, d, e⟩ => ⟨⟨⟨⟨a, b⟩, c⟩, d⟩, e⟩⟩
/-- an element of the second list is less -/
def lessSome (a b : List Int) : Bool := (a.zip b).any fun p => decide (p.2 < p.1)
def followsF (a b : EntV) : Int := if b.day < a.day then 17 else if lessSome a.seen b.seen = true then 7 else 0
def errAt (l : List EntV) (i : Nat) : Int :=
  match l[i]? with
  | none => 0
  | some x =>
    if rightB x = true then
      if (l.head?.map (·.dev)) = some x.dev then
        if (i : Int) < x.no then 23 else if x.no < (i : Int) then 5
        else match i with
          | 0 => 0
          | j + 1 => match l[j]? with | none => 0 | some p => followsF p x
      else 21
    else 1
def scanE (f : Nat → Int) : Nat → Nat → Int
  | 0, _ => 0
  | k + 1, i => if f i = 0 then scanE f k (i + 1) else f i
def checkF (l : List EntV) : Int := if 400 < l.length then 6 else scanE (errAt l) l.length 0
theorem scanE_zero {f : Nat → Int} : ∀ {k i : Nat}, scanE f k i = 0 ↔ ∀ j, i ≤ j → j < i + k → f j = 0
  | 0, i => by simp [scanE]; intro j h1 h2; omega
  | k + 1, i => by
    simp only [scanE]
    by_cases h : f i = 0
    · rw [if_pos h, scanE_zero]
      constructor
      · intro h2 j h3 h4
        rcases Nat.lt_or_ge i j with h5 | h5
        · exact h2 j h5 (by omega)
        · obtain rfl : j = i := by omega
          exact h
      · intro h2 j h3 h4
        exact h2 j (by omega) (by omega)
    · rw [if_neg h]
      exact ⟨fun h2 => absurd h2 h, fun h2 => absurd (h2 i (Nat.le_refl _) (by omega)) h⟩
theorem checkF_zero {l : List EntV} : checkF l = 0 ↔ l.length ≤ 400 ∧ ∀ i, i < l.length → errAt l i = 0 := by
  unfold checkF
  split
  · rename_i h
    exact ⟨fun h2 => by omega, fun h2 => by omega⟩
  · rename_i h
    rw [scanE_zero]
    exact ⟨fun h2 => ⟨by omega, fun i hi => h2 i (Nat.zero_le _) (by omega)⟩, fun h2 j _ hj => h2.2 j (by omega)⟩
/-- an entry with no error at its place -/
structure OkAt (l : List EntV) (i : Nat) (x : EntV) : Prop where
  right : RightE x
  dev : l.head?.map (·.dev) = some x.dev
  no : x.no = (i : Int)
  day : ∀ j p, i = j + 1 → l[j]? = some p → p.day ≤ x.day
  seen : ∀ j p, i = j + 1 → l[j]? = some p → lessSome p.seen x.seen = false
theorem errAt_zero {l : List EntV} {i : Nat} {x : EntV} (hx : l[i]? = some x) : errAt l i = 0 ↔ OkAt l i x := by
  unfold errAt
  rw [hx]
  simp only
  constructor
  · intro h
    split at h
    · rename_i hr
      split at h
      · rename_i hd
        split at h
        · cases h
        · rename_i h1
          split at h
          · cases h
          · rename_i h2
            refine ⟨rightB_true.1 hr, hd, by omega, ?_, ?_⟩
            · rintro j p rfl hp
              simp only [hp] at h
              unfold followsF at h
              split at h
              · cases h
              · omega
            · rintro j p rfl hp
              simp only [hp] at h
              unfold followsF at h
              split at h
              · cases h
              · split at h
                · cases h
                · rename_i h3; simpa using h3
      · cases h
    · cases h
  · intro h
    rw [if_pos (rightB_true.2 h.right), if_pos h.dev, if_neg (by have := h.no; omega), if_neg (by have := h.no; omega)]
    cases i with
    | zero => rfl
    | succ j =>
      simp only
      cases hp : l[j]? with
      | none => rfl
      | some p =>
        simp only
        unfold followsF
        rw [if_neg (by have := h.day j p rfl hp; omega), if_neg (by rw [h.seen j p rfl hp]; simp)]
theorem check_at {l : List EntV} (h : checkF l = 0) {i : Nat} {x : EntV} (hx : l[i]? = some x) : OkAt l i x :=
  (errAt_zero hx).1 ((checkF_zero.1 h).2 i (List.getElem?_eq_some_iff.1 hx).1)
theorem lessSome_false {a b : List Int} : lessSome a b = false ↔ ∀ (i : Nat) (x y : Int), a[i]? = some x → b[i]? = some y → x ≤ y := by
  unfold lessSome
  constructor
  · intro h i x y hx hy
    rw [List.any_eq_false] at h
    have h1 : (a.zip b)[i]? = some (x, y) := by rw [List.getElem?_zip_eq_some]; exact ⟨hx, hy⟩
    have h2 := h _ (List.mem_of_getElem? h1)
    simp only [decide_eq_true_eq] at h2
    omega
  · intro h
    rw [List.any_eq_false]
    intro p hp
    obtain ⟨i, hi⟩ := List.getElem?_of_mem hp
    rw [List.getElem?_zip_eq_some] at hi
    have := h i _ _ hi.1 hi.2
    simp only [decide_eq_true_eq]
    omega
def convictsB (a b : EntV) : Bool := rightB a && rightB b && decide (a.dev = b.dev) && decide (a.no = b.no) && !sameB a b

/-! the encoding -/
def encE (x : EntV) : List UInt8 := encN x.dev ++ (encN x.no ++ (encN x.day ++ (encIs x.seen ++ encT x.text)))
def decE (s : List UInt8) : EntV × RdV :=
  (⟨(natF ⟨s, false⟩).1, (natF (natF ⟨s, false⟩).2).1, (natF (natF (natF ⟨s, false⟩).2).2).1, (intsF (natF (natF (natF ⟨s, false⟩).2).2).2).1, (textF (intsF (natF (natF (natF ⟨s, false⟩).2).2).2).2).1⟩, (textF (intsF (natF (natF (natF ⟨s, false⟩).2).2).2).2).2)
def goodD (s : List UInt8) : Bool := (!(decE s).2.bad && decide ((decE s).2.rest = [])) && rightB (decE s).1
theorem decE_enc {x : EntV} (h : RightE x) : decE (encE x) = (x, ⟨[], false⟩) := by
  have e1 := natF_read h.d0 (by have := h.d1; omega) (encN x.no ++ (encN x.day ++ (encIs x.seen ++ encT x.text))) false
  have e2 := natF_read h.n0 (by have := h.n1; omega) (encN x.day ++ (encIs x.seen ++ encT x.text)) false
  have e3 := natF_read h.y0 (by have := h.y1; omega) (encIs x.seen ++ encT x.text) false
  have e4 := intsF_read (l := x.seen) (by have := h.len; omega) (fun n hn => by have := h.rng n hn; omega) (encT x.text)
  have e5 := textF_read (s := x.text) (by have := h.txt; omega) []
  rw [List.append_nil] at e5
  unfold decE encE
  simp only [e1, e2, e3, e4, e5]
theorem goodD_enc {x : EntV} (h : RightE x) : goodD (encE x) = true := by
  unfold goodD
  rw [decE_enc h]
  simp [rightB_true.2 h]
/-- what is read from a string is right, and has it as its encoding -/
theorem enc_decE {s : List UInt8} (h : goodD s = true) : encE (decE s).1 = s ∧ RightE (decE s).1 := by
  unfold goodD at h
  simp only [Bool.and_eq_true, Bool.not_eq_true', decide_eq_true_eq] at h
  obtain ⟨⟨hb, hr⟩, hx⟩ := h
  refine ⟨?_, rightB_true.1 hx⟩
  obtain ⟨d, r1, h1⟩ : ∃ d r, natF ⟨s, false⟩ = (d, r) := ⟨_, _, rfl⟩
  obtain ⟨n, r2, h2⟩ : ∃ d r, natF r1 = (d, r) := ⟨_, _, rfl⟩
  obtain ⟨y, r3, h3⟩ : ∃ d r, natF r2 = (d, r) := ⟨_, _, rfl⟩
  obtain ⟨l, r4, h4⟩ : ∃ d r, intsF r3 = (d, r) := ⟨_, _, rfl⟩
  obtain ⟨t, r5, h5⟩ : ∃ d r, textF r4 = (d, r) := ⟨_, _, rfl⟩
  unfold decE at hb hr ⊢
  simp only [h1, h2, h3, h4, h5] at hb hr ⊢
  obtain ⟨w5, b4⟩ := textF_was _ _ _ h5 hb
  obtain ⟨w4, b3⟩ := intsF_was _ _ _ h4 b4
  obtain ⟨w3, b2⟩ := natF_was _ _ _ h3 b3
  obtain ⟨w2, b1⟩ := natF_was _ _ _ h2 b2
  obtain ⟨w1, _⟩ := natF_was _ _ _ h1 b1
  simp only at w1
  rw [hr, List.append_nil] at w5
  unfold encE
  simp only
  rw [w1, w2, w3, w4, w5]
end Go.Proofs.YtnnnibkainlplaaGreatDoor
namespace Go.Proofs.YtnnnibkainlplaaGreatDoor
open Go.Lib

theorem errAt_congr {l m : List EntV} {i : Nat} (h0 : l.head?.map (·.dev) = m.head?.map (·.dev)) (hi : l[i]? = m[i]?) (hp : ∀ j, i = j + 1 → l[j]? = m[j]?) : errAt l i = errAt m i := by
  unfold errAt
  rw [h0, hi]
  cases i with
  | zero => rfl
  | succ j => simp only [hp j rfl]
theorem scanE_first {f : Nat → Int} {e : Int} (he : e ≠ 0) : ∀ {k i m : Nat}, (∀ j, i ≤ j → j < i + k → f j = 0) → f (i + k) = e → scanE f (k + (m + 1)) i = e
  | 0, i, m, _, h => by
    rw [Nat.zero_add, scanE]
    rw [Nat.add_zero] at h
    rw [h, if_neg he]
  | k + 1, i, m, h0, h => by
    rw [show k + 1 + (m + 1) = (k + (m + 1)) + 1 by omega, scanE, if_pos (h0 i (Nat.le_refl _) (by omega))]
    exact scanE_first he (fun j h1 h2 => h0 j (by omega) (by omega)) (by rw [show i + 1 + k = i + (k + 1) by omega]; exact h)
theorem checkF_first {l : List EntV} {k : Nat} {e : Int} (he : e ≠ 0) (hl : l.length ≤ 400) (h0 : ∀ j, j < k → errAt l j = 0) (hk : k < l.length) (h : errAt l k = e) : checkF l = e := by
  unfold checkF
  rw [if_neg (by omega), show l.length = k + ((l.length - k - 1) + 1) by omega]
  exact scanE_first he (fun j _ hj => h0 j (by omega)) (by rw [Nat.zero_add]; exact h)
theorem errAt_none {l : List EntV} {i : Nat} (h : l.length ≤ i) : errAt l i = 0 := by
  unfold errAt
  rw [List.getElem?_eq_none h]
theorem check_err {l : List EntV} (h : checkF l = 0) (i : Nat) : errAt l i = 0 := by
  rcases Nat.lt_or_ge i l.length with h1 | h1
  · exact (checkF_zero.1 h).2 i h1
  · exact errAt_none h1
/-- two lists with the same first entries -/
theorem errAt_pre {l m : List EntV} {k i : Nat} (hi : i < k) (h : ∀ j, j < k → l[j]? = m[j]?) : errAt l i = errAt m i := by
  refine errAt_congr ?_ (h i hi) (fun j e => h j (by omega))
  rw [List.head?_eq_getElem?, List.head?_eq_getElem?, h 0 (by omega)]
theorem take_at {α : Type} {l r : List α} {k j : Nat} (hj : j < k) (hk : k ≤ l.length) : (l.take k ++ r)[j]? = l[j]? := by
  rw [List.getElem?_append_left (by rw [List.length_take]; omega), List.getElem?_take_of_lt hj]
theorem take_at2 {α : Type} {l r : List α} {k j : Nat} (hj : k ≤ j) (hk : k ≤ l.length) : (l.take k ++ r)[j]? = r[j - k]? := by
  rw [List.getElem?_append_right (by rw [List.length_take]; omega), List.length_take, Nat.min_eq_left hk]
theorem check_take {l : List EntV} (h : checkF l = 0) (k : Nat) : checkF (l.take k) = 0 := by
  refine checkF_zero.2 ⟨by have := (checkF_zero.1 h).1; rw [List.length_take]; omega, fun i hi => ?_⟩
  rw [List.length_take] at hi
  rw [← check_err h i]
  exact errAt_pre (k := k) (by omega) (fun j hj => List.getElem?_take_of_lt hj)
theorem check_without {l : List EntV} (h : checkF l = 0) {k : Nat} (hk : k + 1 < l.length) : checkF (l.take k ++ l.drop (k + 1)) = 23 := by
  have h4 := (checkF_zero.1 h).1
  obtain ⟨x, hx⟩ : ∃ x, l[k + 1]? = some x := ⟨_, List.getElem?_eq_getElem hk⟩
  have ho := check_at h hx
  have hx' : (l.take k ++ l.drop (k + 1))[k]? = some x := by
    rw [take_at2 (Nat.le_refl _) (by omega), Nat.sub_self, List.getElem?_drop, Nat.add_zero, hx]
  refine checkF_first (k := k) (by omega) (by simp; omega) (fun j hj => ?_) (by simp; omega) ?_
  · rw [← check_err h j]
    exact errAt_pre hj (fun i hi => take_at hi (by omega))
  · have hh : ((l.take k ++ l.drop (k + 1)).head?.map (·.dev)) = some x.dev := by
      rw [List.head?_eq_getElem?]
      rcases Nat.eq_zero_or_pos k with h0 | h0
      · subst h0; rw [hx']; rfl
      · rw [take_at h0 (by omega), ← List.head?_eq_getElem?]; exact ho.dev
    unfold errAt
    rw [hx', hh]
    simp only [rightB_true.2 ho.right, if_true]
    rw [if_pos (by have := ho.no; omega)]
theorem check_twice {l : List EntV} (h : checkF l = 0) (h3 : l.length ≤ 100) {k : Nat} (hk : k < l.length) : checkF (l.take (k + 1) ++ l.drop k) = 5 := by
  obtain ⟨x, hx⟩ : ∃ x, l[k]? = some x := ⟨_, List.getElem?_eq_getElem hk⟩
  have ho := check_at h hx
  have hx' : (l.take (k + 1) ++ l.drop k)[k + 1]? = some x := by
    rw [take_at2 (Nat.le_refl _) (by omega), Nat.sub_self, List.getElem?_drop, Nat.add_zero, hx]
  refine checkF_first (k := k + 1) (by omega) (by simp; omega) (fun j hj => ?_) (by simp; omega) ?_
  · rw [← check_err h j]
    exact errAt_pre hj (fun i hi => take_at hi (by omega))
  · have hh : ((l.take (k + 1) ++ l.drop k).head?.map (·.dev)) = some x.dev := by
      rw [List.head?_eq_getElem?, take_at (by omega) (by omega), ← List.head?_eq_getElem?]; exact ho.dev
    unfold errAt
    rw [hx', hh]
    simp only [rightB_true.2 ho.right, if_true]
    rw [if_neg (by have := ho.no; omega), if_pos (by have := ho.no; omega)]
theorem check_last {l : List EntV} (h : checkF l = 0) {k : Nat} (hk : k + 1 = l.length) : checkF (l.take k ++ l.drop (k + 1)) = 0 := by
  rw [hk, List.drop_length, List.append_nil]
  exact check_take h k
/-! what two right chains say -/
theorem convicts_own {l : List EntV} (h : checkF l = 0) {i k : Nat} {x y : EntV} (hx : l[i]? = some x) (hy : l[k]? = some y) : convictsB x y = false := by
  have h1 := (check_at h hx).no
  have h2 := (check_at h hy).no
  unfold convictsB
  by_cases hn : x.no = y.no
  · obtain rfl : i = k := by omega
    obtain rfl : x = y := Option.some.inj (hx.symm.trans hy)
    rw [sameB_true.2 rfl]
    simp
  · simp [hn]
theorem head_dev {l : List EntV} (h : checkF l = 0) {i : Nat} {x y : EntV} (h0 : l[0]? = some y) (hx : l[i]? = some x) : x.dev = y.dev := by
  have h1 := (check_at h hx).dev
  rw [List.head?_eq_getElem?, h0] at h1
  simp only [Option.map_some, Option.some.injEq] at h1
  exact h1.symm
theorem convicts_two {a b : List EntV} (ha : checkF a = 0) (hb : checkF b = 0) {x0 y0 : EntV} (hx0 : a[0]? = some x0) (hy0 : b[0]? = some y0) (hd : x0.dev = y0.dev) {n : Nat} {x y : EntV} (hx : a[n]? = some x) (hy : b[n]? = some y) : convictsB x y = !sameB x y := by
  have h1 := check_at ha hx
  have h2 := check_at hb hy
  have e1 := head_dev ha hx0 hx
  have e2 := head_dev hb hy0 hy
  unfold convictsB
  rw [rightB_true.2 h1.right, rightB_true.2 h2.right, decide_eq_true (by rw [e1, e2, hd]), decide_eq_true (by rw [h1.no, h2.no])]
  simp
/-! what a right chain says of two entries in a row -/
theorem seen_at {l : List EntV} (h : checkF l = 0) {i : Nat} {x : EntV} (hx : l[i]? = some x) : x.seen[x.dev.toNat]? = some (i : Int) := by
  have h1 := check_at h hx
  rw [h1.right.own, h1.no]
theorem seen_up {l : List EntV} (h : checkF l = 0) {i : Nat} {x p : EntV} (hx : l[i + 1]? = some x) (hp : l[i]? = some p) {k : Nat} {u v : Int} (hu : p.seen[k]? = some u) (hv : x.seen[k]? = some v) : u ≤ v :=
  lessSome_false.1 ((check_at h hx).seen i p rfl hp) k u v hu hv
end Go.Proofs.YtnnnibkainlplaaGreatDoor
namespace Go.Proofs.YtnnnibkainlplaaGreatDoor
open Go.Lib

instance entDec : DecidableEq EntV := fun a b => decidable_of_iff (sameB a b = true) sameB_true
/-- an entry comes before another one in a joined list -/
def ltE (x y : EntV) : Prop := x.dev < y.dev ∨ (x.dev = y.dev ∧ (x.no < y.no ∨ (x.no = y.no ∧ encE x < encE y)))
instance ltEDec (x y : EntV) : Decidable (ltE x y) := by unfold ltE; exact inferInstance
theorem ltE_irrefl (x : EntV) : ¬ ltE x x := fun h => by
  rcases h with h | ⟨_, h | ⟨_, h⟩⟩
  · omega
  · omega
  · exact List.lt_irrefl _ h
theorem ltE_trans {x y z : EntV} (h1 : ltE x y) (h2 : ltE y z) : ltE x z := by
  unfold ltE at *
  rcases h1 with h1 | ⟨e1, h1 | ⟨f1, h1⟩⟩ <;> rcases h2 with h2 | ⟨e2, h2 | ⟨f2, h2⟩⟩
  · left; omega
  · left; omega
  · left; omega
  · left; omega
  · right; exact ⟨by omega, .inl (by omega)⟩
  · right; exact ⟨by omega, .inl (by omega)⟩
  · left; omega
  · right; exact ⟨by omega, .inl (by omega)⟩
  · right; exact ⟨by omega, .inr ⟨by omega, List.lt_trans h1 h2⟩⟩
theorem ltE_asymm {x y : EntV} (h1 : ltE x y) (h2 : ltE y x) : False := ltE_irrefl x (ltE_trans h1 h2)
theorem encE_inj {x y : EntV} (hx : RightE x) (hy : RightE y) (h : encE x = encE y) : x = y := by
  have h1 := decE_enc hx
  have h2 := decE_enc hy
  rw [h, h2] at h1
  exact (congrArg (fun p => p.1) h1).symm
theorem bytes_tri (a b : List UInt8) : a < b ∨ a = b ∨ b < a := by
  by_cases h1 : a < b
  · exact .inl h1
  · by_cases h2 : b < a
    · exact .inr (.inr h2)
    · exact .inr (.inl (List.le_antisymm (List.not_lt.1 h2) (List.not_lt.1 h1)))
theorem ltE_tri {x y : EntV} (hx : RightE x) (hy : RightE y) : ltE x y ∨ x = y ∨ ltE y x := by
  by_cases h1 : x.dev < y.dev
  · exact .inl (.inl h1)
  by_cases h2 : y.dev < x.dev
  · exact .inr (.inr (.inl h2))
  by_cases h3 : x.no < y.no
  · exact .inl (.inr ⟨by omega, .inl h3⟩)
  by_cases h4 : y.no < x.no
  · exact .inr (.inr (.inr ⟨by omega, .inl h4⟩))
  rcases bytes_tri (encE x) (encE y) with h | h | h
  · exact .inl (.inr ⟨by omega, .inr ⟨by omega, h⟩⟩)
  · exact .inr (.inl (encE_inj hx hy h))
  · exact .inr (.inr (.inr ⟨by omega, .inr ⟨by omega, h⟩⟩))
/-- ascending, each once -/
def Asc (l : List EntV) : Prop := l.Pairwise ltE
def AllR (l : List EntV) : Prop := ∀ x ∈ l, RightE x
theorem asc_unique : ∀ {l m : List EntV}, Asc l → Asc m → (∀ x, x ∈ l ↔ x ∈ m) → l = m
  | [], [], _, _, _ => rfl
  | [], y :: m, _, _, h => by have := (h y).2 (by simp); simp at this
  | x :: l, [], _, _, h => by have := (h x).1 (by simp); simp at this
  | x :: l, y :: m, hl, hm, h => by
    have hl' := List.pairwise_cons.1 hl
    have hm' := List.pairwise_cons.1 hm
    have e : x = y := by
      rcases List.mem_cons.1 ((h x).1 (by simp)) with e | e
      · exact e
      · rcases List.mem_cons.1 ((h y).2 (by simp)) with e2 | e2
        · exact e2.symm
        · exact (ltE_asymm (hl'.1 y e2) (hm'.1 x e)).elim
    subst e
    rw [asc_unique hl'.2 hm'.2 fun z => ?_]
    constructor
    · intro hz
      rcases List.mem_cons.1 ((h z).1 (List.mem_cons_of_mem _ hz)) with e | e
      · subst e; exact (ltE_irrefl _ (hl'.1 _ hz)).elim
      · exact e
    · intro hz
      rcases List.mem_cons.1 ((h z).2 (List.mem_cons_of_mem _ hz)) with e | e
      · subst e; exact (ltE_irrefl _ (hm'.1 _ hz)).elim
      · exact e
/-- an entry is put in its place -/
def putE (x : EntV) : List EntV → List EntV
  | [] => [x]
  | y :: l => if y = x then y :: l else if ltE x y then x :: y :: l else y :: putE x l
theorem mem_putE {x y : EntV} : ∀ {l : List EntV}, y ∈ putE x l ↔ y = x ∨ y ∈ l
  | [] => by simp [putE]
  | z :: l => by
    unfold putE
    by_cases h1 : z = x
    · rw [if_pos h1]
      subst h1
      exact ⟨fun h => .inr h, fun h => h.elim (fun e => by subst e; simp) id⟩
    · rw [if_neg h1]
      by_cases h2 : ltE x z
      · rw [if_pos h2]; exact List.mem_cons
      · rw [if_neg h2]
        simp only [List.mem_cons, mem_putE (l := l)]
        exact ⟨fun h => h.elim (fun e => .inr (.inl e)) (fun h => h.elim .inl fun h => .inr (.inr h)), fun h => h.elim (fun e => .inr (.inl e)) (fun h => h.elim .inl fun h => .inr (.inr h))⟩
theorem putE_asc {x : EntV} (hx : RightE x) : ∀ {l : List EntV}, Asc l → AllR l → Asc (putE x l)
  | [], _, _ => by simp [putE, Asc]
  | z :: l, ha, hr => by
    have ha' := List.pairwise_cons.1 ha
    unfold putE
    by_cases h1 : z = x
    · rw [if_pos h1]; exact ha
    · rw [if_neg h1]
      by_cases h2 : ltE x z
      · rw [if_pos h2]
        refine List.pairwise_cons.2 ⟨fun y hy => ?_, ha⟩
        rcases List.mem_cons.1 hy with e | e
        · rw [e]; exact h2
        · exact ltE_trans h2 (ha'.1 y e)
      · rw [if_neg h2]
        refine List.pairwise_cons.2 ⟨fun y hy => ?_, putE_asc hx ha'.2 fun y hy => hr y (List.mem_cons_of_mem _ hy)⟩
        rcases mem_putE.1 hy with e | e
        · rw [e]
          rcases ltE_tri (hr z (by simp)) hx with h | h | h
          · exact h
          · exact (h1 h).elim
          · exact (h2 h).elim
        · exact ha'.1 y e
/-- the joined list of a list -/
def joinF : List EntV → List EntV
  | [] => []
  | x :: l => if rightB x = true then putE x (joinF l) else joinF l
theorem mem_joinF {y : EntV} : ∀ {l : List EntV}, y ∈ joinF l ↔ y ∈ l ∧ RightE y
  | [] => by simp [joinF]
  | x :: l => by
    unfold joinF
    by_cases h : rightB x = true
    · rw [if_pos h, mem_putE, mem_joinF (l := l), List.mem_cons]
      constructor
      · rintro (e | ⟨h1, h2⟩)
        · subst e; exact ⟨.inl rfl, rightB_true.1 h⟩
        · exact ⟨.inr h1, h2⟩
      · rintro ⟨e | h1, h2⟩
        · exact .inl e
        · exact .inr ⟨h1, h2⟩
    · rw [if_neg h, mem_joinF (l := l), List.mem_cons]
      constructor
      · rintro ⟨h1, h2⟩; exact ⟨.inr h1, h2⟩
      · rintro ⟨e | h1, h2⟩
        · subst e; exact (h (rightB_true.2 h2)).elim
        · exact ⟨h1, h2⟩
theorem joinF_right (l : List EntV) : AllR (joinF l) := fun _ hx => (mem_joinF.1 hx).2
theorem joinF_asc : ∀ l : List EntV, Asc (joinF l)
  | [] => List.Pairwise.nil
  | x :: l => by
    unfold joinF
    by_cases h : rightB x = true
    · rw [if_pos h]; exact putE_asc (rightB_true.1 h) (joinF_asc l) (joinF_right l)
    · rw [if_neg h]; exact joinF_asc l
/-- what joins a list: ascending, each once, all that is right -/
theorem joinF_is {l m : List EntV} (ha : Asc m) (hm : ∀ x, x ∈ m ↔ x ∈ l ∧ RightE x) : m = joinF l := asc_unique ha (joinF_asc l) fun x => (hm x).trans mem_joinF.symm
theorem joinF_congr {l m : List EntV} (h : ∀ x, RightE x → (x ∈ l ↔ x ∈ m)) : joinF l = joinF m :=
  asc_unique (joinF_asc l) (joinF_asc m) fun x => by
    rw [mem_joinF, mem_joinF]
    exact ⟨fun ⟨a, b⟩ => ⟨(h x b).1 a, b⟩, fun ⟨a, b⟩ => ⟨(h x b).2 a, b⟩⟩
theorem joinF_self {l : List EntV} (ha : Asc l) (hr : AllR l) : joinF l = l := (joinF_is ha fun x => ⟨fun h => ⟨h, hr x h⟩, fun h => h.1⟩).symm
theorem joinF_len : ∀ l : List EntV, (joinF l).length ≤ l.length
  | [] => Nat.le_refl _
  | x :: l => by
    have hp : ∀ m : List EntV, (putE x m).length ≤ m.length + 1 := by
      intro m
      induction m with
      | nil => simp [putE]
      | cons y m ih => unfold putE; split; · simp
                       split
                       · simp
                       · simp only [List.length_cons]; omega
    unfold joinF
    have := joinF_len l
    split
    · have := hp (joinF l); simp only [List.length_cons]; omega
    · simp only [List.length_cons]; omega
/-! ### who is convicted -/
def forkB (l : List EntV) (d : Int) : Bool := (l.zip l.tail).any fun p => convictsB p.1 p.2 && decide (p.2.dev = d)
theorem convicts_iff {x y : EntV} : convictsB x y = true ↔ RightE x ∧ RightE y ∧ x.dev = y.dev ∧ x.no = y.no ∧ x ≠ y := by
  unfold convictsB
  simp only [Bool.and_eq_true, rightB_true, decide_eq_true_eq, Bool.not_eq_true', ← Bool.not_eq_true, sameB_true]
  exact ⟨fun ⟨⟨⟨⟨a, b⟩, c⟩, d⟩, e⟩ => ⟨a, b, c, d, e⟩, fun ⟨a, b, c, d, e⟩ => ⟨⟨⟨⟨a, b⟩, c⟩, d⟩, e⟩⟩
theorem convicts_symm {x y : EntV} (h : convictsB x y = true) : convictsB y x = true := by
  obtain ⟨a, b, c, d, e⟩ := convicts_iff.1 h
  exact convicts_iff.2 ⟨b, a, c.symm, d.symm, fun h => e h.symm⟩
/-- what lies between two entries of the same place has that place -/
theorem ltE_between {x y z : EntV} (h1 : ltE x y) (h2 : ltE y z) (hd : x.dev = z.dev) (hn : x.no = z.no) : y.dev = x.dev ∧ y.no = x.no := by
  unfold ltE at *
  rcases h1 with h1 | ⟨e1, h1 | ⟨f1, h1⟩⟩ <;> rcases h2 with h2 | ⟨e2, h2 | ⟨f2, h2⟩⟩ <;> omega
theorem forkB_iff : ∀ {l : List EntV} {d : Int}, Asc l → AllR l → (forkB l d = true ↔ ∃ x y, x ∈ l ∧ y ∈ l ∧ convictsB x y = true ∧ x.dev = d)
  | [], d, _, _ => by simp [forkB]
  | [x], d, _, _ => by
    simp only [forkB, List.tail_cons, List.zip_nil_right, List.any_nil, Bool.false_eq_true, false_iff]
    rintro ⟨a, b, ha, hb, hc, _⟩
    obtain ⟨_, _, _, _, h⟩ := convicts_iff.1 hc
    exact h ((List.mem_singleton.1 ha).trans (List.mem_singleton.1 hb).symm)
  | x :: z :: l, d, ha, hr => by
    have ha' := List.pairwise_cons.1 ha
    have ih := forkB_iff (l := z :: l) (d := d) ha'.2 fun y hy => hr y (List.mem_cons_of_mem _ hy)
    have e : forkB (x :: z :: l) d = ((convictsB x z && decide (z.dev = d)) || forkB (z :: l) d) := rfl
    rw [e, Bool.or_eq_true, ih, Bool.and_eq_true, decide_eq_true_eq]
    constructor
    · rintro (⟨h1, h2⟩ | ⟨a, b, h1, h2, h3, h4⟩)
      · exact ⟨x, z, by simp, by simp, h1, by rw [(convicts_iff.1 h1).2.2.1]; exact h2⟩
      · exact ⟨a, b, List.mem_cons_of_mem _ h1, List.mem_cons_of_mem _ h2, h3, h4⟩
    · rintro ⟨a, b, h1, h2, h3, h4⟩
      obtain ⟨r1, r2, r3, r4, r5⟩ := convicts_iff.1 h3
      have key : ∀ b, b ∈ z :: l → convictsB x b = true → x.dev = d → convictsB x z = true ∧ z.dev = d := by
        intro b hb hc hd
        obtain ⟨s1, s2, s3, s4, s5⟩ := convicts_iff.1 hc
        have hxz := ha'.1 z (by simp)
        rcases List.mem_cons.1 hb with e | e
        · subst e; exact ⟨hc, by rw [← s3]; exact hd⟩
        · have hzb := (List.pairwise_cons.1 ha'.2).1 b e
          obtain ⟨t1, t2⟩ := ltE_between hxz hzb s3 s4
          exact ⟨convicts_iff.2 ⟨s1, hr z (by simp), t1.symm, t2.symm, fun h => ltE_irrefl z (by rw [h] at hxz; exact hxz)⟩, by rw [t1]; exact hd⟩
      rcases List.mem_cons.1 h1 with e1 | e1
      · subst e1
        rcases List.mem_cons.1 h2 with e2 | e2
        · exact (r5 e2.symm).elim
        · exact .inl (key b e2 h3 h4)
      · rcases List.mem_cons.1 h2 with e2 | e2
        · subst e2
          exact .inl (key a e1 (convicts_symm h3) (by rw [← r3]; exact h4))
        · exact .inr ⟨a, b, e1, e2, h3, h4⟩
end Go.Proofs.YtnnnibkainlplaaGreatDoor
namespace Go.Proofs.YtnnnibkainlplaaGreatDoor

/-- the entries of a device -/
def ownF (l : List EntV) (d : Int) : List EntV := l.filter fun x => decide (x.dev = d)
theorem ownF_asc {l : List EntV} (h : Asc l) (d : Int) : Asc (ownF l d) := List.Pairwise.filter _ h
theorem mem_ownF {l : List EntV} {d : Int} {x : EntV} : x ∈ ownF l d ↔ x ∈ l ∧ x.dev = d := by unfold ownF; rw [List.mem_filter, decide_eq_true_eq]
/-- the entry in place n has the number n, and the next one a greater number -/
def soloB (own : List EntV) (n : Nat) : Bool :=
  match own[n]? with
  | none => false
  | some x => decide (x.no = (n : Int)) && (match own[n + 1]? with | none => true | some y => decide ((n : Int) < y.no))
def soloGo (own : List EntV) : Nat → Nat → Nat
  | 0, n => n
  | k + 1, n => if soloB own n = true then soloGo own k (n + 1) else n
def soloN (own : List EntV) : Nat := soloGo own own.length 0
def cutGo (own : List EntV) : Nat → Nat
  | 0 => 0
  | n + 1 => if checkF (own.take (n + 1)) = 0 then n + 1 else cutGo own n
def pastN (own : List EntV) : Nat := cutGo own (soloN own)
def pastF (l : List EntV) (d : Int) : List EntV := (ownF l d).take (pastN (ownF l d))
theorem soloB_lt {own : List EntV} {n : Nat} (h : soloB own n = true) : n < own.length := by
  unfold soloB at h
  rcases Nat.lt_or_ge n own.length with h1 | h1
  · exact h1
  · rw [List.getElem?_eq_none h1] at h; cases h
theorem soloGo_le {own : List EntV} : ∀ {k n : Nat}, n ≤ own.length → n ≤ soloGo own k n ∧ soloGo own k n ≤ own.length ∧ ∀ j, n ≤ j → j < soloGo own k n → soloB own j = true
  | 0, n, h => ⟨Nat.le_refl _, h, fun j h1 h2 => by simp only [soloGo] at h2; omega⟩
  | k + 1, n, h => by
    simp only [soloGo]
    by_cases hs : soloB own n = true
    · rw [if_pos hs]
      have hl := soloB_lt hs
      obtain ⟨h1, h2, h3⟩ := soloGo_le (own := own) (k := k) (n := n + 1) hl
      refine ⟨by omega, h2, fun j h4 h5 => ?_⟩
      by_cases e : j = n
      · rw [e]; exact hs
      · exact h3 j (by omega) h5
    · rw [if_neg hs]
      exact ⟨Nat.le_refl _, h, fun j h4 h5 => by omega⟩
theorem soloGo_max {own : List EntV} : ∀ {k n m : Nat}, own.length ≤ n + k → (∀ j, n ≤ j → j < m → soloB own j = true) → n ≤ m → m ≤ soloGo own k n
  | 0, n, m, hk, h, hm => by
    simp only [soloGo]
    by_cases e : n = m
    · omega
    · have := soloB_lt (h n (Nat.le_refl _) (by omega)); omega
  | k + 1, n, m, hk, h, hm => by
    simp only [soloGo]
    by_cases e : n = m
    · subst e
      split
      · rename_i hs
        have := (soloGo_le (own := own) (k := k) (n := n + 1) (soloB_lt hs)).1
        omega
      · exact Nat.le_refl _
    · rw [if_pos (h n (Nat.le_refl _) (by omega))]
      exact soloGo_max (by omega) (fun j h1 h2 => h j (by omega) h2) (by omega)
theorem soloN_le (own : List EntV) : soloN own ≤ own.length := (soloGo_le (Nat.zero_le _)).2.1
theorem soloN_at {own : List EntV} {j : Nat} (h : j < soloN own) : soloB own j = true := (soloGo_le (Nat.zero_le _)).2.2 j (Nat.zero_le _) h
theorem soloN_max {own : List EntV} {m : Nat} (h : ∀ j, j < m → soloB own j = true) : m ≤ soloN own := soloGo_max (by omega) (fun j _ h2 => h j h2) (Nat.zero_le _)
theorem check_nil : checkF [] = 0 := by decide
theorem cutGo_le {own : List EntV} : ∀ n, cutGo own n ≤ n ∧ checkF (own.take (cutGo own n)) = 0
  | 0 => ⟨Nat.le_refl _, by rw [cutGo, List.take_zero]; exact check_nil⟩
  | n + 1 => by
    simp only [cutGo]
    by_cases h : checkF (own.take (n + 1)) = 0
    · rw [if_pos h]; exact ⟨Nat.le_refl _, h⟩
    · rw [if_neg h]
      have := cutGo_le (own := own) n
      exact ⟨by omega, this.2⟩
theorem cutGo_max {own : List EntV} : ∀ {n m : Nat}, m ≤ n → checkF (own.take m) = 0 → m ≤ cutGo own n
  | 0, m, h, _ => by simp only [cutGo]; exact h
  | n + 1, m, h, hc => by
    simp only [cutGo]
    by_cases h1 : checkF (own.take (n + 1)) = 0
    · rw [if_pos h1]; exact h
    · rw [if_neg h1]
      by_cases e : m = n + 1
      · subst e; exact (h1 hc).elim
      · exact cutGo_max (by omega) hc
theorem pastN_le (own : List EntV) : pastN own ≤ own.length := Nat.le_trans (cutGo_le _).1 (soloN_le own)
theorem pastN_solo {own : List EntV} {j : Nat} (h : j < pastN own) : soloB own j = true := soloN_at (Nat.lt_of_lt_of_le h (cutGo_le _).1)
theorem pastN_max {own : List EntV} {m : Nat} (h : ∀ j, j < m → soloB own j = true) (hc : checkF (own.take m) = 0) : m ≤ pastN own := cutGo_max (soloN_max h) hc
theorem past_check (l : List EntV) (d : Int) : checkF (pastF l d) = 0 := (cutGo_le _).2
theorem past_len (l : List EntV) (d : Int) : (pastF l d).length = pastN (ownF l d) := by unfold pastF; rw [List.length_take, Nat.min_eq_left (pastN_le _)]
theorem past_mem {l : List EntV} {d : Int} {x : EntV} (h : x ∈ pastF l d) : x ∈ l ∧ x.dev = d := mem_ownF.1 (List.mem_of_mem_take h)
theorem past_at {l : List EntV} {d : Int} {i : Nat} {x : EntV} (h : (pastF l d)[i]? = some x) : (ownF l d)[i]? = some x ∧ i < pastN (ownF l d) := by
  unfold pastF at h
  rw [List.getElem?_take] at h
  split at h
  · rename_i hi; exact ⟨h, hi⟩
  · cases h
theorem past_no {l : List EntV} {d : Int} {i : Nat} {x : EntV} (h : (pastF l d)[i]? = some x) : x.no = (i : Int) ∧ x.dev = d ∧ RightE x := by
  obtain ⟨h1, h2⟩ := past_at h
  have hs := pastN_solo h2
  unfold soloB at hs
  rw [h1] at hs
  simp only [Bool.and_eq_true, decide_eq_true_eq] at hs
  exact ⟨hs.1, (mem_ownF.1 (List.mem_of_getElem? h1)).2, (check_at (past_check l d) h).right⟩
theorem past_len400 (l : List EntV) (d : Int) : (pastF l d).length ≤ 400 := (checkF_zero.1 (past_check l d)).1
end Go.Proofs.YtnnnibkainlplaaGreatDoor
namespace Go.Proofs.YtnnnibkainlplaaGreatDoor

/-- how many entries of the device d an entry wants to be taken before it -/
def demandF (P : List (List EntV)) (F : List Bool) (x : EntV) (d : Nat) : Int := if F.getD d false = true then min (x.seen.getD d 0) ((P.getD d []).length : Int) else x.seen.getD d 0
def blockedB (P : List (List EntV)) (F : List Bool) (t : List Nat) (dev : Nat) (x : EntV) : Bool := (List.range x.seen.length).any fun d => decide (d ≠ dev) && decide (((t.getD d 0 : Nat) : Int) < demandF P F x d)
/-- the next entry of a device, if it is ready -/
def readyF (P : List (List EntV)) (F : List Bool) (t : List Nat) (dev : Nat) : Option EntV :=
  match (P.getD dev [])[t.getD dev 0]? with
  | none => none
  | some x => if blockedB P F t dev x = true then none else some x
def betterF (b : Option EntV) (r : Option EntV) : Option EntV :=
  match r with
  | none => b
  | some x => match b with | none => some x | some y => if x.day < y.day then some x else b
def pickGo (P : List (List EntV)) (F : List Bool) (t : List Nat) : Nat → Nat → Option EntV → Option EntV
  | 0, _, b => b
  | k + 1, d, b => pickGo P F t k (d + 1) (betterF b (readyF P F t d))
def pickF (P : List (List EntV)) (F : List Bool) (t : List Nat) : Option EntV := pickGo P F t 8 0 none
def bump (t : List Nat) (d : Nat) : List Nat := t.set d (t.getD d 0 + 1)
def ordGo (P : List (List EntV)) (F : List Bool) : Nat → List Nat → List EntV → List Nat × List EntV
  | 0, t, out => (t, out)
  | k + 1, t, out => match pickF P F t with | none => (t, out) | some x => ordGo P F k (bump t x.dev.toNat) (out ++ [x])
def pastsF (J : List EntV) : List (List EntV) := (List.range 8).map fun d : Nat => pastF J (d : Int)
def forksF (J : List EntV) : List Bool := (List.range 8).map fun d : Nat => forkB J (d : Int)
def zero8 : List Nat := List.replicate 8 0
/-- all entries that count, and how many there are of each device -/
def ordF (l : List EntV) : List Nat × List EntV := ordGo (pastsF (joinF l)) (forksF (joinF l)) 3201 zero8 []
theorem pasts_at (J : List EntV) {d : Nat} (h : d < 8) : (pastsF J).getD d [] = pastF J (d : Int) := by
  unfold pastsF
  rw [List.getD_eq_getElem?_getD, List.getElem?_map, List.getElem?_range h]
  rfl
theorem forks_at (J : List EntV) {d : Nat} (h : d < 8) : (forksF J).getD d false = forkB J (d : Int) := by
  unfold forksF
  rw [List.getD_eq_getElem?_getD, List.getElem?_map, List.getElem?_range h]
  rfl
theorem blocked_iff {P : List (List EntV)} {F : List Bool} {t : List Nat} {dev : Nat} {x : EntV} : blockedB P F t dev x = false ↔ ∀ d : Nat, d < x.seen.length → d ≠ dev → demandF P F x d ≤ ((t.getD d 0 : Nat) : Int) := by
  unfold blockedB
  rw [List.any_eq_false]
  constructor
  · intro h d hd hne
    have := h d (List.mem_range.2 hd)
    simp only [Bool.and_eq_true, decide_eq_true_eq, not_and, Int.not_lt] at this
    exact this hne
  · intro h d hd
    simp only [Bool.and_eq_true, decide_eq_true_eq, not_and, Int.not_lt]
    exact fun hne => h d (List.mem_range.1 hd) hne
theorem ready_iff {P : List (List EntV)} {F : List Bool} {t : List Nat} {dev : Nat} {x : EntV} : readyF P F t dev = some x ↔ (P.getD dev [])[t.getD dev 0]? = some x ∧ blockedB P F t dev x = false := by
  unfold readyF
  cases h : (P.getD dev [])[t.getD dev 0]? with
  | none => simp
  | some y =>
    simp only
    by_cases hb : blockedB P F t dev y = true
    · rw [if_pos hb]
      constructor
      · intro h2; cases h2
      · rintro ⟨h1, h2⟩
        have e := Option.some.inj h1
        rw [e, h2] at hb
        cases hb
    · rw [if_neg hb]
      have hb' : blockedB P F t dev y = false := by simpa using hb
      exact ⟨fun h2 => by have e := Option.some.inj h2; rw [← e]; exact ⟨rfl, hb'⟩, fun h2 => h2.1⟩
theorem better_some {b r : Option EntV} {x : EntV} (h : betterF b r = some x) : b = some x ∨ r = some x := by
  unfold betterF at h
  cases r with
  | none => exact .inl h
  | some y =>
    cases b with
    | none => exact .inr h
    | some z =>
      simp only at h
      split at h
      · exact .inr h
      · exact .inl h
theorem better_none {b r : Option EntV} (h : betterF b r = none) : b = none ∧ r = none := by
  unfold betterF at h
  cases r with
  | none => exact ⟨h, rfl⟩
  | some y =>
    cases b with
    | none => cases h
    | some z => simp only at h; split at h <;> cases h
theorem pickGo_some {P : List (List EntV)} {F : List Bool} {t : List Nat} : ∀ {k d : Nat} {b : Option EntV} {x : EntV}, pickGo P F t k d b = some x → b = some x ∨ ∃ e, d ≤ e ∧ e < d + k ∧ readyF P F t e = some x
  | 0, d, b, x, h => .inl h
  | k + 1, d, b, x, h => by
    simp only [pickGo] at h
    rcases pickGo_some h with h1 | ⟨e, h1, h2, h3⟩
    · rcases better_some h1 with h2 | h2
      · exact .inl h2
      · exact .inr ⟨d, Nat.le_refl _, by omega, h2⟩
    · exact .inr ⟨e, by omega, by omega, h3⟩
theorem pickGo_none {P : List (List EntV)} {F : List Bool} {t : List Nat} : ∀ {k d : Nat} {b : Option EntV}, pickGo P F t k d b = none → b = none ∧ ∀ e, d ≤ e → e < d + k → readyF P F t e = none
  | 0, d, b, h => ⟨h, fun e h1 h2 => by omega⟩
  | k + 1, d, b, h => by
    simp only [pickGo] at h
    obtain ⟨h1, h2⟩ := pickGo_none h
    obtain ⟨h3, h4⟩ := better_none h1
    refine ⟨h3, fun e h5 h6 => ?_⟩
    by_cases he : e = d
    · rw [he]; exact h4
    · exact h2 e (by omega) (by omega)
theorem pick_some {P : List (List EntV)} {F : List Bool} {t : List Nat} {x : EntV} (h : pickF P F t = some x) : ∃ e, e < 8 ∧ readyF P F t e = some x := by
  rcases pickGo_some h with h1 | ⟨e, _, h2, h3⟩
  · cases h1
  · exact ⟨e, by omega, h3⟩
theorem pick_none {P : List (List EntV)} {F : List Bool} {t : List Nat} (h : pickF P F t = none) {e : Nat} (he : e < 8) : readyF P F t e = none := (pickGo_none h).2 e (Nat.zero_le _) (by omega)
/-- lists of entries of the devices 0 to 7, with the numbers 0, 1, 2 and so on -/
structure PastsOk (P : List (List EntV)) : Prop where
  at_ : ∀ d : Nat, d < 8 → ∀ (i : Nat) (x : EntV), (P.getD d [])[i]? = some x → x.no = (i : Int) ∧ x.dev = (d : Int) ∧ RightE x
  len : ∀ d : Nat, d < 8 → (P.getD d []).length ≤ 400
theorem pasts_ok (J : List EntV) : PastsOk (pastsF J) := ⟨fun d hd i x h => by rw [pasts_at J hd] at h; exact past_no h, fun d hd => by rw [pasts_at J hd]; exact past_len400 J d⟩
def countF (out : List EntV) (d : Nat) : Nat := (ownF out (d : Int)).length
/-- what the run keeps: of each device the first entries of its past are taken, each behind all that it wants -/
structure RunI (P : List (List EntV)) (F : List Bool) (t : List Nat) (out : List EntV) : Prop where
  len : t.length = 8
  le : ∀ d : Nat, d < 8 → t.getD d 0 ≤ (P.getD d []).length
  own : ∀ d : Nat, d < 8 → ownF out (d : Int) = (P.getD d []).take (t.getD d 0)
  wants : ∀ i x, out[i]? = some x → ∀ d : Nat, d < x.seen.length → (d : Int) ≠ x.dev → demandF P F x d ≤ ((countF (out.take i) d : Nat) : Int)
  dev : ∀ x ∈ out, 0 ≤ x.dev ∧ x.dev ≤ 7
theorem runI_start (P : List (List EntV)) (F : List Bool) : RunI P F zero8 [] :=
  ⟨rfl, fun d hd => by
    have : zero8.getD d 0 = 0 := by unfold zero8; rw [List.getD_eq_getElem?_getD, List.getElem?_replicate]; split <;> rfl
    omega, fun d hd => by
    have : zero8.getD d 0 = 0 := by unfold zero8; rw [List.getD_eq_getElem?_getD, List.getElem?_replicate]; split <;> rfl
    rw [this]; rfl, fun i x h => by simp at h, fun x h => by simp at h⟩
theorem bump_at {t : List Nat} (ht : t.length = 8) {d e : Nat} (he : e < 8) : (bump t d).getD e 0 = if d = e then t.getD e 0 + 1 else t.getD e 0 := by
  unfold bump
  rw [List.getD_eq_getElem?_getD, List.getElem?_set]
  by_cases h : d = e
  · subst h
    rw [if_pos rfl, if_pos rfl, if_pos (by omega)]
    rfl
  · rw [if_neg h, if_neg h, ← List.getD_eq_getElem?_getD]
theorem runI_step {P : List (List EntV)} {F : List Bool} {t : List Nat} {out : List EntV} (hP : PastsOk P) (h : RunI P F t out) {x : EntV} {e : Nat} (he : e < 8) (hr : readyF P F t e = some x) :
    x.dev = (e : Int) ∧ RunI P F (bump t x.dev.toNat) (out ++ [x]) := by
  obtain ⟨h1, h2⟩ := ready_iff.1 hr
  obtain ⟨hno, hdev, hri⟩ := hP.at_ e he _ _ h1
  have hlt : t.getD e 0 < (P.getD e []).length := (List.getElem?_eq_some_iff.1 h1).1
  refine ⟨hdev, ?_⟩
  rw [hdev, Int.toNat_natCast]
  have hcnt : ∀ d : Nat, d < 8 → countF out d = t.getD d 0 := fun d hd => by
    unfold countF
    rw [h.own d hd, List.length_take, Nat.min_eq_left (h.le d hd)]
  refine ⟨by unfold bump; rw [List.length_set]; exact h.len, fun d hd => ?_, fun d hd => ?_, fun i y hy d hd hne => ?_, fun y hy => ?_⟩
  · rw [bump_at h.len hd]
    split
    · rename_i e1; rw [← e1]; exact hlt
    · exact h.le d hd
  · rw [bump_at h.len hd]
    have happ : ownF (out ++ [x]) (d : Int) = ownF out (d : Int) ++ ownF [x] (d : Int) := by unfold ownF; rw [List.filter_append]
    rw [happ, h.own d hd]
    by_cases e1 : e = d
    · subst e1
      rw [if_pos rfl, List.take_add_one, h1]
      unfold ownF
      rw [List.filter_cons_of_pos (by rw [decide_eq_true_eq]; exact hdev)]
      rfl
    · rw [if_neg e1]
      unfold ownF
      rw [List.filter_cons_of_neg (by rw [decide_eq_true_eq, hdev]; omega)]
      simp
  · rw [List.getElem?_append] at hy
    split at hy
    · rename_i hi
      rw [List.take_append_of_le_length (by omega)]
      exact h.wants i y hy d hd hne
    · rename_i hi
      have hi0 : i = out.length := by
        rcases Nat.eq_or_lt_of_le (Nat.not_lt.1 hi) with e1 | e1
        · exact e1.symm
        · rw [List.getElem?_eq_none (by simp; omega)] at hy; cases hy
      subst hi0
      rw [Nat.sub_self] at hy
      have e1 : x = y := Option.some.inj hy
      subst e1
      have hs8 := hri.len
      rw [List.take_left, hcnt d (by omega)]
      exact blocked_iff.1 h2 d hd (by omega)
  · rcases List.mem_append.1 hy with h3 | h3
    · exact h.dev y h3
    · rw [List.mem_singleton.1 h3, hdev]; omega
def sum8 (P : List (List EntV)) : Nat → Nat
  | 0 => 0
  | d + 1 => sum8 P d + (P.getD d []).length
def left8 (P : List (List EntV)) (t : List Nat) : Nat → Nat
  | 0 => 0
  | d + 1 => left8 P t d + ((P.getD d []).length - t.getD d 0)
theorem left8_pos {P : List (List EntV)} {t : List Nat} {e : Nat} (hlt : t.getD e 0 < (P.getD e []).length) : ∀ n, e < n → 1 ≤ left8 P t n
  | 0, h => by omega
  | n + 1, h => by
    simp only [left8]
    by_cases e1 : e = n
    · subst e1; omega
    · have := left8_pos hlt n (by omega); omega
theorem left8_bump {P : List (List EntV)} {t : List Nat} (ht : t.length = 8) {e : Nat} (hlt : t.getD e 0 < (P.getD e []).length) : ∀ n, n ≤ 8 → left8 P (bump t e) n = if e < n then left8 P t n - 1 else left8 P t n
  | 0, _ => by simp [left8]
  | n + 1, hn => by
    have ih := left8_bump ht hlt n (by omega)
    have hpos : e < n → 1 ≤ left8 P t n := left8_pos hlt n
    simp only [left8]
    rw [ih, bump_at ht (by omega)]
    by_cases e1 : e = n
    · subst e1
      rw [if_neg (Nat.lt_irrefl _), if_pos rfl, if_pos (by omega)]
      omega
    · rw [if_neg e1]
      by_cases e2 : e < n
      · rw [if_pos e2, if_pos (by omega)]
        have := hpos e2
        omega
      · rw [if_neg e2, if_neg (by omega)]
theorem left8_le (P : List (List EntV)) (hP : PastsOk P) (t : List Nat) : ∀ n, n ≤ 8 → left8 P t n ≤ 400 * n
  | 0, _ => by simp [left8]
  | n + 1, hn => by
    simp only [left8]
    have h1 := left8_le P hP t n (by omega)
    have h2 := hP.len n (by omega)
    omega
/-- the run ends where nothing is ready -/
theorem ordGo_ends {P : List (List EntV)} {F : List Bool} (hP : PastsOk P) : ∀ {k : Nat} {t : List Nat} {out : List EntV}, RunI P F t out → left8 P t 8 < k → RunI P F (ordGo P F k t out).1 (ordGo P F k t out).2 ∧ pickF P F (ordGo P F k t out).1 = none
  | 0, t, out, h, hk => by omega
  | k + 1, t, out, h, hk => by
    simp only [ordGo]
    cases hp : pickF P F t with
    | none => exact ⟨h, hp⟩
    | some x =>
      obtain ⟨e, he, hr⟩ := pick_some hp
      obtain ⟨h1, h2⟩ := runI_step hP h he hr
      refine ordGo_ends hP h2 ?_
      have hlt : t.getD e 0 < (P.getD e []).length := (List.getElem?_eq_some_iff.1 (ready_iff.1 hr).1).1
      have h3 : left8 P (bump t e) 8 = if e < 8 then left8 P t 8 - 1 else left8 P t 8 := left8_bump h.len hlt 8 (Nat.le_refl _)
      rw [if_pos he] at h3
      have h4 := left8_pos hlt 8 he
      rw [h1, Int.toNat_natCast, h3]
      omega
theorem run_ends (l : List EntV) : RunI (pastsF (joinF l)) (forksF (joinF l)) (ordF l).1 (ordF l).2 ∧ pickF (pastsF (joinF l)) (forksF (joinF l)) (ordF l).1 = none :=
  ordGo_ends (pasts_ok _) (runI_start _ _) (by have := left8_le _ (pasts_ok (joinF l)) zero8 8 (Nat.le_refl _); omega)
end Go.Proofs.YtnnnibkainlplaaGreatDoor
namespace Go.Proofs.YtnnnibkainlplaaGreatDoor

/-- the numbers ascend -/
def NoUp (l : List EntV) : Prop := l.Pairwise fun x y => x.no < y.no
theorem noUp_at {l : List EntV} (h : NoUp l) {i j : Nat} {x y : EntV} (hi : l[i]? = some x) (hj : l[j]? = some y) (hij : i < j) : x.no < y.no := by
  obtain ⟨h1, e1⟩ := List.getElem?_eq_some_iff.1 hi
  obtain ⟨h2, e2⟩ := List.getElem?_eq_some_iff.1 hj
  have := List.pairwise_iff_getElem.1 h i j h1 h2 hij
  rw [e1, e2] at this
  exact this
theorem noUp_own {l : List EntV} {d : Int} (ha : Asc l) (hr : AllR l) (hf : forkB l d = false) : NoUp (ownF l d) := by
  refine List.Pairwise.imp_of_mem ?_ (ownF_asc ha d)
  intro x y hx hy hlt
  obtain ⟨hx1, hx2⟩ := mem_ownF.1 hx
  obtain ⟨hy1, hy2⟩ := mem_ownF.1 hy
  rcases hlt with h | ⟨_, h | ⟨h1, h2⟩⟩
  · omega
  · exact h
  · exfalso
    have : forkB l d = true := (forkB_iff ha hr).2 ⟨x, y, hx1, hy1, convicts_iff.2 ⟨hr x hx1, hr y hy1, by omega, h1, fun e => List.lt_irrefl _ (by rw [e] at h2; exact h2)⟩, hx2⟩
    rw [hf] at this
    cases this
theorem noUp_ge {l : List EntV} (h : NoUp l) (h0 : ∀ x ∈ l, 0 ≤ x.no) : ∀ (i : Nat) (x : EntV), l[i]? = some x → (i : Int) ≤ x.no
  | 0, x, hx => h0 x (List.mem_of_getElem? hx)
  | i + 1, x, hx => by
    obtain ⟨h1, _⟩ := List.getElem?_eq_some_iff.1 hx
    have h2 := noUp_ge h h0 i l[i] (List.getElem?_eq_getElem (by omega))
    have h3 := noUp_at h (List.getElem?_eq_getElem (by omega)) hx (Nat.lt_succ_self i)
    omega
/-- the first n entries of a list whose numbers ascend are those with the numbers 0 to n - 1 -/
theorem noUp_first {l m : List EntV} (h : NoUp m) (h0 : ∀ x ∈ m, 0 ≤ x.no) {n : Nat} (hl : ∀ i, i < n → ∃ x, l[i]? = some x ∧ x.no = (i : Int) ∧ x ∈ m) : ∀ i, i < n → m[i]? = l[i]? := by
  intro i
  induction i using Nat.strongRecOn with
  | ind i ih =>
    intro hi
    obtain ⟨x, hx, hn, hm⟩ := hl i hi
    obtain ⟨p, hp⟩ := List.getElem?_of_mem hm
    have h1 := noUp_ge h h0 p x hp
    have hpi : p ≤ i := by omega
    rcases Nat.eq_or_lt_of_le hpi with e | e
    · rw [hx, ← hp, e]
    · exfalso
      have h2 := ih p e (by omega)
      obtain ⟨y, hy, hny, _⟩ := hl p (by omega)
      rw [hp, hy] at h2
      have e2 := Option.some.inj h2
      rw [e2, hny] at hn
      omega
section
variable {l more : List EntV}
theorem join_more {x : EntV} (h : x ∈ joinF l) : x ∈ joinF (l ++ more) := mem_joinF.2 ⟨List.mem_append_left _ (mem_joinF.1 h).1, (mem_joinF.1 h).2⟩
theorem join_back (hm : ∀ x ∈ more, forkB (joinF (l ++ more)) x.dev = false) {x : EntV} (h : x ∈ joinF (l ++ more)) (hf : forkB (joinF (l ++ more)) x.dev = true) : x ∈ joinF l := by
  obtain ⟨h1, h2⟩ := mem_joinF.1 h
  rcases List.mem_append.1 h1 with h3 | h3
  · exact mem_joinF.2 ⟨h3, h2⟩
  · rw [hm x h3] at hf; cases hf
theorem forks_more (hm : ∀ x ∈ more, forkB (joinF (l ++ more)) x.dev = false) (d : Int) : forkB (joinF l) d = forkB (joinF (l ++ more)) d := by
  have a1 := joinF_asc l
  have a2 := joinF_asc (l ++ more)
  cases h : forkB (joinF (l ++ more)) d with
  | true =>
    obtain ⟨x, y, hx, hy, hc, hd⟩ := (forkB_iff a2 (joinF_right _)).1 h
    have hd2 : y.dev = d := by rw [← (convicts_iff.1 hc).2.2.1]; exact hd
    exact (forkB_iff a1 (joinF_right _)).2 ⟨x, y, join_back hm hx (by rw [hd]; exact h), join_back hm hy (by rw [hd2]; exact h), hc, hd⟩
  | false =>
    cases h1 : forkB (joinF l) d with
    | false => rfl
    | true =>
      obtain ⟨x, y, hx, hy, hc, hd⟩ := (forkB_iff a1 (joinF_right _)).1 h1
      have := (forkB_iff a2 (joinF_right _)).2 ⟨x, y, join_more hx, join_more hy, hc, hd⟩
      rw [h] at this
      cases this
theorem own_same (hm : ∀ x ∈ more, forkB (joinF (l ++ more)) x.dev = false) {d : Int} (hf : forkB (joinF (l ++ more)) d = true) : ownF (joinF l) d = ownF (joinF (l ++ more)) d :=
  asc_unique (ownF_asc (joinF_asc _) d) (ownF_asc (joinF_asc _) d) fun x => by
    rw [mem_ownF, mem_ownF]
    exact ⟨fun ⟨h1, h2⟩ => ⟨join_more h1, h2⟩, fun ⟨h1, h2⟩ => ⟨join_back hm h1 (by rw [h2]; exact hf), h2⟩⟩
theorem past_more (hm : ∀ x ∈ more, forkB (joinF (l ++ more)) x.dev = false) (d : Int) : pastF (joinF l) d <+: pastF (joinF (l ++ more)) d ∧ (forkB (joinF (l ++ more)) d = true → pastF (joinF l) d = pastF (joinF (l ++ more)) d) := by
  cases hf : forkB (joinF (l ++ more)) d with
  | true =>
    have e : pastF (joinF l) d = pastF (joinF (l ++ more)) d := by unfold pastF; rw [own_same hm hf]
    exact ⟨by rw [e]; exact List.prefix_rfl, fun _ => e⟩
  | false =>
    refine ⟨?_, fun h => by cases h⟩
    have hup := noUp_own (joinF_asc (l ++ more)) (joinF_right _) hf
    have hz : ∀ x ∈ ownF (joinF (l ++ more)) d, 0 ≤ x.no := fun x hx => (joinF_right _ x (mem_ownF.1 hx).1).n0
    have hat : ∀ i, i < pastN (ownF (joinF l) d) → ∃ x, (ownF (joinF l) d)[i]? = some x ∧ x.no = (i : Int) ∧ x ∈ ownF (joinF (l ++ more)) d := fun i hi => by
      have hlt : i < (ownF (joinF l) d).length := Nat.lt_of_lt_of_le hi (pastN_le _)
      have hx := List.getElem?_eq_getElem hlt
      have hs := pastN_solo hi
      unfold soloB at hs
      rw [hx] at hs
      simp only [Bool.and_eq_true, decide_eq_true_eq] at hs
      have hmem := mem_ownF.1 (List.getElem_mem hlt)
      exact ⟨_, hx, hs.1, mem_ownF.2 ⟨join_more hmem.1, hmem.2⟩⟩
    have hfirst := noUp_first hup hz hat
    have htk : (ownF (joinF (l ++ more)) d).take (pastN (ownF (joinF l) d)) = (ownF (joinF l) d).take (pastN (ownF (joinF l) d)) := by
      apply List.ext_getElem?
      intro i
      rw [List.getElem?_take, List.getElem?_take]
      split
      · rename_i hi; exact hfirst i hi
      · rfl
    have hle : pastN (ownF (joinF l) d) ≤ pastN (ownF (joinF (l ++ more)) d) := by
      refine pastN_max (fun j hj => ?_) (by rw [htk]; exact past_check (joinF l) d)
      obtain ⟨x, hx, hn, _⟩ := hat j hj
      have hx2 : (ownF (joinF (l ++ more)) d)[j]? = some x := by rw [hfirst j hj, hx]
      unfold soloB
      rw [hx2]
      simp only [Bool.and_eq_true, decide_eq_true_eq]
      refine ⟨hn, ?_⟩
      cases hy : (ownF (joinF (l ++ more)) d)[j + 1]? with
      | none => rfl
      | some y =>
        have := noUp_at hup hx2 hy (Nat.lt_succ_self j)
        simp only [decide_eq_true_eq]
        omega
    unfold pastF
    rw [← htk]
    exact List.take_prefix_take_left hle
end
/-- a run over less ends not later than a run over more in which nothing is ready -/
theorem run_grows {P1 P2 : List (List EntV)} {F1 F2 : List Bool} {T : List Nat} (hP : PastsOk P1) (hpre : ∀ d : Nat, d < 8 → P1.getD d [] <+: P2.getD d []) (hdem : ∀ (x : EntV) (d : Nat), d < 8 → demandF P1 F1 x d = demandF P2 F2 x d)
    (hT : ∀ e : Nat, e < 8 → readyF P2 F2 T e = none) : ∀ {k : Nat} {t : List Nat} {out : List EntV}, RunI P1 F1 t out → (∀ d : Nat, d < 8 → t.getD d 0 ≤ T.getD d 0) → ∀ d : Nat, d < 8 → (ordGo P1 F1 k t out).1.getD d 0 ≤ T.getD d 0
  | 0, t, out, h, hle => hle
  | k + 1, t, out, h, hle => by
    simp only [ordGo]
    cases hp : pickF P1 F1 t with
    | none => exact hle
    | some x =>
      obtain ⟨e, he, hr⟩ := pick_some hp
      obtain ⟨h1, h2⟩ := runI_step hP h he hr
      refine run_grows hP hpre hdem hT h2 fun d hd => ?_
      rw [h1, Int.toNat_natCast, bump_at h.len hd]
      split
      · rename_i e1
        subst e1
        rcases Nat.eq_or_lt_of_le (hle e he) with e2 | e2
        · exfalso
          obtain ⟨h3, h4⟩ := ready_iff.1 hr
          have h5 : (P2.getD e [])[T.getD e 0]? = some x := by
            obtain ⟨r, hr'⟩ := hpre e he
            rw [← e2, ← hr', List.getElem?_append_left (List.getElem?_eq_some_iff.1 h3).1]
            exact h3
          have hx8 := (hP.at_ e he _ _ h3).2.2.len
          have h6 : blockedB P2 F2 T e x = false := blocked_iff.2 fun c hc hne => by
            have h7 := blocked_iff.1 h4 c hc hne
            have h8 := hle c (by omega)
            rw [← hdem x c (by omega)]
            omega
          have h9 := hT e he
          rw [ready_iff.2 ⟨h5, h6⟩] at h9
          cases h9
        · exact e2
      · exact hle d hd
theorem order_grows {l more : List EntV} (hm : ∀ x ∈ more, forkB (joinF (l ++ more)) x.dev = false) :
    (∀ d : Nat, d < 8 → (ordF l).1.getD d 0 ≤ (ordF (l ++ more)).1.getD d 0) ∧ ∀ x ∈ (ordF l).2, x ∈ (ordF (l ++ more)).2 := by
  have hpre : ∀ d : Nat, d < 8 → (pastsF (joinF l)).getD d [] <+: (pastsF (joinF (l ++ more))).getD d [] := fun d hd => by
    rw [pasts_at _ hd, pasts_at _ hd]; exact (past_more hm d).1
  have hdem : ∀ (x : EntV) (d : Nat), d < 8 → demandF (pastsF (joinF l)) (forksF (joinF l)) x d = demandF (pastsF (joinF (l ++ more))) (forksF (joinF (l ++ more))) x d := fun x d hd => by
    unfold demandF
    rw [forks_at _ hd, forks_at _ hd, forks_more hm, pasts_at _ hd, pasts_at _ hd]
    cases hf : forkB (joinF (l ++ more)) (d : Int) with
    | false => rfl
    | true => rw [(past_more hm d).2 hf]
  obtain ⟨r1, n1⟩ := run_ends l
  obtain ⟨r2, n2⟩ := run_ends (l ++ more)
  have hle : ∀ d : Nat, d < 8 → (ordF l).1.getD d 0 ≤ (ordF (l ++ more)).1.getD d 0 :=
    run_grows (pasts_ok _) hpre hdem (fun e he => pick_none n2 he) (runI_start _ _) (fun d hd => by
      have : zero8.getD d 0 = 0 := by unfold zero8; rw [List.getD_eq_getElem?_getD, List.getElem?_replicate]; split <;> rfl
      omega)
  refine ⟨hle, fun x hx => ?_⟩
  obtain ⟨h0, h7⟩ := r1.dev x hx
  obtain ⟨d, hd⟩ : ∃ d : Nat, x.dev = (d : Int) := ⟨x.dev.toNat, by omega⟩
  have hd8 : d < 8 := by omega
  have h1 : x ∈ ownF (ordF l).2 (d : Int) := mem_ownF.2 ⟨hx, hd⟩
  rw [r1.own d hd8] at h1
  obtain ⟨i, hi⟩ := List.getElem?_of_mem h1
  rw [List.getElem?_take] at hi
  split at hi
  · rename_i hlt
    obtain ⟨r, hr⟩ := hpre d hd8
    have h2 : ((pastsF (joinF (l ++ more))).getD d [])[i]? = some x := by
      rw [← hr, List.getElem?_append_left (List.getElem?_eq_some_iff.1 hi).1]
      exact hi
    have h3 : x ∈ ownF (ordF (l ++ more)).2 (d : Int) := by
      rw [r2.own d hd8]
      refine List.mem_of_getElem? (i := i) ?_
      rw [List.getElem?_take, if_pos (Nat.lt_of_lt_of_le hlt (hle d hd8))]
      exact h2
    exact (mem_ownF.1 h3).1
  · cases hi
end Go.Proofs.YtnnnibkainlplaaGreatDoor
namespace Go.Proofs.YtnnnibkainlplaaGreatDoor

theorem asc_at {l : List EntV} (h : Asc l) {i j : Nat} {x y : EntV} (hi : l[i]? = some x) (hj : l[j]? = some y) (hij : i < j) : ltE x y := by
  obtain ⟨h1, e1⟩ := List.getElem?_eq_some_iff.1 hi
  obtain ⟨h2, e2⟩ := List.getElem?_eq_some_iff.1 hj
  have := List.pairwise_iff_getElem.1 h i j h1 h2 hij
  rw [e1, e2] at this
  exact this
theorem own_no {l : List EntV} {d : Int} (h : Asc l) {i j : Nat} {x y : EntV} (hi : (ownF l d)[i]? = some x) (hj : (ownF l d)[j]? = some y) (hij : i ≤ j) : x.no ≤ y.no := by
  rcases Nat.eq_or_lt_of_le hij with e | e
  · subst e; rw [hi] at hj; rw [Option.some.inj hj]; exact Int.le_refl _
  · have h1 := (mem_ownF.1 (List.mem_of_getElem? hi)).2
    have h2 := (mem_ownF.1 (List.mem_of_getElem? hj)).2
    rcases asc_at (ownF_asc h d) hi hj e with h3 | ⟨_, h3 | ⟨h3, _⟩⟩ <;> omega
theorem solo_at {own : List EntV} {j : Nat} (h : soloB own j = true) : ∃ x, own[j]? = some x ∧ x.no = (j : Int) ∧ ∀ y, own[j + 1]? = some y → (j : Int) < y.no := by
  unfold soloB at h
  cases hx : own[j]? with
  | none => rw [hx] at h; cases h
  | some x =>
    rw [hx] at h
    simp only [Bool.and_eq_true, decide_eq_true_eq] at h
    refine ⟨x, rfl, h.1, fun y hy => ?_⟩
    rw [hy] at h
    exact of_decide_eq_true h.2
/-- in the past of a device each number is there once -/
theorem past_once {l : List EntV} {d : Int} (ha : Asc l) {k : Nat} (hk : k < pastN (ownF l d)) {x : EntV} (hx : x ∈ l) (hd : x.dev = d) (hn : x.no = (k : Int)) : (ownF l d)[k]? = some x := by
  obtain ⟨p, hp⟩ := List.getElem?_of_mem (mem_ownF.2 ⟨hx, hd⟩)
  obtain ⟨y, hy, hyn, hnx⟩ := solo_at (pastN_solo hk)
  rcases Nat.lt_trichotomy p k with h | h | h
  · exfalso
    obtain ⟨z, hz, hzn, _⟩ := solo_at (pastN_solo (own := ownF l d) (j := p) (by omega))
    rw [hp] at hz
    have e := Option.some.inj hz
    rw [← e, hn] at hzn
    omega
  · rw [← h]; exact hp
  · exfalso
    have hlt : k + 1 < (ownF l d).length := by have := (List.getElem?_eq_some_iff.1 hp).1; omega
    have h1 := hnx _ (List.getElem?_eq_getElem hlt)
    have h2 := own_no ha (List.getElem?_eq_getElem hlt) hp h
    omega
/-- of a device that is convicted nothing counts from the first number on for which there are two entries -/
theorem past_below {l : List EntV} {d : Int} (ha : Asc l) {x y : EntV} (hx : x ∈ l) (hy : y ∈ l) (hc : convictsB x y = true) (hd : x.dev = d) : ((pastF l d).length : Int) ≤ x.no := by
  obtain ⟨rx, ry, h1, h2, h3⟩ := convicts_iff.1 hc
  rw [past_len]
  rcases Int.lt_or_le x.no (pastN (ownF l d) : Int) with h | h
  · exfalso
    obtain ⟨k, hk⟩ : ∃ k : Nat, x.no = (k : Int) := ⟨x.no.toNat, (Int.toNat_of_nonneg rx.n0).symm⟩
    have e1 := past_once (d := d) ha (k := k) (by omega) hx hd hk
    have e2 := past_once (d := d) ha (k := k) (by omega) hy (by rw [← h1]; exact hd) (by rw [← h2]; exact hk)
    rw [e1] at e2
    exact h3 (Option.some.inj e2)
  · exact h
/-! ### the reference's past -/
def atNo (l : List EntV) (d : Int) (k : Nat) : List EntV := l.filter fun x => decide (x.dev = d) && decide (x.no = (k : Int))
theorem mem_atNo {l : List EntV} {d : Int} {k : Nat} {x : EntV} : x ∈ atNo l d k ↔ x ∈ l ∧ x.dev = d ∧ x.no = (k : Int) := by unfold atNo; rw [List.mem_filter, Bool.and_eq_true, decide_eq_true_eq, decide_eq_true_eq]
def refPastGo (l : List EntV) (d : Int) : Nat → List EntV → List EntV
  | 0, out => out
  | k + 1, out =>
    match atNo l d out.length with
    | [x] => if checkF (out ++ [x]) = 0 then refPastGo l d k (out ++ [x]) else out
    | _ => out
theorem nodup_of_asc {l : List EntV} (h : Asc l) : l.Nodup := by
  refine List.Pairwise.imp ?_ h
  intro a b hlt e
  rw [e] at hlt
  exact ltE_irrefl _ hlt
theorem atNo_one {l : List EntV} (ha : Asc l) {d : Int} {k : Nat} {x : EntV} (hx : x ∈ l) (hd : x.dev = d) (hn : x.no = (k : Int)) (hu : ∀ y ∈ l, y.dev = d → y.no = (k : Int) → y = x) : atNo l d k = [x] := by
  have hm : x ∈ atNo l d k := mem_atNo.2 ⟨hx, hd, hn⟩
  have hnd : (atNo l d k).Nodup := (nodup_of_asc ha).filter _
  have hall : ∀ y ∈ atNo l d k, y = x := fun y hy => by obtain ⟨a, b, c⟩ := mem_atNo.1 hy; exact hu y a b c
  match h : atNo l d k, hm, hnd, hall with
  | [], hm, _, _ => simp at hm
  | [y], _, _, hall => rw [hall y (by simp)]
  | y :: z :: r, _, hnd, hall =>
    exfalso
    have h1 := hall y (by simp)
    have h2 := hall z (by simp)
    rw [h1, h2] at hnd
    simp at hnd
theorem refPast_is {l : List EntV} (ha : Asc l) (hr : AllR l) (d : Int) : ∀ {k m : Nat}, m ≤ pastN (ownF l d) → pastN (ownF l d) < m + k → refPastGo l d k ((ownF l d).take m) = pastF l d
  | 0, m, h1, h2 => by omega
  | k + 1, m, h1, h2 => by
    have hml : ((ownF l d).take m).length = m := by rw [List.length_take, Nat.min_eq_left (Nat.le_trans h1 (pastN_le _))]
    simp only [refPastGo]
    rw [hml]
    rcases Nat.eq_or_lt_of_le h1 with e | e
    · have hstop : ∀ x, atNo l d m = [x] → ¬ checkF ((ownF l d).take m ++ [x]) = 0 := by
        intro x hx hc
        have hmx : x ∈ atNo l d m := by rw [hx]; simp
        obtain ⟨hxl, hxd, hxn⟩ := mem_atNo.1 hmx
        have huniq : ∀ y ∈ l, y.dev = d → y.no = (m : Int) → y = x := fun y h3 h4 h5 => by
          have : y ∈ atNo l d m := mem_atNo.2 ⟨h3, h4, h5⟩
          rw [hx] at this
          exact List.mem_singleton.1 this
        obtain ⟨p, hp⟩ := List.getElem?_of_mem (mem_ownF.2 ⟨hxl, hxd⟩)
        have hpm : m ≤ p := by
          rcases Nat.lt_or_ge p m with h3 | h3
          · obtain ⟨z, hz, hzn, _⟩ := solo_at (pastN_solo (own := ownF l d) (j := p) (by omega))
            rw [hp] at hz
            rw [← Option.some.inj hz, hxn] at hzn
            omega
          · exact h3
        have hlt : m < (ownF l d).length := by have := (List.getElem?_eq_some_iff.1 hp).1; omega
        obtain ⟨y, hy⟩ : ∃ y, (ownF l d)[m]? = some y := ⟨_, List.getElem?_eq_getElem hlt⟩
        have hyl := mem_ownF.1 (List.mem_of_getElem? hy)
        have hyn : y.no = (m : Int) := by
          have h3 := own_no ha hy hp hpm
          have h4 : (m : Int) ≤ y.no := by
            cases m with
            | zero => exact (hr y hyl.1).n0
            | succ j =>
              obtain ⟨_, _, _, hn⟩ := solo_at (pastN_solo (own := ownF l d) (j := j) (by omega))
              have := hn y hy
              omega
          omega
        have hyx := huniq y hyl.1 hyl.2 hyn
        subst hyx
        have hs : soloB (ownF l d) m = true := by
          unfold soloB
          rw [hy]
          simp only [Bool.and_eq_true, decide_eq_true_eq]
          refine ⟨hyn, ?_⟩
          cases hz : (ownF l d)[m + 1]? with
          | none => rfl
          | some z =>
            simp only [decide_eq_true_eq]
            have h3 := own_no ha hy hz (Nat.le_succ m)
            have hzl := mem_ownF.1 (List.mem_of_getElem? hz)
            rcases Int.lt_or_le (m : Int) z.no with h4 | h4
            · exact h4
            · exfalso
              have e2 := huniq z hzl.1 hzl.2 (by omega)
              have h5 := asc_at (ownF_asc ha d) hy hz (Nat.lt_succ_self m)
              rw [e2] at h5
              exact ltE_irrefl _ h5
        have htk : (ownF l d).take m ++ [y] = (ownF l d).take (m + 1) := by rw [List.take_add_one, hy]; rfl
        rw [htk] at hc
        have := pastN_max (own := ownF l d) (m := m + 1) (fun j hj => by
          rcases Nat.eq_or_lt_of_le (Nat.le_of_lt_succ hj) with h3 | h3
          · rw [h3]; exact hs
          · exact pastN_solo (by omega)) hc
        omega
      have hout : (ownF l d).take m = pastF l d := by unfold pastF; rw [e]
      rw [← hout]
      split
      · rename_i x hx
        rw [if_neg (hstop x hx)]
      · rfl
    · obtain ⟨x, hx, hxn, _⟩ := solo_at (pastN_solo e)
      have hxl := mem_ownF.1 (List.mem_of_getElem? hx)
      have h1a : atNo l d m = [x] := atNo_one ha hxl.1 hxl.2 hxn fun y h3 h4 h5 => by
        have := past_once ha e h3 h4 h5
        rw [hx] at this
        exact (Option.some.inj this).symm
      rw [h1a]
      have htk : (ownF l d).take m ++ [x] = (ownF l d).take (m + 1) := by rw [List.take_add_one, hx]; rfl
      simp only
      rw [htk]
      have hc : checkF ((ownF l d).take (m + 1)) = 0 := by
        have h3 := check_take (past_check l d) (m + 1)
        unfold pastF at h3
        rw [List.take_take, Nat.min_eq_left (by omega)] at h3
        exact h3
      rw [if_pos hc]
      exact refPast_is ha hr d (by omega) (by omega)
/-! ### what is missing -/
def nextGo (d : Int) : List EntV → Nat → Nat
  | [], n => n
  | x :: l, n => nextGo d l (if x.dev = d ∧ x.no = (n : Int) then n + 1 else n)
def needGo (d : Nat) : List EntV → Int → Int
  | [], m => m
  | x :: l, m => needGo d l (max (if x.dev = (d : Int) then max m x.no else m) (x.seen.getD d 0))
def missF (J : List EntV) : List (Nat × Nat) := (List.range 8).filterMap fun d : Nat => if ((nextGo (d : Int) J 0 : Nat) : Int) < needGo d J 0 then some (d, nextGo (d : Int) J 0) else none
theorem needGo_le {d : Nat} : ∀ {l : List EntV} {m k : Int}, needGo d l m ≤ k ↔ m ≤ k ∧ ∀ x ∈ l, (x.dev = (d : Int) → x.no ≤ k) ∧ x.seen.getD d 0 ≤ k
  | [], m, k => by simp [needGo]
  | x :: l, m, k => by
    simp only [needGo]
    rw [needGo_le]
    constructor
    · rintro ⟨h1, h2⟩
      have h3 : (x.dev = (d : Int) → x.no ≤ k) ∧ x.seen.getD d 0 ≤ k ∧ m ≤ k := by
        by_cases e : x.dev = (d : Int)
        · rw [if_pos e] at h1; exact ⟨fun _ => by omega, by omega, by omega⟩
        · rw [if_neg e] at h1; exact ⟨fun h => absurd h e, by omega, by omega⟩
      refine ⟨h3.2.2, fun y hy => ?_⟩
      rcases List.mem_cons.1 hy with e | e
      · rw [e]; exact ⟨h3.1, h3.2.1⟩
      · exact h2 y e
    · rintro ⟨h1, h2⟩
      have h3 := h2 x (by simp)
      refine ⟨?_, fun y hy => h2 y (List.mem_cons_of_mem _ hy)⟩
      by_cases e : x.dev = (d : Int)
      · rw [if_pos e]; have := h3.1 e; omega
      · rw [if_neg e]; omega
/-- the reference's question -/
theorem need_iff {d : Nat} {l : List EntV} {n : Nat} : ((n : Int) < needGo d l 0) ↔ ∃ x ∈ l, (x.dev = (d : Int) ∧ (n : Int) < x.no) ∨ (n : Int) < x.seen.getD d 0 := by
  rw [← Int.not_le, needGo_le]
  constructor
  · intro h
    apply Classical.byContradiction
    intro h2
    refine h ⟨by omega, fun x hx => ⟨fun e => ?_, ?_⟩⟩
    · apply Classical.byContradiction
      intro h3
      exact h2 ⟨x, hx, .inl ⟨e, by omega⟩⟩
    · apply Classical.byContradiction
      intro h3
      exact h2 ⟨x, hx, .inr (by omega)⟩
  · rintro ⟨x, hx, h⟩ ⟨_, h2⟩
    have h3 := h2 x hx
    rcases h with ⟨e, h⟩ | h
    · have := h3.1 e; omega
    · omega
/-- the first number of a device that is not there -/
theorem nextGo_is {d : Int} : ∀ {l : List EntV} {n : Nat}, Asc l → (∀ x ∈ l, x.dev = d → (n : Int) - 1 ≤ x.no) → n ≤ nextGo d l n ∧ (∀ k : Nat, n ≤ k → k < nextGo d l n → ∃ x ∈ l, x.dev = d ∧ x.no = (k : Int)) ∧ ¬ ∃ x ∈ l, x.dev = d ∧ x.no = ((nextGo d l n : Nat) : Int)
  | [], n, _, _ => ⟨Nat.le_refl _, fun k h1 h2 => by simp only [nextGo] at h2; omega, by simp⟩
  | x :: l, n, ha, hlow => by
    have ha' := List.pairwise_cons.1 ha
    simp only [nextGo]
    by_cases hx : x.dev = d ∧ x.no = (n : Int)
    · rw [if_pos hx]
      obtain ⟨h1, h2, h3⟩ := nextGo_is (d := d) (l := l) (n := n + 1) ha'.2 (fun y hy hyd => by
        rcases ha'.1 y hy with h | ⟨_, h | ⟨h, _⟩⟩ <;> omega)
      refine ⟨by omega, fun k hk1 hk2 => ?_, ?_⟩
      · rcases Nat.eq_or_lt_of_le hk1 with e | e
        · exact ⟨x, by simp, hx.1, by rw [← e]; exact hx.2⟩
        · obtain ⟨y, hy, h4⟩ := h2 k e hk2
          exact ⟨y, List.mem_cons_of_mem _ hy, h4⟩
      · rintro ⟨y, hy, hyd, hyn⟩
        rcases List.mem_cons.1 hy with e | e
        · rw [e, hx.2] at hyn; omega
        · exact h3 ⟨y, e, hyd, hyn⟩
    · rw [if_neg hx]
      by_cases hd : x.dev = d
      · by_cases hlo : x.no = (n : Int) - 1
        · obtain ⟨h1, h2, h3⟩ := nextGo_is (d := d) (l := l) (n := n) ha'.2 (fun y hy => hlow y (List.mem_cons_of_mem _ hy))
          refine ⟨h1, fun k hk1 hk2 => by obtain ⟨y, hy, h4⟩ := h2 k hk1 hk2; exact ⟨y, List.mem_cons_of_mem _ hy, h4⟩, ?_⟩
          rintro ⟨y, hy, hyd, hyn⟩
          rcases List.mem_cons.1 hy with e | e
          · rw [e, hlo] at hyn; omega
          · exact h3 ⟨y, e, hyd, hyn⟩
        · have hbig : (n : Int) < x.no := by
            have h4 := hlow x (by simp) hd
            have h5 : x.no ≠ (n : Int) := fun e => hx ⟨hd, e⟩
            omega
          have hrest : ∀ y ∈ l, ¬ (y.dev = d ∧ y.no = (n : Int)) := fun y hy h => by
            rcases ha'.1 y hy with h6 | ⟨_, h6 | ⟨h6, _⟩⟩ <;> omega
          have hstay : ∀ m : List EntV, (∀ y ∈ m, ¬ (y.dev = d ∧ y.no = (n : Int))) → nextGo d m n = n := by
            intro m
            induction m with
            | nil => intro _; rfl
            | cons z m ih =>
              intro hm
              simp only [nextGo]
              rw [if_neg (hm z (by simp))]
              exact ih fun y hy => hm y (List.mem_cons_of_mem _ hy)
          rw [hstay l hrest]
          refine ⟨Nat.le_refl _, fun k h7 h8 => by omega, ?_⟩
          rintro ⟨y, hy, hyd, hyn⟩
          rcases List.mem_cons.1 hy with e | e
          · rw [e] at hyn; omega
          · exact hrest y e ⟨hyd, hyn⟩
      · obtain ⟨h1, h2, h3⟩ := nextGo_is (d := d) (l := l) (n := n) ha'.2 (fun y hy => hlow y (List.mem_cons_of_mem _ hy))
        refine ⟨h1, fun k hk1 hk2 => by obtain ⟨y, hy, h4⟩ := h2 k hk1 hk2; exact ⟨y, List.mem_cons_of_mem _ hy, h4⟩, ?_⟩
        rintro ⟨y, hy, hyd, hyn⟩
        rcases List.mem_cons.1 hy with e | e
        · rw [e] at hyd; exact hd hyd
        · exact h3 ⟨y, e, hyd, hyn⟩
end Go.Proofs.YtnnnibkainlplaaGreatDoor
namespace Go.Proofs.YtnnnibkainlplaaGreatDoor

/-- what honest devices have written, in the order in which they wrote it -/
structure Hon (A : List EntV) : Prop where
  right : AllR A
  once : ∀ (i j : Nat) (x y : EntV), A[i]? = some x → A[j]? = some y → x.dev = y.dev → x.no = y.no → i = j
  seen : ∀ (i : Nat) (x : EntV), A[i]? = some x → ∀ e : Nat, e < 8 → ∀ k : Nat, (k : Int) < x.seen.getD e 0 → ∃ (j : Nat) (y : EntV), j < i ∧ A[j]? = some y ∧ y.dev = (e : Int) ∧ y.no = (k : Int)
  chain : ∀ e : Nat, e < 8 → checkF (ownF A (e : Int)) = 0
/-- a list that holds all that its entries had seen -/
structure Closed (A K : List EntV) : Prop where
  asc : Asc K
  sub : ∀ x ∈ K, x ∈ A
  seen : ∀ x ∈ K, ∀ e : Nat, e < 8 → ∀ k : Nat, (k : Int) < x.seen.getD e 0 → ∃ y ∈ K, y.dev = (e : Int) ∧ y.no = (k : Int)
section
variable {A K : List EntV}
theorem Closed.right (hA : Hon A) (h : Closed A K) : AllR K := fun x hx => hA.right x (h.sub x hx)
theorem Hon.same (hA : Hon A) {x y : EntV} (hx : x ∈ A) (hy : y ∈ A) (hd : x.dev = y.dev) (hn : x.no = y.no) : x = y := by
  obtain ⟨i, hi⟩ := List.getElem?_of_mem hx
  obtain ⟨j, hj⟩ := List.getElem?_of_mem hy
  have e := hA.once i j x y hi hj hd hn
  rw [e, hj] at hi
  exact (Option.some.inj hi).symm
theorem seen_own {x : EntV} (h : RightE x) {e : Nat} (he : x.dev = (e : Int)) : x.seen.getD e 0 = x.no := by
  have := h.own
  rw [he, Int.toNat_natCast] at this
  rw [List.getD_eq_getElem?_getD, this]
  rfl
theorem Closed.fork (hA : Hon A) (h : Closed A K) (d : Int) : forkB K d = false := by
  cases hf : forkB K d with
  | false => rfl
  | true =>
    obtain ⟨x, y, hx, hy, hc, _⟩ := (forkB_iff h.asc (h.right hA)).1 hf
    obtain ⟨_, _, h1, h2, h3⟩ := convicts_iff.1 hc
    exact (h3 (hA.same (h.sub x hx) (h.sub y hy) h1 h2)).elim
/-- the entries of a device, in the place of their number -/
theorem own_at_no (hA : Hon A) (h : Closed A K) {e : Nat} (he : e < 8) : ∀ (i : Nat) (x : EntV), (ownF K (e : Int))[i]? = some x → x.no = (i : Int) := by
  have hup : NoUp (ownF K (e : Int)) := noUp_own h.asc (h.right hA) (h.fork hA _)
  have h0 : ∀ x ∈ ownF K (e : Int), 0 ≤ x.no := fun x hx => (h.right hA x (mem_ownF.1 hx).1).n0
  intro i x hx
  have hge := noUp_ge hup h0 i x hx
  rcases Int.lt_or_le (i : Int) x.no with hlt | hle
  · exfalso
    obtain ⟨hxK, hxd⟩ := mem_ownF.1 (List.mem_of_getElem? hx)
    obtain ⟨y, hy, hyd, hyn⟩ := h.seen x hxK e he i (by rw [seen_own (h.right hA x hxK) hxd]; exact hlt)
    obtain ⟨p, hp⟩ := List.getElem?_of_mem (mem_ownF.2 ⟨hy, hyd⟩)
    have h1 := noUp_ge hup h0 p y hp
    rcases Nat.eq_or_lt_of_le (show p ≤ i by omega) with e1 | e1
    · rw [e1, hx] at hp
      have := Option.some.inj hp
      rw [this] at hlt
      omega
    · -- the entry p has the number i, and the entries below i are too few
      have key : ∀ (m : Nat) (z : EntV), m ≤ i → (ownF K (e : Int))[m]? = some z → m < i → z.no = (m : Int) := by
        intro m
        induction m using Nat.strongRecOn with
        | ind m ih =>
          intro z hm hz hmi
          have h2 := noUp_ge hup h0 m z hz
          rcases Int.lt_or_le (m : Int) z.no with h3 | h3
          · exfalso
            obtain ⟨hzK, hzd⟩ := mem_ownF.1 (List.mem_of_getElem? hz)
            obtain ⟨u, hu, hud, hun⟩ := h.seen z hzK e he m (by rw [seen_own (h.right hA z hzK) hzd]; exact h3)
            obtain ⟨q, hq⟩ := List.getElem?_of_mem (mem_ownF.2 ⟨hu, hud⟩)
            have h4 := noUp_ge hup h0 q u hq
            rcases Nat.eq_or_lt_of_le (show q ≤ m by omega) with h5 | h5
            · rw [h5, hz] at hq
              have := Option.some.inj hq
              rw [this] at h3
              omega
            · have := ih q h5 u (by omega) hq (by omega)
              omega
          · omega
      have := key p y (by omega) hp e1
      omega
  · omega
/-- the first entries of two lists of a device are the same -/
theorem own_pre (hA : Hon A) (h : Closed A K) {e : Nat} (he : e < 8) (hc : ∀ (i : Nat) (x : EntV), (ownF A (e : Int))[i]? = some x → x.no = (i : Int)) : ownF K (e : Int) = (ownF A (e : Int)).take (ownF K (e : Int)).length := by
  apply List.ext_getElem?
  intro i
  rw [List.getElem?_take]
  split
  · rename_i hi
    have hx := List.getElem?_eq_getElem hi
    have hm := mem_ownF.1 (List.getElem_mem hi)
    have hn := own_at_no hA h he i _ hx
    obtain ⟨p, hp⟩ := List.getElem?_of_mem (mem_ownF.2 ⟨h.sub _ hm.1, hm.2⟩)
    have hp2 := hc p _ hp
    have e1 : p = i := by omega
    rw [hx]
    rw [e1] at hp
    exact hp.symm
  · rename_i hi
    rw [List.getElem?_eq_none (by omega)]
theorem chain_no {l : List EntV} (h : checkF l = 0) : ∀ (i : Nat) (x : EntV), l[i]? = some x → x.no = (i : Int) := fun i x hx => (check_at h hx).no
/-- all that a closed list has of a device is its past -/
theorem Closed.past (hA : Hon A) (h : Closed A K) {e : Nat} (he : e < 8) : pastF K (e : Int) = ownF K (e : Int) := by
  have hat := own_at_no hA h he
  have hck : checkF (ownF K (e : Int)) = 0 := by
    rw [own_pre hA h he (chain_no (hA.chain e he))]
    exact check_take (hA.chain e he) _
  have hn : pastN (ownF K (e : Int)) = (ownF K (e : Int)).length := by
    refine Nat.le_antisymm (pastN_le _) (pastN_max (fun j hj => ?_) (by rw [List.take_length]; exact hck))
    obtain ⟨x, hx⟩ : ∃ x, (ownF K (e : Int))[j]? = some x := ⟨_, List.getElem?_eq_getElem hj⟩
    unfold soloB
    rw [hx]
    simp only [Bool.and_eq_true, decide_eq_true_eq]
    refine ⟨hat j x hx, ?_⟩
    cases hy : (ownF K (e : Int))[j + 1]? with
    | none => rfl
    | some y => have := hat (j + 1) y hy; simp only [decide_eq_true_eq]; omega
  unfold pastF
  rw [hn, List.take_length]
/-- of a closed list everything counts -/
theorem Closed.all (hA : Hon A) (h : Closed A K) {t : List Nat} {out : List EntV} (hr : RunI (pastsF K) (forksF K) t out) (hp : pickF (pastsF K) (forksF K) t = none) : ∀ e : Nat, e < 8 → t.getD e 0 = (ownF K (e : Int)).length := by
  have hP : ∀ e : Nat, e < 8 → (pastsF K).getD e [] = ownF K (e : Int) := fun e he => by rw [pasts_at _ he, h.past hA he]
  -- an entry of A in place i that lies in K is taken
  have key : ∀ (i : Nat) (x : EntV), A[i]? = some x → x ∈ K → ∀ e : Nat, e < 8 → x.dev = (e : Int) → x.no < ((t.getD e 0 : Nat) : Int) := by
    intro i
    induction i using Nat.strongRecOn with
    | ind i ih =>
      intro x hx hxK e he hxe
      apply Classical.byContradiction
      intro hnot
      have hxr := h.right hA x hxK
      obtain ⟨p, hpx⟩ := List.getElem?_of_mem (mem_ownF.2 ⟨hxK, hxe⟩)
      have hpn := own_at_no hA h he p x hpx
      -- x is the next entry of its device
      have hte : t.getD e 0 = p := by
        rcases Nat.lt_or_ge (t.getD e 0) p with h1 | h1
        · exfalso
          obtain ⟨y, hy, hyd, hyn⟩ := h.seen x hxK e he (t.getD e 0) (by rw [seen_own hxr hxe]; omega)
          obtain ⟨j, z, hj, hz, hzd, hzn⟩ := hA.seen i x hx e he (t.getD e 0) (by rw [seen_own hxr hxe]; omega)
          have hyz : y = z := hA.same (h.sub y hy) (List.mem_of_getElem? hz) (by rw [hyd, hzd]) (by rw [hyn, hzn])
          subst hyz
          have := ih j hj y hz hy e he hyd
          omega
        · omega
      have hready : readyF (pastsF K) (forksF K) t e = some x := by
        refine ready_iff.2 ⟨by rw [hP e he, hte]; exact hpx, blocked_iff.2 fun d hd hne => ?_⟩
        have hd8 : d < 8 := by have := hxr.len; omega
        unfold demandF
        rw [forks_at _ hd8, h.fork hA, if_neg (by simp)]
        apply Classical.byContradiction
        intro hlt
        obtain ⟨y, hy, hyd, hyn⟩ := h.seen x hxK d hd8 (t.getD d 0) (by omega)
        obtain ⟨j, z, hj, hz, hzd, hzn⟩ := hA.seen i x hx d hd8 (t.getD d 0) (by omega)
        have hyz : y = z := hA.same (h.sub y hy) (List.mem_of_getElem? hz) (by rw [hyd, hzd]) (by rw [hyn, hzn])
        subst hyz
        have := ih j hj y hz hy d hd8 hyd
        omega
      rw [pick_none hp he] at hready
      cases hready
  intro e he
  have h1 := hr.le e he
  rw [hP e he] at h1
  rcases Nat.eq_or_lt_of_le h1 with h2 | h2
  · exact h2
  · exfalso
    obtain ⟨x, hx⟩ : ∃ x, (ownF K (e : Int))[t.getD e 0]? = some x := ⟨_, List.getElem?_eq_getElem h2⟩
    obtain ⟨hxK, hxd⟩ := mem_ownF.1 (List.mem_of_getElem? hx)
    obtain ⟨i, hi⟩ := List.getElem?_of_mem (h.sub x hxK)
    have h3 := key i x hi hxK e he hxd
    have h4 := own_at_no hA h he _ x hx
    omega
/-- how many entries of each device a closed list has: more than each of its entries had seen -/
theorem Closed.ge (hA : Hon A) (h : Closed A K) {x : EntV} (hx : x ∈ K) {e : Nat} (he : e < 8) : x.seen.getD e 0 ≤ ((ownF K (e : Int)).length : Int) := by
  apply Classical.byContradiction
  intro hlt
  obtain ⟨y, hy, hyd, hyn⟩ := h.seen x hx e he (ownF K (e : Int)).length (by omega)
  obtain ⟨p, hp⟩ := List.getElem?_of_mem (mem_ownF.2 ⟨hy, hyd⟩)
  have h1 := own_at_no hA h he p y hp
  have h2 := (List.getElem?_eq_some_iff.1 hp).1
  omega
/-- two closed lists, joined -/
theorem Closed.join (hA : Hon A) {K1 K2 : List EntV} (h1 : Closed A K1) (h2 : Closed A K2) : Closed A (joinF (K1 ++ K2)) := by
  refine ⟨joinF_asc _, fun x hx => ?_, fun x hx e he k hk => ?_⟩
  · rcases List.mem_append.1 (mem_joinF.1 hx).1 with h | h
    · exact h1.sub x h
    · exact h2.sub x h
  · rcases List.mem_append.1 (mem_joinF.1 hx).1 with h | h
    · obtain ⟨y, hy, hyd, hyn⟩ := h1.seen x h e he k hk
      exact ⟨y, mem_joinF.2 ⟨List.mem_append_left _ hy, h1.right hA y hy⟩, hyd, hyn⟩
    · obtain ⟨y, hy, hyd, hyn⟩ := h2.seen x h e he k hk
      exact ⟨y, mem_joinF.2 ⟨List.mem_append_right _ hy, h2.right hA y hy⟩, hyd, hyn⟩
theorem Closed.self (hA : Hon A) : Closed A (joinF A) :=
  ⟨joinF_asc _, fun x hx => (mem_joinF.1 hx).1, fun x hx e he k hk => by
    obtain ⟨i, hi⟩ := List.getElem?_of_mem (mem_joinF.1 hx).1
    obtain ⟨j, y, _, hy, hyd, hyn⟩ := hA.seen i x hi e he k hk
    exact ⟨y, mem_joinF.2 ⟨List.mem_of_getElem? hy, hA.right y (List.mem_of_getElem? hy)⟩, hyd, hyn⟩⟩
theorem Closed.empty (A : List EntV) : Closed A [] := ⟨List.Pairwise.nil, fun x h => by simp at h, fun x h => by simp at h⟩
theorem Closed.more (h : Closed A K) (x : EntV) : Closed (A ++ [x]) K := ⟨h.asc, fun y hy => List.mem_append_left _ (h.sub y hy), h.seen⟩
theorem hon_nil : Hon [] := ⟨fun x h => by simp at h, fun i j x y h => by simp at h, fun i x h => by simp at h, fun e _ => by show checkF [] = 0; exact check_nil⟩
end
end Go.Proofs.YtnnnibkainlplaaGreatDoor
namespace Go.Proofs.YtnnnibkainlplaaGreatDoor

theorem check_snocM {l : List EntV} {v : EntV} : checkF (l ++ [v]) = 0 ↔ checkF l = 0 ∧ l.length < 400 ∧ OkAt (l ++ [v]) l.length v := by
  have hx : (l ++ [v])[l.length]? = some v := by simp
  constructor
  · intro h
    refine ⟨?_, ?_, check_at h hx⟩
    · have h2 := check_take h l.length
      rwa [List.take_append_of_le_length (Nat.le_refl _), List.take_length] at h2
    · have h2 := (checkF_zero.1 h).1
      simp at h2
      omega
  · rintro ⟨h1, h2, h3⟩
    refine checkF_zero.2 ⟨by simp; omega, fun i hi => ?_⟩
    simp at hi
    rcases Nat.lt_or_ge i l.length with h4 | h4
    · rw [← check_err h1 i]
      exact errAt_pre (k := l.length) h4 (fun j hj => List.getElem?_append_left hj)
    · obtain rfl : i = l.length := by omega
      exact (errAt_zero hx).2 h3
section
variable {A K : List EntV}
theorem own_whole (hA : Hon A) (hK : Closed A K) {d : Nat} (hd : d < 8) (hown : ∀ x ∈ A, x.dev = (d : Int) → x ∈ K) : ownF K (d : Int) = ownF A (d : Int) := by
  have h1 := own_pre hA hK hd (chain_no (hA.chain d hd))
  rcases Nat.lt_or_ge (ownF K (d : Int)).length (ownF A (d : Int)).length with h2 | h2
  · exfalso
    obtain ⟨x, hx⟩ : ∃ x, (ownF A (d : Int))[(ownF K (d : Int)).length]? = some x := ⟨_, List.getElem?_eq_getElem h2⟩
    have hn := chain_no (hA.chain d hd) _ x hx
    obtain ⟨hxA, hxd⟩ := mem_ownF.1 (List.mem_of_getElem? hx)
    obtain ⟨p, hp⟩ := List.getElem?_of_mem (mem_ownF.2 ⟨hown x hxA hxd, hxd⟩)
    have h3 := own_at_no hA hK hd p x hp
    have h4 := (List.getElem?_eq_some_iff.1 hp).1
    omega
  · rw [h1, List.take_of_length_le h2]
theorem own_len_le (hA : Hon A) (hK : Closed A K) {e : Nat} (he : e < 8) : (ownF K (e : Int)).length ≤ A.length := by
  have h1 := own_pre hA hK he (chain_no (hA.chain e he))
  have h2 : (ownF A (e : Int)).length ≤ A.length := by unfold ownF; exact List.length_filter_le ..
  have h3 := congrArg List.length h1
  rw [List.length_take] at h3
  omega
/-- the entry that a device writes that knows K -/
abbrev writes (K : List EntV) (d : Nat) (day : Int) (m : List Int) (text : List UInt8) : EntV := ⟨(d : Int), ((ownF K (d : Int)).length : Int), day, m, text⟩
theorem hon_step (hA : Hon A) (hK : Closed A K) {d : Nat} (hd : d < 8) (hown : ∀ x ∈ A, x.dev = (d : Int) → x ∈ K) {day : Int} (hday : ∀ x ∈ A, x.dev = (d : Int) → x.day ≤ day) (h0 : 0 ≤ day) (h1 : day ≤ 100000) (hlen : A.length < 400)
    {m : List Int} (hm8 : m.length = 8) (hm : ∀ e : Nat, e < 8 → m.getD e 0 = ((ownF K (e : Int)).length : Int)) {text : List UInt8} (ht : text.length ≤ 4000) :
    checkF (ownF K (d : Int) ++ [writes K d day m text]) = 0 ∧ Hon (A ++ [writes K d day m text]) ∧ Closed (A ++ [writes K d day m text]) (joinF (K ++ [writes K d day m text])) := by
  have hat : ∀ e : Nat, e < 8 → m[e]? = some ((ownF K (e : Int)).length : Int) := fun e he => by
    have h2 := hm e he
    rw [List.getD_eq_getElem?_getD, List.getElem?_eq_getElem (by omega)] at h2
    rw [List.getElem?_eq_getElem (by omega)]
    exact congrArg some h2
  have hwhole := own_whole hA hK hd hown
  have hxr : RightE (writes K d day m text) := by
    refine ⟨by show (0 : Int) ≤ (d : Int); omega, by show (d : Int) ≤ 7; omega, by show (0 : Int) ≤ ((ownF K (d : Int)).length : Int); omega, ?_, h0, h1, hm8, fun n hn => ?_, ?_, ht⟩
    · show ((ownF K (d : Int)).length : Int) ≤ 399
      have := own_len_le hA hK hd
      omega
    · obtain ⟨e, he⟩ := List.getElem?_of_mem hn
      have he8 : e < 8 := by have h2 : e < m.length := (List.getElem?_eq_some_iff.1 he).1; omega
      rw [hat e he8] at he
      have := own_len_le hA hK he8
      have h3 := Option.some.inj he
      omega
    · show m[((d : Int)).toNat]? = some ((ownF K (d : Int)).length : Int)
      rw [Int.toNat_natCast]
      exact hat d hd
  have hck : checkF (ownF K (d : Int) ++ [writes K d day m text]) = 0 := by
    refine check_snocM.2 ⟨by rw [hwhole]; exact hA.chain d hd, by have := own_len_le hA hK hd; omega, hxr, ?_, rfl, fun j p hj hp => ?_, fun j p hj hp => ?_⟩
    · cases hC : ownF K (d : Int) with
      | nil => simp
      | cons y r =>
        have hy : y ∈ ownF K (d : Int) := by rw [hC]; simp
        have := (mem_ownF.1 hy).2
        simp [this]
    · rw [List.getElem?_append_left (by omega)] at hp
      obtain ⟨hpK, hpd⟩ := mem_ownF.1 (List.mem_of_getElem? hp)
      exact hday p (hK.sub p hpK) hpd
    · rw [List.getElem?_append_left (by omega)] at hp
      obtain ⟨hpK, hpd⟩ := mem_ownF.1 (List.mem_of_getElem? hp)
      refine lessSome_false.2 fun i u v hu hv => ?_
      have hi8 : i < 8 := by have := (List.getElem?_eq_some_iff.1 hv).1; show i < 8; rw [← hm8]; exact this
      have h3 := hK.ge hA hpK hi8
      rw [List.getD_eq_getElem?_getD, hu] at h3
      have h4 : m[i]? = some v := hv
      rw [hat i hi8] at h4
      have h5 := Option.some.inj h4
      rw [← h5]
      exact h3
  have hAx : Hon (A ++ [writes K d day m text]) := by
    have hnew : ∀ (j : Nat) (y : EntV), A[j]? = some y → y.dev = (d : Int) → y.no < ((ownF K (d : Int)).length : Int) := fun j y hy hyd => by
      obtain ⟨p, hp⟩ := List.getElem?_of_mem (mem_ownF.2 ⟨hown y (List.mem_of_getElem? hy) hyd, hyd⟩)
      have h3 := own_at_no hA hK hd p y hp
      have h4 := (List.getElem?_eq_some_iff.1 hp).1
      omega
    have hget : ∀ (i : Nat) (y : EntV), (A ++ [writes K d day m text])[i]? = some y → A[i]? = some y ∨ (i = A.length ∧ y = writes K d day m text) := fun i y hy => by
      rcases Nat.lt_or_ge i A.length with h3 | h3
      · rw [List.getElem?_append_left h3] at hy; exact .inl hy
      · rw [List.getElem?_append_right h3] at hy
        rcases Nat.eq_or_lt_of_le h3 with h4 | h4
        · rw [← h4, Nat.sub_self] at hy
          exact .inr ⟨h4.symm, (Option.some.inj hy).symm⟩
        · rw [List.getElem?_eq_none (by simp; omega)] at hy; cases hy
    refine ⟨fun y hy => ?_, fun i j x y hx hy hdv hno => ?_, fun i x hx e he k hk => ?_, fun e he => ?_⟩
    · rcases List.mem_append.1 hy with h3 | h3
      · exact hA.right y h3
      · rw [List.mem_singleton.1 h3]; exact hxr
    · rcases hget i x hx with h3 | ⟨h3, h4⟩ <;> rcases hget j y hy with h5 | ⟨h5, h6⟩
      · exact hA.once i j x y h3 h5 hdv hno
      · exfalso
        rw [h6] at hdv hno
        have := hnew i x h3 hdv
        rw [hno] at this
        exact Int.lt_irrefl _ this
      · exfalso
        rw [h4] at hdv hno
        have := hnew j y h5 hdv.symm
        rw [← hno] at this
        exact Int.lt_irrefl _ this
      · omega
    · rcases hget i x hx with h3 | ⟨h3, h4⟩
      · obtain ⟨j, y, hj, hy, hyd, hyn⟩ := hA.seen i x h3 e he k hk
        exact ⟨j, y, hj, by rw [List.getElem?_append_left (List.getElem?_eq_some_iff.1 hy).1]; exact hy, hyd, hyn⟩
      · rw [h4] at hk
        have hk2 : (k : Int) < m.getD e 0 := hk
        rw [hm e he] at hk2
        obtain ⟨y, hy⟩ : ∃ y, (ownF K (e : Int))[k]? = some y := ⟨_, List.getElem?_eq_getElem (by omega)⟩
        obtain ⟨hyK, hyd⟩ := mem_ownF.1 (List.mem_of_getElem? hy)
        obtain ⟨j, hj⟩ := List.getElem?_of_mem (hK.sub y hyK)
        have hjl := (List.getElem?_eq_some_iff.1 hj).1
        exact ⟨j, y, by omega, by rw [List.getElem?_append_left hjl]; exact hj, hyd, own_at_no hA hK he k y hy⟩
    · have happ : ownF (A ++ [writes K d day m text]) (e : Int) = ownF A (e : Int) ++ ownF [writes K d day m text] (e : Int) := by unfold ownF; rw [List.filter_append]
      rw [happ]
      by_cases hed : d = e
      · subst hed
        have : ownF [writes K d day m text] (d : Int) = [writes K d day m text] := by unfold ownF; rw [List.filter_cons_of_pos (by rw [decide_eq_true_eq])]; rfl
        rw [this, ← hwhole]
        exact hck
      · have : ownF [writes K d day m text] (e : Int) = [] := by unfold ownF; rw [List.filter_cons_of_neg (by rw [decide_eq_true_eq]; show ¬ (d : Int) = (e : Int); omega)]; rfl
        rw [this, List.append_nil]
        exact hA.chain e he
  refine ⟨hck, hAx, joinF_asc _, fun y hy => ?_, fun y hy e he k hk => ?_⟩
  · rcases List.mem_append.1 (mem_joinF.1 hy).1 with h3 | h3
    · exact List.mem_append_left _ (hK.sub y h3)
    · exact List.mem_append_right _ h3
  · rcases List.mem_append.1 (mem_joinF.1 hy).1 with h3 | h3
    · obtain ⟨z, hz, hzd, hzn⟩ := hK.seen y h3 e he k hk
      exact ⟨z, mem_joinF.2 ⟨List.mem_append_left _ hz, hK.right hA z hz⟩, hzd, hzn⟩
    · rw [List.mem_singleton.1 h3] at hk
      have hk2 : (k : Int) < m.getD e 0 := hk
      rw [hm e he] at hk2
      obtain ⟨z, hz⟩ : ∃ z, (ownF K (e : Int))[k]? = some z := ⟨_, List.getElem?_eq_getElem (by omega)⟩
      obtain ⟨hzK, hzd⟩ := mem_ownF.1 (List.mem_of_getElem? hz)
      exact ⟨z, mem_joinF.2 ⟨List.mem_append_left _ hzK, hK.right hA z hzK⟩, hzd, own_at_no hA hK he k z hz⟩
end
/-- at a place in the order, the entries of its own device that were taken before are those with lower numbers -/
theorem order_own {P : List (List EntV)} {F : List Bool} {t : List Nat} {out : List EntV} (hP : PastsOk P) (h : RunI P F t out) {i : Nat} {x : EntV} (hx : out[i]? = some x) : ((countF (out.take i) x.dev.toNat : Nat) : Int) = x.no := by
  obtain ⟨h0, h7⟩ := h.dev x (List.mem_of_getElem? hx)
  obtain ⟨d, hd⟩ : ∃ d : Nat, x.dev = (d : Int) := ⟨x.dev.toNat, (Int.toNat_of_nonneg h0).symm⟩
  have hd8 : d < 8 := by omega
  rw [hd, Int.toNat_natCast]
  have hsplit : out = out.take i ++ x :: out.drop (i + 1) := by
    obtain ⟨hi, he⟩ := List.getElem?_eq_some_iff.1 hx
    rw [← he, ← List.drop_eq_getElem_cons hi, List.take_append_drop]
  have hown := h.own d hd8
  have h1 : ownF out (d : Int) = ownF (out.take i) (d : Int) ++ x :: ownF (out.drop (i + 1)) (d : Int) := by
    conv => lhs; rw [hsplit]
    unfold ownF
    rw [List.filter_append, List.filter_cons_of_pos (by rw [decide_eq_true_eq]; exact hd)]
  have h2 : (ownF out (d : Int))[(ownF (out.take i) (d : Int)).length]? = some x := by
    rw [h1, List.getElem?_append_right (Nat.le_refl _), Nat.sub_self]
    rfl
  rw [hown, List.getElem?_take] at h2
  split at h2
  · exact (hP.at_ d hd8 _ _ h2).1.symm
  · cases h2
end Go.Proofs.YtnnnibkainlplaaGreatDoor
namespace Go.Proofs.YtnnnibkainlplaaGreatDoor
open Go.RowKit

/-- the reference's put -/
def putR (l : List EntV) (x : EntV) : List EntV := if rightB x = true then putE x l else l
theorem foldR : ∀ (l acc : List EntV), Asc acc → AllR acc → Asc (l.foldl putR acc) ∧ AllR (l.foldl putR acc) ∧ ∀ y, y ∈ l.foldl putR acc ↔ y ∈ acc ∨ (y ∈ l ∧ RightE y)
  | [], acc, h1, h2 => ⟨h1, h2, fun y => by simp⟩
  | x :: l, acc, h1, h2 => by
    have hp : Asc (putR acc x) ∧ AllR (putR acc x) ∧ ∀ y, y ∈ putR acc x ↔ y ∈ acc ∨ (y = x ∧ RightE y) := by
      unfold putR
      by_cases hx : rightB x = true
      · rw [if_pos hx]
        have hxr := rightB_true.1 hx
        refine ⟨putE_asc hxr h1 h2, fun y hy => ?_, fun y => ?_⟩
        · rcases mem_putE.1 hy with e | e
          · rw [e]; exact hxr
          · exact h2 y e
        · rw [mem_putE]
          exact ⟨fun h => h.elim (fun e => .inr ⟨e, by rw [e]; exact hxr⟩) .inl, fun h => h.elim .inr fun h => .inl h.1⟩
      · rw [if_neg hx]
        exact ⟨h1, h2, fun y => ⟨.inl, fun h => h.elim id fun ⟨e, hr⟩ => absurd (rightB_true.2 (e ▸ hr)) hx⟩⟩
    obtain ⟨a, b, c⟩ := foldR l (putR acc x) hp.1 hp.2.1
    refine ⟨a, b, fun y => ?_⟩
    rw [List.foldl_cons, c y, hp.2.2 y, List.mem_cons]
    exact ⟨fun h => h.elim (fun h => h.elim .inl fun ⟨e, hr⟩ => .inr ⟨.inl e, hr⟩) fun ⟨h, hr⟩ => .inr ⟨.inr h, hr⟩, fun h => h.elim (fun h => .inl (.inl h)) fun ⟨h, hr⟩ => h.elim (fun e => .inl (.inr ⟨e, hr⟩)) fun h => .inr ⟨h, hr⟩⟩
theorem foldR_is (l : List EntV) : l.foldl putR [] = joinF l := by
  obtain ⟨a, b, c⟩ := foldR l [] List.Pairwise.nil (fun x h => by simp at h)
  exact joinF_is a fun y => (c y).trans (by simp)
theorem foldR_take {l : List EntV} {k : Nat} {x : EntV} {acc : List EntV} (hx : l[k]? = some x) : (l.take (k + 1)).foldl putR acc = putR ((l.take k).foldl putR acc) x := by
  rw [List.take_add_one, hx, List.foldl_append]
  rfl
/-- where the reference's put stands -/
def PutI (l : List EntV) (x : EntV) (i : Nat) (done : Bool) (out : List EntV) : Prop :=
  if done = true then putE x l = out ++ l.drop i ∧ ∀ y ∈ l.drop i, y ≠ x else out = l.take i ∧ putE x l = l.take i ++ putE x (l.drop i)
theorem putI_start (l : List EntV) (x : EntV) : PutI l x 0 false [] := ⟨rfl, rfl⟩
theorem drop_cons {α : Type} {l : List α} {i : Nat} {y : α} (h : l[i]? = some y) : l.drop i = y :: l.drop (i + 1) := by
  obtain ⟨hi, he⟩ := List.getElem?_eq_some_iff.1 h
  rw [← he]
  exact List.drop_eq_getElem_cons hi
theorem putI_same {l : List EntV} {x y : EntV} {i : Nat} {done : Bool} {out : List EntV} (h : PutI l x i done out) (hy : l[i]? = some y) (he : y = x) : putE x l = l := by
  cases done with
  | true => exact (h.2 y (by rw [drop_cons hy]; simp) he).elim
  | false =>
    have h2 : putE x l = l.take i ++ putE x (l.drop i) := h.2
    rw [h2, drop_cons hy, putE, if_pos he, ← drop_cons hy, List.take_append_drop]
theorem putI_done {l : List EntV} {x y : EntV} {i : Nat} {out : List EntV} (h : PutI l x i true out) (hy : l[i]? = some y) : PutI l x (i + 1) true (out ++ [y]) := by
  refine ⟨?_, fun z hz => h.2 z (by rw [drop_cons hy]; simp [hz])⟩
  have h1 : putE x l = out ++ l.drop i := h.1
  rw [h1, drop_cons hy]
  simp
theorem putI_here {l : List EntV} {x y : EntV} {i : Nat} {out : List EntV} (ha : Asc l) (h : PutI l x i false out) (hy : l[i]? = some y) (hne : y ≠ x) (hlt : ltE x y) : PutI l x (i + 1) true (out ++ [x] ++ [y]) := by
  have h1 : out = l.take i := h.1
  have h2 : putE x l = l.take i ++ putE x (l.drop i) := h.2
  refine ⟨?_, fun z hz e => ?_⟩
  · rw [h2, h1, drop_cons hy, putE, if_neg hne, if_pos hlt]
    simp
  · have hp : Asc (l.drop i) := List.Pairwise.sublist (List.drop_sublist i l) ha
    rw [drop_cons hy] at hp
    have h3 := (List.pairwise_cons.1 hp).1 z hz
    rw [e] at h3
    exact ltE_asymm hlt h3
theorem putI_past {l : List EntV} {x y : EntV} {i : Nat} {out : List EntV} (h : PutI l x i false out) (hy : l[i]? = some y) (hne : y ≠ x) (hlt : ¬ ltE x y) : PutI l x (i + 1) false (out ++ [y]) := by
  have h1 : out = l.take i := h.1
  have h2 : putE x l = l.take i ++ putE x (l.drop i) := h.2
  refine ⟨?_, ?_⟩
  · rw [h1, List.take_add_one, hy]; rfl
  · rw [h2, drop_cons hy, putE, if_neg hne, if_neg hlt, List.take_add_one, hy]
    simp
theorem putI_end {l : List EntV} {x : EntV} {done : Bool} {out : List EntV} (h : PutI l x l.length done out) : putE x l = if done = true then out else out ++ [x] := by
  cases done with
  | true =>
    have h1 : putE x l = out ++ l.drop l.length := h.1
    rw [h1, List.drop_length, List.append_nil, if_pos rfl]
  | false =>
    have h1 : out = l.take l.length := h.1
    have h2 : putE x l = l.take l.length ++ putE x (l.drop l.length) := h.2
    rw [h2, List.drop_length, if_neg (by simp), ← h1]
    rfl
end Go.Proofs.YtnnnibkainlplaaGreatDoor
