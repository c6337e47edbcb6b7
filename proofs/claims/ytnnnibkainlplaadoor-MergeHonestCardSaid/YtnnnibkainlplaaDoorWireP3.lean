/- wire: the reference's reader, in plain Lean: it reads what the reader reads. -/
import Derived.Test.YtnnnibkainlplaaDoorWireP2
import Derived.IntWalk
namespace Go.Proofs.YtnnnibkainlplaaDoor
open Go.Lib

/-- the digits behind a sign, added from the left as a negative number; i: the place of the first -/
def backGo : List UInt8 → Nat → Int → Option Int
  | [], _, n => some n
  | c :: l, i, n => if (48 ≤ c.toNat ∧ c.toNat ≤ 57) ∧ i ≤ 20 then backGo l (i + 1) (IntKind.i64.wrap (IntKind.i64.wrap (10 * n) - ((c.toNat : Int) - 48))) else none
def signed (s : List UInt8) : Bool := s.head?.map (·.toNat) = some 45
def backF (s : List UInt8) : Int × Bool :=
  match backGo (if signed s = true then s.drop 1 else s) (if signed s = true then 1 else 0) 0 with
  | none => (0, false)
  | some n => (if signed s = true then n else IntKind.i64.wrap (-n), decide (itoa (if signed s = true then n else IntKind.i64.wrap (-n)) = s))
theorem wrap_rng (n : Int) : -9223372036854775808 ≤ IntKind.i64.wrap n ∧ IntKind.i64.wrap n ≤ 9223372036854775807 := by rw [IntKind.wrap_i64]; omega
theorem backGo_rng : ∀ (l : List UInt8) (i : Nat) (n v : Int), -9223372036854775808 ≤ n ∧ n ≤ 9223372036854775807 → backGo l i n = some v → -9223372036854775808 ≤ v ∧ v ≤ 9223372036854775807
  | [], i, n, v, h, e => by
    simp only [backGo] at e
    injection e with e
    subst e
    exact h
  | c :: l, i, n, v, h, e => by
    simp only [backGo] at e
    split at e
    · exact backGo_rng l _ _ v (wrap_rng _) e
    · cases e
theorem backGo_snoc : ∀ (l : List UInt8) (i : Nat) (n v : Int) (c : UInt8), backGo l i n = some v → isDig c → i + l.length ≤ 20 → -9223372036854775808 ≤ 10 * v - ((c.toNat : Int) - 48) → v ≤ 0 → backGo (l ++ [c]) i n = some (10 * v - ((c.toNat : Int) - 48))
  | [], i, n, v, c, h, hc, hi, hb, hv => by
    simp only [backGo] at h
    injection h with h
    subst h
    unfold isDig at hc
    simp only [List.length_nil, Nat.add_zero] at hi
    simp only [List.nil_append, backGo]
    rw [if_pos ⟨hc, hi⟩]
    have e1 : IntKind.i64.wrap (10 * n) = 10 * n := IntWalk.i64_in _ (by omega)
    rw [e1]
    congr 1
    exact IntWalk.i64_in _ (by omega)
  | x :: l, i, n, v, c, h, hc, hi, hb, hv => by
    simp only [List.length_cons] at hi
    simp only [List.cons_append, backGo] at h ⊢
    split at h
    · rename_i h1
      rw [if_pos h1]
      exact backGo_snoc l (i + 1) _ v c h hc (by omega) hb hv
    · cases h
theorem backGo_dec (i : Nat) (u : Nat) : u ≤ 9223372036854775808 → i + (decDigits u).length ≤ 21 → backGo (decDigits u) i 0 = some (-(u : Int)) := by
  induction u using Nat.strongRecOn with
  | _ u ih =>
    intro hu hlen
    by_cases h : u < 10
    · rw [decDigits, dif_pos h] at hlen ⊢
      have h1 := dig_of h
      have e : (((UInt8.ofNat (48 + u)).toNat : Nat) : Int) - 48 = (u : Int) := by have := h1.1; unfold isDig at this; omega
      have := backGo_snoc [] i 0 0 (UInt8.ofNat (48 + u)) rfl h1.1 (by simpa using hlen) (by omega) (by omega)
      rw [e] at this
      simpa using this
    · rw [decDigits, dif_neg h] at hlen ⊢
      have h1 := dig_of (Nat.mod_lt u (show 0 < 10 by omega))
      have e : (((UInt8.ofNat (48 + u % 10)).toNat : Nat) : Int) - 48 = ((u % 10 : Nat) : Int) := by have := h1.1; unfold isDig at this; omega
      rw [List.length_append] at hlen
      simp only [List.length_cons, List.length_nil] at hlen
      have := backGo_snoc _ i 0 (-((u / 10 : Nat) : Int)) (UInt8.ofNat (48 + u % 10)) (ih (u / 10) (by omega) (by omega) (by omega)) h1.1 (by omega) (by omega) (by omega)
      rw [e] at this
      rw [this]
      congr 1
      omega
theorem signed_itoa (n : Int) : signed (itoa n) = decide (n < 0) := by
  unfold itoa
  split
  · rename_i h
    simp [signed, h]
  · rename_i h
    have hd := dec_dig n.toNat
    cases hl : decDigits n.toNat with
    | nil => exact absurd hl (dec_ne _)
    | cons c r =>
      rw [hl] at hd
      have hc := hd c (by simp)
      unfold isDig at hc
      have : ¬ c.toNat = 45 := by omega
      simp [signed, this, h]
/-- the reference reads what Itoa wrote -/
theorem back_itoa {n : Int} (h0 : -9223372036854775808 ≤ n) (h1 : n ≤ 9223372036854775807) : backF (itoa n) = (n, true) := by
  have hs := signed_itoa n
  have hlen := itoa_length h0 h1
  unfold backF
  rw [hs]
  by_cases hn : n < 0
  · have e : itoa n = 45 :: decDigits n.natAbs := by unfold itoa; rw [if_pos hn]
    have hg := backGo_dec 1 n.natAbs (by omega) (by rw [e] at hlen; simp only [List.length_cons] at hlen; omega)
    have e2 : (itoa n).drop 1 = decDigits n.natAbs := by rw [e]; rfl
    have e3 : -((n.natAbs : Nat) : Int) = n := by omega
    rw [e3] at hg
    simp only [hn, decide_true, if_true, e2, hg]
  · have e : itoa n = decDigits n.toNat := by unfold itoa; rw [if_neg hn]
    have hg := backGo_dec 0 n.toNat (by omega) (by rw [e] at hlen; omega)
    have e4 : IntKind.i64.wrap (-(-((n.toNat : Nat) : Int))) = n := by rw [show -(-((n.toNat : Nat) : Int)) = n by omega]; exact IntWalk.i64_in _ (by omega)
    rw [← e] at hg
    simp only [hn, decide_false, Bool.false_eq_true, if_false, hg, e4, decide_true]
/-- what the reference accepts is a numeral -/
theorem back_true {s : List UInt8} {n : Int} (h : backF s = (n, true)) : itoa n = s ∧ -9223372036854775808 ≤ n ∧ n ≤ 9223372036854775807 := by
  unfold backF at h
  split at h
  · injection h with _ h
    cases h
  · rename_i v hv
    have hr := backGo_rng _ _ _ v (by omega) hv
    injection h with h1 h2
    rw [h1] at h2
    refine ⟨of_decide_eq_true h2, ?_⟩
    rw [← h1]
    split
    · exact hr
    · exact wrap_rng _
/-- how far the reference looks for the byte -/
def upTo (e : UInt8) : Nat → List UInt8 → Nat
  | 0, _ => 0
  | _ + 1, [] => 0
  | k + 1, c :: l => if c = e then 0 else upTo e k l + 1
theorem upTo_place {e : UInt8} : ∀ (k : Nat) (l : List UInt8), upTo e k l = match placeOf e (l.take k) with | some i => i | none => min k l.length
  | 0, l => by simp [upTo, placeOf]
  | k + 1, [] => by simp [upTo, placeOf]
  | k + 1, c :: l => by
    simp only [upTo, List.take_succ_cons, placeOf]
    split
    · rfl
    · rw [upTo_place k l]
      cases placeOf e (l.take k) with
      | none => show min k l.length + 1 = min (k + 1) (l.length + 1); omega
      | some i => rfl
def aheadF (e : UInt8) (r : RdV) : Int × RdV :=
  if r.rest[upTo e 21 r.rest]? = some e then
    if (backF (r.rest.take (upTo e 21 r.rest))).2 = true then ((backF (r.rest.take (upTo e 21 r.rest))).1, ⟨r.rest.drop (upTo e 21 r.rest + 1), r.bad⟩) else (0, .fail)
  else (0, .fail)
theorem aheadF_eq (e : UInt8) (r : RdV) : aheadF e r = numF e (-9223372036854775808) r := by
  unfold aheadF numF
  have hu := upTo_place (e := e) 21 r.rest
  cases hp : placeOf e (r.rest.take 21) with
  | none =>
    rw [hp] at hu
    simp only at hu
    simp only
    rw [hu]
    split
    · rename_i he
      have hlt := (List.getElem?_eq_some_iff.1 he).1
      have hm : min 21 r.rest.length = 21 := by omega
      rw [hm]
      split
      · rename_i hb
        exfalso
        have h1 := back_true (Prod.ext rfl hb : backF (r.rest.take 21) = ((backF (r.rest.take 21)).1, true))
        have h2 := itoa_length h1.2.1 h1.2.2
        rw [h1.1, List.length_take] at h2
        omega
      · rfl
    · rfl
  | some i =>
    rw [hp] at hu
    simp only at hu
    simp only
    rw [hu]
    obtain ⟨t, h1, h2, h3⟩ := placeOf_some hp
    rw [List.length_take] at h2
    have h4 : r.rest[i]? = some e := by
      have : (r.rest.take 21)[i]? = some e := by
        rw [h1, List.getElem?_append_right (by simp; omega)]
        simp
        rw [Nat.sub_eq_zero_of_le (by omega)]
        rfl
      rw [List.getElem?_take_of_lt (by omega)] at this
      exact this
    rw [if_pos h4]
    by_cases hc : ∃ n, itoa n = r.rest.take i ∧ -9223372036854775808 ≤ n ∧ n ≤ 9223372036854775807
    · obtain ⟨n, hn, hr0, hr1⟩ := hc
      have hb := back_itoa hr0 hr1
      have ha := atoi_itoa hr0 hr1
      rw [hn] at hb ha
      simp only [hb, ha, hn, hr0, and_self, if_true]
    · have hb : ¬ (backF (r.rest.take i)).2 = true := fun hb => by
        have h5 := back_true (Prod.ext rfl hb : backF (r.rest.take i) = ((backF (r.rest.take i)).1, true))
        exact hc ⟨_, h5.1, h5.2.1, h5.2.2⟩
      rw [if_neg hb]
      split
      · rename_i n hn
        split
        · rename_i h5
          exact absurd ⟨n, h5.1, (atoiAll_rng hn).1, (atoiAll_rng hn).2⟩ hc
        · rfl
      · rfl
/-- a number that is not negative, as the reference reads it -/
theorem numF_zero (e : UInt8) (r : RdV) : numF e 0 r = if (numF e (-9223372036854775808) r).1 < 0 then (0, .fail) else numF e (-9223372036854775808) r := by
  unfold numF
  split
  · rw [if_neg (by simp)]
  · split
    · rename_i n hn
      have hr := atoiAll_rng hn
      rename_i i _ _
      by_cases hi : itoa n = r.rest.take i
      · by_cases h0 : 0 ≤ n
        · have hn0 : ¬ n < 0 := by omega
          simp [hi, h0, hr.1, hn0]
        · have hn0 : n < 0 := by omega
          simp [hi, h0, hr.1, hn0]
      · simp [hi]
    · rw [if_neg (by simp)]
end Go.Proofs.YtnnnibkainlplaaDoor
