/- group: the reference picks the greatest rest again and again: in plain Lean. -/
import Derived.Test.YtcgakhajmekjcaaGrpP3
namespace Go.Proofs.Ytcgakhajmekjcaa

/-- behind t picks: the rests -/
def restT (c : Int) (ps : List Int) (first : Int) (t : Nat) (i : Nat) : Int := if rankOf ps.length (restQ c ps) (turnI ps.length first) i < t then -1 else restQ c ps i
/-- behind t picks: what each pays -/
def payT (c : Int) (ps : List Int) (first : Int) (t : Nat) (i : Nat) : Int := splitQ c ps i + if rankOf ps.length (restQ c ps) (turnI ps.length first) i < t then 1 else 0
def restTL (c : Int) (ps : List Int) (first : Int) (t : Nat) : List Int := (List.range ps.length).map (restT c ps first t)
def payTL (c : Int) (ps : List Int) (first : Int) (t : Nat) : List Int := (List.range ps.length).map (payT c ps first t)
/-- b is the best among those whose turn is less than k -/
def BestTo (n : Nat) (T R : Nat → Int) (k b : Nat) : Prop := b < n ∧ T b < k ∧ ∀ j, j < n → T j < k → R j ≤ R b ∧ (R j = R b → T b ≤ T j)
section
variable {c : Int} {ps : List Int} {first : Int}
theorem rank_inj (h : SplitOk c ps first) {i j : Nat} (hi : i < ps.length) (hj : j < ps.length) (e : rankOf ps.length (restQ c ps) (turnI ps.length first) i = rankOf ps.length (restQ c ps) (turnI ps.length first) j) : i = j := by
  by_cases hne : i = j
  · exact hne
  · rcases ahead_total (r := restQ c ps) h.turn_inj hi hj hne with h1 | h1
    · have := rank_less hi h1; omega
    · have := rank_less hj h1; omega
theorem pick (h : SplitOk c ps first) {t b : Nat} (ht : t < ps.length) (hb : BestTo ps.length (turnI ps.length first) (restT c ps first t) ps.length b) : rankOf ps.length (restQ c ps) (turnI ps.length first) b = t := by
  obtain ⟨hbn, _, hall⟩ := hb
  obtain ⟨i, hi, hri⟩ := rank_at (r := restQ c ps) h.turn_inj ht
  have hT : ∀ j, j < ps.length → turnI ps.length first j < ps.length := fun j hj => by
    rw [h.turn hj]
    have := h.f0
    have := h.f1
    split <;> omega
  have h1 := hall i hi (hT i hi)
  have hr := h.rest
  unfold restT at h1
  rw [hri, if_neg (by omega)] at h1
  by_cases hlt : rankOf ps.length (restQ c ps) (turnI ps.length first) b < t
  · rw [if_pos hlt] at h1
    have := hr i
    omega
  · rw [if_neg hlt] at h1
    by_cases heq : rankOf ps.length (restQ c ps) (turnI ps.length first) b = t
    · exact heq
    · have h2 := (rank_iff h.turn_inj hi hbn).1 (by rw [hri]; omega)
      simp only [ahead, decide_eq_true_eq] at h2
      omega
theorem restT_next (h : SplitOk c ps first) {t b : Nat} (hb : b < ps.length) (hr : rankOf ps.length (restQ c ps) (turnI ps.length first) b = t) : (restTL c ps first t).set b (-1) = restTL c ps first (t + 1) := by
  apply List.ext_getElem?
  intro i
  unfold restTL
  by_cases hi : i < ps.length
  · rw [List.getElem?_map, List.getElem?_range hi, List.getElem?_set]
    by_cases e : b = i
    · subst e
      simp [hb, restT, hr]
    · rw [if_neg e, List.getElem?_map, List.getElem?_range hi]
      have : rankOf ps.length (restQ c ps) (turnI ps.length first) i ≠ t := fun e' => e (rank_inj h hb hi (hr.trans e'.symm))
      simp only [Option.map_some, Option.some.injEq, restT]
      split <;> split <;> omega
  · rw [List.getElem?_eq_none (by simp; omega), List.getElem?_eq_none (by simp; omega)]
theorem payT_next (h : SplitOk c ps first) {t b : Nat} (hb : b < ps.length) (hr : rankOf ps.length (restQ c ps) (turnI ps.length first) b = t) : (payTL c ps first t).set b (payT c ps first t b + 1) = payTL c ps first (t + 1) := by
  apply List.ext_getElem?
  intro i
  unfold payTL
  by_cases hi : i < ps.length
  · rw [List.getElem?_map, List.getElem?_range hi, List.getElem?_set]
    by_cases e : b = i
    · subst e
      simp only [if_true, List.length_map, List.length_range, hb, Option.map_some, Option.some.injEq, payT, hr]
      rw [if_neg (by omega), if_pos (by omega)]
      omega
    · rw [if_neg e, List.getElem?_map, List.getElem?_range hi]
      have : rankOf ps.length (restQ c ps) (turnI ps.length first) i ≠ t := fun e' => e (rank_inj h hb hi (hr.trans e'.symm))
      simp only [Option.map_some, Option.some.injEq, payT]
      split <;> split <;> omega
  · rw [List.getElem?_eq_none (by simp; omega), List.getElem?_eq_none (by simp; omega)]
theorem payT_zero : payTL c ps first 0 = (List.range ps.length).map (splitQ c ps) := by
  refine List.map_congr_left fun i _ => ?_
  unfold payT
  rw [if_neg (by omega)]
  omega
theorem restT_zero : restTL c ps first 0 = (List.range ps.length).map (restQ c ps) := by
  refine List.map_congr_left fun i _ => ?_
  unfold restT
  rw [if_neg (by omega)]
theorem payT_all {t : Nat} (ht : (t : Int) = leftQ c ps) : payTL c ps first t = splitL c ps first := by
  refine List.map_congr_left fun i _ => ?_
  unfold payT payQ
  split <;> split <;> omega
end
/-- the index whose turn is k -/
theorem turn_index {n : Nat} {first : Int} (h0 : 0 ≤ first) (h1 : first < n) {k : Nat} (hk : k < n) : ∃ i : Nat, i < n ∧ (first + k) % n = (i : Int) ∧ turnI n first i = k := by
  by_cases h : first + k < n
  · refine ⟨(first + k).toNat, by omega, ?_, ?_⟩
    · rw [Int.emod_eq_of_lt (by omega) h]; omega
    · unfold turnI
      rw [show (((first + k).toNat : Nat) : Int) - first + n = k + n by omega, Int.add_emod_right]
      exact Int.emod_eq_of_lt (by omega) (by omega)
  · refine ⟨(first + k - n).toNat, by omega, ?_, ?_⟩
    · have : first + k = (first + k - n) + n := by omega
      rw [this, Int.add_emod_right, Int.emod_eq_of_lt (by omega) (by omega)]; omega
    · unfold turnI
      rw [show (((first + k - n).toNat : Nat) : Int) - first + n = k by omega]
      exact Int.emod_eq_of_lt (by omega) (by omega)
theorem best_first {n : Nat} {T R : Nat → Int} (hT : ∀ i j, i < n → j < n → T i = T j → i = j) (h0 : ∀ j, j < n → 0 ≤ T j) {i : Nat} (hi : i < n) (h1 : T i = 0) : BestTo n T R 1 i :=
  ⟨hi, by omega, fun j hj hk => by
    have : j = i := hT j i hj hi (by have := h0 j hj; omega)
    subst this
    omega⟩
theorem best_next {n : Nat} {T R : Nat → Int} (hT : ∀ i j, i < n → j < n → T i = T j → i = j) {k b i : Nat} (hb : BestTo n T R k b) (hi : i < n) (h1 : T i = k) : BestTo n T R (k + 1) (if R b < R i then i else b) := by
  obtain ⟨hbn, hbk, hall⟩ := hb
  split
  · rename_i hlt
    refine ⟨hi, by omega, fun j hj hk => ?_⟩
    by_cases hjk : T j < k
    · have := hall j hj hjk
      omega
    · have : j = i := hT j i hj hi (by omega)
      subst this
      omega
  · rename_i hge
    refine ⟨hbn, by omega, fun j hj hk => ?_⟩
    by_cases hjk : T j < k
    · exact hall j hj hjk
    · have : j = i := hT j i hj hi (by omega)
      subst this
      omega
end Go.Proofs.Ytcgakhajmekjcaa
