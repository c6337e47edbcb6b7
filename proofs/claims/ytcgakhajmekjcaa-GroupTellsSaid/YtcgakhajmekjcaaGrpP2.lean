/- group: the division, in plain Lean: what it answers. -/
import Derived.Test.YtcgakhajmekjcaaGrpP
namespace Go.Proofs.Ytcgakhajmekjcaa

def partAt (ps : List Int) (i : Nat) : Int := (ps[i]?).getD 0
def splitQ (c : Int) (ps : List Int) (i : Nat) : Int := c * partAt ps i / sumL ps
def restQ (c : Int) (ps : List Int) (i : Nat) : Int := c * partAt ps i % sumL ps
def turnI (n : Nat) (first : Int) (i : Nat) : Int := ((i : Int) - first + n) % n
def leftQ (c : Int) (ps : List Int) : Int := c - sumL ((List.range ps.length).map (splitQ c ps))
def payQ (c : Int) (ps : List Int) (first : Int) (i : Nat) : Int := splitQ c ps i + if ((rankOf ps.length (restQ c ps) (turnI ps.length first) i : Nat) : Int) < leftQ c ps then 1 else 0
def splitL (c : Int) (ps : List Int) (first : Int) : List Int := (List.range ps.length).map (payQ c ps first)
def rightB (ps : List Int) : Bool := decide (ps.length ≤ 100 ∧ (∀ p ∈ ps, 0 ≤ p ∧ p ≤ 1000000) ∧ ∃ p ∈ ps, 0 < p)
/-- what the laws ask of their arguments -/
structure SplitOk (c : Int) (ps : List Int) (first : Int) : Prop where
  c0 : 0 ≤ c
  c1 : c ≤ 1125899906842624
  len : ps.length ≤ 100
  rng : ∀ p ∈ ps, 0 ≤ p ∧ p ≤ 1000000
  some : ∃ p ∈ ps, 0 < p
  f0 : 0 ≤ first
  f1 : first < ps.length
theorem rightB_true {ps : List Int} : rightB ps = true ↔ ps.length ≤ 100 ∧ (∀ p ∈ ps, 0 ≤ p ∧ p ≤ 1000000) ∧ ∃ p ∈ ps, 0 < p := by simp [rightB]
theorem sumL_nonneg : ∀ ps : List Int, (∀ p ∈ ps, 0 ≤ p) → 0 ≤ sumL ps
  | [], _ => Int.le_refl _
  | p :: ps, h => by
    have h1 := h p (by simp)
    have h2 := sumL_nonneg ps fun q hq => h q (by simp [hq])
    simp only [sumL]; omega
theorem sumL_ge : ∀ ps : List Int, (∀ p ∈ ps, 0 ≤ p) → ∀ p ∈ ps, p ≤ sumL ps
  | [], _, p, hp => by simp at hp
  | x :: ps, h, p, hp => by
    have h1 := h x (by simp)
    have h2 := sumL_nonneg ps fun q hq => h q (by simp [hq])
    simp only [sumL]
    rcases List.mem_cons.1 hp with rfl | hp
    · omega
    · have := sumL_ge ps (fun q hq => h q (by simp [hq])) p hp; omega
theorem sumL_upto (b : Int) : ∀ ps : List Int, (∀ p ∈ ps, p ≤ b) → sumL ps ≤ b * ps.length
  | [], _ => by simp [sumL]
  | p :: ps, h => by
    have h1 := h p (by simp)
    have h2 := sumL_upto b ps fun q hq => h q (by simp [hq])
    simp only [sumL, List.length_cons, Int.natCast_add, Int.mul_add]
    simp
    omega
theorem map_partAt (ps : List Int) : (List.range ps.length).map (partAt ps) = ps := by
  apply List.ext_getElem?
  intro i
  rw [List.getElem?_map]
  by_cases h : i < ps.length
  · rw [List.getElem?_range h, List.getElem?_eq_getElem h]
    simp [partAt, h]
  · rw [List.getElem?_eq_none (by simpa using h), List.getElem?_eq_none (by omega)]
    rfl
namespace SplitOk
variable {c : Int} {ps : List Int} {first : Int}
theorem part (h : SplitOk c ps first) (i : Nat) : 0 ≤ partAt ps i ∧ partAt ps i ≤ 1000000 := by
  unfold partAt
  rcases hp : ps[i]? with _ | p
  · simp
  · exact h.rng p (List.mem_of_getElem? hp)
theorem sum (h : SplitOk c ps first) : 0 < sumL ps ∧ sumL ps ≤ 100000000 := by
  obtain ⟨p, hp, h1⟩ := h.some
  have h2 := sumL_ge ps (fun q hq => (h.rng q hq).1) p hp
  have h3 := sumL_upto 1000000 ps fun q hq => (h.rng q hq).2
  have := h.len
  omega
theorem rest (h : SplitOk c ps first) (i : Nat) : 0 ≤ restQ c ps i ∧ restQ c ps i < sumL ps := by
  have hs := h.sum.1
  exact ⟨Int.emod_nonneg _ (by omega), Int.emod_lt_of_pos _ hs⟩
theorem quot (h : SplitOk c ps first) (i : Nat) : 0 ≤ splitQ c ps i ∧ splitQ c ps i * sumL ps + restQ c ps i = c * partAt ps i := by
  have hs := h.sum.1
  have h1 : 0 ≤ c * partAt ps i := Int.mul_nonneg h.c0 (h.part i).1
  refine ⟨Int.ediv_nonneg h1 (by omega), ?_⟩
  have := Int.mul_ediv_add_emod (c * partAt ps i) (sumL ps)
  unfold splitQ restQ
  rw [Int.mul_comm]
  exact this
theorem quot_le (h : SplitOk c ps first) (i : Nat) : splitQ c ps i ≤ c := by
  have hs := h.sum.1
  have h1 : partAt ps i ≤ sumL ps := by
    unfold partAt
    rcases hp : ps[i]? with _ | p
    · simp; omega
    · exact sumL_ge ps (fun q hq => (h.rng q hq).1) p (List.mem_of_getElem? hp)
  unfold splitQ
  have h2 : c * partAt ps i ≤ c * sumL ps := Int.mul_le_mul_of_nonneg_left h1 h.c0
  exact Int.le_trans (Int.ediv_le_ediv hs h2) (by rw [Int.mul_ediv_cancel _ (by omega)]; exact Int.le_refl _)
theorem turn (h : SplitOk c ps first) {i : Nat} (hi : i < ps.length) : turnI ps.length first i = if first ≤ i then (i : Int) - first else (i : Int) - first + ps.length := by
  have := h.f0
  have := h.f1
  unfold turnI
  split
  · rw [Int.add_emod_right]
    exact Int.emod_eq_of_lt (by omega) (by omega)
  · exact Int.emod_eq_of_lt (by omega) (by omega)
theorem turn_inj (h : SplitOk c ps first) : ∀ i j, i < ps.length → j < ps.length → turnI ps.length first i = turnI ps.length first j → i = j := fun i j hi hj e => by
  rw [h.turn hi, h.turn hj] at e
  have := h.f0
  have := h.f1
  split at e <;> split at e <;> omega
theorem left_rest (h : SplitOk c ps first) : leftQ c ps * sumL ps = sumL ((List.range ps.length).map (restQ c ps)) := by
  have h1 : sumL ((List.range ps.length).map fun i => splitQ c ps i * sumL ps + restQ c ps i) = c * sumL ps := by
    have h2 : (List.range ps.length).map (fun i => splitQ c ps i * sumL ps + restQ c ps i) = ((List.range ps.length).map (partAt ps)).map fun x => c * x := by
      rw [List.map_map]
      exact List.map_congr_left fun i _ => (h.quot i).2
    rw [h2, map_partAt, sumL_mul]
  rw [sumL_map_add] at h1
  have h3 : sumL ((List.range ps.length).map fun i => splitQ c ps i * sumL ps) = sumL ps * sumL ((List.range ps.length).map (splitQ c ps)) := by
    rw [← sumL_mul, List.map_map]
    congr 1
    exact List.map_congr_left fun i _ => Int.mul_comm _ _
  unfold leftQ
  rw [h3] at h1
  rw [Int.sub_mul, Int.mul_comm (sumL ((List.range ps.length).map (splitQ c ps)))]
  omega
/-- those with no rest come behind all that are given out -/
theorem zero_rank (h : SplitOk c ps first) {i : Nat} (h0 : restQ c ps i = 0) : leftQ c ps ≤ (rankOf ps.length (restQ c ps) (turnI ps.length first) i : Nat) := by
  have hs := h.sum.1
  have hr := h.rest
  have h1 : sumL ((List.range ps.length).map (restQ c ps)) ≤ (sumL ps - 1) * (rankOf ps.length (restQ c ps) (turnI ps.length first) i : Nat) := by
    have key : ∀ l : List Nat, sumL (l.map (restQ c ps)) ≤ (sumL ps - 1) * (l.countP fun j => ahead (restQ c ps) (turnI ps.length first) j i : Nat) := by
      intro l
      induction l with
      | nil => simp [sumL]
      | cons j l ih =>
        have hj := hr j
        rw [List.countP_cons, List.map_cons]
        simp only [sumL]
        by_cases ha : ahead (restQ c ps) (turnI ps.length first) j i = true
        · rw [if_pos ha]
          rw [Int.natCast_add, Int.mul_add]
          simp only [Int.natCast_one, Int.mul_one]
          omega
        · rw [if_neg ha]
          have : restQ c ps j = 0 := by
            simp only [ahead, decide_eq_true_eq, not_or] at ha
            omega
          simp only [Nat.add_zero]
          omega
    exact key _
  rw [← h.left_rest] at h1
  by_cases hc : leftQ c ps ≤ (rankOf ps.length (restQ c ps) (turnI ps.length first) i : Nat)
  · exact hc
  · exfalso
    generalize (rankOf ps.length (restQ c ps) (turnI ps.length first) i : Nat) = m at *
    generalize sumL ps = S at *
    have h2 : ((m : Int) + 1) * S ≤ leftQ c ps * S := Int.mul_le_mul_of_nonneg_right (by omega) (by omega)
    rw [Int.add_mul] at h2
    rw [Int.sub_mul, Int.mul_comm S] at h1
    omega
theorem left_rng (h : SplitOk c ps first) : 0 ≤ leftQ c ps ∧ leftQ c ps ≤ ps.length := by
  have hs := h.sum.1
  have h1 := h.left_rest
  have h2 : 0 ≤ sumL ((List.range ps.length).map (restQ c ps)) := sumL_nonneg _ fun p hp => by
    obtain ⟨i, _, rfl⟩ := List.mem_map.1 hp
    exact (h.rest i).1
  have h3 := sumL_upto (sumL ps) ((List.range ps.length).map (restQ c ps)) fun p hp => by
    obtain ⟨i, _, rfl⟩ := List.mem_map.1 hp
    exact Int.le_of_lt (h.rest i).2
  rw [List.length_map, List.length_range] at h3
  rw [← h1] at h2 h3
  refine ⟨?_, ?_⟩
  · by_cases hc : 0 ≤ leftQ c ps
    · exact hc
    · have := Int.mul_neg_of_neg_of_pos (by omega : leftQ c ps < 0) hs
      omega
  · by_cases hc : leftQ c ps ≤ ps.length
    · exact hc
    · have h4 : ((ps.length : Int) + 1) * sumL ps ≤ leftQ c ps * sumL ps := Int.mul_le_mul_of_nonneg_right (by omega) (by omega)
      rw [Int.add_mul, Int.mul_comm (ps.length : Int)] at h4
      omega
theorem whole (h : SplitOk c ps first) : sumL (splitL c ps first) = c := by
  have h1 := h.left_rng
  unfold splitL
  have h2 : (List.range ps.length).map (payQ c ps first) = (List.range ps.length).map fun i => splitQ c ps i + if ((rankOf ps.length (restQ c ps) (turnI ps.length first) i : Nat) : Int) < leftQ c ps then 1 else 0 := rfl
  rw [h2, sumL_map_add, rank_sum h.turn_inj h1.1 h1.2]
  unfold leftQ
  omega
theorem pay_rng (_h : SplitOk c ps first) (i : Nat) : splitQ c ps i ≤ payQ c ps first i ∧ payQ c ps first i ≤ splitQ c ps i + 1 := by
  unfold payQ
  split <;> omega
theorem pay_even (h : SplitOk c ps first) {i : Nat} (h0 : restQ c ps i = 0) : payQ c ps first i = splitQ c ps i := by
  have := h.zero_rank h0
  unfold payQ
  rw [if_neg (by omega)]
  omega
theorem pay_none (h : SplitOk c ps first) {i : Nat} (h0 : partAt ps i = 0) : payQ c ps first i = 0 := by
  rw [h.pay_even (by unfold restQ; rw [h0]; simp)]
  unfold splitQ
  rw [h0]
  simp
theorem pay_mono (h : SplitOk c ps first) {i k : Nat} (hi : i < ps.length) (hp : partAt ps k < partAt ps i) : payQ c ps first k ≤ payQ c ps first i := by
  have hs := h.sum.1
  have q1 : splitQ c ps k ≤ splitQ c ps i := Int.ediv_le_ediv hs (Int.mul_le_mul_of_nonneg_left (by omega) h.c0)
  by_cases he : splitQ c ps k = splitQ c ps i
  · have e1 := (h.quot k).2
    have e2 := (h.quot i).2
    rw [he] at e1
    by_cases hc : c = 0
    · have z : restQ c ps k = 0 := by unfold restQ; rw [hc]; simp
      have := h.pay_even z
      have := h.pay_rng i
      omega
    · have hr : restQ c ps k < restQ c ps i := by
        have : c * partAt ps k < c * partAt ps i := Int.mul_lt_mul_of_pos_left hp (by have := h.c0; omega)
        omega
      have ha : ahead (restQ c ps) (turnI ps.length first) i k = true := by simp [ahead, hr]
      have hk := rank_less hi ha
      unfold payQ
      rw [he]
      split <;> split <;> omega
  · have := h.pay_rng k
    have := h.pay_rng i
    omega
end SplitOk
theorem low_q (c S p : Int) (hS : 0 < S) : c / S * p + c % S * p / S = c * p / S := by
  have h : c * p = S * (c / S * p) + c % S * p := by
    have h1 := Int.mul_ediv_add_emod c S
    calc c * p = (S * (c / S) + c % S) * p := by rw [h1]
      _ = S * (c / S * p) + c % S * p := by rw [Int.add_mul, Int.mul_assoc]
  rw [h, Int.add_comm (S * _), Int.add_mul_ediv_left _ _ (by omega)]
  omega
theorem even_r (c S p : Int) : c % S * p % S = c * p % S := by
  rw [Int.mul_emod, Int.emod_emod_of_dvd _ (Int.dvd_refl S), ← Int.mul_emod]
end Go.Proofs.Ytcgakhajmekjcaa
