/- group: the division of multiplied parts, of one more household, in several periods, in plain Lean. -/
import Derived.Test.YtcgakhajmekjcaaGrpP2
namespace Go.Proofs.Ytcgakhajmekjcaa

theorem rank_congr {n : Nat} {r t r' t' : Nat → Int} {i : Nat} (h : ∀ j, j < n → ahead r t j i = ahead r' t' j i) : rankOf n r t i = rankOf n r' t' i := by
  unfold rankOf
  rw [List.countP_eq_length_filter, List.countP_eq_length_filter]
  congr 1
  exact List.filter_congr fun j hj => h j (List.mem_range.1 hj)
theorem sumL_scale (b : Int) (ps : List Int) : sumL (ps.map fun p => p * b) = b * sumL ps := by
  rw [← sumL_mul]
  congr 1
  exact List.map_congr_left fun p _ => Int.mul_comm _ _
theorem partAt_scale (b : Int) (ps : List Int) (i : Nat) : partAt (ps.map fun p => p * b) i = b * partAt ps i := by
  unfold partAt
  rw [List.getElem?_map]
  cases ps[i]? with
  | none => simp
  | some p => exact Int.mul_comm _ _
namespace SplitOk
variable {c : Int} {ps : List Int} {first : Int}
theorem scaleQ {b : Int} (hb : 1 ≤ b) (i : Nat) : splitQ c (ps.map fun p => p * b) i = splitQ c ps i := by
  unfold splitQ
  rw [partAt_scale, sumL_scale, ← Int.mul_assoc, Int.mul_comm c b, Int.mul_assoc, Int.mul_ediv_mul_of_pos _ _ (by omega)]
theorem scaleR {b : Int} (hb : 1 ≤ b) (i : Nat) : restQ c (ps.map fun p => p * b) i = b * restQ c ps i := by
  unfold restQ
  rw [partAt_scale, sumL_scale, ← Int.mul_assoc, Int.mul_comm c b, Int.mul_assoc, Int.mul_emod_mul_of_pos _ _ (by omega)]
theorem scale {b : Int} (hb : 1 ≤ b) : splitL c (ps.map fun p => p * b) first = splitL c ps first := by
  have hq : (List.range ps.length).map (splitQ c (ps.map fun p => p * b)) = (List.range ps.length).map (splitQ c ps) := List.map_congr_left fun i _ => scaleQ hb i
  have hl : leftQ c (ps.map fun p => p * b) = leftQ c ps := by
    unfold leftQ
    rw [List.length_map, hq]
  unfold splitL
  rw [List.length_map]
  refine List.map_congr_left fun i _ => ?_
  unfold payQ
  rw [scaleQ hb, hl, List.length_map]
  rw [rank_congr (i := i) (r' := restQ c ps) (t' := turnI ps.length first) (n := ps.length) fun j _ => ?_]
  unfold ahead
  rw [scaleR hb, scaleR hb]
  have e1 : b * restQ c ps i < b * restQ c ps j ↔ restQ c ps i < restQ c ps j := ⟨fun h => Int.lt_of_mul_lt_mul_left h (by omega), fun h => Int.mul_lt_mul_of_pos_left h (by omega)⟩
  have e2 : b * restQ c ps j = b * restQ c ps i ↔ restQ c ps j = restQ c ps i := ⟨fun h => Int.eq_of_mul_eq_mul_left (by omega) h, fun h => by rw [h]⟩
  rw [decide_eq_decide, e1, e2]
theorem sumL_snoc (ps : List Int) : sumL (ps ++ [0]) = sumL ps := by rw [sumL_append]; simp [sumL]
theorem partAt_snoc {i : Nat} (hi : i < ps.length) : partAt (ps ++ [0]) i = partAt ps i := by
  unfold partAt
  rw [List.getElem?_append_left hi]
theorem partAt_new : partAt (ps ++ [0]) ps.length = 0 := by simp [partAt]
theorem more (h : SplitOk c ps first) (h2 : SplitOk c (ps ++ [0]) first) : splitL c (ps ++ [0]) first = splitL c ps first ++ [0] := by
  have hq : ∀ i, i < ps.length → splitQ c (ps ++ [0]) i = splitQ c ps i := fun i hi => by unfold splitQ; rw [partAt_snoc hi, sumL_snoc]
  have hr : ∀ i, i < ps.length → restQ c (ps ++ [0]) i = restQ c ps i := fun i hi => by unfold restQ; rw [partAt_snoc hi, sumL_snoc]
  have hz : splitQ c (ps ++ [0]) ps.length = 0 := by unfold splitQ; rw [partAt_new]; simp
  have hrz : restQ c (ps ++ [0]) ps.length = 0 := by unfold restQ; rw [partAt_new]; simp
  have hlen : (ps ++ [0]).length = ps.length + 1 := by simp
  have hl : leftQ c (ps ++ [0]) = leftQ c ps := by
    unfold leftQ
    rw [hlen, List.range_succ, List.map_append, sumL_append, List.map_congr_left fun i hi => hq i (List.mem_range.1 hi)]
    simp [sumL, hz]
  unfold splitL
  rw [hlen, List.range_succ, List.map_append]
  congr 1
  · refine List.map_congr_left fun i hi => ?_
    have hi := List.mem_range.1 hi
    by_cases h0 : restQ c ps i = 0
    · rw [h.pay_even h0, h2.pay_even (by rw [hr i hi]; exact h0), hq i hi]
    · unfold payQ
      rw [hq i hi, hl]
      have hp := h.rest i
      have e : rankOf (ps ++ [0]).length (restQ c (ps ++ [0])) (turnI (ps ++ [0]).length first) i = rankOf ps.length (restQ c ps) (turnI ps.length first) i := by
        rw [hlen]
        have e1 : rankOf (ps.length + 1) (restQ c (ps ++ [0])) (turnI (ps.length + 1) first) i = rankOf ps.length (restQ c (ps ++ [0])) (turnI (ps.length + 1) first) i := by
          unfold rankOf
          rw [List.range_succ, List.countP_append]
          have : ahead (restQ c (ps ++ [0])) (turnI (ps.length + 1) first) ps.length i = false := by
            simp only [ahead, decide_eq_false_iff_not, hrz, hr i hi]
            omega
          simp [this]
        rw [e1]
        refine rank_congr fun j hj => ?_
        unfold ahead
        rw [hr i hi, hr j hj]
        have t1 := h.turn hi
        have t2 := h.turn hj
        have t3 := h2.turn (i := i) (by rw [hlen]; omega)
        have t4 := h2.turn (i := j) (by rw [hlen]; omega)
        rw [hlen] at t3 t4
        have := h.f0
        have := h.f1
        rw [decide_eq_decide, t1, t2, t3, t4]
        split <;> split <;> omega
      rw [e]
  · rw [List.map_cons, List.map_nil, h2.pay_even hrz, hz]
end SplitOk
/-- what a household pays together in the first k periods -/
def turnsAt (c : Int) (ps : List Int) (k : Nat) (i : Nat) : Int := sumL ((List.range k).map fun p => payQ c ps ((p % ps.length : Nat) : Int) i)
def turnsL (c : Int) (ps : List Int) (k : Nat) : List Int := (List.range ps.length).map (turnsAt c ps k)
theorem turnsAt_succ (c : Int) (ps : List Int) (k i : Nat) : turnsAt c ps (k + 1) i = turnsAt c ps k i + payQ c ps ((k % ps.length : Nat) : Int) i := by
  unfold turnsAt
  rw [List.range_succ, List.map_append, sumL_append]
  simp [sumL]
theorem turns_sum {c : Int} {ps : List Int} (h : ∀ first : Nat, first < ps.length → SplitOk c ps first) (hn : 0 < ps.length) : ∀ k, sumL (turnsL c ps k) = c * k
  | 0 => by
    have : turnsL c ps 0 = (List.range ps.length).map fun _ => 0 := List.map_congr_left fun i _ => rfl
    rw [this]
    have := sumL_const 0 ((List.range ps.length).map fun _ => (0 : Int)) fun x hx => by obtain ⟨_, _, e⟩ := List.mem_map.1 hx; exact e.symm
    rw [this]
    simp
  | k + 1 => by
    have h1 : turnsL c ps (k + 1) = (List.range ps.length).map fun i => turnsAt c ps k i + payQ c ps ((k % ps.length : Nat) : Int) i := List.map_congr_left fun i _ => turnsAt_succ c ps k i
    rw [h1, sumL_map_add]
    have h2 := turns_sum h hn k
    have h3 := (h (k % ps.length) (Nat.mod_lt _ hn)).whole
    unfold turnsL at h2
    unfold splitL at h3
    have h3' : sumL ((List.range ps.length).map fun i => payQ c ps ((k % ps.length : Nat) : Int) i) = c := h3
    rw [h2, h3', Int.natCast_add, Int.mul_add]
    simp
theorem countP_lt : ∀ (n m : Nat), m ≤ n → (List.range n).countP (fun k => decide (k < m)) = m
  | 0, m, h => by simp; omega
  | n + 1, m, h => by
    rw [List.range_succ, List.countP_append]
    by_cases hm : m ≤ n
    · rw [countP_lt n m hm]
      simp
      omega
    · have e : m = n + 1 := by omega
      subst e
      rw [List.countP_eq_length.2 fun k hk => by have := List.mem_range.1 hk; simp; omega]
      simp
/-- with equal rests the turn alone counts -/
theorem SplitOk.equal_rank {c : Int} {ps : List Int} {first : Int} (h : SplitOk c ps first) (he : ∀ i j, i < ps.length → j < ps.length → restQ c ps i = restQ c ps j) {i : Nat} (hi : i < ps.length) : ((rankOf ps.length (restQ c ps) (turnI ps.length first) i : Nat) : Int) = turnI ps.length first i := by
  have hb : ∀ j, j < ps.length → 0 ≤ turnI ps.length first j ∧ turnI ps.length first j < ps.length := fun j hj => by
    rw [h.turn hj]
    have := h.f0
    have := h.f1
    split <;> omega
  have hp : ((List.range ps.length).map fun j => (turnI ps.length first j).toNat).Perm (List.range ps.length) := by
    refine perm_of_nodup _ _ (nodup_map _ _ List.nodup_range fun a ha b hb' e => ?_) (fun x hx => ?_) (by simp)
    · have ha := List.mem_range.1 ha
      have hb' := List.mem_range.1 hb'
      have := hb a ha
      have := hb b hb'
      exact h.turn_inj a b ha hb' (by omega)
    · obtain ⟨j, hj, rfl⟩ := List.mem_map.1 hx
      have := hb j (List.mem_range.1 hj)
      exact List.mem_range.2 (by omega)
  have h1 : rankOf ps.length (restQ c ps) (turnI ps.length first) i = ((List.range ps.length).map fun j => (turnI ps.length first j).toNat).countP fun k => decide (k < (turnI ps.length first i).toNat) := by
    unfold rankOf
    rw [List.countP_map, List.countP_eq_length_filter, List.countP_eq_length_filter]
    congr 1
    refine List.filter_congr fun j hj => ?_
    have hj := List.mem_range.1 hj
    have h2 := he i j hi hj
    have := hb j hj
    have := hb i hi
    unfold ahead
    simp only [Function.comp_apply]
    rw [decide_eq_decide]
    omega
  rw [h1, hp.countP_eq, countP_lt _ _ (by have := hb i hi; omega)]
  have := hb i hi
  omega
theorem turns_equal {c : Int} {ps : List Int} (h : ∀ first : Nat, first < ps.length → SplitOk c ps first) (he : ∀ i, i < ps.length → partAt ps i = partAt ps 0) {i : Nat} (hi : i < ps.length) : turnsAt c ps ps.length i = c := by
  have hr : ∀ a b, a < ps.length → b < ps.length → restQ c ps a = restQ c ps b := fun a b ha hb => by unfold restQ; rw [he a ha, he b hb]
  have hq : ∀ a, a < ps.length → splitQ c ps a = splitQ c ps i := fun a ha => by unfold splitQ; rw [he a ha, he i hi]
  have hn : 0 < ps.length := by omega
  have h0 := h 0 hn
  have hl : leftQ c ps = c - splitQ c ps i * ps.length := by
    unfold leftQ
    rw [sumL_const (splitQ c ps i) _ fun x hx => by obtain ⟨a, ha, rfl⟩ := List.mem_map.1 hx; exact hq a (List.mem_range.1 ha)]
    simp
  unfold turnsAt
  have h1 : (List.range ps.length).map (fun p => payQ c ps ((p % ps.length : Nat) : Int) i) = (List.range ps.length).map fun p => splitQ c ps i + if (((turnI ps.length (p : Nat) i).toNat : Nat) : Int) < leftQ c ps then 1 else 0 := by
    refine List.map_congr_left fun p hp => ?_
    have hp := List.mem_range.1 hp
    have h2 := (h p hp).equal_rank hr hi
    unfold payQ
    rw [Nat.mod_eq_of_lt hp, h2]
    have := (h p hp).f0
    have := (h p hp).f1
    have ht := (h p hp).turn hi
    have e : (((turnI ps.length (p : Nat) i).toNat : Nat) : Int) = turnI ps.length (p : Nat) i := by
      rw [ht]
      split <;> omega
    rw [e]
  rw [h1, sumL_map_add]
  have hp : ((List.range ps.length).map fun p => (turnI ps.length (p : Nat) i).toNat).Perm (List.range ps.length) := by
    have hv : ∀ p, p < ps.length → (turnI ps.length (p : Nat) i).toNat = if p ≤ i then i - p else i + ps.length - p := fun p hp => by
      rw [(h p hp).turn hi]
      split <;> split <;> omega
    refine perm_of_nodup _ _ (nodup_map _ _ List.nodup_range fun a ha b hb e => ?_) (fun x hx => ?_) (by simp)
    · have ha := List.mem_range.1 ha
      have hb := List.mem_range.1 hb
      rw [hv a ha, hv b hb] at e
      split at e <;> split at e <;> omega
    · obtain ⟨p, hp, rfl⟩ := List.mem_map.1 hx
      have hp := List.mem_range.1 hp
      rw [hv p hp]
      refine List.mem_range.2 ?_
      split <;> omega
  have h3 := sumL_perm (hp.map (fun (k : Nat) => (if (k : Int) < leftQ c ps then 1 else 0 : Int)))
  rw [List.map_map, sumL_lt _ _ h0.left_rng.1 h0.left_rng.2] at h3
  have h4 : sumL ((List.range ps.length).map fun (p : Nat) => if (((turnI ps.length (p : Nat) i).toNat : Nat) : Int) < leftQ c ps then (1 : Int) else 0) = leftQ c ps := h3
  rw [h4, sumL_const (splitQ c ps i) _ fun x hx => by obtain ⟨a, _, e⟩ := List.mem_map.1 hx; exact e.symm]
  rw [hl]
  simp
  omega
end Go.Proofs.Ytcgakhajmekjcaa
