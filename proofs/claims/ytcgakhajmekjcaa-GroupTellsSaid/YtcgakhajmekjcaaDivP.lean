/- bits.Div64 at a divisor of at most 32 bits: the arithmetic, in plain Lean. -/
import Derived.Test.YtcgakhajmekjcaaRows
namespace Go.Proofs.Ytcgakhajmekjcaa

/-- the steps of bits.Div64, u being the dividend, y the divisor, s how far both are shifted -/
structure DivSteps (u y s un32 un1 un0 yn1 q1 un21 q0 : Nat) : Prop where
  e1 : yn1 = y * 2 ^ s / 2 ^ 32
  e2 : un32 = u / 2 ^ 64 * 2 ^ s + u % 2 ^ 64 / 2 ^ (64 - s)
  e3 : un1 = u % 2 ^ 64 * 2 ^ s % 2 ^ 64 / 2 ^ 32
  e4 : un0 = u % 2 ^ 64 * 2 ^ s % 2 ^ 64 % 2 ^ 32
  e5 : q1 = un32 / yn1
  e6 : un21 = un32 % yn1 * 2 ^ 32 + un1
  e7 : q0 = un21 / yn1
theorem lt_step {a b c A : Nat} (h : a < b) (hc : c < A) : a * A + c < b * A := by
  have : (a + 1) * A ≤ b * A := Nat.mul_le_mul_right _ h
  rw [Nat.add_mul] at this
  omega
theorem mul_split (q y r A : Nat) : (q * y + r) * (A * A) = q * A * (y * A) + r * A * A := by
  rw [Nat.add_mul, Nat.mul_mul_mul_comm, Nat.mul_assoc r]
theorem div_steps {u y s un32 un1 un0 yn1 q1 un21 q0 : Nat} (h : DivSteps u y s un32 un1 un0 yn1 q1 un21 q0) (hy : 0 < y) (hs : 32 ≤ s) (hs2 : s ≤ 63) (h1 : y * 2 ^ s < 2 ^ 64) (hu : u < y * 2 ^ 64) :
    0 < yn1 ∧ yn1 < 2 ^ 32 ∧ y * 2 ^ s = yn1 * 2 ^ 32 ∧ un32 < 2 ^ 64 ∧ u / 2 ^ 64 * 2 ^ s < 2 ^ 64 ∧ u % 2 ^ 64 / 2 ^ (64 - s) < 2 ^ s ∧ q1 < 2 ^ 32 ∧ un21 < 2 ^ 64 ∧ un1 < 2 ^ 32 ∧ q0 < 2 ^ 32 ∧ q1 * 2 ^ 32 + q0 = u / y ∧ (un21 % yn1 * 2 ^ 32 + un0) / 2 ^ s = u % y ∧ un21 % yn1 * 2 ^ 32 + un0 < 2 ^ 64 ∧ q1 * yn1 + un32 % yn1 = un32 ∧ q0 * yn1 + un21 % yn1 = un21 := by
  obtain ⟨k, rfl⟩ : ∃ k, s = 32 + k := ⟨s - 32, by omega⟩
  obtain ⟨eyn, eun32, eun1, eun0, eq1, eun21, eq0⟩ := h
  have hP : (2 : Nat) ^ (32 + k) = 2 ^ 32 * 2 ^ k := Nat.pow_add 2 32 k
  have hM : (2 : Nat) ^ 64 = 2 ^ (32 + k) * 2 ^ (64 - (32 + k)) := by rw [← Nat.pow_add]; congr 1; omega
  have hA : (2 : Nat) ^ 64 = 2 ^ 32 * 2 ^ 32 := by decide
  have pk : 0 < (2 : Nat) ^ k := Nat.pow_pos (by decide)
  have pP : 0 < (2 : Nat) ^ (32 + k) := Nat.pow_pos (by decide)
  have pR : 0 < (2 : Nat) ^ (64 - (32 + k)) := Nat.pow_pos (by decide)
  have eY : y * 2 ^ (32 + k) = (y * 2 ^ k) * 2 ^ 32 := by rw [hP, Nat.mul_comm (2 ^ 32), Nat.mul_assoc]
  have eyn' : yn1 = y * 2 ^ k := by rw [eyn, eY, Nat.mul_div_cancel _ (by decide)]
  have yn0 : 0 < yn1 := by rw [eyn']; exact Nat.mul_pos hy pk
  have eY2 : y * 2 ^ (32 + k) = yn1 * 2 ^ 32 := by rw [eY, eyn']
  have yn2 : yn1 < 2 ^ 32 := by
    rw [eY2, hA] at h1
    exact Nat.lt_of_mul_lt_mul_right h1
  generalize hhi : u / 2 ^ 64 = hi at *
  generalize hlo : u % 2 ^ 64 = lo at *
  have eu : u = hi * 2 ^ 64 + lo := by rw [← hhi, ← hlo, Nat.mul_comm]; exact (Nat.div_add_mod u (2 ^ 64)).symm
  have hlo2 : lo < 2 ^ 64 := by rw [← hlo]; exact Nat.mod_lt _ (by decide)
  have hhiy : hi < y := by rw [← hhi]; exact (Nat.div_lt_iff_lt_mul (by decide)).2 hu
  have b1 : hi * 2 ^ (32 + k) < 2 ^ 64 := Nat.lt_of_le_of_lt (Nat.mul_le_mul_right _ (by omega)) h1
  have b2 : lo / 2 ^ (64 - (32 + k)) < 2 ^ (32 + k) := (Nat.div_lt_iff_lt_mul pR).2 (by rw [← hM]; exact hlo2)
  -- the dividend, shifted
  have e1 : lo * 2 ^ (32 + k) / 2 ^ 64 = lo / 2 ^ (64 - (32 + k)) := by
    rw [hM, Nat.mul_comm lo, Nat.mul_div_mul_left _ _ pP]
  have e2 : lo * 2 ^ (32 + k) = lo / 2 ^ (64 - (32 + k)) * 2 ^ 64 + (un1 * 2 ^ 32 + un0) := by
    have h3 := Nat.div_add_mod (lo * 2 ^ (32 + k)) (2 ^ 64)
    have h4 := Nat.div_add_mod (lo * 2 ^ (32 + k) % 2 ^ 64) (2 ^ 32)
    rw [← eun1, ← eun0] at h4
    rw [e1] at h3
    rw [← h4] at h3
    rw [← h3]
    rw [Nat.mul_comm (2 ^ 64), Nat.mul_comm (2 ^ 32) un1]
  have e3 : u * 2 ^ (32 + k) = un32 * 2 ^ 64 + (un1 * 2 ^ 32 + un0) := by
    have : u * 2 ^ (32 + k) = hi * 2 ^ (32 + k) * 2 ^ 64 + lo * 2 ^ (32 + k) := by rw [eu, Nat.add_mul, Nat.mul_right_comm]
    rw [this, e2, eun32, Nat.add_mul, Nat.add_assoc]
  have hun1 : un1 < 2 ^ 32 := by rw [eun1]; exact (Nat.div_lt_iff_lt_mul (by decide)).2 (by rw [← hA]; exact Nat.mod_lt _ (by decide))
  have hun0 : un0 < 2 ^ 32 := by rw [eun0]; exact Nat.mod_lt _ (by decide)
  have hun32 : un32 < yn1 * 2 ^ 32 := by
    have h5 : u * 2 ^ (32 + k) < yn1 * 2 ^ 32 * 2 ^ 64 := by
      rw [← eY2, Nat.mul_right_comm]
      exact Nat.mul_lt_mul_of_pos_right hu pP
    rw [e3] at h5
    exact Nat.lt_of_mul_lt_mul_right (Nat.lt_of_le_of_lt (Nat.le_add_right _ _) h5)
  have yn64 : yn1 * 2 ^ 32 < 2 ^ 64 := by rw [← eY2]; exact h1
  have r1 : un32 % yn1 < yn1 := Nat.mod_lt _ yn0
  have d1 : q1 * yn1 + un32 % yn1 = un32 := by rw [eq1, Nat.mul_comm]; exact Nat.div_add_mod _ _
  have hq1 : q1 < 2 ^ 32 := by rw [eq1]; exact (Nat.div_lt_iff_lt_mul yn0).2 (by rw [Nat.mul_comm]; exact hun32)
  have h21 : un21 < yn1 * 2 ^ 32 := by
    rw [eun21]
    exact lt_step r1 hun1
  have r0 : un21 % yn1 < yn1 := Nat.mod_lt _ yn0
  have d0 : q0 * yn1 + un21 % yn1 = un21 := by rw [eq0, Nat.mul_comm]; exact Nat.div_add_mod _ _
  have hq0 : q0 < 2 ^ 32 := by rw [eq0]; exact (Nat.div_lt_iff_lt_mul yn0).2 (by rw [Nat.mul_comm]; exact h21)
  have hR : un21 % yn1 * 2 ^ 32 + un0 < yn1 * 2 ^ 32 := lt_step r0 hun0
  -- all together
  have e4 : u * 2 ^ (32 + k) = (q1 * 2 ^ 32 + q0) * y * 2 ^ (32 + k) + (un21 % yn1 * 2 ^ 32 + un0) := by
    rw [e3]
    have e5 : un32 * 2 ^ 64 + (un1 * 2 ^ 32 + un0) = q1 * 2 ^ 32 * (yn1 * 2 ^ 32) + (un21 * 2 ^ 32 + un0) := by
      have a1 : un32 * 2 ^ 64 = q1 * 2 ^ 32 * (yn1 * 2 ^ 32) + un32 % yn1 * 2 ^ 32 * 2 ^ 32 := by
        have := mul_split q1 yn1 (un32 % yn1) (2 ^ 32)
        rw [d1, ← hA] at this
        exact this
      rw [a1, eun21, Nat.add_mul]
      omega
    have e6 : un21 * 2 ^ 32 = q0 * (yn1 * 2 ^ 32) + un21 % yn1 * 2 ^ 32 := by
      rw [← Nat.mul_assoc, ← Nat.add_mul, d0]
    rw [e5, e6, Nat.mul_assoc _ y, eY2, Nat.add_mul]
    omega
  have hRd : (2 : Nat) ^ (32 + k) ∣ (un21 % yn1 * 2 ^ 32 + un0) := by
    have a2 : (2 : Nat) ^ (32 + k) ∣ u * 2 ^ (32 + k) := Nat.dvd_mul_left _ _
    rw [e4] at a2
    exact (Nat.dvd_add_right (Nat.dvd_mul_left _ _)).1 a2
  obtain ⟨v, hv⟩ := hRd
  have hvy : v < y := by
    rw [hv, ← eY2, Nat.mul_comm y] at hR
    exact Nat.lt_of_mul_lt_mul_left hR
  have e7 : u = (q1 * 2 ^ 32 + q0) * y + v := by
    rw [hv, Nat.mul_comm (2 ^ (32 + k)) v, ← Nat.add_mul] at e4
    exact Nat.eq_of_mul_eq_mul_right pP e4
  have hun32' : un32 < 2 ^ 64 := Nat.lt_trans hun32 yn64
  refine ⟨yn0, yn2, eY2, hun32', b1, b2, hq1, Nat.lt_trans h21 yn64, hun1, hq0, ?_, ?_, Nat.lt_trans hR yn64, d1, d0⟩
  · have : ((q1 * 2 ^ 32 + q0) * y + v) / y = q1 * 2 ^ 32 + q0 := by rw [Nat.add_comm, Nat.add_mul_div_right _ _ hy, Nat.div_eq_of_lt hvy, Nat.zero_add]
    rw [e7, this]
  · have : ((q1 * 2 ^ 32 + q0) * y + v) % y = v := by rw [Nat.add_comm, Nat.add_mul_mod_self_right, Nat.mod_eq_of_lt hvy]
    rw [hv, Nat.mul_div_cancel_left _ pP, e7, this]
end Go.Proofs.Ytcgakhajmekjcaa
