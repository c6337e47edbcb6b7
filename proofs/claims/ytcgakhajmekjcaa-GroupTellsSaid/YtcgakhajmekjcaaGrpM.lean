/- kerbsideref41: Right and over, walked. -/
import Derived.Test.YtcgakhajmekjcaaGrpG
namespace Go.Proofs.Ytcgakhajmekjcaa
open Go.RowKit

theorem sumL_rng {l : List Int} (h : ∀ q ∈ l, 0 ≤ q ∧ q ≤ 1000000) : 0 ≤ sumL l ∧ sumL l ≤ 1000000 * l.length :=
  ⟨sumL_nonneg l fun p hp => (h p hp).1, sumL_upto 1000000 l fun p hp => (h p hp).2⟩
theorem sum_pos {l : List Int} (h : ∀ q ∈ l, 0 ≤ q ∧ q ≤ 1000000) : 0 < sumL l ↔ ∃ p ∈ l, 0 < p := by
  constructor
  · intro hp
    by_cases he : ∃ p ∈ l, 0 < p
    · exact he
    · exfalso
      have := sumL_const 0 l fun x hx => by
        have h1 := h x hx
        have h2 : ¬ 0 < x := fun h2 => he ⟨x, hx, h2⟩
        omega
      simp at this
      omega
  · rintro ⟨p, hp, h0⟩
    have := sumL_ge l (fun q hq => (h q hq).1) p hp
    omega
set_option maxHeartbeats 2000000 in
theorem RRight_any (w : World) (A : Option Addr) (n c : Nat) (ps : List Int) (hs : Ints w A n ps) (hn : n ≤ maxLen) (r : Bool) (hr : rightB ps = r) :
    Calls Try.prog 15 #[.slice A n c] w fun e w' => e = .returned (.bool r) ∧ w = w' := by
  have hl : ps.length = n := hs.length
  unfold maxLen at hn
  have hnn : (n : Int) ≤ 9223372036854775807 := by omega
  have HS := Lib.hid hs
  have HL := Lib.hid hl
  have HR := Lib.hid hr
  have hbig : 100 < (n : Int) → r = false := fun h => by
    rw [← hr, Bool.eq_false_iff]
    intro h2
    have := (rightB_true.1 h2).1
    omega
  have HBG := Lib.hid hbig
  clear hs hr hl hbig
  go_enter Try.func15, Try.ntmps15
  go_wp2_with (fail)
  go_loopw [3, 4] (fun sv iv wr => ∃ k : Nat, k ≤ n ∧ k ≤ 101 ∧ iv = .int .i64 (k : Int) ∧ sv = .int .i64 (sumL (ps.take k)) ∧ wr = w ∧ ∀ q ∈ ps.take k, 0 ≤ q ∧ q ≤ 1000000) (fun _ i _ => n - (intOf i).toNat)
  case atStart => exact ⟨0, Nat.zero_le _, Nat.zero_le _, rfl, by simp [sumL], rfl, by simp⟩
  case round =>
    obtain ⟨k, hk, hk1, rfl, rfl, rfl, hall⟩ := hrel
    have HA := Lib.hid hall
    clear hall
    by_cases hlt : k < n
    · have hki : (k : Int) < (n : Int) := by omega
      have hk0 : (0 : Int) ≤ (k : Int) := Int.natCast_nonneg _
      by_cases h100 : k ≤ 100
      · obtain ⟨p, hp⟩ : ∃ p, ps[k]? = some p := ⟨_, List.getElem?_eq_getElem (by rw [HL.out]; exact hlt)⟩
        obtain ⟨b, o, rfl, hbl, c0⟩ := HS.out.at_ hp
        have hk2 : (k : Int) ≤ 100 := by omega
        have HP := Lib.hid hp
        have HLT := Lib.hid hlt
        have hbad : ¬ (0 ≤ p ∧ p ≤ 1000000) → r = false := fun h => by
          rw [← HR.out, Bool.eq_false_iff]
          intro h2
          exact h ((rightB_true.1 h2).2.1 p (List.mem_of_getElem? HP.out))
        have hgood : 0 ≤ p → p ≤ 1000000 → ∀ q ∈ ps.take (k + 1), 0 ≤ q ∧ q ≤ 1000000 := fun h0 h1 q hq => by
          rw [take_succ HP.out] at hq
          rcases List.mem_append.1 hq with hq | hq
          · exact HA.out q hq
          · simp only [List.mem_singleton] at hq; subst hq; exact ⟨h0, h1⟩
        have HBD := Lib.hid hbad
        have HGD := Lib.hid hgood
        have HST := Lib.hid (sumL_take hp)
        have hsr := sumL_rng HA.out
        have hln : (ps.take k).length = k := by rw [List.length_take, HL.out]; omega
        rw [hln] at hsr
        clear hp hlt hbad hgood hln h100
        generalize sumL (ps.take k) = s at *
        by_cases h0 : p < 0
        · have hrf := HBD.out (by omega)
          subst hrf
          clear hsr
          go_wp2_with (fail)
          go_ret
          exact ⟨rfl, rfl⟩
        · have h0' : 0 ≤ p := by omega
          by_cases h1 : 1000000 < p
          · have hrf := HBD.out (by omega)
            subst hrf
            clear hsr
            go_wp2_with (fail)
            go_ret
            exact ⟨rfl, rfl⟩
          · have h1' : p ≤ 1000000 := by omega
            have HG := Lib.hid (HGD.out h0' h1')
            have hw : IntKind.i64.wrap (s + p) = s + p := IntWalk.i64_in _ (by omega)
            clear h0 h1 hsr
            go_wp2_with (fail)
            go_roundw
            case rel => exact ⟨k + 1, HLT.out, by omega, by go_num, by rw [HST.out], trivial, HG.out⟩
            case measure => have := HLT.out; simp [intOf]; omega
      · have hk2 : (100 : Int) < (k : Int) := by omega
        have hn2 : (100 : Int) < (n : Int) := by omega
        have hrf := HBG.out hn2
        subst hrf
        clear h100 hlt
        generalize sumL (ps.take k) = s at *
        go_wp2_with (fail)
        go_ret
        exact ⟨rfl, rfl⟩
    · obtain rfl : k = n := by omega
      have hki : (k : Int) ≤ (k : Int) := Int.le_refl _
      by_cases h100 : (k : Int) ≤ 100
      · have hr2 : decide (0 < sumL (ps.take k)) = r := by
          have h := HA.out
          rw [List.take_of_length_le (by rw [HL.out]; exact Nat.le_refl _)] at h ⊢
          rw [← HR.out]
          rw [Bool.eq_iff_iff, rightB_true, decide_eq_true_eq, sum_pos h]
          exact ⟨fun h2 => ⟨by rw [HL.out]; omega, h, h2⟩, fun h2 => h2.2.2⟩
        have HR2 := Lib.hid hr2
        clear hr2 hlt
        generalize sumL (ps.take k) = s at *
        go_wp2_with (fail)
        go_ret
        exact ⟨ret_bool HR2.out, rfl⟩
      · have hn2 : (100 : Int) < (k : Int) := by omega
        have hrf := HBG.out hn2
        subst hrf
        clear h100 hlt
        generalize sumL (ps.take k) = s at *
        go_wp2_with (fail)
        go_ret
        exact ⟨rfl, rfl⟩
set_option maxHeartbeats 2000000 in
theorem over_any (w : World) (c p S : Int) (c0 : 0 ≤ c) (c1 : c ≤ 1125899906842624) (p0 : 0 ≤ p) (p1 : p ≤ 1000000) (S0 : 0 < S) (S1 : S ≤ 100000000) (Q R : Int) (hQ : c * p / S = Q) (hR : c * p % S = R) (hQ1 : Q ≤ 1125899906842624) :
    Calls Try.prog 25 #[.int .i64 c, .int .i64 p, .int .i64 S] w fun e w' => e = .returned (.tuple #[.int .i64 Q, .int .i64 R]) ∧ Below w.heap.size w w' := by
  have hlo := low_q c S p S0
  have hev := even_r c S p
  rw [hQ] at hlo
  rw [hR] at hev
  have hQ0 : 0 ≤ Q := by rw [← hQ]; exact Int.ediv_nonneg (Int.mul_nonneg c0 p0) (by omega)
  obtain ⟨a, ha⟩ : ∃ a, c / S = a := ⟨_, rfl⟩
  obtain ⟨bb, hbb⟩ : ∃ b, c % S = b := ⟨_, rfl⟩
  have hb0 := Int.emod_nonneg c (show S ≠ 0 by omega)
  have hbS := Int.emod_lt_of_pos c S0
  have ha0 : 0 ≤ c / S := Int.ediv_nonneg (by omega) (by omega)
  have hac : c / S ≤ c := Int.ediv_le_self _ (by omega)
  have e1 : c.tdiv S = a := by rw [Int.tdiv_eq_ediv_of_nonneg (by omega)]; exact ha
  have e2 : c.tmod S = bb := by rw [Int.tmod_eq_emod_of_nonneg (by omega)]; exact hbb
  rw [ha, hbb] at hlo
  rw [hbb] at hev hb0 hbS
  rw [ha] at ha0 hac
  have hbp0 : 0 ≤ bb * p := Int.mul_nonneg hb0 p0
  have hbp1 : bb * p ≤ 100000000 * 1000000 := Int.mul_le_mul (by omega) p1 p0 (by omega)
  have hq20 : 0 ≤ bb * p / S := Int.ediv_nonneg hbp0 (by omega)
  have hap0 : 0 ≤ a * p := Int.mul_nonneg ha0 p0
  have wa : IntKind.i64.wrap a = a := IntWalk.i64_in _ (by omega)
  have wb : IntKind.i64.wrap bb = bb := IntWalk.i64_in _ (by omega)
  obtain ⟨ap, hap⟩ : ∃ x, IntKind.i64.wrap (a * p) = x := ⟨_, rfl⟩
  have hap' : a * p = ap := by rw [← hap]; exact (IntWalk.i64_in _ (by omega)).symm
  obtain ⟨bp, hbp⟩ : ∃ x, IntKind.i64.wrap (bb * p) = x := ⟨_, rfl⟩
  have hbp' : bb * p = bp := by rw [← hbp]; exact (IntWalk.i64_in _ (by omega)).symm
  rw [hap'] at hlo hap0
  rw [hbp'] at hlo hev hbp0 hbp1 hq20
  obtain ⟨q2, hq2⟩ : ∃ x, bp / S = x := ⟨_, rfl⟩
  rw [hq2] at hlo hq20
  have e3 : bp.tdiv S = q2 := by rw [Int.tdiv_eq_ediv_of_nonneg hbp0]; exact hq2
  have e4 : bp.tmod S = R := by rw [Int.tmod_eq_emod_of_nonneg hbp0]; exact hev
  have wq2 : IntKind.i64.wrap q2 = q2 := IntWalk.i64_in _ (by omega)
  have wlo : IntKind.i64.wrap (ap + q2) = Q := by rw [hlo]; exact IntWalk.i64_in _ (by omega)
  have hS0 : ¬ (S = 0) := by omega
  have hSb : (S == 0) = false := by simp; omega
  have hSm : ¬ (S = -1) := by omega
  have hR0 : 0 ≤ R := by rw [← hR]; exact Int.emod_nonneg _ hS0
  have hR1 : R < S := by rw [← hR]; exact Int.emod_lt_of_pos _ S0
  have wR : IntKind.i64.wrap R = R := IntWalk.i64_in _ (by omega)
  clear hlo hev hap' hbp' hb0 hbS ha0 hac hbp0 hbp1 hq20 hap0 hQ hR hQ0 hQ1 hR0 hR1 c0 c1 p0 p1
  go_enter Try.func25, Try.ntmps25
  go_wp2_with (fail)
  go_quiet (fail)
  go_wp2_with (fail)
  go_ret2
  exact ⟨rfl, bdrewN (Below.refl _ _) _⟩
end Go.Proofs.Ytcgakhajmekjcaa
