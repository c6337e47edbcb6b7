/- kerbsideref43: the reference's functions, walked: they come to the same Lean functions as the program's. -/
import Derived.Test.YtfohjkddcinfmaaLendI
import Derived.Test.YtfohjkddcinfmaaBase2
namespace Go.Proofs.Ytfohjkddcinfmaa
open Go.RowKit

def inB (n low high : Int) : Bool := decide (low ≤ n) && decide (n ≤ high)
set_option maxHeartbeats 400000 in
theorem in_any (n low high : Int) (r : Bool) (hr : inB n low high = r) (w : World) :
    Calls Try.prog 30 #[.int .i64 n, .int .i64 low, .int .i64 high] w fun e w' => e = .returned (.bool r) ∧ w = w' := by
  have HR := Lib.hid hr
  clear hr
  go_enter Try.func30, Try.ntmps30
  go_wp2
  all_goals go_ret
  all_goals refine ⟨ret_bool ?_, rfl⟩
  · rw [← HR.out]; simp [inB, *]
  · rw [← HR.out]; simp [inB]; omega

set_option maxHeartbeats 400000 in
theorem LoanR_any (d u s : Int) (b r : Bool) (hr : LoanV.right ⟨d, u, s, b⟩ = r) (w : World) :
    Calls Try.prog 33 #[.agg #[.int .i64 d, .int .i64 u, .int .i64 s, .bool b]] w fun e w' => e = .returned (.bool r) ∧ w.alloc (.cells #[.int .i64 d, .int .i64 u, .int .i64 s, .bool b] 26) = w' := by
  have hq : (inB d 0 7 && inB u 1 1099511627776 && inB s 0 u) = r := by
    rw [← hr, Bool.eq_iff_iff, right_iff]
    simp only [inB, Bool.and_eq_true, decide_eq_true_eq]
    omega
  obtain ⟨r1, h1⟩ : ∃ r1, inB d 0 7 = r1 := ⟨_, rfl⟩
  obtain ⟨r2, h2⟩ : ∃ r2, inB u 1 1099511627776 = r2 := ⟨_, rfl⟩
  obtain ⟨r3, h3⟩ : ∃ r3, inB s 0 u = r3 := ⟨_, rfl⟩
  rw [h1, h2, h3] at hq
  subst hq
  have H1 := Lib.hid h1
  have H2 := Lib.hid h2
  have H3 := Lib.hid h3
  clear h1 h2 h3 hr
  go_enter Try.func33, Try.ntmps33
  go_wp2_with (fail)
  refine (in_any _ _ _ r1 H1.out _).mono ?_
  rintro e w' ⟨rfl, rfl⟩
  rcases r1 with _ | _
  · go_wp2_with (fail)
    go_ret
    exact ⟨rfl, rfl⟩
  go_wp2_with (fail)
  refine (in_any _ _ _ r2 H2.out _).mono ?_
  rintro e w' ⟨rfl, rfl⟩
  rcases r2 with _ | _
  · go_wp2_with (fail)
    go_ret
    exact ⟨rfl, rfl⟩
  go_wp2_with (fail)
  refine (in_any _ _ _ r3 H3.out _).mono ?_
  rintro e w' ⟨rfl, rfl⟩
  go_wp2_with (fail)
  go_ret
  exact ⟨by simp, rfl⟩

set_option maxHeartbeats 400000 in
theorem CommittedR_any (d u s : Int) (b : Bool) (x : Int) (hx : LoanV.committed ⟨d, u, s, b⟩ = x) (w : World) :
    Calls Try.prog 34 #[.agg #[.int .i64 d, .int .i64 u, .int .i64 s, .bool b]] w fun e w' => e = .returned (.int .i64 x) ∧ w.alloc (.cells #[.int .i64 d, .int .i64 u, .int .i64 s, .bool b] 26) = w' := by
  subst hx
  cases b <;> (
  go_enter Try.func34, Try.ntmps34
  go_wp2
  go_ret
  exact ⟨rfl, rfl⟩)
end Go.Proofs.Ytfohjkddcinfmaa
