/- kerbsideref43: Loan, Spend, Return, walked (the parts of LendR and LendT that Device's reference reaches). -/
import Derived.Test.YtjncmlglhegnaaaGreatDoorLendB
import Derived.Test.YtjncmlglhegnaaaGreatDoorBase4
namespace Go.Proofs.YtjncmlglhegnaaaGreatDoor
open Go.RowKit

theorem right_iff (l : LoanV) : l.right = true ↔ 0 ≤ l.device ∧ l.device < 8 ∧ 1 ≤ l.units ∧ l.units ≤ 1099511627776 ∧ 0 ≤ l.spent ∧ l.spent ≤ l.units := by
  simp only [LoanV.right, loanB, fineB, Bool.and_eq_true, decide_eq_true_eq]
  omega
def inB (n low high : Int) : Bool := decide (low ≤ n) && decide (n ≤ high)
set_option maxRecDepth 100000 in
set_option maxHeartbeats 400000 in
theorem in_any (n low high : Int) (r : Bool) (hr : inB n low high = r) (w : World) :
    Calls Tryz.prog 111 #[.int .i64 n, .int .i64 low, .int .i64 high] w fun e w' => e = .returned (.bool r) ∧ w = w' := by
  have HR := Lib.hid hr
  clear hr
  go_enter Tryz.func111, Tryz.ntmps111
  go_wp2
  all_goals go_ret
  all_goals refine ⟨ret_bool ?_, rfl⟩
  · rw [← HR.out]; simp [inB, *]
  · rw [← HR.out]; simp [inB]; omega

set_option maxRecDepth 100000 in
set_option maxHeartbeats 400000 in
theorem LoanR_any (d u s : Int) (b r : Bool) (hr : LoanV.right ⟨d, u, s, b⟩ = r) (w : World) :
    Calls Tryz.prog 67 #[.agg #[.int .i64 d, .int .i64 u, .int .i64 s, .bool b]] w fun e w' => e = .returned (.bool r) ∧ w.alloc (.cells #[.int .i64 d, .int .i64 u, .int .i64 s, .bool b] 24) = w' := by
  have hq : (inB d 0 7 && inB u 1 1099511627776 && inB s 0 u) = r := by
    rw [← hr, Bool.eq_iff_iff, right_iff]
    simp only [inB, Bool.and_eq_true, decide_eq_true_eq]
    omega
  obtain ⟨r1, h1⟩ : ∃ r1, inB d 0 7 = r1 := ⟨_, rfl⟩
  obtain ⟨r2, h2⟩ : ∃ r2, inB u 1 1099511627776 = r2 := ⟨_, rfl⟩
  obtain ⟨r3, h3⟩ : ∃ r3, inB s 0 u = r3 := ⟨_, rfl⟩
  rw [h1, h2, h3] at hq
  subst hq
  have H1 := Lib.hid h1
  have H2 := Lib.hid h2
  have H3 := Lib.hid h3
  clear h1 h2 h3 hr
  go_enter Tryz.func67, Tryz.ntmps67
  go_wp2_with (fail)
  refine (in_any _ _ _ r1 H1.out _).mono ?_
  rintro e w' ⟨rfl, rfl⟩
  rcases r1 with _ | _
  · go_wp2_with (fail)
    go_ret
    exact ⟨rfl, rfl⟩
  go_wp2_with (fail)
  refine (in_any _ _ _ r2 H2.out _).mono ?_
  rintro e w' ⟨rfl, rfl⟩
  rcases r2 with _ | _
  · go_wp2_with (fail)
    go_ret
    exact ⟨rfl, rfl⟩
  go_wp2_with (fail)
  refine (in_any _ _ _ r3 H3.out _).mono ?_
  rintro e w' ⟨rfl, rfl⟩
  go_wp2_with (fail)
  go_ret
  exact ⟨by simp, rfl⟩

theorem fine_in (n : Int) : inB n 1 1099511627776 = fineB n := rfl

set_option maxRecDepth 100000 in
set_option maxHeartbeats 1000000 in
theorem SpendR_any (d u s : Int) (b : Bool) (n : Int) (r : LoanV × Int) (hr : spendF ⟨d, u, s, b⟩ n = r) (w : World) :
    Calls Tryz.prog 80 #[.agg #[.int .i64 d, .int .i64 u, .int .i64 s, .bool b], .int .i64 n] w (LoanRet w r) := by
  have HZ := Lib.hid (below3 w)
  have HE := Lib.hid hr
  clear hr
  obtain ⟨q, h1⟩ : ∃ q, LoanV.right ⟨d, u, s, b⟩ = q := ⟨_, rfl⟩
  obtain ⟨q2, h2⟩ : ∃ q, fineB n = q := ⟨_, rfl⟩
  have H1 := Lib.hid h1
  have H2 := Lib.hid h2
  have H2' := Lib.hid ((fine_in n).trans h2)
  clear h1 h2
  go_enter Tryz.func80, Tryz.ntmps80
  go_wp2_with (fail)
  with_reducible refine (LoanR_any d u s b q H1.out _).mono ?_
  rintro e w' ⟨rfl, rfl⟩
  rcases q with _ | _
  · go_wp2_with (fail)
    refine bodyPost_ret (v := .tuple #[.agg #[.int .i64 0, .int .i64 0, .int .i64 0, .bool false], .int .i64 1]) (by simp [results, Tryz.results80, go_sem]) rfl ?_
    have er : r = (noLoan, 1) := by rw [← HE.out]; simp [spendF, H1.out]
    rw [er]
    exact ⟨rfl, HZ.out _ _ _⟩
  obtain ⟨f1, f2, f3, f4, f5, f6⟩ := right_facts H1.out
  go_wp2_with (fail)
  with_reducible refine (in_any n 1 1099511627776 q2 H2'.out _).mono ?_
  rintro e w' ⟨rfl, rfl⟩
  rcases q2 with _ | _
  · go_wp2_with (fail)
    refine bodyPost_ret (v := .tuple #[.agg #[.int .i64 0, .int .i64 0, .int .i64 0, .bool false], .int .i64 1]) (by simp [results, Tryz.results80, go_sem]) rfl ?_
    have er : r = (noLoan, 1) := by rw [← HE.out]; simp [spendF, H1.out, H2.out]
    rw [er]
    exact ⟨rfl, HZ.out _ _ _⟩
  obtain ⟨f7, f8⟩ := fine_facts H2.out
  rcases b with _ | _
  · by_cases h4 : u - s < n
    · go_wp2_with (fail)
      refine bodyPost_ret (v := .tuple #[.agg #[.int .i64 0, .int .i64 0, .int .i64 0, .bool false], .int .i64 6]) (by simp [results, Tryz.results80, go_sem]) rfl ?_
      have er : r = (noLoan, 6) := by rw [← HE.out]; simp [spendF, H1.out, H2.out, h4]
      rw [er]
      exact ⟨rfl, HZ.out _ _ _⟩
    · have h4' : n ≤ u - s := by omega
      go_wp2_with (fail)
      refine bodyPost_ret (v := .tuple #[.agg #[.int .i64 d, .int .i64 u, .int .i64 (s + n), .bool false], .int .i64 0]) (by simp [results, Tryz.results80, go_sem]) rfl ?_
      have er : r = (⟨d, u, s + n, false⟩, 0) := by rw [← HE.out]; simp [spendF, H1.out, H2.out, h4']
      rw [er]
      exact ⟨rfl, HZ.out _ _ _⟩
  · go_wp2_with (fail)
    refine bodyPost_ret (v := .tuple #[.agg #[.int .i64 0, .int .i64 0, .int .i64 0, .bool false], .int .i64 7]) (by simp [results, Tryz.results80, go_sem]) rfl ?_
    have er : r = (noLoan, 7) := by rw [← HE.out]; simp [spendF, H1.out, H2.out]
    rw [er]
    exact ⟨rfl, HZ.out _ _ _⟩

set_option maxRecDepth 100000 in
set_option maxHeartbeats 1000000 in
theorem ReturnR_any (d u s : Int) (b : Bool) (r : LoanV × Int) (hr : returnF ⟨d, u, s, b⟩ = r) (w : World) :
    Calls Tryz.prog 82 #[.agg #[.int .i64 d, .int .i64 u, .int .i64 s, .bool b]] w (LoanRet w r) := by
  subst hr
  have HZ := Lib.hid (below3 w)
  unfold returnF
  rcases h1 : LoanV.right ⟨d, u, s, b⟩ with _ | _
  · have H1 := Lib.hid h1
    clear h1
    go_enter Tryz.func82, Tryz.ntmps82
    go_wp2_with (go_at_call 67; refine (LoanR_any _ _ _ _ _ H1.out _).mono ?_; rintro e w' ⟨rfl, rfl⟩)
    refine bodyPost_ret (v := .tuple #[.agg #[.int .i64 0, .int .i64 0, .int .i64 0, .bool false], .int .i64 1]) (by simp [results, Tryz.results82, go_sem]) rfl ⟨?_, HZ.out _ _ _⟩
    simp [noLoan]
  · have H1 := Lib.hid h1
    clear h1
    rcases b with _ | _
    · go_enter Tryz.func82, Tryz.ntmps82
      go_wp2_with (go_at_call 67; refine (LoanR_any _ _ _ _ _ H1.out _).mono ?_; rintro e w' ⟨rfl, rfl⟩)
      refine bodyPost_ret (v := .tuple #[.agg #[.int .i64 d, .int .i64 u, .int .i64 s, .bool true], .int .i64 0]) (by simp [results, Tryz.results82, go_sem]) rfl ⟨?_, HZ.out _ _ _⟩
      simp
    · go_enter Tryz.func82, Tryz.ntmps82
      go_wp2_with (go_at_call 67; refine (LoanR_any _ _ _ _ _ H1.out _).mono ?_; rintro e w' ⟨rfl, rfl⟩)
      refine bodyPost_ret (v := .tuple #[.agg #[.int .i64 0, .int .i64 0, .int .i64 0, .bool false], .int .i64 7]) (by simp [results, Tryz.results82, go_sem]) rfl ⟨?_, HZ.out _ _ _⟩
      simp [noLoan]
end Go.Proofs.YtjncmlglhegnaaaGreatDoor
