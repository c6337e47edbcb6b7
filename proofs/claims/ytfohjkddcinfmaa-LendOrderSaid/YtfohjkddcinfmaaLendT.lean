/- kerbsideref43: Spend, Return, Own, walked. -/
import Derived.Test.YtfohjkddcinfmaaLendS
namespace Go.Proofs.Ytfohjkddcinfmaa
open Go.RowKit

theorem fine_in (n : Int) : inB n 1 1099511627776 = fineB n := rfl

set_option maxHeartbeats 1000000 in
theorem SpendR_any (d u s : Int) (b : Bool) (n : Int) (r : LoanV × Int) (hr : spendF ⟨d, u, s, b⟩ n = r) (w : World) :
    Calls Try.prog 17 #[.agg #[.int .i64 d, .int .i64 u, .int .i64 s, .bool b], .int .i64 n] w (LoanRet w r) := by
  have HZ := Lib.hid (below3 w)
  have HE := Lib.hid hr
  clear hr
  obtain ⟨q, h1⟩ : ∃ q, LoanV.right ⟨d, u, s, b⟩ = q := ⟨_, rfl⟩
  obtain ⟨q2, h2⟩ : ∃ q, fineB n = q := ⟨_, rfl⟩
  have H1 := Lib.hid h1
  have H2 := Lib.hid h2
  have H2' := Lib.hid ((fine_in n).trans h2)
  clear h1 h2
  go_enter Try.func17, Try.ntmps17
  go_wp2_with (fail)
  with_reducible refine (LoanR_any d u s b q H1.out _).mono ?_
  rintro e w' ⟨rfl, rfl⟩
  rcases q with _ | _
  · go_wp2_with (fail)
    refine bodyPost_ret (v := .tuple #[.agg #[.int .i64 0, .int .i64 0, .int .i64 0, .bool false], .int .i64 1]) (by simp [results, Try.results17, go_sem]) rfl ?_
    have er : r = (noLoan, 1) := by rw [← HE.out]; simp [spendF, H1.out]
    rw [er]
    exact ⟨rfl, HZ.out _ _ _⟩
  obtain ⟨f1, f2, f3, f4, f5, f6⟩ := right_facts H1.out
  go_wp2_with (fail)
  with_reducible refine (in_any n 1 1099511627776 q2 H2'.out _).mono ?_
  rintro e w' ⟨rfl, rfl⟩
  rcases q2 with _ | _
  · go_wp2_with (fail)
    refine bodyPost_ret (v := .tuple #[.agg #[.int .i64 0, .int .i64 0, .int .i64 0, .bool false], .int .i64 1]) (by simp [results, Try.results17, go_sem]) rfl ?_
    have er : r = (noLoan, 1) := by rw [← HE.out]; simp [spendF, H1.out, H2.out]
    rw [er]
    exact ⟨rfl, HZ.out _ _ _⟩
  obtain ⟨f7, f8⟩ := fine_facts H2.out
  rcases b with _ | _
  · by_cases h4 : u - s < n
    · go_wp2_with (fail)
      refine bodyPost_ret (v := .tuple #[.agg #[.int .i64 0, .int .i64 0, .int .i64 0, .bool false], .int .i64 6]) (by simp [results, Try.results17, go_sem]) rfl ?_
      have er : r = (noLoan, 6) := by rw [← HE.out]; simp [spendF, H1.out, H2.out, h4]
      rw [er]
      exact ⟨rfl, HZ.out _ _ _⟩
    · have h4' : n ≤ u - s := by omega
      go_wp2_with (fail)
      refine bodyPost_ret (v := .tuple #[.agg #[.int .i64 d, .int .i64 u, .int .i64 (s + n), .bool false], .int .i64 0]) (by simp [results, Try.results17, go_sem]) rfl ?_
      have er : r = (⟨d, u, s + n, false⟩, 0) := by rw [← HE.out]; simp [spendF, H1.out, H2.out, h4']
      rw [er]
      exact ⟨rfl, HZ.out _ _ _⟩
  · go_wp2_with (fail)
    refine bodyPost_ret (v := .tuple #[.agg #[.int .i64 0, .int .i64 0, .int .i64 0, .bool false], .int .i64 7]) (by simp [results, Try.results17, go_sem]) rfl ?_
    have er : r = (noLoan, 7) := by rw [← HE.out]; simp [spendF, H1.out, H2.out]
    rw [er]
    exact ⟨rfl, HZ.out _ _ _⟩

set_option maxHeartbeats 1000000 in
theorem ReturnR_any (d u s : Int) (b : Bool) (r : LoanV × Int) (hr : returnF ⟨d, u, s, b⟩ = r) (w : World) :
    Calls Try.prog 19 #[.agg #[.int .i64 d, .int .i64 u, .int .i64 s, .bool b]] w (LoanRet w r) := by
  subst hr
  have HZ := Lib.hid (below3 w)
  unfold returnF
  rcases h1 : LoanV.right ⟨d, u, s, b⟩ with _ | _
  · have H1 := Lib.hid h1
    clear h1
    go_enter Try.func19, Try.ntmps19
    go_wp2_with (go_at_call 33; refine (LoanR_any _ _ _ _ _ H1.out _).mono ?_; rintro e w' ⟨rfl, rfl⟩)
    refine bodyPost_ret (v := .tuple #[.agg #[.int .i64 0, .int .i64 0, .int .i64 0, .bool false], .int .i64 1]) (by simp [results, Try.results19, go_sem]) rfl ⟨?_, HZ.out _ _ _⟩
    simp [noLoan]
  · have H1 := Lib.hid h1
    clear h1
    rcases b with _ | _
    · go_enter Try.func19, Try.ntmps19
      go_wp2_with (go_at_call 33; refine (LoanR_any _ _ _ _ _ H1.out _).mono ?_; rintro e w' ⟨rfl, rfl⟩)
      refine bodyPost_ret (v := .tuple #[.agg #[.int .i64 d, .int .i64 u, .int .i64 s, .bool true], .int .i64 0]) (by simp [results, Try.results19, go_sem]) rfl ⟨?_, HZ.out _ _ _⟩
      simp
    · go_enter Try.func19, Try.ntmps19
      go_wp2_with (go_at_call 33; refine (LoanR_any _ _ _ _ _ H1.out _).mono ?_; rintro e w' ⟨rfl, rfl⟩)
      refine bodyPost_ret (v := .tuple #[.agg #[.int .i64 0, .int .i64 0, .int .i64 0, .bool false], .int .i64 7]) (by simp [results, Try.results19, go_sem]) rfl ⟨?_, HZ.out _ _ _⟩
      simp [noLoan]
end Go.Proofs.Ytfohjkddcinfmaa
