/- lend: Right, Free, Own, Lend, Spend, Return, Merge, walked. -/
import Derived.Test.YtjncmlglhegnaaaGreatDoorLendA
import Derived.Deep.RegionHeld3
import Derived.StillTactics
namespace Go.Proofs.YtjncmlglhegnaaaGreatDoor
open Go.RowKit








def noLoan : LoanV := ⟨0, 0, 0, false⟩
def spendF (l : LoanV) (n : Int) : LoanV × Int :=
  if (l.right && fineB n) = false then (noLoan, 1) else if l.back then (noLoan, 7) else if l.units - l.spent < n then (noLoan, 6) else (⟨l.device, l.units, l.spent + n, l.back⟩, 0)
def returnF (l : LoanV) : LoanV × Int := if l.right = false then (noLoan, 1) else if l.back then (noLoan, 7) else (⟨l.device, l.units, l.spent, true⟩, 0)
/-- what a function that returns a loan and an error leaves -/
def LoanRet (w : World) (r : LoanV × Int) (e : Ending) (w' : World) : Prop :=
  e = .returned (.tuple #[.agg #[.int .i64 r.1.device, .int .i64 r.1.units, .int .i64 r.1.spent, .bool r.1.back], .int .i64 r.2]) ∧ Below w.heap.size w w'
theorem right_facts {d u s : Int} {b : Bool} (h : LoanV.right ⟨d, u, s, b⟩ = true) : 0 ≤ d ∧ d < 8 ∧ 1 ≤ u ∧ u ≤ 1099511627776 ∧ 0 ≤ s ∧ s ≤ u := by
  simp only [LoanV.right, loanB, fineB, Bool.and_eq_true, decide_eq_true_eq] at h
  omega
theorem fine_facts {n : Int} (h : fineB n = true) : 1 ≤ n ∧ n ≤ 1099511627776 := by
  simp only [fineB, Bool.and_eq_true, decide_eq_true_eq] at h
  omega
theorem below2 (w : World) (x y : Obj) : Below w.heap.size w ((w.alloc x).alloc y) := (below_alloc w x).alloc (by simp) y
theorem below3 (w : World) (x y z : Obj) : Below w.heap.size w (((w.alloc x).alloc y).alloc z) := (below2 w x y).alloc (by simp; omega) z

set_option maxRecDepth 100000 in
set_option maxHeartbeats 1000000 in
theorem Spend_any (d u s : Int) (b : Bool) (n : Int) (r : LoanV × Int) (hr : spendF ⟨d, u, s, b⟩ n = r) (w : World) :
    Calls Tryz.prog 12 #[.agg #[.int .i64 d, .int .i64 u, .int .i64 s, .bool b], .int .i64 n] w (LoanRet w r) := by
  subst hr
  have HZ := Lib.hid (below3 w)
  unfold spendF
  rcases h1 : LoanV.right ⟨d, u, s, b⟩ with _ | _
  · have H1 := Lib.hid h1
    clear h1
    go_enter Tryz.func12, Tryz.ntmps12
    go_wp2_with (go_at_call 58; refine (right_any _ _ _ _ _ H1.out _).mono ?_; rintro e w' ⟨rfl, rfl⟩)
    refine bodyPost_ret (v := .tuple #[.agg #[.int .i64 0, .int .i64 0, .int .i64 0, .bool false], .int .i64 1]) (by simp [results, Tryz.results12, go_sem]) rfl ⟨?_, HZ.out _ _ _⟩
    simp [noLoan]
  · obtain ⟨f1, f2, f3, f4, f5, f6⟩ := right_facts h1
    have H1 := Lib.hid h1
    clear h1
    rcases h2 : fineB n with _ | _
    · have H2 := Lib.hid h2
      clear h2
      go_enter Tryz.func12, Tryz.ntmps12
      go_wp2_with (first | (go_at_call 58; refine (right_any _ _ _ _ _ H1.out _).mono ?_; rintro e w' ⟨rfl, rfl⟩) | (go_at_call 59; refine (fine_any _ _ H2.out _).mono ?_; rintro e w' ⟨rfl, rfl⟩))
      refine bodyPost_ret (v := .tuple #[.agg #[.int .i64 0, .int .i64 0, .int .i64 0, .bool false], .int .i64 1]) (by simp [results, Tryz.results12, go_sem]) rfl ⟨?_, HZ.out _ _ _⟩
      simp [noLoan]
    · obtain ⟨f7, f8⟩ := fine_facts h2
      have H2 := Lib.hid h2
      clear h2
      rcases b with _ | _
      · by_cases h4 : u - s < n
        · go_enter Tryz.func12, Tryz.ntmps12
          go_wp2_with (first | (go_at_call 58; refine (right_any _ _ _ _ _ H1.out _).mono ?_; rintro e w' ⟨rfl, rfl⟩) | (go_at_call 59; refine (fine_any _ _ H2.out _).mono ?_; rintro e w' ⟨rfl, rfl⟩))
          refine bodyPost_ret (v := .tuple #[.agg #[.int .i64 0, .int .i64 0, .int .i64 0, .bool false], .int .i64 6]) (by simp [results, Tryz.results12, go_sem]) rfl ⟨?_, HZ.out _ _ _⟩
          simp [noLoan]
        · have h4' : n ≤ u - s := by omega
          go_enter Tryz.func12, Tryz.ntmps12
          go_wp2_with (first | (go_at_call 58; refine (right_any _ _ _ _ _ H1.out _).mono ?_; rintro e w' ⟨rfl, rfl⟩) | (go_at_call 59; refine (fine_any _ _ H2.out _).mono ?_; rintro e w' ⟨rfl, rfl⟩))
          refine bodyPost_ret (v := .tuple #[.agg #[.int .i64 d, .int .i64 u, .int .i64 (s + n), .bool false], .int .i64 0]) (by simp [results, Tryz.results12, go_sem]) rfl ⟨?_, HZ.out _ _ _⟩
          simp
      · go_enter Tryz.func12, Tryz.ntmps12
        go_wp2_with (first | (go_at_call 58; refine (right_any _ _ _ _ _ H1.out _).mono ?_; rintro e w' ⟨rfl, rfl⟩) | (go_at_call 59; refine (fine_any _ _ H2.out _).mono ?_; rintro e w' ⟨rfl, rfl⟩))
        refine bodyPost_ret (v := .tuple #[.agg #[.int .i64 0, .int .i64 0, .int .i64 0, .bool false], .int .i64 7]) (by simp [results, Tryz.results12, go_sem]) rfl ⟨?_, HZ.out _ _ _⟩
        simp [noLoan]

set_option maxRecDepth 100000 in
set_option maxHeartbeats 1000000 in
theorem Return_any (d u s : Int) (b : Bool) (r : LoanV × Int) (hr : returnF ⟨d, u, s, b⟩ = r) (w : World) :
    Calls Tryz.prog 56 #[.agg #[.int .i64 d, .int .i64 u, .int .i64 s, .bool b]] w (LoanRet w r) := by
  subst hr
  have HZ := Lib.hid (below3 w)
  unfold returnF
  rcases h1 : LoanV.right ⟨d, u, s, b⟩ with _ | _
  · have H1 := Lib.hid h1
    clear h1
    go_enter Tryz.func56, Tryz.ntmps56
    go_wp2_with (go_at_call 58; refine (right_any _ _ _ _ _ H1.out _).mono ?_; rintro e w' ⟨rfl, rfl⟩)
    refine bodyPost_ret (v := .tuple #[.agg #[.int .i64 0, .int .i64 0, .int .i64 0, .bool false], .int .i64 1]) (by simp [results, Tryz.results56, go_sem]) rfl ⟨?_, HZ.out _ _ _⟩
    simp [noLoan]
  · have H1 := Lib.hid h1
    clear h1
    rcases b with _ | _
    · go_enter Tryz.func56, Tryz.ntmps56
      go_wp2_with (go_at_call 58; refine (right_any _ _ _ _ _ H1.out _).mono ?_; rintro e w' ⟨rfl, rfl⟩)
      refine bodyPost_ret (v := .tuple #[.agg #[.int .i64 d, .int .i64 u, .int .i64 s, .bool true], .int .i64 0]) (by simp [results, Tryz.results56, go_sem]) rfl ⟨?_, HZ.out _ _ _⟩
      simp
    · go_enter Tryz.func56, Tryz.ntmps56
      go_wp2_with (go_at_call 58; refine (right_any _ _ _ _ _ H1.out _).mono ?_; rintro e w' ⟨rfl, rfl⟩)
      refine bodyPost_ret (v := .tuple #[.agg #[.int .i64 0, .int .i64 0, .int .i64 0, .bool false], .int .i64 7]) (by simp [results, Tryz.results56, go_sem]) rfl ⟨?_, HZ.out _ _ _⟩
      simp [noLoan]



end Go.Proofs.YtjncmlglhegnaaaGreatDoor
