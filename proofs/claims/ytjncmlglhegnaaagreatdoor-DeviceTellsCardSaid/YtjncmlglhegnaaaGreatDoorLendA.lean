/- lend: the leaf functions, walked. -/
import Derived.Test.YtjncmlglhegnaaaGreatDoorBase4
namespace Go.Proofs.YtjncmlglhegnaaaGreatDoor
open Go.RowKit

/-- a number of units that can be spent or lent -/
def fineB (n : Int) : Bool := decide (1 ≤ n) && decide (n ≤ 1099511627776)
/-- a loan as four numbers -/
structure LoanV where
  device : Int
  units : Int
  spent : Int
  back : Bool
  deriving DecidableEq
def LoanV.cells (l : LoanV) : List Value := [.int .i64 l.device, .int .i64 l.units, .int .i64 l.spent, .bool l.back]
def loanB (d u s : Int) : Bool := decide (0 ≤ d) && decide (d < 8) && fineB u && decide (0 ≤ s) && decide (s ≤ u)
def LoanV.right (l : LoanV) : Bool := loanB l.device l.units l.spent
def LoanV.committed (l : LoanV) : Int := if l.back then l.spent else l.units

set_option maxRecDepth 100000 in
set_option maxHeartbeats 400000 in
theorem fine_any (n : Int) (r : Bool) (hr : fineB n = r) (w : World) :
    Calls Tryz.prog 59 #[.int .i64 n] w fun e w' => e = .returned (.bool r) ∧ w = w' := by
  have HR := Lib.hid hr
  clear hr
  go_enter Tryz.func59, Tryz.ntmps59
  go_wp2
  all_goals go_ret
  all_goals refine ⟨ret_bool ?_, rfl⟩
  · rw [← HR.out]; simp [fineB, *]
  · rw [← HR.out]; simp [fineB]; omega

set_option maxRecDepth 100000 in
set_option maxHeartbeats 400000 in
theorem right_any (d u s : Int) (b r : Bool) (hr : LoanV.right ⟨d, u, s, b⟩ = r) (w : World) :
    Calls Tryz.prog 58 #[.agg #[.int .i64 d, .int .i64 u, .int .i64 s, .bool b]] w fun e w' => e = .returned (.bool r) ∧ w.alloc (.cells #[.int .i64 d, .int .i64 u, .int .i64 s, .bool b] 24) = w' := by
  have HR := Lib.hid hr
  clear hr
  go_enter Tryz.func58, Tryz.ntmps58
  go_wp2_with (go_at_call 59; refine (fine_any _ _ rfl _).mono ?_; rintro e w' ⟨rfl, rfl⟩)
  all_goals go_ret
  all_goals refine ⟨ret_bool ?_, rfl⟩
  all_goals rw [← HR.out]
  all_goals simp only [LoanV.right, loanB]
  all_goals first | (simp [*]; done) | (simp [*]; omega)


/-- a stock -/
structure StockV where
  total : Int
  spent : Int
  loans : List LoanV
  deriving DecidableEq
/-- what is left of 'left' behind the loans, if all of them are right -/
def leftOf (left : Int) : List LoanV → Option Int
  | [] => some left
  | l :: r => if l.right then leftOf (left - l.committed) r else none
def StockV.small (s : StockV) : Bool := decide (0 ≤ s.total) && decide (s.total ≤ 1099511627776) && decide (0 ≤ s.spent) && decide (s.spent ≤ s.total) && decide (s.loans.length ≤ 100)
/-- the free units, and whether the stock is right -/
def StockV.free (s : StockV) : Int × Bool :=
  if s.small then match leftOf (s.total - s.spent) s.loans with | some v => (v, decide (0 ≤ v)) | none => (0, false) else (0, false)




end Go.Proofs.YtjncmlglhegnaaaGreatDoor
