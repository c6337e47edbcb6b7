/- Opening a stock and a loan that came in. -/
import Derived.Test.YtfohjkddcinfmaaOpen
import Derived.Test.YtfohjkddcinfmaaLendA
namespace Go.Proofs.Ytfohjkddcinfmaa
open Go.ChangeShapes Go.WideShapes Go.RowKit Go.Deep Go.Joins

section
variable {H : Type} {enc : TypeId × Value → H} {w : World} {base : Nat} {spare : Nat → Bool} {held : Bool}
theorem cellsLoan : Try.prog.cellsOf 26 = 4 := by kernel_rfl
theorem cellsStock : Try.prog.cellsOf 24 = 3 := by kernel_rfl
theorem cellsInt : Try.prog.cellsOf 3 = 1 := by kernel_rfl
theorem cellsBool : Try.prog.cellsOf 4 = 1 := by kernel_rfl
theorem loan_cells (n : Nat) (cs : List Value) (x : DataW H × List MemPlace) (h : DataW.trod enc Try.prog w base spare held n 26 cs = some x) (hl : cs.length = 4) : ∃ l : LoanV, cs = l.cells ∧ True := by
  match cs, hl with
  | [a0, a1, a2, a3], _ =>
    obtain ⟨y0, y1, y2, y3, k, _, _, h0, h1, h2, h3⟩ := trod_struct4 Try.underlying26 h
    simp [cellsInt, cellsBool] at h0 h1 h2 h3
    obtain ⟨n0, e0, _⟩ := DataW.trod_int Try.underlying3 h0
    obtain ⟨n1, e1, _⟩ := DataW.trod_int Try.underlying3 h1
    obtain ⟨n2, e2, _⟩ := DataW.trod_int Try.underlying3 h2
    obtain ⟨b3, e3, _⟩ := DataW.trod_bool Try.underlying4 h3
    simp at e0 e1 e2 e3
    subst e0 e1 e2 e3
    exact ⟨⟨n0, n1, n2, b3⟩, rfl, trivial⟩
theorem open_Loan {r : Reach} {b0 : Nat} {v : Value} {d : DataW H} {p : List MemPlace} (hv : Value.okWide Try.prog w r b0 26 v) (h : DataW.Trod enc Try.prog w base spare held 26 v d p) :
    ∃ (d u s : Int) (b : Bool), v = .agg #[.int .i64 d, .int .i64 u, .int .i64 s, .bool b] := by
  obtain ⟨v0, v1, v2, v3, y0, y1, y2, y3, n, rfl, _, _, h0, h1, h2, h3⟩ := open_agg4 Try.underlying26 (by kernel_rfl) cellsLoan hv h
  obtain ⟨n0, e0, _⟩ := DataW.trod_int Try.underlying3 h0
  obtain ⟨n1, e1, _⟩ := DataW.trod_int Try.underlying3 h1
  obtain ⟨n2, e2, _⟩ := DataW.trod_int Try.underlying3 h2
  obtain ⟨b3, e3, _⟩ := DataW.trod_bool Try.underlying4 h3
  simp at e0 e1 e2 e3
  subst e0 e1 e2 e3
  exact ⟨_, _, _, _, rfl⟩
theorem open_Stock {r : Reach} {b0 : Nat} {v : Value} {d : DataW H} {p : List MemPlace} (hv : Value.okWide Try.prog w r b0 24 v) (h : DataW.Trod enc Try.prog w base spare held 24 v d p) :
    ∃ (t s : Int) (A : Option Addr) (n c : Nat) (ls : List LoanV), v = .agg #[.int .i64 t, .int .i64 s, .slice A n c] ∧ Sl w 4 A n (ls.map LoanV.cells) ∧ n ≤ maxLen := by
  obtain ⟨v0, v1, v2, y0, y1, y2, n, rfl, _, _, h0, h1, h2⟩ := open_agg3 Try.underlying24 (by kernel_rfl) cellsStock hv h
  obtain ⟨n0, e0, _⟩ := DataW.trod_int Try.underlying3 h0
  obtain ⟨n1, e1, _⟩ := DataW.trod_int Try.underlying3 h1
  simp at e0 e1
  subst e0 e1
  obtain ⟨A, m, c, ls, rfl, hs, hm, _⟩ := open_elems Try.underlying22 cellsLoan (by omega) LoanV.cells (fun _ => True) loan_cells h2
  exact ⟨_, _, A, m, c, ls, rfl, hs, hm⟩
end
end Go.Proofs.Ytfohjkddcinfmaa
