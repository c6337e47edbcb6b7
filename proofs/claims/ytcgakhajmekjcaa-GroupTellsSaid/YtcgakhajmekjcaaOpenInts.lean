/- Opening lists of ints that came in. -/
import Derived.Test.YtcgakhajmekjcaaOpen
import Derived.Test.YtcgakhajmekjcaaGrpA
import Derived.ChangeArms
namespace Go.Proofs.Ytcgakhajmekjcaa
open Go.ChangeShapes Go.WideShapes Go.RowKit Go.Deep Go.Joins

section
variable {H : Type} {enc : TypeId × Value → H} {w : World} {base : Nat} {spare : Nat → Bool} {held : Bool}
theorem cellsIntG : Try.prog.cellsOf 3 = 1 := by kernel_rfl
theorem int_cellsG (n : Nat) (cs : List Value) (x : DataW H × List MemPlace) (h : DataW.trod enc Try.prog w base spare held n 3 cs = some x) (_hl : cs.length = 1) : ∃ o : Int, cs = [.int .i64 o] ∧ True := by
  obtain ⟨n0, e0, _, w0⟩ := DataW.trod_int Try.underlying3 h
  exact ⟨n0, e0, trivial⟩
theorem open_Ints {r : Reach} {b0 : Nat} {v : Value} {d : DataW H} {p : List MemPlace} (hv : Value.okWide Try.prog w r b0 22 v) (h : DataW.Trod enc Try.prog w base spare held 22 v d p) :
    ∃ (A : Option Addr) (n c : Nat) (ks : List Int), v = .slice A n c ∧ Ints w A n ks ∧ n ≤ maxLen := by
  obtain ⟨a0, len0, cap0, rfl⟩ := okWide_slice Try.underlying22 hv
  obtain ⟨fuel, h⟩ := h
  obtain ⟨A, n, c, l, h1, h2, h3, _⟩ := open_elems Try.underlying22 cellsIntG (by omega) (fun o => [.int .i64 o]) (fun _ => True) int_cellsG h
  exact ⟨A, n, c, l, h1, h2, h3⟩
end
end Go.Proofs.Ytcgakhajmekjcaa
