/- Opening a list of bytes that came in. -/
import Derived.Test.YtnnnibkainlplaaDoorOpen
namespace Go.Proofs.YtnnnibkainlplaaDoor
open Go.ChangeShapes Go.WideShapes Go.RowKit Go.Deep Go.Joins
section
set_option maxRecDepth 100000
variable {H : Type} {enc : TypeId × Value → H} {w : World} {base : Nat} {spare : Nat → Bool} {held : Bool}
theorem cellsByte : Tryd.prog.cellsOf 5 = 1 := by kernel_rfl
theorem byte_cells (n : Nat) (cs : List Value) (x : DataW H × List MemPlace) (h : DataW.trod enc Tryd.prog w base spare held n 5 cs = some x) (_hl : cs.length = 1) : ∃ o : Int, cs = [.int .u8 o] ∧ (0 ≤ o ∧ o ≤ 255) := by
  obtain ⟨n0, e0, _, w0⟩ := DataW.trod_int Tryd.underlying5 h
  exact ⟨n0, e0, bounds_u8 w0⟩
theorem open_Bytes {r : Reach} {b0 : Nat} {v : Value} {d : DataW H} {p : List MemPlace} (hv : Value.okWide Tryd.prog w r b0 23 v) (h : DataW.Trod enc Tryd.prog w base spare held 23 v d p) :
    ∃ (A : Option Addr) (n c : Nat) (os : List Int), v = .slice A n c ∧ Sl w 1 A n (os.map fun o => [.int .u8 o]) ∧ n ≤ maxLen ∧ ∀ o ∈ os, 0 ≤ o ∧ o ≤ 255 := by
  obtain ⟨a0, len0, cap0, rfl⟩ := okWide_slice Tryd.underlying23 hv
  obtain ⟨fuel, h⟩ := h
  exact open_elems Tryd.underlying23 cellsByte (by omega) (fun o => [.int .u8 o]) (fun o => 0 ≤ o ∧ o ≤ 255) byte_cells h
end
end Go.Proofs.YtnnnibkainlplaaDoor
