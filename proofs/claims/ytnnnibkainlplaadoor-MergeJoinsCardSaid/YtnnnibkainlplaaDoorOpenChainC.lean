/- Lists of entries that came in, with their capacity. -/
import Derived.Test.YtnnnibkainlplaaDoorOpenChain
import Derived.Test.YtnnnibkainlplaaDoorSlCut
namespace Go.Proofs.YtnnnibkainlplaaDoor
open Go.ChangeShapes Go.WideShapes Go.RowKit Go.Deep Go.Joins

section
set_option maxRecDepth 100000
variable {H : Type} {enc : TypeId × Value → H} {w : World} {base : Nat} {spare : Nat → Bool} {held : Bool}
theorem open_EntsC {r : Reach} {b0 : Nat} {v : Value} {d : DataW H} {p : List MemPlace} (hv : Value.okWide Tryd.prog w r b0 22 v) (h : DataW.Trod enc Tryd.prog w base spare held 22 v d p) :
    ∃ (A : Option Addr) (n c : Nat) (l : List EntC), v = .slice A n c ∧ Sl w 5 A n (l.map EntC.cells) ∧ n ≤ c ∧ ∀ u ∈ l, EntAt w u := by
  obtain ⟨a0, len0, cap0, rfl⟩ := okWide_slice Tryd.underlying22 hv
  obtain ⟨fuel, h⟩ := h
  obtain ⟨A, n, c, l, h1, h2, _, h3, h4⟩ := open_elemsC Tryd.underlying22 cellsEnt (by omega) EntC.cells (fun u => EntAt w u ∧ u.v.text.length ≤ maxLen) ent_cells h
  exact ⟨A, n, c, l, h1, h2, h3, fun u hu => (h4 u hu).1⟩
end
end Go.Proofs.YtnnnibkainlplaaDoor
