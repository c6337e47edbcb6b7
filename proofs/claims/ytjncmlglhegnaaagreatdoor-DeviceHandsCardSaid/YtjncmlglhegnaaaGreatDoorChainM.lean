/- chain: the reference's Few, the laws' seen and entry, walked. -/
import Derived.Test.YtjncmlglhegnaaaGreatDoorChainLP
namespace Go.Proofs.YtjncmlglhegnaaaGreatDoor
open Go.RowKit Go.Sort Go.Lib

/-- what Few leaves -/
def FewPost (w : World) (l : List EntC) (most : Nat) (e : Ending) (w' : World) : Prop := ∃ k : Bool, e = .returned (.bool k) ∧ (k = true → (∀ x ∈ l, plainB x.v = true) ∧ (l.length ≤ most ∨ (400 < l.length ∧ l.length ≤ 420))) ∧ Below w.heap.size w w'
theorem FewPost.no {w w' : World} {l : List EntC} {most : Nat} (h : Below w.heap.size w w') : FewPost w l most (.returned (.bool false)) w' := ⟨false, rfl, (fun h => by cases h), h⟩
end Go.Proofs.YtjncmlglhegnaaaGreatDoor
