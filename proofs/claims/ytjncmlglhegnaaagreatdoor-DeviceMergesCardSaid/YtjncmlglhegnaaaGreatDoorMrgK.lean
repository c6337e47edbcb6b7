/- merge: the references' SameChain, Has, Few, SameRefs, the law's has, walked. -/
import Derived.Test.YtjncmlglhegnaaaGreatDoorChainK
import Derived.Test.YtjncmlglhegnaaaGreatDoorChainF
import Derived.Test.YtjncmlglhegnaaaGreatDoorMrgX
import Derived.Test.YtjncmlglhegnaaaGreatDoorSameC
import Derived.Deep.RegionHeld3
import Derived.Deep.DeepCutAuto
namespace Go.Proofs.YtjncmlglhegnaaaGreatDoor
open Go.RowKit Go.Sort Go.Lib

/-- what Few of the merge's reference leaves -/
def FewM (w : World) (l : List EntC) (most : Nat) (e : Ending) (w' : World) : Prop := ∃ k : Bool, e = .returned (.bool k) ∧ (k = true → (∀ x ∈ l, x.v.seen.length ≤ 12 ∧ x.v.text.length ≤ 200) ∧ l.length ≤ most) ∧ Below w.heap.size w w'
theorem FewM.no {w w' : World} {l : List EntC} {most : Nat} (h : Below w.heap.size w w') : FewM w l most (.returned (.bool false)) w' := ⟨false, rfl, (fun h => by cases h), h⟩
/-- an entry that is missing: device and number -/
def refC (p : Nat × Nat) : List Value := [.int .i64 (p.1 : Int), .int .i64 (p.2 : Int)]
end Go.Proofs.YtjncmlglhegnaaaGreatDoor
