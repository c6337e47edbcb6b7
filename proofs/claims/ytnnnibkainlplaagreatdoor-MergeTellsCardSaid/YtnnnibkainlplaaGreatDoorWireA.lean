/- wire: a reader in memory; Open, Left, Done, Rest, fail, walked (both readers). -/
import Derived.Test.YtnnnibkainlplaaGreatDoorBase4
import Derived.Test.YtnnnibkainlplaaGreatDoorMtP
namespace Go.Proofs.YtnnnibkainlplaaGreatDoor
open Go.RowKit

/-- a reader's two cells -/
def RdAt (w : World) (b : Nat) (r : RdV) : Prop := Loc w b #[.string ⟨r.rest.toArray⟩, .bool r.bad]
theorem RdAt.set2 {w : World} {b : Nat} {r : RdV} (h : RdAt w b r) (t : List UInt8) (x : Bool) : RdAt ((w.setCell ⟨b, 0, none⟩ (.string ⟨t.toArray⟩)).setCell ⟨b, 1, none⟩ (.bool x)) b ⟨t, x⟩ := (h.set_ 0 (.string ⟨t.toArray⟩)).set_ 1 (.bool x)
theorem RdAt.set1 {w : World} {b : Nat} {r : RdV} (h : RdAt w b r) (t : List UInt8) : RdAt (w.setCell ⟨b, 0, none⟩ (.string ⟨t.toArray⟩)) b ⟨t, r.bad⟩ := h.set_ 0 (.string ⟨t.toArray⟩)
theorem grown_set2 (w : World) (b i j : Nat) (u v : Value) : w.grownBy ((w.setCell ⟨b, i, none⟩ u).setCell ⟨b, j, none⟩ v) (some b) := (grownBy_setCell w ⟨b, i, none⟩ u).trans (grownBy_setCell _ ⟨b, j, none⟩ v)
def doneB (r : RdV) : Bool := !r.bad && decide (r.rest = [])
end Go.Proofs.YtnnnibkainlplaaGreatDoor
