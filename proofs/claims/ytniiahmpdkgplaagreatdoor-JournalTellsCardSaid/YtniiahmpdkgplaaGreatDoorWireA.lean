/- wire: a reader in memory; Open, Left, Done, Rest, fail, walked (both readers). -/
import Derived.Test.YtniiahmpdkgplaaGreatDoorBase4
import Derived.Test.YtniiahmpdkgplaaGreatDoorWireP3
namespace Go.Proofs.YtniiahmpdkgplaaGreatDoor
open Go.RowKit

/-- a reader's two cells -/
def RdAt (w : World) (b : Nat) (r : RdV) : Prop := Loc w b #[.string ⟨r.rest.toArray⟩, .bool r.bad]
theorem RdAt.set2 {w : World} {b : Nat} {r : RdV} (h : RdAt w b r) (t : List UInt8) (x : Bool) : RdAt ((w.setCell ⟨b, 0, none⟩ (.string ⟨t.toArray⟩)).setCell ⟨b, 1, none⟩ (.bool x)) b ⟨t, x⟩ := (h.set_ 0 (.string ⟨t.toArray⟩)).set_ 1 (.bool x)
theorem RdAt.set1 {w : World} {b : Nat} {r : RdV} (h : RdAt w b r) (t : List UInt8) : RdAt (w.setCell ⟨b, 0, none⟩ (.string ⟨t.toArray⟩)) b ⟨t, r.bad⟩ := h.set_ 0 (.string ⟨t.toArray⟩)
theorem grown_set2 (w : World) (b i j : Nat) (u v : Value) : w.grownBy ((w.setCell ⟨b, i, none⟩ u).setCell ⟨b, j, none⟩ v) (some b) := (grownBy_setCell w ⟨b, i, none⟩ u).trans (grownBy_setCell _ ⟨b, j, none⟩ v)
set_option maxRecDepth 100000 in
set_option maxHeartbeats 1000000 in
theorem fail_any {w : World} {b : Nat} {r : RdV} (h : RdAt w b r) :
    Calls Tryz.prog 74 #[.pointer (some ⟨b, 0, none⟩)] w fun e w' => e = .returned (.tuple #[]) ∧ RdAt w' b .fail ∧ w.grownBy w' (some b) := by
  have H2 := Lib.hid (h.set2 [] true)
  have G2 := Lib.hid (grown_set2 w b 0 1 (.string ⟨#[]⟩) (.bool true))
  obtain ⟨z, k, f⟩ := h
  go_enter Tryz.func74, Tryz.ntmps74
  go_wp2_with (fail)
  first
    | exact bodyPost_ret (v := .tuple #[]) (by simp [results, Tryz.results74, go_sem]) rfl ⟨rfl, H2.out, G2.out⟩
    | exact ⟨rfl, .tuple #[], by simp [results, Tryz.results74, go_sem], rfl, H2.out, G2.out⟩
    | exact ⟨rfl, _, rfl, rfl, H2.out, G2.out⟩
def doneB (r : RdV) : Bool := !r.bad && decide (r.rest = [])
set_option maxRecDepth 100000 in
set_option maxHeartbeats 1000000 in
theorem Open_any (w : World) (s : List UInt8) :
    Calls Tryz.prog 52 #[.string ⟨s.toArray⟩] w fun e w' => e = .returned (.pointer (some ⟨w.heap.size, 0, none⟩)) ∧ RdAt w' w.heap.size ⟨s, false⟩ ∧ Below w.heap.size w w' := by
  go_enter Tryz.func52, Tryz.ntmps52
  go_wp2_with (fail)
  go_ret
  exact ⟨rfl, Loc.new_ _ _ _, below_alloc w _⟩
end Go.Proofs.YtniiahmpdkgplaaGreatDoor
