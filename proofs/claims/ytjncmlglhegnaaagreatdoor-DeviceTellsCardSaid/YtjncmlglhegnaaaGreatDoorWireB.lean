/- wire: the reference's reader in memory; Open, Left, Done, Tail, fail, close, walked. -/
import Derived.Test.YtjncmlglhegnaaaGreatDoorWireQ
namespace Go.Proofs.YtjncmlglhegnaaaGreatDoor
open Go.RowKit

set_option maxRecDepth 100000 in
set_option maxHeartbeats 1000000 in
theorem Rfail_any {w : World} {b : Nat} {r : RdV} (h : RdAt w b r) :
    Calls Tryz.prog 197 #[.pointer (some ⟨b, 0, none⟩)] w fun e w' => e = .returned (.int .i64 0) ∧ RdAt w' b .fail ∧ w.grownBy w' (some b) := by
  have H2 := Lib.hid (h.set2 [] true)
  have G2 := Lib.hid (grown_set2 w b 0 1 (.string ⟨#[]⟩) (.bool true))
  obtain ⟨z, k, f⟩ := h
  go_enter Tryz.func197, Tryz.ntmps197
  go_wp2_with (fail)
  go_ret
  exact ⟨rfl, H2.out, G2.out⟩
set_option maxRecDepth 100000 in
set_option maxHeartbeats 1000000 in
theorem RDone_any {w : World} {b : Nat} {r : RdV} (h : RdAt w b r) (d : Bool) (hd : doneB r = d) :
    Calls Tryz.prog 168 #[.pointer (some ⟨b, 0, none⟩)] w fun e w' => e = .returned (.bool d) ∧ w = w' := by
  subst hd
  obtain ⟨l, x⟩ := r
  obtain ⟨z, k, f⟩ := h
  cases x
  · by_cases hl : l = []
    · subst hl
      go_enter Tryz.func168, Tryz.ntmps168
      go_wp2_with (fail)
      go_ret
      exact ⟨by simp [doneB], rfl⟩
    · go_enter Tryz.func168, Tryz.ntmps168
      go_wp2_with (fail)
      go_ret
      exact ⟨by simp [doneB, hl], rfl⟩
  · go_enter Tryz.func168, Tryz.ntmps168
    go_wp2_with (fail)
    go_ret
    exact ⟨by simp [doneB], rfl⟩
set_option maxRecDepth 100000 in
set_option maxHeartbeats 1000000 in
theorem ROpen_any (w : World) (s : List UInt8) :
    Calls Tryz.prog 161 #[.string ⟨s.toArray⟩] w fun e w' => e = .returned (.pointer (some ⟨w.heap.size, 0, none⟩)) ∧ RdAt w' w.heap.size ⟨s, false⟩ ∧ Below w.heap.size w w' := by
  go_enter Tryz.func161, Tryz.ntmps161
  go_wp2_with (fail)
  go_ret
  exact ⟨rfl, Loc.new_ _ _ _, below_alloc w _⟩
end Go.Proofs.YtjncmlglhegnaaaGreatDoor
