/- wire: the reference's reader in memory; Open, Left, Done, Tail, fail, close, walked. -/
import Derived.Test.YtmceahmngifcgaaDoorWireA
namespace Go.Proofs.YtmceahmngifcgaaDoor
open Go.RowKit

set_option maxHeartbeats 1000000 in
theorem Rfail_any {w : World} {b : Nat} {r : RdV} (h : RdAt w b r) :
    Calls Tryd.prog 56 #[.pointer (some ⟨b, 0, none⟩)] w fun e w' => e = .returned (.int .i64 0) ∧ RdAt w' b .fail ∧ w.grownBy w' (some b) := by
  have H2 := Lib.hid (h.set2 [] true)
  have G2 := Lib.hid (grown_set2 w b 0 1 (.string ⟨#[]⟩) (.bool true))
  obtain ⟨z, k, f⟩ := h
  go_enter Tryd.func56, Tryd.ntmps56
  go_wp2_with (fail)
  go_ret
  exact ⟨rfl, H2.out, G2.out⟩
set_option maxHeartbeats 1000000 in
theorem RLeft_any {w : World} {b : Nat} {r : RdV} (h : RdAt w b r) (n : Int) (hn : (r.rest.length : Int) = n) :
    Calls Tryd.prog 40 #[.pointer (some ⟨b, 0, none⟩)] w fun e w' => e = .returned (.int .i64 n) ∧ w = w' := by
  subst hn
  obtain ⟨z, k, f⟩ := h
  go_enter Tryd.func40, Tryd.ntmps40
  go_wp2_with (fail)
  go_ret
  exact ⟨rfl, rfl⟩
set_option maxHeartbeats 1000000 in
theorem RRest_any {w : World} {b : Nat} {r : RdV} (h : RdAt w b r) (s : List UInt8) (hs : r.rest = s) :
    Calls Tryd.prog 43 #[.pointer (some ⟨b, 0, none⟩)] w fun e w' => e = .returned (.string ⟨s.toArray⟩) ∧ RdAt w' b ⟨[], r.bad⟩ ∧ w.grownBy w' (some b) := by
  subst hs
  have H2 := Lib.hid (h.set1 [])
  have G2 := Lib.hid (grownBy_setCell w ⟨b, 0, none⟩ (.string ⟨#[]⟩))
  obtain ⟨z, k, f⟩ := h
  go_enter Tryd.func43, Tryd.ntmps43
  go_wp2_with (fail)
  go_ret
  exact ⟨rfl, H2.out, G2.out⟩
set_option maxHeartbeats 1000000 in
theorem RDone_any {w : World} {b : Nat} {r : RdV} (h : RdAt w b r) (d : Bool) (hd : doneB r = d) :
    Calls Tryd.prog 41 #[.pointer (some ⟨b, 0, none⟩)] w fun e w' => e = .returned (.bool d) ∧ w = w' := by
  subst hd
  obtain ⟨l, x⟩ := r
  obtain ⟨z, k, f⟩ := h
  cases x
  · by_cases hl : l = []
    · subst hl
      go_enter Tryd.func41, Tryd.ntmps41
      go_wp2_with (fail)
      go_ret
      exact ⟨by simp [doneB], rfl⟩
    · go_enter Tryd.func41, Tryd.ntmps41
      go_wp2_with (fail)
      go_ret
      exact ⟨by simp [doneB, hl], rfl⟩
  · go_enter Tryd.func41, Tryd.ntmps41
    go_wp2_with (fail)
    go_ret
    exact ⟨by simp [doneB], rfl⟩
set_option maxHeartbeats 1000000 in
theorem ROpen_any (w : World) (s : List UInt8) :
    Calls Tryd.prog 32 #[.string ⟨s.toArray⟩] w fun e w' => e = .returned (.pointer (some ⟨w.heap.size, 0, none⟩)) ∧ RdAt w' w.heap.size ⟨s, false⟩ ∧ Below w.heap.size w w' := by
  go_enter Tryd.func32, Tryd.ntmps32
  go_wp2_with (fail)
  go_ret
  exact ⟨rfl, Loc.new_ _ _ _, below_alloc w _⟩
end Go.Proofs.YtmceahmngifcgaaDoor
