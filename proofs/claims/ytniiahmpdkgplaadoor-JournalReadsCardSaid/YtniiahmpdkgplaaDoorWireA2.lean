/- wire: Left, Rest, walked. -/
import Derived.Test.YtniiahmpdkgplaaDoorWireA
namespace Go.Proofs.YtniiahmpdkgplaaDoor
open Go.RowKit

set_option maxRecDepth 100000 in
set_option maxHeartbeats 1000000 in
theorem Left_any {w : World} {b : Nat} {r : RdV} (h : RdAt w b r) (n : Int) (hn : (r.rest.length : Int) = n) :
    Calls Tryd.prog 20 #[.pointer (some ⟨b, 0, none⟩)] w fun e w' => e = .returned (.int .i64 n) ∧ w = w' := by
  subst hn
  obtain ⟨z, k, f⟩ := h
  go_enter Tryd.func20, Tryd.ntmps20
  go_wp2_with (fail)
  go_ret
  exact ⟨rfl, rfl⟩
end Go.Proofs.YtniiahmpdkgplaaDoor
