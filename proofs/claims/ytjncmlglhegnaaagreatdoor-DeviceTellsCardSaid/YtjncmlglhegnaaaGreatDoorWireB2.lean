/- wire: Left, Rest, walked. -/
/- wire: the reference reader's Left, Tail, walked. -/
import Derived.Test.YtjncmlglhegnaaaGreatDoorWireQ
import Derived.Test.YtjncmlglhegnaaaGreatDoorWireB
namespace Go.Proofs.YtjncmlglhegnaaaGreatDoor
open Go.RowKit

end Go.Proofs.YtjncmlglhegnaaaGreatDoor
namespace Go.Proofs.YtjncmlglhegnaaaGreatDoor
open Go.RowKit

set_option maxRecDepth 100000 in
set_option maxHeartbeats 1000000 in
theorem RLeft_any {w : World} {b : Nat} {r : RdV} (h : RdAt w b r) (n : Int) (hn : (r.rest.length : Int) = n) :
    Calls Tryz.prog 162 #[.pointer (some ⟨b, 0, none⟩)] w fun e w' => e = .returned (.int .i64 n) ∧ w = w' := by
  subst hn
  obtain ⟨z, k, f⟩ := h
  go_enter Tryz.func162, Tryz.ntmps162
  go_wp2_with (fail)
  go_ret
  exact ⟨rfl, rfl⟩
end Go.Proofs.YtjncmlglhegnaaaGreatDoor
