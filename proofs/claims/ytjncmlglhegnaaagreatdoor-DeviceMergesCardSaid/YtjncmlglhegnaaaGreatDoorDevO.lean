/- kerbsideref49: Reserved, SpendText, walked. -/
import Derived.Test.YtjncmlglhegnaaaGreatDoorDevN
import Derived.Test.YtjncmlglhegnaaaGreatDoorDevR
import Derived.Test.YtjncmlglhegnaaaGreatDoorWireF
import Derived.Test.YtjncmlglhegnaaaGreatDoorChainI
namespace Go.Proofs.YtjncmlglhegnaaaGreatDoor
open Go.RowKit Go.Sort Go.Lib

set_option maxRecDepth 100000 in
set_option maxHeartbeats 1000000 in
theorem RSpendText_any (w : World) (n : Int) (h0 : -9223372036854775808 ≤ n) (h1 : n ≤ 9223372036854775807) (s : List UInt8) (hs : spendT n = s) :
    Calls Tryz.prog 13 #[.int .i64 n] w fun e w' => e = .returned (.string ⟨s.toArray⟩) ∧ Below w.heap.size w w' := by
  obtain ⟨q, hqn⟩ : ∃ q, encN n = q := ⟨_, rfl⟩
  have hql : q.length ≤ 21 := by
    rw [← hqn]
    unfold encN
    split
    · simp
    · exact encI_len ⟨by omega, by omega⟩
  have hst : [33, 115] ++ q = s := by rw [← hs]; unfold spendT; rw [hqn]
  have HN := Lib.hid (fun W => RNum_any W n h0 h1 q hqn)
  have hz := str_size q
  have z1 : ((⟨#[33, 115]⟩ : ByteArray) ++ ⟨q.toArray⟩) = ⟨s.toArray⟩ := by
    have := str_app [33, 115] q
    have e : (⟨#[33, 115]⟩ : ByteArray) = ⟨([33, 115] : List UInt8).toArray⟩ := rfl
    rw [e, this, hst]
  have i1 : ¬ 9223372036854775807 < 2 + q.length := by omega
  clear hs hst hqn h0 h1
  go_enter Tryz.func13, Tryz.ntmps13
  go_wp2_with (fail)
  ((with_reducible refine (HN.out _).mono ?_); rintro _ w1 ⟨rfl, hb1⟩)
  have HB1 := Lib.hid hb1
  clear hb1
  go_wp2_with (fail)
  go_ret
  exact ⟨rfl, HB1.out⟩
end Go.Proofs.YtjncmlglhegnaaaGreatDoor
