/- merge: the reference's before and put, walked. -/
import Derived.Test.YtnnnibkainlplaaGreatDoorMtP
import Derived.Test.YtnnnibkainlplaaGreatDoorMrgA
import Derived.Test.YtnnnibkainlplaaGreatDoorChainRC
import Derived.Test.YtnnnibkainlplaaGreatDoorMrgX
namespace Go.Proofs.YtnnnibkainlplaaGreatDoor
open Go.RowKit Go.Sort Go.Lib

set_option maxRecDepth 100000 in
set_option maxHeartbeats 2000000 in
theorem before_any (w : World) (x y : EntC) (hx : EntAt w x) (hy : EntAt w y) (rx : RightE x.v) (ry : RightE y.v) (r : Bool) (hr : r = true ↔ ltE x.v y.v) :
    Calls Tryz.prog 48 #[.agg x.cells.toArray, .agg y.cells.toArray] w fun e w' => e = .returned (.bool r) ∧ Below w.heap.size w w' := by
  have hxl : x.v.seen.length ≤ 1099511627776 ∧ x.v.text.length ≤ 140737488351232 := ⟨by rw [rx.len]; omega, Nat.le_trans rx.txt (by omega)⟩
  have hyl : y.v.seen.length ≤ 1099511627776 ∧ y.v.text.length ≤ 140737488351232 := ⟨by rw [ry.len]; omega, Nat.le_trans ry.txt (by omega)⟩
  have HEX := Lib.hid (fun W (hb : Below w.heap.size w W) => REncode_any W x (hx.below hb) hxl (encE x.v, true) (encodeF_right rx))
  have HEY := Lib.hid (fun W (hb : Below w.heap.size w W) => REncode_any W y (hy.below hb) hyl (encE y.v, true) (encodeF_right ry))
  have LX := Lib.hid (Loc.new_ w (EntC.cells x).toArray 37)
  have LY := Lib.hid (Loc.new_ (w.alloc (.cells (EntC.cells x).toArray 37)) (EntC.cells y).toArray 37)
  have HB0 := Lib.hid ((below_alloc w (.cells (EntC.cells x).toArray 37)).alloc (by simp) (.cells (EntC.cells y).toArray 37))
  replace LX := Lib.hid (LX.out.alloc (.cells (EntC.cells y).toArray 37))
  rw [World.size_alloc] at LY
  simp only [EntC.cells] at LX LY HB0 HEX HEY ⊢
  have HR := Lib.hid hr
  clear hx hy rx ry hr hxl hyl
  go_enter Tryz.func48, Tryz.ntmps48
  by_cases hd : x.v.dev = y.v.dev
  case neg =>
    have hdb : (x.v.dev == y.v.dev) = false := beq_eq_false_iff_ne.2 hd
    have hr : decide (x.v.dev < y.v.dev) = r := by
      rw [Bool.eq_iff_iff, decide_eq_true_eq, HR.out]
      unfold ltE
      exact ⟨.inl, fun h => h.elim id fun h => absurd h.1 hd⟩
    subst hr
    go_wp2_with (fail)
    go_ret
    exact ⟨rfl, HB0.out⟩
  have hdb : (x.v.dev == y.v.dev) = true := by simp [hd]
  by_cases hn : x.v.no = y.v.no
  case neg =>
    have hnb : (x.v.no == y.v.no) = false := beq_eq_false_iff_ne.2 hn
    have hr : decide (x.v.no < y.v.no) = r := by
      rw [Bool.eq_iff_iff, decide_eq_true_eq, HR.out]
      unfold ltE
      exact ⟨fun h => .inr ⟨hd, .inl h⟩, fun h => h.elim (fun h => by omega) fun h => h.2.elim id fun h => absurd h.1 hn⟩
    subst hr
    have HDB := Lib.hid hd
    clear hd
    go_wp2_with (fail)
    go_ret
    exact ⟨rfl, HB0.out⟩
  have hnb : (x.v.no == y.v.no) = true := by simp [hn]
  have hr : decide (encE x.v < encE y.v) = r := by
    rw [Bool.eq_iff_iff, decide_eq_true_eq, HR.out]
    unfold ltE
    exact ⟨fun h => .inr ⟨hd, .inr ⟨hn, h⟩⟩, fun h => h.elim (fun h => by omega) fun h => h.2.elim (fun h => by omega) fun h => h.2⟩
  have hle := less_is (encE x.v) (encE y.v)
  rw [hr] at hle
  have HLE := Lib.hid hle
  clear hr hle hd hn
  generalize hW : (w.alloc (.cells #[.int .i64 x.v.dev, .int .i64 x.v.no, .int .i64 x.v.day, .slice x.A x.v.seen.length x.c, .string ⟨x.v.text.toArray⟩] 37)).alloc (.cells #[.int .i64 y.v.dev, .int .i64 y.v.no, .int .i64 y.v.day, .slice y.A y.v.seen.length y.c, .string ⟨y.v.text.toArray⟩] 37) = W at LX LY HB0
  subst hW
  go_wp2_with (fail)
  ((with_reducible refine (HEX.out _ HB0.out).mono ?_); rintro _ w1 ⟨rfl, hb1⟩)
  have LY2 := Lib.hid (LY.out.below hb1)
  have HB1 := Lib.hid (HB0.out.trans (hb1.mono HB0.out.size))
  clear hb1
  obtain ⟨zY, kY, fY⟩ := LY2.out
  go_wp2_with (fail)
  ((with_reducible refine (HEY.out _ HB1.out).mono ?_); rintro _ w2 ⟨rfl, hb2⟩)
  have HB2 := Lib.hid (HB1.out.trans (hb2.mono HB1.out.size))
  have hle := HLE.out
  clear hb2
  go_wp2_with (fail)
  go_ret
  exact ⟨by first | rfl | (rw [hle]), HB2.out⟩
end Go.Proofs.YtnnnibkainlplaaGreatDoor
