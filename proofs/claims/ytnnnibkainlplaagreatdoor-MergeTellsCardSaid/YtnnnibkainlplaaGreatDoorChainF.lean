/- chain: Convicts, Encode, walked. -/
import Derived.Test.YtnnnibkainlplaaGreatDoorChainE
import Derived.Test.YtnnnibkainlplaaGreatDoorWireS
namespace Go.Proofs.YtnnnibkainlplaaGreatDoor
open Go.RowKit Go.Sort Go.Lib

set_option maxRecDepth 100000 in
set_option maxHeartbeats 8000000 in
theorem Convicts_any (w : World) (a b : EntC) (ha : EntAt w a) (hb : EntAt w b) (la : a.v.seen.length ≤ 1099511627776 ∧ a.v.text.length ≤ 140737488351232) (lb : b.v.seen.length ≤ 1099511627776 ∧ b.v.text.length ≤ 140737488351232) (r : Bool) (hr : convictsB a.v b.v = r) :
    Calls Tryz.prog 49 #[.agg a.cells.toArray, .agg b.cells.toArray] w fun x w' => x = .returned (.bool r) ∧ Below w.heap.size w w' := by
  obtain ⟨ra, hra⟩ : ∃ q, rightB a.v = q := ⟨_, rfl⟩
  obtain ⟨rb, hrb⟩ : ∃ q, rightB b.v = q := ⟨_, rfl⟩
  obtain ⟨rs, hrs⟩ : ∃ q, sameB a.v b.v = q := ⟨_, rfl⟩
  unfold convictsB at hr
  rw [hra, hrb, hrs] at hr
  have HA := Lib.hid (fun W (h : Below w.heap.size w W) => Right_any W a (ha.below h) la.1 la.2 ra hra)
  have HC := Lib.hid (fun W (h : Below w.heap.size w W) => Right_any W b (hb.below h) lb.1 lb.2 rb hrb)
  have HS := Lib.hid (fun W (h : Below w.heap.size w W) => Same_any W a b (ha.below h) (hb.below h) la.1 lb.1 rs hrs)
  have HB := Lib.hid (Below.refl w.heap.size w)
  obtain ⟨⟨d1, n1, y1, l1, t1⟩, A1, c1⟩ := a
  obtain ⟨⟨d2, n2, y2, l2, t2⟩, A2, c2⟩ := b
  simp only [EntC.cells, EntAt] at HA HC HS hr ⊢
  generalize l1.length = k1 at *
  generalize l2.length = k2 at *
  have HR := Lib.hid hr
  clear ha hb la lb hr hra hrb hrs
  cases ra
  · go_enter Tryz.func49, Tryz.ntmps49
    go_wp2_with (fail)
    ((with_reducible refine (HA.out _ ((HB.out.alloc (Nat.le_refl _) _).alloc (by simp) _)).mono ?_); rintro _ w1 ⟨rfl, hb1⟩)
    obtain ⟨hX, hY, hbT⟩ := locs2 hb1
    have X := Lib.hid hX
    have Y := Lib.hid hY
    clear hX hY
    replace HB := Lib.hid (HB.out.trans (hbT.mono HB.out.size))
    clear hbT hb1 
    go_wp2_with (fail)
    go_ret
    exact ⟨by rw [← HR.out]; rfl, HB.out⟩
  cases rb
  · go_enter Tryz.func49, Tryz.ntmps49
    go_wp2_with (fail)
    ((with_reducible refine (HA.out _ ((HB.out.alloc (Nat.le_refl _) _).alloc (by simp) _)).mono ?_); rintro _ w1 ⟨rfl, hb1⟩)
    obtain ⟨hX, hY, hbT⟩ := locs2 hb1
    have X := Lib.hid hX
    have Y := Lib.hid hY
    clear hX hY
    replace HB := Lib.hid (HB.out.trans (hbT.mono HB.out.size))
    clear hbT hb1 
    obtain ⟨zX, kX, fX⟩ := X.out
    obtain ⟨zY, kY, fY⟩ := Y.out
    go_wp2_with (fail)
    ((with_reducible refine (HC.out _ HB.out).mono ?_); rintro _ w2 ⟨rfl, hb2⟩)
    have hbT := hb2
    replace HB := Lib.hid (HB.out.trans (hbT.mono HB.out.size))
    replace X := Lib.hid (X.out.below hbT)
    replace Y := Lib.hid (Y.out.below hbT)
    clear hbT hb2 zX kX fX zY kY fY
    go_wp2_with (fail)
    go_ret
    exact ⟨by rw [← HR.out]; rfl, HB.out⟩
  by_cases hd : d1 = d2
  case neg =>
    have hdb : (d1 == d2) = false := by simpa using hd
    have HR2 : Hid (false = r) := Lib.hid (by rw [← HR.out]; simp [hd])
    go_enter Tryz.func49, Tryz.ntmps49
    go_wp2_with (fail)
    ((with_reducible refine (HA.out _ ((HB.out.alloc (Nat.le_refl _) _).alloc (by simp) _)).mono ?_); rintro _ w1 ⟨rfl, hb1⟩)
    obtain ⟨hX, hY, hbT⟩ := locs2 hb1
    have X := Lib.hid hX
    have Y := Lib.hid hY
    clear hX hY
    replace HB := Lib.hid (HB.out.trans (hbT.mono HB.out.size))
    clear hbT hb1 
    obtain ⟨zX, kX, fX⟩ := X.out
    obtain ⟨zY, kY, fY⟩ := Y.out
    go_wp2_with (fail)
    ((with_reducible refine (HC.out _ HB.out).mono ?_); rintro _ w2 ⟨rfl, hb2⟩)
    have hbT := hb2
    replace HB := Lib.hid (HB.out.trans (hbT.mono HB.out.size))
    replace X := Lib.hid (X.out.below hbT)
    replace Y := Lib.hid (Y.out.below hbT)
    clear hbT hb2 zX kX fX zY kY fY
    obtain ⟨zX, kX, fX⟩ := X.out
    obtain ⟨zY, kY, fY⟩ := Y.out
    go_wp2_with (fail)
    go_ret
    exact ⟨by rw [← HR2.out]; rfl, HB.out⟩
  subst hd
  by_cases hd : n1 = n2
  case neg =>
    have hdb : (n1 == n2) = false := by simpa using hd
    have HR2 : Hid (false = r) := Lib.hid (by rw [← HR.out]; simp [hd])
    go_enter Tryz.func49, Tryz.ntmps49
    go_wp2_with (fail)
    ((with_reducible refine (HA.out _ ((HB.out.alloc (Nat.le_refl _) _).alloc (by simp) _)).mono ?_); rintro _ w1 ⟨rfl, hb1⟩)
    obtain ⟨hX, hY, hbT⟩ := locs2 hb1
    have X := Lib.hid hX
    have Y := Lib.hid hY
    clear hX hY
    replace HB := Lib.hid (HB.out.trans (hbT.mono HB.out.size))
    clear hbT hb1 
    obtain ⟨zX, kX, fX⟩ := X.out
    obtain ⟨zY, kY, fY⟩ := Y.out
    go_wp2_with (fail)
    ((with_reducible refine (HC.out _ HB.out).mono ?_); rintro _ w2 ⟨rfl, hb2⟩)
    have hbT := hb2
    replace HB := Lib.hid (HB.out.trans (hbT.mono HB.out.size))
    replace X := Lib.hid (X.out.below hbT)
    replace Y := Lib.hid (Y.out.below hbT)
    clear hbT hb2 zX kX fX zY kY fY
    obtain ⟨zX, kX, fX⟩ := X.out
    obtain ⟨zY, kY, fY⟩ := Y.out
    go_wp2_with (fail)
    go_ret
    exact ⟨by rw [← HR2.out]; rfl, HB.out⟩
  subst hd
  have HR2 : Hid ((!rs) = r) := Lib.hid (by rw [← HR.out]; simp)
  cases rs
  all_goals
    go_enter Tryz.func49, Tryz.ntmps49
    go_wp2_with (fail)
    ((with_reducible refine (HA.out _ ((HB.out.alloc (Nat.le_refl _) _).alloc (by simp) _)).mono ?_); rintro _ w1 ⟨rfl, hb1⟩)
    obtain ⟨hX, hY, hbT⟩ := locs2 hb1
    have X := Lib.hid hX
    have Y := Lib.hid hY
    clear hX hY
    replace HB := Lib.hid (HB.out.trans (hbT.mono HB.out.size))
    clear hbT hb1 
    obtain ⟨zX, kX, fX⟩ := X.out
    obtain ⟨zY, kY, fY⟩ := Y.out
    go_wp2_with (fail)
    ((with_reducible refine (HC.out _ HB.out).mono ?_); rintro _ w2 ⟨rfl, hb2⟩)
    have hbT := hb2
    replace HB := Lib.hid (HB.out.trans (hbT.mono HB.out.size))
    replace X := Lib.hid (X.out.below hbT)
    replace Y := Lib.hid (Y.out.below hbT)
    clear hbT hb2 zX kX fX zY kY fY
    obtain ⟨zX, kX, fX⟩ := X.out
    obtain ⟨zY, kY, fY⟩ := Y.out
    go_wp2_with (fail)
    ((with_reducible refine (HS.out _ HB.out).mono ?_); rintro _ w3 ⟨rfl, hb3⟩)
    have hbT := hb3
    replace HB := Lib.hid (HB.out.trans (hbT.mono HB.out.size))
    replace X := Lib.hid (X.out.below hbT)
    replace Y := Lib.hid (Y.out.below hbT)
    clear hbT hb3 zX kX fX zY kY fY
    go_wp2_with (fail)
    go_ret
    exact ⟨by rw [← HR2.out]; rfl, HB.out⟩
end Go.Proofs.YtnnnibkainlplaaGreatDoor
