/- merge: cmp.Compare, cmp.Or, how two items are compared, walked. -/
import Derived.Test.YtjncmlglhegnaaaGreatDoorChainH
import Derived.Test.YtjncmlglhegnaaaGreatDoorMrgP7
import Derived.Deep.RegionHeld3
import Derived.Sort.Walk0
namespace Go.Proofs.YtjncmlglhegnaaaGreatDoor
open Go.RowKit Go.Sort Go.Lib

def cmp3 (x y : Int) : Int := if x < y then -1 else if y < x then 1 else 0
def cmpS (a b : List UInt8) : Int := if a < b then -1 else if b < a then 1 else 0
def or3 (a b c : Int) : Int := if a = 0 then (if b = 0 then c else b) else a
set_option maxRecDepth 100000 in
set_option maxHeartbeats 1000000 in
theorem nan_int (x : Int) (w : World) : Calls Tryz.prog 182 #[.int .i64 x] w fun e w' => e = .returned (.bool false) ∧ w = w' := by
  go_enter Tryz.func182, Tryz.ntmps182
  go_wp2_with (fail)
  go_ret
  exact ⟨ret_bool (by simp), rfl⟩
set_option maxRecDepth 100000 in
set_option maxHeartbeats 1000000 in
theorem cmp_int (x y r : Int) (w : World) (hr : cmp3 x y = r) : Calls Tryz.prog 144 #[.int .i64 x, .int .i64 y] w fun e w' => e = .returned (.int .i64 r) ∧ w = w' := by
  subst hr
  unfold cmp3
  by_cases h1 : x < y
  · rw [if_pos h1]
    go_enter Tryz.func144, Tryz.ntmps144
    go_wp2_with (first
      | ((with_reducible refine (nan_int x w).mono ?_); rintro _ w9 ⟨rfl, hw9⟩; obtain rfl := hw9)
      | ((with_reducible refine (nan_int y w).mono ?_); rintro _ w9 ⟨rfl, hw9⟩; obtain rfl := hw9))
    go_ret
    exact ⟨rfl, rfl⟩
  · rw [if_neg h1]
    by_cases h2 : y < x
    · rw [if_pos h2]
      have h1' : y ≤ x := by omega
      go_enter Tryz.func144, Tryz.ntmps144
      go_wp2_with (first
        | ((with_reducible refine (nan_int x w).mono ?_); rintro _ w9 ⟨rfl, hw9⟩; obtain rfl := hw9)
        | ((with_reducible refine (nan_int y w).mono ?_); rintro _ w9 ⟨rfl, hw9⟩; obtain rfl := hw9))
      go_ret
      exact ⟨rfl, rfl⟩
    · rw [if_neg h2]
      obtain rfl : x = y := by omega
      go_enter Tryz.func144, Tryz.ntmps144
      go_wp2_with ((with_reducible refine (nan_int x w).mono ?_); rintro _ w9 ⟨rfl, hw9⟩; obtain rfl := hw9)
      go_ret
      exact ⟨rfl, rfl⟩
set_option maxRecDepth 100000 in
set_option maxHeartbeats 1000000 in
theorem nan_str (s : List UInt8) (w : World) : Calls Tryz.prog 183 #[.string ⟨s.toArray⟩] w fun e w' => e = .returned (.bool false) ∧ w = w' := by
  go_enter Tryz.func183, Tryz.ntmps183
  go_wp2_with (fail)
  go_ret
  exact ⟨ret_bool (by simp), rfl⟩
theorem less_is (a b : List UInt8) : Op.bytesLess a b = decide (a < b) := bytesLess_eq a b
set_option maxRecDepth 100000 in
set_option maxHeartbeats 1000000 in
theorem cmp_str (a b : List UInt8) (r : Int) (w : World) (hr : cmpS a b = r) : Calls Tryz.prog 145 #[.string ⟨a.toArray⟩, .string ⟨b.toArray⟩] w fun e w' => e = .returned (.int .i64 r) ∧ w = w' := by
  subst hr
  unfold cmpS
  have h3 := less_is a b
  have h4 := less_is b a
  by_cases h1 : a < b
  · rw [if_pos h1]
    rw [decide_eq_true h1] at h3
    clear h4
    go_enter Tryz.func145, Tryz.ntmps145
    go_wp2_with (first
      | ((with_reducible refine (nan_str a w).mono ?_); rintro _ w9 ⟨rfl, hw9⟩; obtain rfl := hw9)
      | ((with_reducible refine (nan_str b w).mono ?_); rintro _ w9 ⟨rfl, hw9⟩; obtain rfl := hw9))
    go_ret
    exact ⟨rfl, rfl⟩
  · rw [if_neg h1]
    rw [decide_eq_false h1] at h3
    by_cases h2 : b < a
    · rw [if_pos h2]
      rw [decide_eq_true h2] at h4
      have hne : (a == b) = false := beq_eq_false_iff_ne.2 (fun e => List.lt_irrefl _ (by rw [e] at h2; exact h2))
      have hne2 : ¬ a = b := fun e => List.lt_irrefl _ (by rw [e] at h2; exact h2)
      go_enter Tryz.func145, Tryz.ntmps145
      go_wp2_with (first
        | ((with_reducible refine (nan_str a w).mono ?_); rintro _ w9 ⟨rfl, hw9⟩; obtain rfl := hw9)
        | ((with_reducible refine (nan_str b w).mono ?_); rintro _ w9 ⟨rfl, hw9⟩; obtain rfl := hw9))
      go_ret
      exact ⟨rfl, rfl⟩
    · rw [if_neg h2]
      obtain rfl : a = b := List.le_antisymm (List.not_lt.1 h2) (List.not_lt.1 h1)
      have hne : (a == a) = true := beq_self_eq_true a
      go_enter Tryz.func145, Tryz.ntmps145
      go_wp2_with ((with_reducible refine (nan_str a w).mono ?_); rintro _ w9 ⟨rfl, hw9⟩; obtain rfl := hw9)
      go_ret
      exact ⟨rfl, rfl⟩
set_option maxRecDepth 100000 in
set_option maxHeartbeats 2000000 in
/-- cmp.Or of three -/
theorem or_three (a b c r : Int) (w : World) (g : Nat) (h0 : w.cell? ⟨g, 0, none⟩ = some (.int .i64 a)) (h1 : w.cell? ⟨g, 1, none⟩ = some (.int .i64 b)) (h2 : w.cell? ⟨g, 2, none⟩ = some (.int .i64 c)) (hr : or3 a b c = r) :
    Calls Tryz.prog 143 #[.slice (some ⟨g, 0, none⟩) 3 3] w fun e w' => e = .returned (.int .i64 r) ∧ w = w' := by
  have HR := Lib.hid hr
  clear hr
  go_enter Tryz.func143, Tryz.ntmps143
  go_wp2_with (fail)
  go_loopw [8] (fun i wr => ∃ k : Nat, k ≤ 3 ∧ i = .int .i64 (k : Int) ∧ wr = w ∧ (0 < k → a = 0) ∧ (1 < k → b = 0) ∧ (2 < k → c = 0)) (fun i _ => 3 - (Go.RowKit.intOf i).toNat)
  case atStart => exact ⟨0, Nat.zero_le _, rfl, rfl, by simp, by simp, by simp⟩
  case round =>
    obtain ⟨k, hk, rfl, rfl, ha, hb, hc⟩ := hrel
    have hk2 : k = 0 ∨ k = 1 ∨ k = 2 ∨ k = 3 := by omega
    rcases hk2 with rfl | rfl | rfl | rfl
    · clear ha hb hc hk
      by_cases hz : a = 0
      · subst hz
        have hzb : ((0 : Int) != 0) = false := rfl
        go_wp2_with (fail)
        go_roundw
        case rel => exact ⟨1, by omega, by go_num, trivial, by simp, by simp, by simp⟩
        case measure => simp [Go.RowKit.intOf]
      · have hzb : (a != 0) = true := by simpa using hz
        have HZ := Lib.hid hz
        clear hz
        go_wp2_with (fail)
        go_ret
        exact ⟨ret_int (by rw [← HR.out, or3, if_neg HZ.out]), rfl⟩
    · obtain rfl : a = 0 := ha (by omega)
      clear ha hb hc hk
      by_cases hz : b = 0
      · subst hz
        have hzb : ((0 : Int) != 0) = false := rfl
        go_wp2_with (fail)
        go_roundw
        case rel => exact ⟨2, by omega, by go_num, trivial, by simp, by simp, by simp⟩
        case measure => simp [Go.RowKit.intOf]
      · have hzb : (b != 0) = true := by simpa using hz
        have HZ := Lib.hid hz
        clear hz
        go_wp2_with (fail)
        go_ret
        exact ⟨ret_int (by rw [← HR.out, or3, if_pos rfl, if_neg HZ.out]), rfl⟩
    · obtain rfl : a = 0 := ha (by omega)
      obtain rfl : b = 0 := hb (by omega)
      clear ha hb hc hk
      by_cases hz : c = 0
      · subst hz
        have hzb : ((0 : Int) != 0) = false := rfl
        go_wp2_with (fail)
        go_roundw
        case rel => exact ⟨3, by omega, by go_num, trivial, by simp, by simp, by simp⟩
        case measure => simp [Go.RowKit.intOf]
      · have hzb : (c != 0) = true := by simpa using hz
        have HZ := Lib.hid hz
        clear hz
        go_wp2_with (fail)
        go_ret
        exact ⟨ret_int (by rw [← HR.out, or3, if_pos rfl, if_pos rfl]), rfl⟩
    · obtain rfl : a = 0 := ha (by omega)
      obtain rfl : b = 0 := hb (by omega)
      obtain rfl : c = 0 := hc (by omega)
      clear ha hb hc hk
      go_wp2_with (fail)
      go_ret
      exact ⟨ret_int (by rw [← HR.out]; rfl), rfl⟩
/-- how two items are compared -/
def cmpE (x y : EntV) : Int := or3 (cmp3 x.dev y.dev) (cmp3 x.no y.no) (cmpS (encodeF x).1 (encodeF y).1)
set_option maxRecDepth 100000 in
set_option maxHeartbeats 4000000 in
theorem compare_any {B0 : Nat} (w : World) (hE : Env B0 w) (hB0 : B0 ≤ w.heap.size) (x y : EntC) (hx : EntAt w x) (hy : EntAt w y) (lx : x.v.seen.length ≤ 1099511627776 ∧ x.v.text.length ≤ 140737488351232) (ly : y.v.seen.length ≤ 1099511627776 ∧ y.v.text.length ≤ 140737488351232) (r : Int) (hr : cmpE x.v y.v = r) :
    Calls Tryz.prog 96 #[.agg x.cells.toArray, .agg y.cells.toArray] w fun e w' => e = .returned (.int .i64 r) ∧ Below w.heap.size w w' := by
  obtain ⟨⟨sx, bx⟩, hsx⟩ : ∃ q, encodeF x.v = q := ⟨_, rfl⟩
  obtain ⟨⟨sy, by_⟩, hsy⟩ : ∃ q, encodeF y.v = q := ⟨_, rfl⟩
  unfold cmpE at hr
  rw [hsx, hsy] at hr
  have CX := Lib.hid (fun W (hb : Below w.heap.size w W) => Encode_any W (hE.below (hb.mono hB0)) (Nat.le_trans hB0 hb.size) x (hx.below hb) lx (sx, bx) hsx)
  have CY := Lib.hid (fun W (hb : Below w.heap.size w W) => Encode_any W (hE.below (hb.mono hB0)) (Nat.le_trans hB0 hb.size) y (hy.below hb) ly (sy, by_) hsy)
  obtain ⟨⟨xd, xn, xy, xs, xt⟩, xA, xc⟩ := x
  obtain ⟨⟨yd, yn, yy, ys, yt⟩, yA, yc⟩ := y
  simp only at hr
  have HC1 := Lib.hid (fun W => cmp_int xd yd _ W rfl)
  have HC2 := Lib.hid (fun W => cmp_int xn yn _ W rfl)
  have HC3 := Lib.hid (fun W => cmp_str sx sy _ W rfl)
  have HO := Lib.hid (fun W g h0 h1 h2 => or_three (cmp3 xd yd) (cmp3 xn yn) (cmpS sx sy) r W g h0 h1 h2 hr)
  clear hx hy lx ly hsx hsy hr hE hB0
  generalize cmp3 xd yd = c1 at *
  generalize cmp3 xn yn = c2 at *
  generalize cmpS sx sy = c3 at *
  simp only [EntC.cells]
  have L1 := Lib.hid (locs2 (Below.refl ((w.alloc (.cells #[.int .i64 xd, .int .i64 xn, .int .i64 xy, .slice xA xs.length xc, .string ⟨xt.toArray⟩] 141)).alloc (.cells #[.int .i64 yd, .int .i64 yn, .int .i64 yy, .slice yA ys.length yc, .string ⟨yt.toArray⟩] 141)).heap.size _))
  go_enter Tryz.func96, Tryz.ntmps96
  go_wp2_with (fail)
  generalize (w.alloc (.cells #[.int .i64 xd, .int .i64 xn, .int .i64 xy, .slice xA xs.length xc, .string ⟨xt.toArray⟩] 141)).alloc (.cells #[.int .i64 yd, .int .i64 yn, .int .i64 yy, .slice yA ys.length yc, .string ⟨yt.toArray⟩] 141) = W at *
  simp only [EntC.cells] at CX CY
  ((with_reducible refine (CX.out _ L1.out.2.2).mono ?_); rintro _ w1 ⟨rfl, hb1⟩)
  have LX := Lib.hid (L1.out.1.below hb1)
  have LY := Lib.hid (L1.out.2.1.below hb1)
  have HB1 := Lib.hid (L1.out.2.2.trans (hb1.mono L1.out.2.2.size))
  clear hb1 CX L1
  obtain ⟨zx, kx, fx⟩ := LX.out
  obtain ⟨zy, ky, fy⟩ := LY.out
  go_wp2_with (fail)
  ((with_reducible refine (CY.out _ HB1.out).mono ?_); rintro _ w2 ⟨rfl, hb2⟩)
  replace LX := Lib.hid (LX.out.below hb2)
  replace LY := Lib.hid (LY.out.below hb2)
  have HB2 := Lib.hid (HB1.out.trans (hb2.mono HB1.out.size))
  clear hb2 CY HB1 zx kx fx zy ky fy
  obtain ⟨zx, kx, fx⟩ := LX.out
  obtain ⟨zy, ky, fy⟩ := LY.out
  go_wp2_with (fail)
  have HSV : Hid (w2.drew.cell? ⟨w.heap.size, 0, none⟩ = some (.int .i64 xd) ∧ w2.drew.cell? ⟨w.heap.size, 1, none⟩ = some (.int .i64 xn) ∧ w2.drew.cell? ⟨w.heap.size + 1, 0, none⟩ = some (.int .i64 yd) ∧ w2.drew.cell? ⟨w.heap.size + 1, 1, none⟩ = some (.int .i64 yn)) := ⟨LX.out.cell 0, LX.out.cell 1, LY.out.cell 0, LY.out.cell 1⟩
  have HSA : Hid (∀ o, (w2.alloc o).drew.cell? ⟨w.heap.size, 0, none⟩ = some (.int .i64 xd) ∧ (w2.alloc o).drew.cell? ⟨w.heap.size, 1, none⟩ = some (.int .i64 xn) ∧ (w2.alloc o).drew.cell? ⟨w.heap.size + 1, 0, none⟩ = some (.int .i64 yd) ∧ (w2.alloc o).drew.cell? ⟨w.heap.size + 1, 1, none⟩ = some (.int .i64 yn)) := Lib.hid fun o => ⟨(LX.out.alloc o).cell 0, (LX.out.alloc o).cell 1, (LY.out.alloc o).cell 0, (LY.out.alloc o).cell 1⟩
  have HC0 : Hid (∀ a b c : Value, (w2.alloc (.cells #[a, b, c] 3)).drew.cell? ⟨w2.heap.size, 0, none⟩ = some a ∧ (w2.alloc (.cells #[a, b, c] 3)).drew.cell? ⟨w2.heap.size, 1, none⟩ = some b ∧ (w2.alloc (.cells #[a, b, c] 3)).drew.cell? ⟨w2.heap.size, 2, none⟩ = some c) := Lib.hid fun a b c => ⟨(Loc.new_ w2 #[a, b, c] 3).cell 0, (Loc.new_ w2 #[a, b, c] 3).cell 1, (Loc.new_ w2 #[a, b, c] 3).cell 2⟩
  clear zx kx fx zy ky fy
  go_region_held3 (fun w' => w'.cell? ⟨w.heap.size, 0, none⟩ = some (.int .i64 xd) ∧ w'.cell? ⟨w.heap.size, 1, none⟩ = some (.int .i64 xn) ∧ w'.cell? ⟨w.heap.size + 1, 0, none⟩ = some (.int .i64 yd) ∧ w'.cell? ⟨w.heap.size + 1, 1, none⟩ = some (.int .i64 yn))
    (first | exact HSV.out | exact HSA.out _)
    (first
      | ((with_reducible refine (HC1.out _).mono ?_); rintro _ w9 ⟨rfl, hw9⟩; obtain rfl := hw9)
      | ((with_reducible refine (HC2.out _).mono ?_); rintro _ w9 ⟨rfl, hw9⟩; obtain rfl := hw9)
      | ((with_reducible refine (HC3.out _).mono ?_); rintro _ w9 ⟨rfl, hw9⟩; obtain rfl := hw9)
      | ((with_reducible refine (HO.out _ w2.heap.size (HC0.out _ _ _).1 (HC0.out _ _ _).2.1 (HC0.out _ _ _).2.2).mono ?_); rintro _ w9 ⟨rfl, hw9⟩; obtain rfl := hw9))
  go_wp2_with (fail)
  go_ret
  exact ⟨rfl, (HB2.out.alloc HB2.out.size _).drew⟩
end Go.Proofs.YtjncmlglhegnaaaGreatDoor
