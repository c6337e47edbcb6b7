/- LendBack, walked: the report is taken in. -/
import Derived.Test.YtfohjkddcinfmaaLendJ
namespace Go.Proofs.Ytfohjkddcinfmaa
open Go.RowKit

theorem mkS {wr w' : World} {n0 n2 : Nat} {x0 x1 x2 y0 y1 y2 : Value} (h0 : n0 < wr.heap.size) (h2 : n2 < wr.heap.size) (k0 : ∀ j, wr.cell? ⟨n0, j, none⟩ = #[x0, x1, x2][j]?) (k2 : ∀ j, wr.cell? ⟨n2, j, none⟩ = #[y0, y1, y2][j]?) (hb : Below wr.heap.size wr w') :
    (w'.cell? ⟨n0, 0, none⟩ = some x0 ∧ w'.cell? ⟨n0, 1, none⟩ = some x1 ∧ w'.cell? ⟨n0, 2, none⟩ = some x2) ∧ (w'.cell? ⟨n2, 0, none⟩ = some y0 ∧ w'.cell? ⟨n2, 1, none⟩ = some y1 ∧ w'.cell? ⟨n2, 2, none⟩ = some y2) ∧ Below wr.heap.size wr w' :=
  ⟨⟨(hb.cell (p := ⟨n0, 0, none⟩) h0).trans (k0 0), (hb.cell (p := ⟨n0, 1, none⟩) h0).trans (k0 1), (hb.cell (p := ⟨n0, 2, none⟩) h0).trans (k0 2)⟩, ⟨(hb.cell (p := ⟨n2, 0, none⟩) h2).trans (k2 0), (hb.cell (p := ⟨n2, 1, none⟩) h2).trans (k2 1), (hb.cell (p := ⟨n2, 2, none⟩) h2).trans (k2 2)⟩, hb⟩

set_option maxRecDepth 100000 in
set_option maxHeartbeats 4000000 in
theorem back_good (t s : Int) (A : Option Addr) (n c : Nat) (ls : List LoanV) (m : Nat) (d u p : Int) (b : Bool) (w : World) (hs : Sl w 4 A n (ls.map LoanV.cells)) (hn : n ≤ maxLen)
    (x : LoanV) (hx : ls[m]? = some x) (hmn : m < n) (hm : mergeF ⟨t, s, ls⟩ m ⟨d, u, p, b⟩ = (⟨t, s, ls.set m (joined x ⟨d, u, p, b⟩)⟩, 0)) (hr : (StockV.free ⟨t, s, ls⟩).2 = true)
    (hr' : (StockV.free ⟨t, s, ls.set m (joined x ⟨d, u, p, b⟩)⟩).2 = true) (F G : Int) (hF : max (StockV.free ⟨t, s, ls⟩).1 0 = F) (hG : max (StockV.free ⟨t, s, ls.set m (joined x ⟨d, u, p, b⟩)⟩).1 0 = G) (hFG : G = F + moreOf x ⟨d, u, p, b⟩) (hu : 1 ≤ u ∧ u ≤ 1099511627776 ∧ 0 ≤ p ∧ p ≤ u) (hF0 : 0 ≤ F ∧ F ≤ 1099511627776) :
    Calls Try.prog 6 #[.agg #[.int .i64 t, .int .i64 s, .slice A n c], .int .i64 m, .agg #[.int .i64 d, .int .i64 u, .int .i64 p, .bool b]] w fun e w' => e = .returned (.bool true) ∧ Below w.heap.size w w' := by
  have hl : ls.length = n := by simpa using hs.1
  have HL := Lib.hid hl
  have HX := Lib.hid hx
  have HR' := Lib.hid hr'
  have HF := Lib.hid hF
  have HG := Lib.hid hG
  have HFG := Lib.hid hFG
  have hm0 : (0 : Int) ≤ (m : Int) := by omega
  have hm1 : (m : Int) < (n : Int) := by omega
  clear hl hx hr' hF hG hFG
  have HN := Lib.hid hn
  have HR := Lib.hid hr
  have HS := Lib.hid hs
  have HM := Lib.hid hm
  clear hr hs hn hm
  obtain ⟨q, hq⟩ : ∃ q, decide (n ≤ 120) = q := ⟨_, rfl⟩
  have HQ := Lib.hid hq
  clear hq
  go_enter Try.func6, Try.ntmps6
  go_wp2_with (fail)
  refine (sane_any _).mono ?_
  rintro e w1 ⟨rfl, hb1⟩
  replace HS := Lib.hid (((HS.out.alloc _).alloc _).below hb1)
  obtain ⟨z0, z1, k0, f0, k1, f1, ko, hb1'⟩ := after2 hb1
  have HB := Lib.hid hb1'
  have L0 := Lib.hid (⟨z0, k0, f0⟩ : Loc w1 _ _)
  have L1 := Lib.hid (⟨z1, k1, f1⟩ : Loc w1 _ _)
  clear hb1 hb1' ko k1 f1 z1
  go_wp2_with (fail)
  refine (Few_any _ _ _ _ _ _ q HQ.out HN.out).mono ?_
  rintro e w2 ⟨rfl, hb2⟩
  replace HS := Lib.hid (HS.out.below hb2)
  replace L0 := Lib.hid (L0.out.below hb2)
  replace L1 := Lib.hid (L1.out.below hb2)
  replace HB := Lib.hid (HB.out.trans (hb2.mono HB.out.size))
  clear hb2 z0 k0 f0
  obtain ⟨z0, k0, f0⟩ := L0.out
  rcases q with _ | _
  · go_wp2_with (fail)
    go_ret
    exact ⟨rfl, HB.out⟩
  go_wp2_with (fail)
  refine (Right_any _ _ _ _ _ ls _ HS.out true HR.out).mono ?_
  rintro e w3 ⟨rfl, hb3⟩
  replace HS := Lib.hid (HS.out.below hb3)
  replace L0 := Lib.hid (L0.out.below hb3)
  replace L1 := Lib.hid (L1.out.below hb3)
  replace HB := Lib.hid (HB.out.trans (hb3.mono HB.out.size))
  clear hb3 z0 k0 f0
  obtain ⟨z0, k0, f0⟩ := L0.out
  obtain ⟨z1, k1, f1⟩ := L1.out
  go_wp2_with (fail)
  refine (Merge_taken t s A n c ls _ m d u p b HM.out (by rw [List.length_set]; exact HL.out) _ HS.out).mono ?_
  rintro e w4 ⟨A4, c4, rfl, hs4, hb4⟩
  replace HS := Lib.hid (HS.out.below hb4)
  replace L0 := Lib.hid (L0.out.below hb4)
  replace L1 := Lib.hid (L1.out.below hb4)
  replace HB := Lib.hid (HB.out.trans (hb4.mono HB.out.size))
  have HT := Lib.hid hs4.1
  clear hs4 hb4 z0 k0 f0 z1 k1 f1
  obtain ⟨z0, k0, f0⟩ := L0.out
  have hnn : n ≤ 9223372036854775807 := by have := HN.out; unfold maxLen at this; omega
  have hne : ((n : Int) != (n : Int)) = false := by simp
  have hte : (t != t) = false := by simp
  have hse : (s != s) = false := by simp
  have hm2 : ¬ ((m : Int) < 0) := by omega
  have hm3 : ¬ ((n : Int) ≤ (m : Int)) := by omega
  go_wp2_with (fail)
  refine (Right_any t s _ _ _ _ _ (HT.out.alloc _) true HR'.out).mono ?_
  rintro e w5 ⟨rfl, hb5⟩
  have L2 := Lib.hid ((Loc.new_ w4 _ _).below hb5)
  replace HS := Lib.hid ((HS.out.alloc _).below hb5)
  replace HT := Lib.hid ((HT.out.alloc _).below hb5)
  replace L0 := Lib.hid ((L0.out.alloc _).below hb5)
  replace L1 := Lib.hid ((L1.out.alloc _).below hb5)
  replace HB := Lib.hid (HB.out.trans ((below_of_calls _ hb5).mono HB.out.size))
  clear hb5 z0 k0 f0
  obtain ⟨z0, k0, f0⟩ := L0.out
  obtain ⟨z2, k2, f2⟩ := L2.out
  go_wp2_with (fail)
  clear z0 k0 f0 z2 k2 f2
  have HB5 := Lib.hid (Below.refl w5.heap.size w5)
  go_loopw [10] (fun i wr => ∃ k : Nat, k ≤ n ∧ i = .int .i64 k ∧ Below w5.heap.size w5 wr) (fun i _ => n - (intOf i).toNat)
  case atStart => exact ⟨0, Nat.zero_le _, rfl, HB5.out⟩
  case round =>
    obtain ⟨k, hk, rfl, hb⟩ := hrel
    obtain ⟨z0, k0, f0⟩ := L0.out.below hb
    obtain ⟨z2, k2, f2⟩ := L2.out.below hb
    have HBr := Lib.hid hb
    by_cases hlt : k < n
    · have hi0 : (0 : Int) ≤ (k : Int) := by omega
      have hi1 : (k : Int) < (n : Int) := by omega
      by_cases hkm : k = m
      · have hc : ((k : Int) != (m : Int)) = false := by simp [hkm]
        clear hb
        go_wp2_with (fail)
        go_quiet (fail)
        go_wp2_with (fail)
        go_roundw
        case rel => exact ⟨k + 1, by omega, by go_num, bdrewN HBr.out _⟩
        case measure => simp [intOf]; omega
      · have hc : ((k : Int) != (m : Int)) = true := by rw [bne_iff_ne]; omega
        obtain ⟨⟨d1, u1, p1, b1⟩, hy⟩ : ∃ x, ls[k]? = some x := ⟨ls[k]'(by have := HL.out; omega), List.getElem?_eq_getElem _⟩
        obtain ⟨bb, oo, rfl, hbb, hcc⟩ := (HS.out.below hb).2 k (LoanV.cells ⟨d1, u1, p1, b1⟩) (by rw [List.getElem?_map, hy]; rfl)
        have x0 : wr.cell? ⟨bb, oo + k * 4, none⟩ = some (.int .i64 d1) := hcc 0 _ rfl
        have x1 : wr.cell? ⟨bb, oo + k * 4 + 1, none⟩ = some (.int .i64 u1) := hcc 1 _ rfl
        have x2 : wr.cell? ⟨bb, oo + k * 4 + 2, none⟩ = some (.int .i64 p1) := hcc 2 _ rfl
        have x3 : wr.cell? ⟨bb, oo + k * 4 + 3, none⟩ = some (.bool b1) := hcc 3 _ rfl
        obtain ⟨bb', oo', rfl, hbb', hcc'⟩ := (HT.out.below hb).2 k (LoanV.cells ⟨d1, u1, p1, b1⟩) (by rw [List.getElem?_map, List.getElem?_set_ne (by omega), hy]; rfl)
        have y0 : wr.cell? ⟨bb', oo' + k * 4, none⟩ = some (.int .i64 d1) := hcc' 0 _ rfl
        have y1 : wr.cell? ⟨bb', oo' + k * 4 + 1, none⟩ = some (.int .i64 u1) := hcc' 1 _ rfl
        have y2 : wr.cell? ⟨bb', oo' + k * 4 + 2, none⟩ = some (.int .i64 p1) := hcc' 2 _ rfl
        have y3 : wr.cell? ⟨bb', oo' + k * 4 + 3, none⟩ = some (.bool b1) := hcc' 3 _ rfl
        have hcmp := neq_loan d1 u1 p1 b1 d1 u1 p1 b1 true (by simp [loanEq])
        clear hb hcc hcc' hy
        go_wp2_with (fail)
        go_quiet (fail)
        go_wp2_with (fail)
        go_roundw
        case rel => exact ⟨k + 1, by omega, by go_num, bdrewN HBr.out _⟩
        case measure => simp [intOf]; omega
    · obtain rfl : k = n := by omega
      obtain ⟨dx, ux, px, bx⟩ := x
      obtain ⟨ys, hys⟩ : ∃ y, max px p = y := ⟨_, rfl⟩
      have hy0 : px ≤ ys := by omega
      have hy1 : p ≤ ys := by omega
      have hj : joined ⟨dx, ux, px, bx⟩ ⟨d, u, p, b⟩ = ⟨dx, ux, ys, bx || b⟩ := by simp [joined, hys]
      rw [hj] at HT HG HR'
      obtain ⟨bb, oo, rfl, hbb, hcc⟩ := (HS.out.below hb).2 m (LoanV.cells ⟨dx, ux, px, bx⟩) (by rw [List.getElem?_map, HX.out]; rfl)
      have x2 : wr.cell? ⟨bb, oo + m * 4 + 2, none⟩ = some (.int .i64 px) := hcc 2 _ rfl
      have x3 : wr.cell? ⟨bb, oo + m * 4 + 3, none⟩ = some (.bool bx) := hcc 3 _ rfl
      obtain ⟨bb', oo', rfl, hbb', hcc'⟩ := (HT.out.below hb).2 m (LoanV.cells ⟨dx, ux, ys, bx || b⟩) (by rw [List.getElem?_map, List.getElem?_set_self (by have := HL.out; omega)]; rfl)
      have y0 : wr.cell? ⟨bb', oo' + m * 4, none⟩ = some (.int .i64 dx) := hcc' 0 _ rfl
      have y1 : wr.cell? ⟨bb', oo' + m * 4 + 1, none⟩ = some (.int .i64 ux) := hcc' 1 _ rfl
      have y2 : wr.cell? ⟨bb', oo' + m * 4 + 2, none⟩ = some (.int .i64 ys) := hcc' 2 _ rfl
      have y3 : wr.cell? ⟨bb', oo' + m * 4 + 3, none⟩ = some (.bool (bx || b)) := hcc' 3 _ rfl
      obtain ⟨z1, k1, f1⟩ := L1.out.below hb
      have HSr := Lib.hid (HS.out.below hb)
      have HTr := Lib.hid (HT.out.below hb)
      have hd0 : decide (ys < px) = false := by simp; omega
      have hd1 : decide (ys < p) = false := by simp; omega
      clear hb hcc hcc' hj hys
      cases b <;> cases bx
      all_goals go_wp2_with (fail)
      all_goals go_quiet (fail)
      all_goals go_wp2_with (fail)
      · have hS0 : w.heap.size < wr.heap.size := z0
        have hS2 : w4.heap.size < wr.heap.size := z2
        have W1 := IntWalk.i64_in F (by omega)
        have HG1 : Hid (G = F + 0) := by have h := HFG.out; simp [moreOf] at h; show G = F + 0; omega
        go_region_held3 (fun w' => (w'.cell? ⟨w.heap.size, 0, none⟩ = some (.int .i64 t) ∧ w'.cell? ⟨w.heap.size, 1, none⟩ = some (.int .i64 s) ∧ w'.cell? ⟨w.heap.size, 2, none⟩ = some (.slice (some ⟨bb, oo, none⟩) k c)) ∧ (w'.cell? ⟨w4.heap.size, 0, none⟩ = some (.int .i64 t) ∧ w'.cell? ⟨w4.heap.size, 1, none⟩ = some (.int .i64 s) ∧ w'.cell? ⟨w4.heap.size, 2, none⟩ = some (.slice (some ⟨bb', oo', none⟩) k c4)) ∧ Below wr.heap.size wr w')
          (first | exact mkS hS0 hS2 k0 k2 hB7 | exact mkS hS0 hS2 k0 k2 ((below_alloc wr _).drew) | exact mkS hS0 hS2 k0 k2 (bdrewN (below_alloc wr _) _) | exact mkS hS0 hS2 k0 k2 ((bdrewN (below_alloc wr _) _).drew))
          (first
            | (go_at_call 23
               ((with_reducible refine (Free_any t s (some ⟨bb', oo', none⟩) k c4 _ _ ?hsla G HG.out).mono ?_)
                (case hsla => (go_split_ands; exact Sl.below HTr.out (by assumption)))
                rintro e w7 ⟨rfl, hbF⟩
                have hB7 : Below wr.heap.size wr w7 := by go_split_ands; exact Below.trans (by assumption) (hbF.mono (Below.size (by assumption)))))
            | (go_at_call 23
               ((with_reducible refine (Free_any t s (some ⟨bb, oo, none⟩) k c _ _ ?hslb F HF.out).mono ?_)
                (case hslb => (go_split_ands; exact Sl.below HSr.out (by assumption)))
                rintro e w7 ⟨rfl, hbF⟩
                have hB7 : Below wr.heap.size wr w7 := by go_split_ands; exact Below.trans (by assumption) (hbF.mono (Below.size (by assumption))))))
        clear W1
        go_wp2_with (fail)
        go_ret
        refine ⟨ret_bool (by rw [HG1.out]; simp), ?_⟩
        exact (HB.out.trans (HBr.out.mono HB.out.size)).trans (hB7.mono (Nat.le_trans HB.out.size HBr.out.size))
      · have hS0 : w.heap.size < wr.heap.size := z0
        have hS2 : w4.heap.size < wr.heap.size := z2
        have W1 := IntWalk.i64_in F (by omega)
        have HG1 : Hid (G = F + 0) := by have h := HFG.out; simp [moreOf] at h; show G = F + 0; omega
        go_region_held3 (fun w' => (w'.cell? ⟨w.heap.size, 0, none⟩ = some (.int .i64 t) ∧ w'.cell? ⟨w.heap.size, 1, none⟩ = some (.int .i64 s) ∧ w'.cell? ⟨w.heap.size, 2, none⟩ = some (.slice (some ⟨bb, oo, none⟩) k c)) ∧ (w'.cell? ⟨w4.heap.size, 0, none⟩ = some (.int .i64 t) ∧ w'.cell? ⟨w4.heap.size, 1, none⟩ = some (.int .i64 s) ∧ w'.cell? ⟨w4.heap.size, 2, none⟩ = some (.slice (some ⟨bb', oo', none⟩) k c4)) ∧ Below wr.heap.size wr w')
          (first | exact mkS hS0 hS2 k0 k2 hB7 | exact mkS hS0 hS2 k0 k2 ((below_alloc wr _).drew) | exact mkS hS0 hS2 k0 k2 (bdrewN (below_alloc wr _) _) | exact mkS hS0 hS2 k0 k2 ((bdrewN (below_alloc wr _) _).drew))
          (first
            | (go_at_call 23
               ((with_reducible refine (Free_any t s (some ⟨bb', oo', none⟩) k c4 _ _ ?hsla G HG.out).mono ?_)
                (case hsla => (go_split_ands; exact Sl.below HTr.out (by assumption)))
                rintro e w7 ⟨rfl, hbF⟩
                have hB7 : Below wr.heap.size wr w7 := by go_split_ands; exact Below.trans (by assumption) (hbF.mono (Below.size (by assumption)))))
            | (go_at_call 23
               ((with_reducible refine (Free_any t s (some ⟨bb, oo, none⟩) k c _ _ ?hslb F HF.out).mono ?_)
                (case hslb => (go_split_ands; exact Sl.below HSr.out (by assumption)))
                rintro e w7 ⟨rfl, hbF⟩
                have hB7 : Below wr.heap.size wr w7 := by go_split_ands; exact Below.trans (by assumption) (hbF.mono (Below.size (by assumption))))))
        clear W1
        go_wp2_with (fail)
        go_ret
        refine ⟨ret_bool (by rw [HG1.out]; simp), ?_⟩
        exact (HB.out.trans (HBr.out.mono HB.out.size)).trans (hB7.mono (Nat.le_trans HB.out.size HBr.out.size))
      · have hS0 : w.heap.size < wr.heap.size := z0
        have hS2 : w4.heap.size < wr.heap.size := z2
        have W1 := IntWalk.i64_in (F + (u - p)) (by omega)
        have HG1 : Hid (G = F + (u - p)) := by have h := HFG.out; simp [moreOf] at h; show G = F + (u - p); omega
        go_region_held3 (fun w' => (w'.cell? ⟨w.heap.size, 0, none⟩ = some (.int .i64 t) ∧ w'.cell? ⟨w.heap.size, 1, none⟩ = some (.int .i64 s) ∧ w'.cell? ⟨w.heap.size, 2, none⟩ = some (.slice (some ⟨bb, oo, none⟩) k c)) ∧ (w'.cell? ⟨w4.heap.size, 0, none⟩ = some (.int .i64 t) ∧ w'.cell? ⟨w4.heap.size, 1, none⟩ = some (.int .i64 s) ∧ w'.cell? ⟨w4.heap.size, 2, none⟩ = some (.slice (some ⟨bb', oo', none⟩) k c4)) ∧ Below wr.heap.size wr w')
          (first | exact mkS hS0 hS2 k0 k2 hB7 | exact mkS hS0 hS2 k0 k2 ((below_alloc wr _).drew) | exact mkS hS0 hS2 k0 k2 (bdrewN (below_alloc wr _) _) | exact mkS hS0 hS2 k0 k2 ((bdrewN (below_alloc wr _) _).drew))
          (first
            | (go_at_call 23
               ((with_reducible refine (Free_any t s (some ⟨bb', oo', none⟩) k c4 _ _ ?hsla G HG.out).mono ?_)
                (case hsla => (go_split_ands; exact Sl.below HTr.out (by assumption)))
                rintro e w7 ⟨rfl, hbF⟩
                have hB7 : Below wr.heap.size wr w7 := by go_split_ands; exact Below.trans (by assumption) (hbF.mono (Below.size (by assumption)))))
            | (go_at_call 23
               ((with_reducible refine (Free_any t s (some ⟨bb, oo, none⟩) k c _ _ ?hslb F HF.out).mono ?_)
                (case hslb => (go_split_ands; exact Sl.below HSr.out (by assumption)))
                rintro e w7 ⟨rfl, hbF⟩
                have hB7 : Below wr.heap.size wr w7 := by go_split_ands; exact Below.trans (by assumption) (hbF.mono (Below.size (by assumption))))))
        clear W1
        go_wp2_with (fail)
        go_ret
        refine ⟨ret_bool (by rw [HG1.out]; simp), ?_⟩
        exact (HB.out.trans (HBr.out.mono HB.out.size)).trans (hB7.mono (Nat.le_trans HB.out.size HBr.out.size))
      · have hS0 : w.heap.size < wr.heap.size := z0
        have hS2 : w4.heap.size < wr.heap.size := z2
        have W1 := IntWalk.i64_in F (by omega)
        have HG1 : Hid (G = F + 0) := by have h := HFG.out; simp [moreOf] at h; show G = F + 0; omega
        go_region_held3 (fun w' => (w'.cell? ⟨w.heap.size, 0, none⟩ = some (.int .i64 t) ∧ w'.cell? ⟨w.heap.size, 1, none⟩ = some (.int .i64 s) ∧ w'.cell? ⟨w.heap.size, 2, none⟩ = some (.slice (some ⟨bb, oo, none⟩) k c)) ∧ (w'.cell? ⟨w4.heap.size, 0, none⟩ = some (.int .i64 t) ∧ w'.cell? ⟨w4.heap.size, 1, none⟩ = some (.int .i64 s) ∧ w'.cell? ⟨w4.heap.size, 2, none⟩ = some (.slice (some ⟨bb', oo', none⟩) k c4)) ∧ Below wr.heap.size wr w')
          (first | exact mkS hS0 hS2 k0 k2 hB7 | exact mkS hS0 hS2 k0 k2 ((below_alloc wr _).drew) | exact mkS hS0 hS2 k0 k2 (bdrewN (below_alloc wr _) _) | exact mkS hS0 hS2 k0 k2 ((bdrewN (below_alloc wr _) _).drew))
          (first
            | (go_at_call 23
               ((with_reducible refine (Free_any t s (some ⟨bb', oo', none⟩) k c4 _ _ ?hsla G HG.out).mono ?_)
                (case hsla => (go_split_ands; exact Sl.below HTr.out (by assumption)))
                rintro e w7 ⟨rfl, hbF⟩
                have hB7 : Below wr.heap.size wr w7 := by go_split_ands; exact Below.trans (by assumption) (hbF.mono (Below.size (by assumption)))))
            | (go_at_call 23
               ((with_reducible refine (Free_any t s (some ⟨bb, oo, none⟩) k c _ _ ?hslb F HF.out).mono ?_)
                (case hslb => (go_split_ands; exact Sl.below HSr.out (by assumption)))
                rintro e w7 ⟨rfl, hbF⟩
                have hB7 : Below wr.heap.size wr w7 := by go_split_ands; exact Below.trans (by assumption) (hbF.mono (Below.size (by assumption))))))
        clear W1
        go_wp2_with (fail)
        go_ret
        refine ⟨ret_bool (by rw [HG1.out]; simp), ?_⟩
        exact (HB.out.trans (HBr.out.mono HB.out.size)).trans (hB7.mono (Nat.le_trans HB.out.size HBr.out.size))
end Go.Proofs.Ytfohjkddcinfmaa
