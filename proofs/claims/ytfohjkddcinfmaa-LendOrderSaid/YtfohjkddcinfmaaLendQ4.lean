/- World.do, walked: the center lends, where nobody has a loan yet. -/
import Derived.Test.YtfohjkddcinfmaaLendQ3
namespace Go.Proofs.Ytfohjkddcinfmaa
open Go.RowKit
section
variable {w : World} {B base : Nat} {st : St} {A : Option Addr} {c : Nat} {D : Option Addr} {cd : Nat} {R : Option Addr} {cr : Nat} {rs : List Value}

set_option maxRecDepth 100000 in
set_option maxHeartbeats 4000000 in
theorem do_lend2 {T : Int} (hj : J st T) (h : WAt w B base st A c D cd R cr rs) (d v l u o : Int) (ha : ActV.ok ⟨d, v, l, u, o⟩) (hd : d % 5 = 1) (hn : st.dev.length ≤ 1000) (hc : (st.dev.length : Int) ≤ 0) :
    Calls Try.prog 25 #[.pointer (some ⟨B, 0, none⟩), .agg #[.int .u8 d, .int .u8 v, .int .u8 l, .int .u8 u, .int .u8 o]] w (DoRet w B base (stepLend st ⟨d, v, l, u, o⟩)) := by
  obtain ⟨r, e1, hr⟩ : ∃ r e, lendF st.S (v % 8) u = (r, e) := ⟨_, _, rfl⟩
  have hlr := hj.lr
  have hld := hj.ld
  obtain ⟨⟨t, s, ls⟩, dev, rep⟩ := st
  simp only [ActV.ok] at ha
  obtain ⟨⟨a1, a2⟩, ⟨a3, a4⟩, ⟨a5, a6⟩, ⟨a7, a8⟩, a9, a10⟩ := ha
  have hd0 : (d % 5 == 0) = false := by simp; omega
  have hd1 : (d % 5 == 1) = true := by simpa using hd
  have H := Lib.hid h
  have HR := Lib.hid hr
  have hloc := h.loc
  simp only [] at hloc hn hr hlr hld hc
  rw [hlr, ← hld] at hloc
  have HL := Lib.hid hloc
  obtain ⟨zB, kB, fB⟩ := hloc
  generalize hN : dev.length = n at *
  have HN := Lib.hid hN
  have HLt := Lib.hid zB
  have HLR := Lib.hid hlr
  have HLD := Lib.hid hld
  clear h hd hN hr hlr hld hj
  go_enter Try.func25, Try.ntmps25
  go_upto_region 11 with (fail)
  all_goals
    have LA := Lib.hid (Loc.new_ w #[.int .u8 d, .int .u8 v, .int .u8 l, .int .u8 u, .int .u8 o] 47)
    have LB := Lib.hid (HL.out.alloc (.cells #[.int .u8 d, .int .u8 v, .int .u8 l, .int .u8 u, .int .u8 o] 47))
    have HW := Lib.hid (H.out.alloc (.cells #[.int .u8 d, .int .u8 v, .int .u8 l, .int .u8 u, .int .u8 o] 47))
    have HZ := Lib.hid (below_alloc w (.cells #[.int .u8 d, .int .u8 v, .int .u8 l, .int .u8 u, .int .u8 o] 47))
    generalize w.alloc (.cells #[.int .u8 d, .int .u8 v, .int .u8 l, .int .u8 u, .int .u8 o] 47) = W at *
    have hS : ∀ w', Below W.heap.size W w' → _ := fun w' hb => And.intro ((LB.out.below hb).cell 0) (And.intro ((LB.out.below hb).cell 1) (And.intro ((LB.out.below hb).cell 2) (And.intro ((LA.out.below hb).cell 1) (And.intro ((LA.out.below hb).cell 3) hb))))
    have HSS := Lib.hid hS
    clear hS zB kB fB
    have W1 := IntWalk.i64_in u (by omega)
    have W2 := IntWalk.i64_in v (by omega)
    have W3 : v.tmod 8 = v % 8 := by rw [Int.tmod_eq_emod_of_nonneg (by omega)]
    go_cut [9, 10] (fun s9 s10 wx => s10 = .int .i64 e1 ∧ BoxAt r r.loans.length W s9 wx)
    case first =>
      go_region_held3 (fun w' => w'.cell? ⟨B, 0, none⟩ = some (.int .i64 t) ∧ w'.cell? ⟨B, 1, none⟩ = some (.int .i64 s) ∧ w'.cell? ⟨B, 2, none⟩ = some (.slice A n c) ∧ w'.cell? ⟨w.heap.size, 1, none⟩ = some (.int .u8 v) ∧ w'.cell? ⟨w.heap.size, 3, none⟩ = some (.int .u8 u) ∧ Below W.heap.size W w')
        (first | exact HSS.out _ hB7 | (refine HSS.out _ ?_; repeat (first | exact hB7 | exact Below.refl _ _ | refine Below.drew ?_ | refine Below.alloc ?_ (by first | exact Nat.le_refl _ | exact hB7.size | (simp <;> omega)) _ | refine Below.setCell ?_ (by first | exact Nat.le_refl _ | exact hB7.size | (simp <;> omega)) _)))
        (first
          | (go_at_call 12
             ((with_reducible refine (Lend_any t s A n c ls (v % 8) u (r, e1) HR.out _ ?hs1).mono ?_)
              (case hs1 => exact Sl.drew (Sl.alloc (by have h1 := HW.out.sl; simp only [] at h1; rw [← HLD.out] at h1; exact h1) _))
              rintro e w3 ⟨A3, c3, rfl, hs3, hbF⟩
              have hB7 : Below W.heap.size W w3 := by go_split_ands; exact Below.trans (by assumption) (hbF.mono (Below.size (by assumption)))
              obtain ⟨⟨zX, kX, fX⟩, _⟩ := locs1 (undrew hbF)))
          | (go_at_call 12
             ((with_reducible refine (Lend_any t s A n c ls (v % 8) u (r, e1) HR.out _ ?hs1).mono ?_)
              (case hs1 => exact Sl.drew (by have h1 := HW.out.sl; simp only [] at h1; rw [← HLD.out] at h1; exact h1))
              rintro e w3 ⟨A3, c3, rfl, hs3, hbF⟩
              have hB7 : Below W.heap.size W w3 := by go_split_ands; exact Below.trans (by assumption) (hbF.mono (Below.size (by assumption))))))
      all_goals
        go_wp2_with (fail)
        go_meet
        first
          | exact ⟨rfl, box_first rfl rfl hB7 ⟨zX, kX, fX⟩ hs3⟩
          | exact ⟨rfl, box_last rfl hB7 hs3⟩
    case rest =>
      obtain ⟨rfl, bx, A3, c3, rfl, hXB, hBX, hL, hSX⟩ := hcut
      have LX := Lib.hid hL
      have HXB := Lib.hid hXB
      have HBX := Lib.hid hBX
      have HSX := Lib.hid hSX
      clear W1 W2 W3 hL hXB hBX hSX
      have HLX := Lib.hid (LB.out.below HXB.out)
      have hE : (e1 == 0) = true ∨ (e1 == 0) = false := by cases (e1 == 0) <;> simp
      rcases hE with hE | hE
      rotate_left 1
      · have hE0 : e1 ≠ 0 := by simpa using hE
        obtain ⟨zX, kX, fX⟩ := LX.out
        go_wp2_with (fail)
        go_ret
        exact DoRet.cast (lend_stay HR.out hE0) (do_same HW.out HZ.out HLt.out HXB.out)
      have hE0 : e1 = 0 := by simpa using hE
      have HE := Lib.hid hE0
      obtain ⟨_, hre, _, _⟩ := lend_right' (by rw [← hE0]; exact HR.out)
      simp only [] at hre
      subst hre
      have hlen : (ls ++ [(⟨v % 8, u, 0, false⟩ : LoanV)]).length = n + 1 := by simp [HLD.out]
      have HLE := Lib.hid hlen
      have hX := HSX.out
      have lX := LX.out
      simp only [hlen] at hX lX
      have HX2 := Lib.hid hX
      have LX2 := Lib.hid lX
      clear hlen hX lX hE0 LX HSX
      obtain ⟨zX, kX, fX⟩ := LX2.out
      obtain ⟨zB, kB, fB⟩ := HLX.out
      have nB : bx ≠ B := by have h1 := HBX.out; have h2 := HZ.out.size; have h3 := HLt.out; omega
      have HNB := Lib.hid nB
      go_upto_region 16 with (fail)
      have HX3 := Lib.hid (HW.out.setS HXB.out ⟨t, s, ls ++ [⟨v % 8, u, 0, false⟩]⟩ (c' := c3) (by have h1 := HX2.out.1; simp only [HLE.out]; exact h1) HX2.out.2)
      have LX3 := Lib.hid ((((LX2.out.far (p := ⟨B, 0, none⟩) (Ne.symm nB) (.int .i64 t)).far (p := ⟨B, 1, none⟩) (Ne.symm nB) (.int .i64 s)).far (p := ⟨B, 2, none⟩) (Ne.symm nB) (.slice A3 (n + 1) c3)))
      have HB3 := Lib.hid ((((((HZ.out.trans (HXB.out.mono HZ.out.size)).mono (Nat.le_of_lt HLt.out)).setCell (p := ⟨B, 0, none⟩) (Nat.le_refl _) (.int .i64 t)).setCell (p := ⟨B, 1, none⟩) (Nat.le_refl _) (.int .i64 s)).setCell (p := ⟨B, 2, none⟩) (Nat.le_refl _) (.slice A3 (n + 1) c3)))
      have hx3 := HX3.out
      simp only [HLE.out] at hx3
      replace HX3 := Lib.hid hx3
      clear hx3 zX kX fX zB kB fB nB HLX LX2 HXB HX2
      generalize ((wc.setCell ⟨B, 0, none⟩ (.int .i64 t)).setCell ⟨B, 1, none⟩ (.int .i64 s)).setCell ⟨B, 2, none⟩ (.slice A3 (n + 1) c3) = Y at *
      obtain ⟨b3, o3, hA3, hb3, hc3⟩ := HX3.out.sl.2 n (LoanV.cells ⟨v % 8, u, 0, false⟩) (by simp [HLD.out])
      subst hA3
      have y0 : Y.cell? ⟨b3, o3 + n * 4, none⟩ = some (.int .i64 (v % 8)) := hc3 0 _ rfl
      have y1 : Y.cell? ⟨b3, o3 + n * 4 + 1, none⟩ = some (.int .i64 u) := hc3 1 _ rfl
      have y2 : Y.cell? ⟨b3, o3 + n * 4 + 2, none⟩ = some (.int .i64 0) := hc3 2 _ rfl
      have y3 : Y.cell? ⟨b3, o3 + n * 4 + 3, none⟩ = some (.bool false) := hc3 3 _ rfl
      obtain ⟨zX, kX, fX⟩ := LX3.out
      obtain ⟨zB, kB, fB⟩ := HX3.out.loc
      simp only [HLE.out, HLR.out, HN.out] at kB
      have hdev := HX3.out.dev
      simp only [HN.out] at hdev
      have HDEV := Lib.hid hdev
      obtain ⟨i0, hi0, hi1, hi2, hi3⟩ := info_parts infoLoan
      have g1 : (n : Int) < (n : Int) + 1 := by omega
      have g2 : (0 : Int) ≤ (n : Int) := by omega
      clear hc3 hdev
      go_cut [] (fun wx => LendMid w B base ⟨⟨t, s, ls ++ [⟨v % 8, u, 0, false⟩]⟩, dev, rep⟩ (dev ++ [⟨v % 8, u, 0, false⟩]) (some ⟨b3, o3, none⟩) c3 R cr rs bx #[.int .i64 t, .int .i64 s, .slice (some ⟨b3, o3, none⟩) (n + 1) c3] wx)
      case first =>
        go_region_law (first
          | (refine step_append_sl _ (by rfl) (.tmp 84) (.tmp 90) _ (by rfl) base 26 i0 _ 4 32 Try.underlying22 hi0 hi1 hi2 hi3 rfl (by omega) (.slice D n cd) n (dev.map LoanV.cells) (by rfl) ((HDEV.out.alloc _).drew) (some ⟨Y.heap.size, 0, none⟩) 1 1 [[.int .i64 (v % 8), .int .i64 u, .int .i64 0, .bool false]] (by rfl) (Sl.new_ _ _ _).drew (by simp) (by simp [Value.oneCell']) (by simp only [maxLen]; omega) (by omega) (Nat.le_trans HX3.out.hb (by simp)) ?_
             intro A4 c4 w4 hown4 hg4 hat4
             have hgB := grown_at hg4 (g := B) (Nat.lt_of_lt_of_le zB (by simp)) (own_ne HDEV.out.1 HX3.out.bb)
             have q0 := fun j : Nat => (hgB.1 j).trans (((below_alloc Y _).drew.cell (p := ⟨B, j, none⟩) zB).trans (kB j))
             have q1 := fun j : Nat => (hgB.2 j).trans (((below_alloc Y _).drew.frozen (p := ⟨B, j, none⟩) zB).trans (fB j))))
        all_goals
          go_wp2_with (fail)
          go_meet
          exact lend_mid HX3.out HN.out HB3.out LX3.out HNB.out (fun b hb => by have h1 := (H.out.dev.lt b (by rw [slice_block] at hb ⊢; exact hb)).2; have h2 := HBX.out; have h3 := HZ.out.size; omega) hg4 hown4 hat4
      case rest =>
        obtain ⟨D4, cd4, hW4, hB4, hL4⟩ := hcut
        have HW4 := Lib.hid hW4
        have HB4 := Lib.hid hB4
        clear hB4 zX kX fX zB kB fB y0 y1 y2 y3 hb3 HX3 LX3 HB3 HDEV
        obtain ⟨b4, o4, hA4, hb4, hc4⟩ := hW4.sl.2 n (LoanV.cells ⟨v % 8, u, 0, false⟩) (by simp [HLD.out])
        injection hA4 with hA4
        injection hA4 with hA4 hA5
        subst hA4
        subst hA5
        have y0 : wc.cell? ⟨b3, o3 + n * 4, none⟩ = some (.int .i64 (v % 8)) := hc4 0 _ rfl
        have y1 : wc.cell? ⟨b3, o3 + n * 4 + 1, none⟩ = some (.int .i64 u) := hc4 1 _ rfl
        have y2 : wc.cell? ⟨b3, o3 + n * 4 + 2, none⟩ = some (.int .i64 0) := hc4 2 _ rfl
        have y3 : wc.cell? ⟨b3, o3 + n * 4 + 3, none⟩ = some (.bool false) := hc4 3 _ rfl
        obtain ⟨zX, kX, fX⟩ := hL4
        obtain ⟨zB, kB, fB⟩ := hW4.loc
        simp only [HLE.out, HLR.out] at kB
        have hrep := hW4.rep
        simp only [HLR.out] at hrep
        have HREP := Lib.hid hrep
        have HHB := Lib.hid hW4.hb
        have HBBX := Lib.hid hW4.bb
        obtain ⟨i1, hj0, hj1, hj2, hj3⟩ := info_parts infoRow
        clear hc4 hrep hW4
        go_wp2_with (fail)
        go_region_law (first
          | (refine step_append_sl _ (by rfl) (.tmp 98) (.tmp 105) _ (by rfl) base 22 i1 _ 1 24 Try.underlying42 hj0 hj1 hj2 hj3 rfl (by omega) (.slice R n cr) n (rs.map fun v => [v]) (by rfl) (((HREP.out.alloc _).alloc _).drew) (some ⟨wc.heap.size + 1, 0, none⟩) 1 1 [[.slice (some ⟨wc.heap.size, 0, none⟩) 1 1]] (by rfl) (new_second wc _ _ _) (by simp) (by simp [Value.oneCell']) (by simp only [maxLen]; omega) (by omega) (Nat.le_trans HHB.out (by simp; omega)) ?_
             intro A5 c5 w5 hown5 hg5 hat5
             have hgB := grown_at hg5 (g := B) (Nat.lt_of_lt_of_le zB (by simp; omega)) (own_ne HREP.out.1 HBBX.out)
             have q0 := fun j : Nat => (hgB.1 j).trans (((below2 wc _ _).drew.cell (p := ⟨B, j, none⟩) zB).trans (kB j))
             have q1 := fun j : Nat => (hgB.2 j).trans (((below2 wc _ _).drew.frozen (p := ⟨B, j, none⟩) zB).trans (fB j))))
        all_goals
          go_wp2_with (fail)
          go_ret
          exact DoRet.cast (lend_step HR.out HE.out) (lend_fin HW4.out HLR.out HB4.out hg5 hown5 hat5)

theorem do_lend {T : Int} (hj : J st T) (h : WAt w B base st A c D cd R cr rs) (d v l u o : Int) (ha : ActV.ok ⟨d, v, l, u, o⟩) (hd : d % 5 = 1) (hn : st.dev.length ≤ 1000) :
    Calls Try.prog 25 #[.pointer (some ⟨B, 0, none⟩), .agg #[.int .u8 d, .int .u8 v, .int .u8 l, .int .u8 u, .int .u8 o]] w (DoRet w B base (stepLend st ⟨d, v, l, u, o⟩)) := by
  by_cases hc : (0 : Int) < (st.dev.length : Int)
  · exact do_lend1 hj h d v l u o ha hd hn hc
  · exact do_lend2 hj h d v l u o ha hd hn (by omega)
end
end Go.Proofs.Ytfohjkddcinfmaa
