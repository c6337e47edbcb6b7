/- World.do, walked: a device gives a loan back. -/
import Derived.Test.YtfohjkddcinfmaaLendQ
namespace Go.Proofs.Ytfohjkddcinfmaa
open Go.RowKit
section
variable {w : World} {B base : Nat} {st : St} {A : Option Addr} {c : Nat} {D : Option Addr} {cd : Nat} {R : Option Addr} {cr : Nat} {rs : List Value}

set_option maxRecDepth 100000 in
set_option maxHeartbeats 4000000 in
theorem do_return {T : Int} (hj : J st T) (h : WAt w B base st A c D cd R cr rs) (d v l u o : Int) (ha : ActV.ok ⟨d, v, l, u, o⟩) (hd : d % 5 = 3) (hn : st.dev.length ≤ 1000) (k : Nat) (hk : l % (st.dev.length : Int) = (k : Int)) (x : LoanV) (hx : st.dev[k]? = some x) (ys : List LoanV) (hy : st.rep[k]? = some ys) (hyl : ys.length ≤ 1000) :
    Calls Try.prog 25 #[.pointer (some ⟨B, 0, none⟩), .agg #[.int .u8 d, .int .u8 v, .int .u8 l, .int .u8 u, .int .u8 o]] w (DoRet w B base (stepDev st k (returnF x) ys)) := by
  have hkl : k < st.dev.length := (List.getElem?_eq_some_iff.1 hx).1
  have hne : ys ≠ [] := by
    have h1 := (hj.each k _ x ys (List.getElem?_eq_getElem (by rw [← hj.ld]; exact hkl)) hx hy).last
    rintro rfl
    simp at h1
  obtain ⟨⟨d', u', p', b'⟩, e1, hr⟩ : ∃ r e, returnF x = (r, e) := ⟨_, _, rfl⟩
  rw [hr]
  have hlr := hj.lr
  obtain ⟨gD, rfl, hgD, zD, hcD, fD⟩ := h.device hx
  obtain ⟨gR, gk, ck, rfl, hrk, zR, zk, kR, fR, hcells⟩ := h.report hy hne
  have H := Lib.hid h
  have HR := Lib.hid hr
  have HRK := Lib.hid hrk
  have HYS := Lib.hid hy
  have HX := Lib.hid hx
  have HCD := Lib.hid hcD
  have HFD := Lib.hid fD
  have HCR := Lib.hid (And.intro zR (And.intro kR fR))
  have HNE := Lib.hid hne
  have HGD := Lib.hid (And.intro hgD zD)
  obtain ⟨xd, xu, xs, xb⟩ := x
  simp only [ActV.ok] at ha
  obtain ⟨⟨a1, a2⟩, ⟨a3, a4⟩, ⟨a5, a6⟩, ⟨a7, a8⟩, a9, a10⟩ := ha
  have hd0 : (d % 5 == 0) = false := by simp; omega
  have hd1 : (d % 5 == 1) = false := by simp; omega
  have hd2 : (d % 5 == 2) = false := by simp; omega
  have hd3 : (d % 5 == 3) = true := by simp; omega
  have hloc := h.loc
  rw [hlr] at hloc
  have HL := Lib.hid hloc
  obtain ⟨zB, kB, fB⟩ := hloc

  generalize hN : st.dev.length = n at *
  have HN := Lib.hid hN
  have HLt := Lib.hid zB
  have HLR := Lib.hid hlr
  have hn0 : (0 : Int) < (n : Int) := by omega
  clear h hd hN hr hj hlr hrk hy hx hcD fD zR kR fR hne hcells hgD zD zk
  go_enter Try.func25, Try.ntmps25
  obtain ⟨y0, y1, y2, y3⟩ := HCD.out
  have y4 := HGD.out.2
  have M5 : (k : Int) < (n : Int) := by omega
  have M6 : (0 : Int) ≤ (k : Int) := by omega
  go_wp2_with (fail)
  ((with_reducible refine (Return_any xd xu xs xb _ HR.out _).mono ?_); rintro e w3 ⟨rfl, hbF⟩)
  clear y0 y1 y2 y3 y4 zB kB fB
  have LA := Lib.hid (Loc.new_ w #[.int .u8 d, .int .u8 v, .int .u8 l, .int .u8 u, .int .u8 o] 47)
  have LB := Lib.hid (HL.out.alloc (.cells #[.int .u8 d, .int .u8 v, .int .u8 l, .int .u8 u, .int .u8 o] 47))
  have HW := Lib.hid (H.out.alloc (.cells #[.int .u8 d, .int .u8 v, .int .u8 l, .int .u8 u, .int .u8 o] 47))
  have HZ := Lib.hid (below_alloc w (.cells #[.int .u8 d, .int .u8 v, .int .u8 l, .int .u8 u, .int .u8 o] 47))
  generalize w.alloc (.cells #[.int .u8 d, .int .u8 v, .int .u8 l, .int .u8 u, .int .u8 o] 47) = W at *
  have hB7 : Below W.heap.size W w3 := hbF
  have hE : (e1 == 0) = true ∨ (e1 == 0) = false := by cases (e1 == 0) <;> simp
  obtain ⟨zB, kB, fB⟩ := LB.out.below hB7
  rcases hE with hE | hE
  · go_wp2_with (fail)
    clear zB kB fB
    have LX := Lib.hid (Loc.new_ w3 #[.int .i64 d', .int .i64 u', .int .i64 p', .bool b'] 26)
    have HX1 := Lib.hid ((HW.out.below hB7).alloc (.cells #[.int .i64 d', .int .i64 u', .int .i64 p', .bool b'] 26))
    have HXB := Lib.hid (hB7.alloc hB7.size (.cells #[.int .i64 d', .int .i64 u', .int .i64 p', .bool b'] 26))
    have HBX : Hid (W.heap.size ≤ w3.heap.size) := hB7.size
    clear hB7 hbF
    generalize w3.heap.size = bx at *
    generalize w3.alloc (.cells #[.int .i64 d', .int .i64 u', .int .i64 p', .bool b'] 26) = X at *
    have HLX := Lib.hid (LB.out.below HXB.out)
    have HB2 := Lib.hid (HZ.out.trans (HXB.out.mono HZ.out.size))
    have HZX := Lib.hid (HB2.out.mono (Nat.le_of_lt HLt.out))
    have HNX : Hid (bx ≠ gD) := by show bx ≠ gD; have h1 := HGD.out.2; have h2 := HZ.out.size; have h3 := HBX.out; omega
    have HNB : Hid (B ≠ gD) := by show B ≠ gD; have h1 := HGD.out.1; have h2 := H.out.bb; omega
    have HBD : Hid (B ≤ gD) := by show B ≤ gD; have h1 := HGD.out.1; have h2 := H.out.bb; omega
    have HXD := Lib.hid (And.intro ((HB2.out.cell (p := ⟨gD, k * 4, none⟩) HGD.out.2).trans HCD.out.1) (And.intro ((HB2.out.cell (p := ⟨gD, k * 4 + 1, none⟩) HGD.out.2).trans HCD.out.2.1) (And.intro ((HB2.out.cell (p := ⟨gD, k * 4 + 2, none⟩) HGD.out.2).trans HCD.out.2.2.1)
      (And.intro ((HB2.out.cell (p := ⟨gD, k * 4 + 3, none⟩) HGD.out.2).trans HCD.out.2.2.2) (fun j : Nat => (HB2.out.frozen (p := ⟨gD, j, none⟩) HGD.out.2).trans (HFD.out j))))))
    have hE0 : e1 = 0 := by simpa using hE
    have HE := Lib.hid hE0
    clear hE0
    obtain ⟨zX, kX, fX⟩ := LX.out
    obtain ⟨y0, y1, y2, y3, yf⟩ := HXD.out
    obtain ⟨zB, kB, fB⟩ := HLX.out
    have nB := HNB.out
    have nX := HNX.out
    go_region
    have HY1 := Lib.hid ((HX1.out.setDev (k := k) (by have := HN.out; omega) d' u' p' b').drew)
    have LY := Lib.hid (((((LX.out.far (p := ⟨gD, k * 4, none⟩) (Ne.symm nX) (.int .i64 d')).far (p := ⟨gD, k * 4 + 1, none⟩) (Ne.symm nX) (.int .i64 u')).far (p := ⟨gD, k * 4 + 2, none⟩) (Ne.symm nX) (.int .i64 p')).far (p := ⟨gD, k * 4 + 3, none⟩) (Ne.symm nX) (.bool b')).drew)
    have HZY := Lib.hid (((((HZX.out.setCell (p := ⟨gD, k * 4, none⟩) HBD.out (.int .i64 d')).setCell (p := ⟨gD, k * 4 + 1, none⟩) HBD.out (.int .i64 u')).setCell (p := ⟨gD, k * 4 + 2, none⟩) HBD.out (.int .i64 p')).setCell (p := ⟨gD, k * 4 + 3, none⟩) HBD.out (.bool b')).drew)
    clear y0 y1 y2 y3 yf zB kB fB zX kX fX HX1 LX HXD HLX HZX
    generalize ((((X.setCell ⟨gD, k * 4, none⟩ (.int .i64 d')).setCell ⟨gD, k * 4 + 1, none⟩ (.int .i64 u')).setCell ⟨gD, k * 4 + 2, none⟩ (.int .i64 p')).setCell ⟨gD, k * 4 + 3, none⟩ (.bool b')).drew = Y at *
    go_wp2_with (fail)
    obtain ⟨gR', gk', ck', hR1, hR2, z1, z2, z3, z4, _⟩ := HY1.out.report HYS.out HNE.out
    injection hR1 with hR1
    injection hR1 with hR1
    subst hR1
    have hR3 := HRK.out
    rw [hR2] at hR3
    injection hR3 with hR3
    injection hR3 with hR3 hR4 hR5
    injection hR3 with hR3
    injection hR3 with hR3
    subst hR3
    subst hR5
    obtain ⟨zB, kB, fB⟩ := HY1.out.loc
    obtain ⟨zX, kX, fX⟩ := LY.out
    have hlr2 : (st.rep.length : Int) = (n : Int) := by have := HLR.out; omega
    simp only [HLR.out] at kB
    have hown := HY1.out.each k _ ys hR2 HYS.out
    have hvb := (hown.lt gk' rfl)
    have hdR := HY1.out.dR k _ hR2
    have hnk : gk' ≠ gR := fun e => hdR gk' rfl (by rw [e]; rfl)
    have hnB : gk' ≠ B := by have h1 := hvb.1; have h2 := HY1.out.bb; omega
    have HOWN := Lib.hid hown
    have HR2 := Lib.hid hR2
    obtain ⟨i0, hi0, hi1, hi2, hi3⟩ := info_parts infoLoan
    have HGB := Lib.hid hvb
    clear hown hR2 hdR hR4
    go_region_law (first
      | (refine step_append_sl _ (by rfl) (.tmp 187) (.tmp 189) _ (by rfl) base 26 i0 _ 4 32 Try.underlying22 hi0 hi1 hi2 hi3 rfl (by omega) (.slice (some ⟨gk', 0, none⟩) ys.length ck') ys.length (ys.map LoanV.cells) (by rfl) ((HOWN.out.alloc _).drew) (some ⟨Y.heap.size, 0, none⟩) 1 1 [[.int .i64 d', .int .i64 u', .int .i64 p', .bool b']] (by rfl) (Sl.new_ _ _ _).drew (by simp) (by simp [Value.oneCell']) (by simp only [maxLen]; omega) (by omega) (Nat.le_trans HY1.out.hb (by simp)) ?_
         intro A4 c4 w4 hown4 hg4 hat4
         have hga := grown_at hg4 (g := gR) (Nat.lt_of_lt_of_le z1 (by simp)) (fun e => hnk (by injection e))
         have q0 := (hga.1 k).trans (((below_alloc Y _).drew.cell (p := ⟨gR, k, none⟩) z1).trans z3)
         have q1 := fun j : Nat => (hga.2 j).trans (((below_alloc Y _).drew.frozen (p := ⟨gR, j, none⟩) z1).trans (z4 j))
         have hgB := grown_at hg4 (g := B) (Nat.lt_of_lt_of_le zB (by simp)) (fun e => hnB (by injection e))
         have q2 := fun j : Nat => (hgB.1 j).trans (((below_alloc Y _).drew.cell (p := ⟨B, j, none⟩) zB).trans (kB j))))
    all_goals go_wp2_with (fail)
    all_goals go_ret
    all_goals exact DoRet.cast (dev_step HE.out) (dev_fin HY1.out HZY.out HR2.out HYS.out hg4 hown4 hat4)
  · go_wp2_with (fail)
    clear zB kB fB
    have LX := Lib.hid (Loc.new_ w3 #[.int .i64 d', .int .i64 u', .int .i64 p', .bool b'] 26)
    have HX1 := Lib.hid ((HW.out.below hB7).alloc (.cells #[.int .i64 d', .int .i64 u', .int .i64 p', .bool b'] 26))
    have HXB := Lib.hid (hB7.alloc hB7.size (.cells #[.int .i64 d', .int .i64 u', .int .i64 p', .bool b'] 26))
    have HBX : Hid (W.heap.size ≤ w3.heap.size) := hB7.size
    clear hB7 hbF
    generalize w3.heap.size = bx at *
    generalize w3.alloc (.cells #[.int .i64 d', .int .i64 u', .int .i64 p', .bool b'] 26) = X at *
    have HLX := Lib.hid (LB.out.below HXB.out)
    have HB2 := Lib.hid (HZ.out.trans (HXB.out.mono HZ.out.size))
    have HZX := Lib.hid (HB2.out.mono (Nat.le_of_lt HLt.out))
    have HNX : Hid (bx ≠ gD) := by show bx ≠ gD; have h1 := HGD.out.2; have h2 := HZ.out.size; have h3 := HBX.out; omega
    have HNB : Hid (B ≠ gD) := by show B ≠ gD; have h1 := HGD.out.1; have h2 := H.out.bb; omega
    have HBD : Hid (B ≤ gD) := by show B ≤ gD; have h1 := HGD.out.1; have h2 := H.out.bb; omega
    have HXD := Lib.hid (And.intro ((HB2.out.cell (p := ⟨gD, k * 4, none⟩) HGD.out.2).trans HCD.out.1) (And.intro ((HB2.out.cell (p := ⟨gD, k * 4 + 1, none⟩) HGD.out.2).trans HCD.out.2.1) (And.intro ((HB2.out.cell (p := ⟨gD, k * 4 + 2, none⟩) HGD.out.2).trans HCD.out.2.2.1)
      (And.intro ((HB2.out.cell (p := ⟨gD, k * 4 + 3, none⟩) HGD.out.2).trans HCD.out.2.2.2) (fun j : Nat => (HB2.out.frozen (p := ⟨gD, j, none⟩) HGD.out.2).trans (HFD.out j))))))
    have hE0 : e1 ≠ 0 := by simpa using hE
    go_ret
    exact DoRet.cast (dev_stay hE0) ⟨rfl, HZX.out, _, _, _, _, _, _, _, HX1.out⟩
end
end Go.Proofs.Ytfohjkddcinfmaa
