/- World.do, walked: a device spends. -/
import Derived.Test.YtfohjkddcinfmaaLendP
namespace Go.Proofs.Ytfohjkddcinfmaa
open Go.RowKit
section
variable {w : World} {B base : Nat} {st : St} {A : Option Addr} {c : Nat} {D : Option Addr} {cd : Nat} {R : Option Addr} {cr : Nat} {rs : List Value}

theorem grownBy_drew {w w' : World} {row : Option Nat} (h : w.grownBy w' row) : w.grownBy w'.drew row := ⟨h.os, h.tape, h.output, h.size, h.block⟩
theorem grown_at {w w' : World} {row : Option Nat} (hg : w.grownBy w' row) {g : Nat} (hl : g < w.heap.size) (hne : row ≠ some g) : (∀ j, w'.cell? ⟨g, j, none⟩ = w.cell? ⟨g, j, none⟩) ∧ (∀ j, w'.frozen? ⟨g, j, none⟩ = w.frozen? ⟨g, j, none⟩) :=
  ⟨fun j => World.cell?_of_block (w := w) (a := ⟨g, j, none⟩) (hg.block g hl (fun e => hne e.symm)), fun j => World.frozen?_of_block (w := w) (a := ⟨g, j, none⟩) (hg.block g hl (fun e => hne e.symm))⟩
/-- where a device's loan lies -/
theorem WAt.device (h : WAt w B base st A c D cd R cr rs) {k : Nat} {x : LoanV} (hx : st.dev[k]? = some x) :
    ∃ gD, D = some ⟨gD, 0, none⟩ ∧ base ≤ gD ∧ gD < w.heap.size ∧ (w.cell? ⟨gD, k * 4, none⟩ = some (.int .i64 x.device) ∧ w.cell? ⟨gD, k * 4 + 1, none⟩ = some (.int .i64 x.units) ∧ w.cell? ⟨gD, k * 4 + 2, none⟩ = some (.int .i64 x.spent) ∧ w.cell? ⟨gD, k * 4 + 3, none⟩ = some (.bool x.back)) ∧ (∀ j, w.frozen? ⟨gD, j, none⟩ = false) := by
  obtain ⟨gD, c', h1, h2, h3, h4, h5⟩ := h.dev.at_ (i := k) (x := x.cells) (by rw [List.getElem?_map, hx]; rfl)
  simp only [Value.slice.injEq] at h1
  exact ⟨gD, h1.1, h2, h3, ⟨h4 0 _ rfl, h4 1 _ rfl, h4 2 _ rfl, h4 3 _ rfl⟩, h5⟩
theorem dev_stay {k : Nat} {ys : List LoanV} {l : LoanV} {e : Int} (he : e ≠ 0) : st = stepDev st k (l, e) ys := by unfold stepDev; rw [if_neg he]
theorem dev_step {k : Nat} {ys : List LoanV} {l : LoanV} {e : Int} (he : e = 0) : (⟨st.S, st.dev.set k l, st.rep.set k (ys ++ [l])⟩ : St) = stepDev st k (l, e) ys := by unfold stepDev; rw [if_pos he]; rfl

theorem dev_fin {Y w4 : World} {st' : St} {gR k : Nat} {v : Value} {ys : List LoanV} {o : Obj} {A4 : Option Addr} {c4 : Nat} {l : LoanV} (hY : WAt Y B base st' A c D cd (some ⟨gR, 0, none⟩) cr rs) (hZ : Below B w Y) (hr2 : rs[k]? = some v) (hys : st'.rep[k]? = some ys)
    (hg : (Y.alloc o).drew.grownBy w4 v.ownBlock) (hown : Own w4 base 26 4 (.slice A4 (ys.length + 1) c4) (ys.length + 1) (ys.map LoanV.cells ++ [l.cells]))
    (hat : (Value.slice A4 (ys.length + 1) c4).ownBlock = v.ownBlock ∨ (Value.slice A4 (ys.length + 1) c4).ownBlock = some (Y.alloc o).drew.heap.size) :
    DoRet w B base ⟨st'.S, st'.dev, st'.rep.set k (ys ++ [l])⟩ (.returned (.bool true)) (w4.setCell ⟨gR, k, none⟩ (.slice A4 (ys.length + 1) c4)) := by
  have hbb := hY.bb
  have hhb := hY.hb
  have hv := (hY.each k v ys hr2 hys).lt
  have hgR := (hY.rep.lt gR rfl).1
  have h2 : Below B w (Y.alloc o).drew := (hZ.alloc (by omega) o).drew
  have h3 := h2.grown hg (by show B ≤ (Y.alloc o).heap.size; simp; omega) (fun b hb => by have := (hv b hb).1; omega)
  have h4 := (hY.alloc o).drew.addRep (ls' := ys ++ [l]) hr2 hys hg (by simpa using hown) (hat.imp id fun e b hb => by rw [e] at hb; injection hb with hb; exact Nat.le_of_eq hb)
  exact ⟨rfl, h3.setCell (by show B ≤ gR; omega) _, _, _, _, _, _, _, _, h4⟩

set_option maxRecDepth 100000 in
set_option maxHeartbeats 4000000 in
theorem do_spend {T : Int} (hj : J st T) (h : WAt w B base st A c D cd R cr rs) (d v l u o : Int) (ha : ActV.ok ⟨d, v, l, u, o⟩) (hd : d % 5 = 2) (hn : st.dev.length ≤ 1000) (k : Nat) (hk : l % (st.dev.length : Int) = (k : Int)) (x : LoanV) (hx : st.dev[k]? = some x) (ys : List LoanV) (hy : st.rep[k]? = some ys) (hyl : ys.length ≤ 1000) :
    Calls Try.prog 25 #[.pointer (some ⟨B, 0, none⟩), .agg #[.int .u8 d, .int .u8 v, .int .u8 l, .int .u8 u, .int .u8 o]] w (DoRet w B base (stepDev st k (spendF x u) ys)) := by
  have hkl : k < st.dev.length := (List.getElem?_eq_some_iff.1 hx).1
  have hne : ys ≠ [] := by
    have h1 := (hj.each k _ x ys (List.getElem?_eq_getElem (by rw [← hj.ld]; exact hkl)) hx hy).last
    rintro rfl
    simp at h1
  obtain ⟨⟨d', u', p', b'⟩, e1, hr⟩ : ∃ r e, spendF x u = (r, e) := ⟨_, _, rfl⟩
  rw [hr]
  have hlr := hj.lr
  obtain ⟨gD, rfl, hgD, zD, hcD, fD⟩ := h.device hx
  obtain ⟨gR, gk, ck, rfl, hrk, zR, zk, kR, fR, hcells⟩ := h.report hy hne
  have H := Lib.hid h
  have HR := Lib.hid hr
  have HRK := Lib.hid hrk
  have HYS := Lib.hid hy
  have HX := Lib.hid hx
  have HCD := Lib.hid hcD
  have HFD := Lib.hid fD
  have HCR := Lib.hid (And.intro zR (And.intro kR fR))
  have HNE := Lib.hid hne
  have HGD := Lib.hid (And.intro hgD zD)
  obtain ⟨xd, xu, xs, xb⟩ := x
  simp only [ActV.ok] at ha
  obtain ⟨⟨a1, a2⟩, ⟨a3, a4⟩, ⟨a5, a6⟩, ⟨a7, a8⟩, a9, a10⟩ := ha
  have hd0 : (d % 5 == 0) = false := by simp; omega
  have hd1 : (d % 5 == 1) = false := by simp; omega
  have hd2 : (d % 5 == 2) = true := by simp; omega
  have hloc := h.loc
  rw [hlr] at hloc
  have HL := Lib.hid hloc
  obtain ⟨zB, kB, fB⟩ := hloc

  generalize hN : st.dev.length = n at *
  have HN := Lib.hid hN
  have HLt := Lib.hid zB
  have HLR := Lib.hid hlr
  have hn0 : (0 : Int) < (n : Int) := by omega
  clear h hd hN hr hj hlr hrk hy hx hcD fD zR kR fR hne hcells hgD zD zk
  go_enter Try.func25, Try.ntmps25
  go_wp2_with (fail)
  have LA := Lib.hid (Loc.new_ w #[.int .u8 d, .int .u8 v, .int .u8 l, .int .u8 u, .int .u8 o] 47)
  have LB := Lib.hid (HL.out.alloc (.cells #[.int .u8 d, .int .u8 v, .int .u8 l, .int .u8 u, .int .u8 o] 47))
  have HW := Lib.hid (H.out.alloc (.cells #[.int .u8 d, .int .u8 v, .int .u8 l, .int .u8 u, .int .u8 o] 47))
  have HZ := Lib.hid (below_alloc w (.cells #[.int .u8 d, .int .u8 v, .int .u8 l, .int .u8 u, .int .u8 o] 47))
  generalize w.alloc (.cells #[.int .u8 d, .int .u8 v, .int .u8 l, .int .u8 u, .int .u8 o] 47) = W at *
  have hS : ∀ w', Below W.heap.size W w' → _ := fun w' hb =>
    have hb' : Below w.heap.size w w' := HZ.out.trans (hb.mono HZ.out.size)
    And.intro ((LB.out.below hb).cell 3) (And.intro ((LA.out.below hb).cell 3)
      (And.intro ((hb'.cell (p := ⟨gD, k * 4, none⟩) HGD.out.2).trans HCD.out.1) (And.intro ((hb'.cell (p := ⟨gD, k * 4 + 1, none⟩) HGD.out.2).trans HCD.out.2.1)
      (And.intro ((hb'.cell (p := ⟨gD, k * 4 + 2, none⟩) HGD.out.2).trans HCD.out.2.2.1) (And.intro ((hb'.cell (p := ⟨gD, k * 4 + 3, none⟩) HGD.out.2).trans HCD.out.2.2.2) hb)))))
  have HSS := Lib.hid hS
  clear hS zB kB fB
  have W1 := IntWalk.i64_in u (by omega)
  have M5 : (k : Int) < (n : Int) := by omega
  have M6 : (0 : Int) ≤ (k : Int) := by omega
  go_region_held3 (fun w' => w'.cell? ⟨B, 3, none⟩ = some (.slice (some ⟨gD, 0, none⟩) n cd) ∧ w'.cell? ⟨w.heap.size, 3, none⟩ = some (.int .u8 u) ∧
      w'.cell? ⟨gD, k * 4, none⟩ = some (.int .i64 xd) ∧ w'.cell? ⟨gD, k * 4 + 1, none⟩ = some (.int .i64 xu) ∧ w'.cell? ⟨gD, k * 4 + 2, none⟩ = some (.int .i64 xs) ∧ w'.cell? ⟨gD, k * 4 + 3, none⟩ = some (.bool xb) ∧ Below W.heap.size W w')
    (first | exact HSS.out _ hB7 | (refine HSS.out _ ?_; repeat (first | exact hB7 | exact Below.refl _ _ | refine Below.drew ?_ | refine Below.alloc ?_ (by first | exact Nat.le_refl _ | exact hB7.size | (simp <;> omega)) _ | refine Below.setCell ?_ (by first | exact Nat.le_refl _ | exact hB7.size | (simp <;> omega)) _)))
    (first
      | (go_at_call 16
         refine (Spend_any xd xu xs xb u _ HR.out (World.drew (World.alloc W _))).mono ?_
         rintro e w3 ⟨rfl, hbF⟩
         have hB7 : Below W.heap.size W w3 := by go_split_ands; exact Below.trans (by assumption) (hbF.mono (Below.size (by assumption)))
         obtain ⟨⟨zX, kX, fX⟩, _⟩ := locs1 (undrew hbF))
      | (go_at_call 16
         refine (Spend_any xd xu xs xb u _ HR.out (World.drew W)).mono ?_
         rintro e w3 ⟨rfl, hbF⟩
         have hB7 : Below W.heap.size W w3 := by go_split_ands; exact Below.trans (by assumption) (hbF.mono (Below.size (by assumption)))))
  all_goals clear W1
  · have LX := Lib.hid (Loc.new_ w3 #[.int .i64 d', .int .i64 u', .int .i64 p', .bool b'] 26)
    have HX1 := Lib.hid ((HW.out.below hB7).alloc (.cells #[.int .i64 d', .int .i64 u', .int .i64 p', .bool b'] 26))
    have HXB := Lib.hid (hB7.alloc hB7.size (.cells #[.int .i64 d', .int .i64 u', .int .i64 p', .bool b'] 26))
    have HBX : Hid (W.heap.size ≤ w3.heap.size) := hB7.size
    clear hB7 hbF
    generalize w3.heap.size = bx at *
    generalize w3.alloc (.cells #[.int .i64 d', .int .i64 u', .int .i64 p', .bool b'] 26) = X at *
    have HLX := Lib.hid (LB.out.below HXB.out)
    have HB2 := Lib.hid (HZ.out.trans (HXB.out.mono HZ.out.size))
    have HZX := Lib.hid (HB2.out.mono (Nat.le_of_lt HLt.out))
    have HNX : Hid (bx ≠ gD) := by show bx ≠ gD; have h1 := HGD.out.2; have h2 := HZ.out.size; have h3 := HBX.out; omega
    have HNB : Hid (B ≠ gD) := by show B ≠ gD; have h1 := HGD.out.1; have h2 := H.out.bb; omega
    have HBD : Hid (B ≤ gD) := by show B ≤ gD; have h1 := HGD.out.1; have h2 := H.out.bb; omega
    have HXD := Lib.hid (And.intro ((HB2.out.cell (p := ⟨gD, k * 4, none⟩) HGD.out.2).trans HCD.out.1) (And.intro ((HB2.out.cell (p := ⟨gD, k * 4 + 1, none⟩) HGD.out.2).trans HCD.out.2.1) (And.intro ((HB2.out.cell (p := ⟨gD, k * 4 + 2, none⟩) HGD.out.2).trans HCD.out.2.2.1)
      (And.intro ((HB2.out.cell (p := ⟨gD, k * 4 + 3, none⟩) HGD.out.2).trans HCD.out.2.2.2) (fun j : Nat => (HB2.out.frozen (p := ⟨gD, j, none⟩) HGD.out.2).trans (HFD.out j))))))
    have hE : (e1 == 0) = true ∨ (e1 == 0) = false := by cases (e1 == 0) <;> simp
    rcases hE with hE | hE
    · have hE0 : e1 = 0 := by simpa using hE
      have HE := Lib.hid hE0
      clear hE0
      obtain ⟨zX, kX, fX⟩ := LX.out
      obtain ⟨y0, y1, y2, y3, yf⟩ := HXD.out
      obtain ⟨zB, kB, fB⟩ := HLX.out
      have nB := HNB.out
      have nX := HNX.out
      go_wp2_with (fail)
      go_region
      have HY1 := Lib.hid ((HX1.out.setDev (k := k) (by have := HN.out; omega) d' u' p' b').drew)
      have LY := Lib.hid (((((LX.out.far (p := ⟨gD, k * 4, none⟩) (Ne.symm nX) (.int .i64 d')).far (p := ⟨gD, k * 4 + 1, none⟩) (Ne.symm nX) (.int .i64 u')).far (p := ⟨gD, k * 4 + 2, none⟩) (Ne.symm nX) (.int .i64 p')).far (p := ⟨gD, k * 4 + 3, none⟩) (Ne.symm nX) (.bool b')).drew)
      have HZY := Lib.hid (((((HZX.out.setCell (p := ⟨gD, k * 4, none⟩) HBD.out (.int .i64 d')).setCell (p := ⟨gD, k * 4 + 1, none⟩) HBD.out (.int .i64 u')).setCell (p := ⟨gD, k * 4 + 2, none⟩) HBD.out (.int .i64 p')).setCell (p := ⟨gD, k * 4 + 3, none⟩) HBD.out (.bool b')).drew)
      clear y0 y1 y2 y3 yf zB kB fB zX kX fX HX1 LX HXD HLX HZX
      generalize ((((X.setCell ⟨gD, k * 4, none⟩ (.int .i64 d')).setCell ⟨gD, k * 4 + 1, none⟩ (.int .i64 u')).setCell ⟨gD, k * 4 + 2, none⟩ (.int .i64 p')).setCell ⟨gD, k * 4 + 3, none⟩ (.bool b')).drew = Y at *
      go_wp2_with (fail)
      obtain ⟨gR', gk', ck', hR1, hR2, z1, z2, z3, z4, _⟩ := HY1.out.report HYS.out HNE.out
      injection hR1 with hR1
      injection hR1 with hR1
      subst hR1
      have hR3 := HRK.out
      rw [hR2] at hR3
      injection hR3 with hR3
      injection hR3 with hR3 hR4 hR5
      injection hR3 with hR3
      injection hR3 with hR3
      subst hR3
      subst hR5
      obtain ⟨zB, kB, fB⟩ := HY1.out.loc
      obtain ⟨zX, kX, fX⟩ := LY.out
      have hlr2 : (st.rep.length : Int) = (n : Int) := by have := HLR.out; omega
      simp only [HLR.out] at kB
      have hown := HY1.out.each k _ ys hR2 HYS.out
      have hvb := (hown.lt gk' rfl)
      have hdR := HY1.out.dR k _ hR2
      have hnk : gk' ≠ gR := fun e => hdR gk' rfl (by rw [e]; rfl)
      have hnB : gk' ≠ B := by have h1 := hvb.1; have h2 := HY1.out.bb; omega
      have HOWN := Lib.hid hown
      have HR2 := Lib.hid hR2
      obtain ⟨i0, hi0, hi1, hi2, hi3⟩ := info_parts infoLoan
      have HGB := Lib.hid hvb
      clear hown hR2 hdR hR4
      go_region_law (first
        | (refine step_append_sl _ (by rfl) (.tmp 147) (.tmp 149) _ (by rfl) base 26 i0 _ 4 32 Try.underlying22 hi0 hi1 hi2 hi3 rfl (by omega) (.slice (some ⟨gk', 0, none⟩) ys.length ck') ys.length (ys.map LoanV.cells) (by rfl) ((HOWN.out.alloc _).drew) (some ⟨Y.heap.size, 0, none⟩) 1 1 [[.int .i64 d', .int .i64 u', .int .i64 p', .bool b']] (by rfl) (Sl.new_ _ _ _).drew (by simp) (by simp [Value.oneCell']) (by simp only [maxLen]; omega) (by omega) (Nat.le_trans HY1.out.hb (by simp)) ?_
           intro A4 c4 w4 hown4 hg4 hat4
           have hga := grown_at hg4 (g := gR) (Nat.lt_of_lt_of_le z1 (by simp)) (fun e => hnk (by injection e))
           have q0 := (hga.1 k).trans (((below_alloc Y _).drew.cell (p := ⟨gR, k, none⟩) z1).trans z3)
           have q1 := fun j : Nat => (hga.2 j).trans (((below_alloc Y _).drew.frozen (p := ⟨gR, j, none⟩) z1).trans (z4 j))
           have hgB := grown_at hg4 (g := B) (Nat.lt_of_lt_of_le zB (by simp)) (fun e => hnB (by injection e))
           have q2 := fun j : Nat => (hgB.1 j).trans (((below_alloc Y _).drew.cell (p := ⟨B, j, none⟩) zB).trans (kB j))))
      all_goals go_wp2_with (fail)
      all_goals go_ret
      all_goals exact DoRet.cast (dev_step HE.out) (dev_fin HY1.out HZY.out HR2.out HYS.out hg4 hown4 hat4)
    · have hE0 : e1 ≠ 0 := by simpa using hE
      go_wp2_with (fail)
      go_ret
      exact DoRet.cast (dev_stay hE0) ⟨rfl, HZX.out, _, _, _, _, _, _, _, HX1.out⟩
  · have LX := Lib.hid ((((((⟨zX, kX, fX⟩ : Loc w3 W.heap.size _).set_ 0 (.int .i64 d')).set_ 1 (.int .i64 u')).set_ 2 (.int .i64 p')).set_ 3 (.bool b')))
    have HX1 := Lib.hid (HW.out.below ((((hB7.setCell (p := ⟨W.heap.size, 0, none⟩) (Nat.le_refl _) (.int .i64 d')).setCell (p := ⟨W.heap.size, 1, none⟩) (Nat.le_refl _) (.int .i64 u')).setCell (p := ⟨W.heap.size, 2, none⟩) (Nat.le_refl _) (.int .i64 p')).setCell (p := ⟨W.heap.size, 3, none⟩) (Nat.le_refl _) (.bool b')))
    have HXB := Lib.hid ((((hB7.setCell (p := ⟨W.heap.size, 0, none⟩) (Nat.le_refl _) (.int .i64 d')).setCell (p := ⟨W.heap.size, 1, none⟩) (Nat.le_refl _) (.int .i64 u')).setCell (p := ⟨W.heap.size, 2, none⟩) (Nat.le_refl _) (.int .i64 p')).setCell (p := ⟨W.heap.size, 3, none⟩) (Nat.le_refl _) (.bool b'))
    clear hB7 hbF zX kX fX
    generalize (((w3.setCell ⟨W.heap.size, 0, none⟩ (.int .i64 d')).setCell ⟨W.heap.size, 1, none⟩ (.int .i64 u')).setCell ⟨W.heap.size, 2, none⟩ (.int .i64 p')).setCell ⟨W.heap.size, 3, none⟩ (.bool b') = X at *
    obtain ⟨bx, hbx⟩ : ∃ bx, W.heap.size = bx := ⟨_, rfl⟩
    rw [hbx] at LX ⊢
    have HBX : Hid (W.heap.size ≤ bx) := Nat.le_of_eq hbx
    clear hbx
    have HLX := Lib.hid (LB.out.below HXB.out)
    have HB2 := Lib.hid (HZ.out.trans (HXB.out.mono HZ.out.size))
    have HZX := Lib.hid (HB2.out.mono (Nat.le_of_lt HLt.out))
    have HNX : Hid (bx ≠ gD) := by show bx ≠ gD; have h1 := HGD.out.2; have h2 := HZ.out.size; have h3 := HBX.out; omega
    have HNB : Hid (B ≠ gD) := by show B ≠ gD; have h1 := HGD.out.1; have h2 := H.out.bb; omega
    have HBD : Hid (B ≤ gD) := by show B ≤ gD; have h1 := HGD.out.1; have h2 := H.out.bb; omega
    have HXD := Lib.hid (And.intro ((HB2.out.cell (p := ⟨gD, k * 4, none⟩) HGD.out.2).trans HCD.out.1) (And.intro ((HB2.out.cell (p := ⟨gD, k * 4 + 1, none⟩) HGD.out.2).trans HCD.out.2.1) (And.intro ((HB2.out.cell (p := ⟨gD, k * 4 + 2, none⟩) HGD.out.2).trans HCD.out.2.2.1)
      (And.intro ((HB2.out.cell (p := ⟨gD, k * 4 + 3, none⟩) HGD.out.2).trans HCD.out.2.2.2) (fun j : Nat => (HB2.out.frozen (p := ⟨gD, j, none⟩) HGD.out.2).trans (HFD.out j))))))
    have hE : (e1 == 0) = true ∨ (e1 == 0) = false := by cases (e1 == 0) <;> simp
    rcases hE with hE | hE
    · have hE0 : e1 = 0 := by simpa using hE
      have HE := Lib.hid hE0
      clear hE0
      obtain ⟨zX, kX, fX⟩ := LX.out
      obtain ⟨y0, y1, y2, y3, yf⟩ := HXD.out
      obtain ⟨zB, kB, fB⟩ := HLX.out
      have nB := HNB.out
      have nX := HNX.out
      go_wp2_with (fail)
      go_region
      have HY1 := Lib.hid ((HX1.out.setDev (k := k) (by have := HN.out; omega) d' u' p' b').drew)
      have LY := Lib.hid (((((LX.out.far (p := ⟨gD, k * 4, none⟩) (Ne.symm nX) (.int .i64 d')).far (p := ⟨gD, k * 4 + 1, none⟩) (Ne.symm nX) (.int .i64 u')).far (p := ⟨gD, k * 4 + 2, none⟩) (Ne.symm nX) (.int .i64 p')).far (p := ⟨gD, k * 4 + 3, none⟩) (Ne.symm nX) (.bool b')).drew)
      have HZY := Lib.hid (((((HZX.out.setCell (p := ⟨gD, k * 4, none⟩) HBD.out (.int .i64 d')).setCell (p := ⟨gD, k * 4 + 1, none⟩) HBD.out (.int .i64 u')).setCell (p := ⟨gD, k * 4 + 2, none⟩) HBD.out (.int .i64 p')).setCell (p := ⟨gD, k * 4 + 3, none⟩) HBD.out (.bool b')).drew)
      clear y0 y1 y2 y3 yf zB kB fB zX kX fX HX1 LX HXD HLX HZX
      generalize ((((X.setCell ⟨gD, k * 4, none⟩ (.int .i64 d')).setCell ⟨gD, k * 4 + 1, none⟩ (.int .i64 u')).setCell ⟨gD, k * 4 + 2, none⟩ (.int .i64 p')).setCell ⟨gD, k * 4 + 3, none⟩ (.bool b')).drew = Y at *
      go_wp2_with (fail)
      obtain ⟨gR', gk', ck', hR1, hR2, z1, z2, z3, z4, _⟩ := HY1.out.report HYS.out HNE.out
      injection hR1 with hR1
      injection hR1 with hR1
      subst hR1
      have hR3 := HRK.out
      rw [hR2] at hR3
      injection hR3 with hR3
      injection hR3 with hR3 hR4 hR5
      injection hR3 with hR3
      injection hR3 with hR3
      subst hR3
      subst hR5
      obtain ⟨zB, kB, fB⟩ := HY1.out.loc
      obtain ⟨zX, kX, fX⟩ := LY.out
      have hlr2 : (st.rep.length : Int) = (n : Int) := by have := HLR.out; omega
      simp only [HLR.out] at kB
      have hown := HY1.out.each k _ ys hR2 HYS.out
      have hvb := (hown.lt gk' rfl)
      have hdR := HY1.out.dR k _ hR2
      have hnk : gk' ≠ gR := fun e => hdR gk' rfl (by rw [e]; rfl)
      have hnB : gk' ≠ B := by have h1 := hvb.1; have h2 := HY1.out.bb; omega
      have HOWN := Lib.hid hown
      have HR2 := Lib.hid hR2
      obtain ⟨i0, hi0, hi1, hi2, hi3⟩ := info_parts infoLoan
      have HGB := Lib.hid hvb
      clear hown hR2 hdR hR4
      go_region_law (first
        | (refine step_append_sl _ (by rfl) (.tmp 147) (.tmp 149) _ (by rfl) base 26 i0 _ 4 32 Try.underlying22 hi0 hi1 hi2 hi3 rfl (by omega) (.slice (some ⟨gk', 0, none⟩) ys.length ck') ys.length (ys.map LoanV.cells) (by rfl) ((HOWN.out.alloc _).drew) (some ⟨Y.heap.size, 0, none⟩) 1 1 [[.int .i64 d', .int .i64 u', .int .i64 p', .bool b']] (by rfl) (Sl.new_ _ _ _).drew (by simp) (by simp [Value.oneCell']) (by simp only [maxLen]; omega) (by omega) (Nat.le_trans HY1.out.hb (by simp)) ?_
           intro A4 c4 w4 hown4 hg4 hat4
           have hga := grown_at hg4 (g := gR) (Nat.lt_of_lt_of_le z1 (by simp)) (fun e => hnk (by injection e))
           have q0 := (hga.1 k).trans (((below_alloc Y _).drew.cell (p := ⟨gR, k, none⟩) z1).trans z3)
           have q1 := fun j : Nat => (hga.2 j).trans (((below_alloc Y _).drew.frozen (p := ⟨gR, j, none⟩) z1).trans (z4 j))
           have hgB := grown_at hg4 (g := B) (Nat.lt_of_lt_of_le zB (by simp)) (fun e => hnB (by injection e))
           have q2 := fun j : Nat => (hgB.1 j).trans (((below_alloc Y _).drew.cell (p := ⟨B, j, none⟩) zB).trans (kB j))))
      all_goals go_wp2_with (fail)
      all_goals go_ret
      all_goals exact DoRet.cast (dev_step HE.out) (dev_fin HY1.out HZY.out HR2.out HYS.out hg4 hown4 hat4)
    · have hE0 : e1 ≠ 0 := by simpa using hE
      go_wp2_with (fail)
      go_ret
      exact DoRet.cast (dev_stay hE0) ⟨rfl, HZX.out, _, _, _, _, _, _, _, HX1.out⟩
end
end Go.Proofs.Ytfohjkddcinfmaa
