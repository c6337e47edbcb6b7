/- merge: the law MergeOrders, walked. -/
import Derived.Test.YtnnnibkainlplaaDoorMrgG
import Derived.Test.YtnnnibkainlplaaDoorMrgN0
import Derived.Test.YtnnnibkainlplaaDoorMrgN1
import Derived.Deep.RegionHeld3
namespace Go.Proofs.YtnnnibkainlplaaDoor
open Go.RowKit Go.Sort Go.Lib

set_option pp.maxSteps 20000 in
set_option maxRecDepth 100000 in
set_option maxHeartbeats 16000000 in
theorem mergeOrders_any {B0 : Nat} (w : World) (hE : Env B0 w) (hB0 : B0 ≤ w.heap.size) (A1 : Option Addr) (n1 c1 : Nat) (l1 : List EntC) (hs1 : Sl w 5 A1 n1 (l1.map EntC.cells)) (ho1 : ∀ u ∈ l1, EntAt w u) :
    Calls Tryd.prog 4 #[.slice A1 n1 c1] w fun e w' => e = .returned (.bool true) ∧ Below w.heap.size w w' := by
  obtain ⟨ie, he0, he1, he2, he3⟩ := info_parts infoEnt
  have HEV := Lib.hid (fun W (hb : Below w.heap.size w W) => (⟨hE.below (hb.mono hB0), Nat.le_trans hB0 hb.size⟩ : Env B0 W ∧ B0 ≤ W.heap.size))
  have HSM := Lib.hid (small47_any w hE hB0)
  have HS1 := Lib.hid hs1
  have HC1 := Lib.hid (fun W (hb : Below w.heap.size w W) h => FewM.ch (hs1.below hb) (fun u hu => Sl.below (ho1 u hu) hb) h)
  have HB : Hid (Below w.heap.size w w) := Lib.hid (Below.refl _ _)
  clear hE hB0 hs1 ho1
  go_enter Tryd.func4, Tryd.ntmps4
  go_wp2_with (fail)
  ((with_reducible refine (HSM.out).mono ?_); rintro _ w1 ⟨rfl, hb1⟩)
  have hbT := hb1
  replace HB := Lib.hid (HB.out.trans (hbT.mono HB.out.size))
  clear hbT hb1 
  go_wp2_with (fail)
  ((with_reducible refine (few47_40 w1 A1 n1 c1 l1 (HS1.out.below HB.out)).mono ?_); rintro _ w2 ⟨k1, rfl, hk1, hb2⟩)
  have hbT := hb2
  replace HB := Lib.hid (HB.out.trans (hbT.mono HB.out.size))
  clear hbT hb2 
  have HK1 := Lib.hid hk1
  clear hk1
  cases k1
  case false =>
    go_wp2_with (fail)
    go_ret
    exact ⟨rfl, HB.out⟩
  have HL1 := Lib.hid (HC1.out _ HB.out (HK1.out (by simp)).1)
  have hn1 : n1 ≤ 40 := by rw [← HL1.out.lenEq]; exact (HK1.out (by simp)).2
  clear HC1 HK1 HS1 HSM
  obtain ⟨V, hV⟩ : ∃ V, vsOf l1 = V := ⟨_, rfl⟩
  have HV := Lib.hid hV
  have hvn : V.length = n1 := by rw [← hV, vsOf_len, HL1.out.lenEq]
  have HVN := Lib.hid hvn
  clear hV hvn
  go_wp2_with (fail)
  ((with_reducible refine (Order_any w2 (HEV.out _ HB.out).1 (HEV.out _ HB.out).2 A1 n1 c1 l1 HL1.out (by omega)).mono ?_); rintro _ w3 ⟨AO, cO, lO, rfl, h3, hv3, hb3⟩)
  have hbT := hb3
  replace HB := Lib.hid (HB.out.trans (hbT.mono HB.out.size))
  replace HL1 := Lib.hid (HL1.out.below hbT)
  clear hbT hb3 
  rw [HV.out] at hv3 h3 ⊢
  have hnO : (ordF V).2.length ≤ n1 := by rw [← HVN.out]; exact ord_lenV V
  obtain ⟨nO, hnOe⟩ : ∃ n, (ordF V).2.length = n := ⟨_, rfl⟩
  rw [hnOe] at hnO h3 ⊢
  have HLO := Lib.hid h3
  have HVO := Lib.hid hv3
  clear h3 hv3 hnOe
  go_wp2_with (fail)
  ((with_reducible refine (Heads_any w3 (HEV.out _ HB.out).1 (HEV.out _ HB.out).2 A1 n1 c1 l1 HL1.out (by omega)).mono ?_); rintro _ w4 ⟨gH, rfl, h4, hb4⟩)
  have hbT := hb4
  replace HB := Lib.hid (HB.out.trans (hbT.mono HB.out.size))
  replace HL1 := Lib.hid (HL1.out.below hbT)
  replace HLO := Lib.hid (HLO.out.below hbT)
  clear hbT hb4 
  rw [HV.out] at h4
  have HGH := Lib.hid h4.sl'
  clear h4
  go_wp2_with (fail)
  ((with_reducible refine (Forks_any w4 (HEV.out _ HB.out).1 (HEV.out _ HB.out).2 A1 n1 c1 l1 HL1.out (by omega) (forkO V) (by rw [HV.out])).mono ?_); rintro _ w5 ⟨AF, cF, rfl, h5, hb5⟩)
  have hbT := hb5
  replace HB := Lib.hid (HB.out.trans (hbT.mono HB.out.size))
  replace HL1 := Lib.hid (HL1.out.below hbT)
  replace HLO := Lib.hid (HLO.out.below hbT)
  replace HGH := Lib.hid (HGH.out.below hbT)
  clear hbT hb5 
  have HGF := Lib.hid h5.sl'
  have hnF : (forkO V).length ≤ 8 := forkO_len V
  obtain ⟨nF, hnFe⟩ : ∃ n, (forkO V).length = n := ⟨_, rfl⟩
  rw [hnFe] at hnF HGF ⊢
  clear h5 hnFe
  have hOi : ¬ ((n1 : Int) < (nO : Int)) := by omega
  have HMK : ∀ W, Sem.run Tryd.prog (Instr.makeSlice 31 (.int .i64 8) (.int .i64 8)) W = .ok (.slice (some ⟨W.heap.size, 0, none⟩) 8 8) (W.alloc (.cells row8 3)) := run_make8
  have HSA := Lib.hid ((Sep.start w5).ownNew (below_alloc _ _) (own8 w5))
  go_wp2_with (fail)
  clear HMK
  generalize hgT : w5.heap.size = gT at HSA ⊢
  clear hgT
  go_loopw [8] (fun iv wr => ∃ (i : Nat) (t : List Nat), i ≤ nO ∧ iv = .int .i64 (i : Int) ∧ t.length = 8 ∧ (∀ d : Nat, d < 8 → t.getD d 0 = countF ((ordF V).2.take i) d) ∧ Sep w5 wr (ownR 3 1 (.slice (some ⟨gT, 0, none⟩) 8 8) 8 (t.map natC) :: [])) (fun iv _ => nO - (intOf iv).toNat)
  case atStart => exact ⟨0, zero8, Nat.zero_le _, rfl, rfl, by simp only [List.take_zero]; decide, HSA.out⟩
  case round =>
    obtain ⟨i, t, hi, rfl, htl, ht, hS⟩ := hrel
    obtain ⟨wo, rfl⟩ : ∃ wo : World, wo = wr := ⟨_, rfl⟩
    have HSO := Lib.hid hS
    have HT := Lib.hid ht
    have HTL := Lib.hid htl
    clear hS ht htl HSA
    by_cases hlt : i < nO
    · obtain ⟨x, hx⟩ : ∃ v, lO[i]? = some v := ⟨_, List.getElem?_eq_getElem (by rw [HLO.out.lenEq]; exact hlt)⟩
      have hxv : (ordF V).2[i]? = some x.v := by rw [← HVO.out]; exact vsOf_at hx
      have hxin := mem_joinF.1 (ord_in (List.mem_of_getElem? hxv))
      obtain ⟨b, o, rfl, hbl, d0, d1, d2, d3, d4⟩ := ent_at (HLO.out.sl.below HSO.out.base) hx
      have hxa := Sl.below (HLO.out.at_ x (List.mem_of_getElem? hx)) HSO.out.base
      have hxl := HLO.out.len x (List.mem_of_getElem? hx)
      have HXA := Lib.hid hxa
      have HXL := Lib.hid hxl
      have HXR := Lib.hid hxin.2
      have HXV := Lib.hid hxv
      have HXM : Hid (x.v ∈ vsOf l1) := Lib.hid (by rw [HV.out]; exact hxin.1)
      have hii : (i : Int) < (nO : Int) := by omega
      have hi0 : (0 : Int) ≤ (i : Int) := by omega
      have hwi : IntKind.i64.wrap ((i : Int) + 1) = (i : Int) + 1 := IntWalk.i64_in _ (by omega)
      have HS2 := Lib.hid (HSO.out.box #[.int .i64 x.v.dev, .int .i64 x.v.no, .int .i64 x.v.day, .slice x.A x.v.seen.length x.c, .string ⟨x.v.text.toArray⟩] 40)
      have HLI := Lib.hid hlt
      clear hx hxv hxin hxa hxl hbl hlt hi
      go_upto_region 14 with (fail)
      generalize hWW : wo.alloc (.cells #[.int .i64 x.v.dev, .int .i64 x.v.no, .int .i64 x.v.day, .slice x.A x.v.seen.length x.c, .string ⟨x.v.text.toArray⟩] 40) = W at *
      have HXB : Hid (EntAt W x) := Lib.hid (by rw [← hWW]; exact Sl.alloc HXA.out _)
      generalize hbx : wo.heap.size = bx at *
      clear hWW hbx HXA HSO d0 d1 d2 d3 d4
      obtain ⟨zX, kX, fX⟩ := HS2.out.loc
      have hra := Right_any W x HXB.out HXL.out.1 HXL.out.2 true (rightB_true.2 HXR.out)
      simp only [EntC.cells] at hra
      have HRA := Lib.hid hra
      clear hra
      go_wp2_with (fail)
      ((with_reducible refine HRA.out.mono ?_); rintro _ w7 ⟨rfl, hb7⟩)
      replace HS2 := Lib.hid (HS2.out.below hb7)
      have HXC : Hid (EntAt w7 x) := Lib.hid (Sl.below HXB.out hb7)
      clear hb7 zX kX fX HXB HRA
      obtain ⟨zX, kX, fX⟩ := HS2.out.loc
      have hha := Has_any w7 A1 n1 c1 l1 (HL1.out.below HS2.out.base) (by omega) x HXC.out true (decide_eq_true HXM.out)
      simp only [EntC.cells] at hha
      have HHA := Lib.hid hha
      clear hha
      go_wp2_with (fail)
      ((with_reducible refine HHA.out.mono ?_); rintro _ w8 ⟨rfl, hb8⟩)
      replace HS2 := Lib.hid (HS2.out.below hb8)
      have HXD : Hid (EntAt w8 x) := Lib.hid (Sl.below HXC.out hb8)
      clear hb8 zX kX fX HXC HHA
      obtain ⟨⟨dv, xno, xday, xseen, xtext⟩, xA, xc⟩ := x
      obtain ⟨e, rfl⟩ : ∃ e : Nat, dv = (e : Int) := ⟨dv.toNat, by have := HXR.out.d0; simp only at this; omega⟩
      have he8 : e < 8 := by have := HXR.out.d1; simp only at this; omega
      have hei0 : (0 : Int) ≤ (e : Int) := by omega
      have hei8 : (e : Int) < 8 := by omega
      obtain ⟨te, hte⟩ : ∃ te, t[e]? = some te := ⟨_, List.getElem?_eq_getElem (by rw [HTL.out]; exact he8)⟩
      have hno := ord_no HXV.out
      simp only [Int.toNat_natCast] at hno
      have hte2 := HT.out e he8
      rw [List.getD_eq_getElem?_getD, hte, Option.getD_some] at hte2
      rw [← hte2] at hno
      subst hno
      have HTE := Lib.hid hte
      have HE8 := Lib.hid he8
      clear hte hte2 he8
      obtain ⟨zX, kX, fX⟩ := HS2.out.loc
      obtain ⟨zN, kN, fN⟩ := HS2.out.drop.cellN HTE.out
      go_upto_region 16 with (fail)
      go_quiet (fail)
      go_wp2_with (fail)
      have HS3 := Lib.hid (HS2.out.drewN nq)
      have HXE : Hid (EntAt (w8.drewN nq) ⟨⟨(e : Int), (te : Int), xday, xseen, xtext⟩, xA, xc⟩) := Lib.hid (Sl.below HXD.out (bdrewN (Below.refl _ _) nq))
      clear HS2 HXD zX kX fX zN kN fN
      generalize w8.drewN nq = w9 at *
      go_loopw [10] (fun jv wr => ∃ d : Nat, d ≤ 8 ∧ jv = .int .i64 (d : Int) ∧ Below w9.heap.size w9 wr) (fun jv _ => 8 - (intOf jv).toNat)
      case atStart => exact ⟨0, by omega, rfl, Below.refl _ _⟩
      case round =>
        obtain ⟨d, hd, rfl, hb⟩ := hrel
        obtain ⟨wi, rfl⟩ : ∃ wi : World, wi = wr := ⟨_, rfl⟩
        have HBI := Lib.hid hb
        by_cases hltd : d < 8
        · obtain ⟨s, hs⟩ : ∃ s, xseen[d]? = some s := ⟨_, List.getElem?_eq_getElem (by have := HXR.out.len; simp only at this; omega)⟩
          obtain ⟨td, htd⟩ : ∃ te, t[d]? = some te := ⟨_, List.getElem?_eq_getElem (by rw [HTL.out]; exact hltd)⟩
          obtain ⟨hh, hhd⟩ : ∃ p, (ordF V).1[d]? = some p := ⟨_, List.getElem?_eq_getElem (by rw [heads_len]; exact hltd)⟩
          obtain ⟨bs, os, hsA, hbs, cs⟩ := (Sl.below HXE.out hb).at1 (k := d) (v := .int .i64 s) (by rw [List.getElem?_map]; simp only; rw [hs]; rfl)
          have HSI := Lib.hid (HS3.out.below hb)
          obtain ⟨bh, oh, eh, hbh, kh⟩ := (HGH.out.below HSI.out.base).at1 (k := d) (v := .int .i64 (hh : Int)) (by rw [List.getElem?_map, hhd]; rfl)
          injection eh with eh
          injection eh with eh1 eh2
          subst eh1 eh2
          rw [Nat.zero_add] at kh
          simp only at hsA
          have hsl : (xseen.length : Int) = 8 := by have := HXR.out.len; simp only at this; rw [this]; rfl
          have hdi : (d : Int) < 8 := by omega
          have hd0 : (0 : Int) ≤ (d : Int) := by omega
          have hwd : IntKind.i64.wrap ((d : Int) + 1) = (d : Int) + 1 := IntWalk.i64_in _ (by omega)
          have htd2 := HT.out d hltd
          rw [List.getD_eq_getElem?_getD, htd, Option.getD_some] at htd2
          have HLD := Lib.hid hltd
          obtain ⟨zT, kT, fT⟩ := HSI.out.drop.cellN htd
          obtain ⟨zX, kX, fX⟩ := HSI.out.loc
          by_cases hgt : (td : Int) < s
          · have hww := ord_wants HXV.out hltd (s := s) hs (by rw [← htd2]; exact hgt)
            rw [List.getD_eq_getElem?_getD, hhd, Option.getD_some, ← htd2] at hww
            have hht : ¬ ((td : Int) < (hh : Int)) := by have := hww.2; omega
            have HHI := Lib.hid (fun W (hbw : Below wi.heap.size wi W) => hasI_any W AF nF cF (forkO V) ((HGF.out.below HSI.out.base).below hbw) (by omega) (d : Int) true (decide_eq_true hww.1))
            have c3 := kX 3
            simp only [List.getElem?_toArray, List.getElem?_cons_succ, List.getElem?_cons_zero] at c3
            rw [hsA] at c3
            have hbt : bs < wi.heap.size := hbs
            have hS : ∀ w', Below wi.heap.size wi w' → (w'.cell? ⟨bx, 3, none⟩ = some (.slice (some ⟨bs, os, none⟩) xseen.length xc) ∧ w'.cell? ⟨bs, os + d, none⟩ = some (.int .i64 s) ∧ w'.cell? ⟨gT, d, none⟩ = some (.int .i64 (td : Int)) ∧ w'.cell? ⟨gH, d, none⟩ = some (.int .i64 (hh : Int)) ∧ Below wi.heap.size wi w') := fun w' hbw => ⟨(hbw.cell (p := ⟨bx, 3, none⟩) zX).trans c3, (hbw.cell (p := ⟨bs, os + d, none⟩) hbs).trans cs, (hbw.cell (p := ⟨gT, d, none⟩) zT).trans kT, (hbw.cell (p := ⟨gH, d, none⟩) hbh).trans kh, hbw⟩
            have HSS := Lib.hid hS
            clear hS hww htd2 hs htd hhd hltd hd hb hsA zT kT fT zX kX fX cs kh c3 hbt
            go_upto_region 21 with (fail)
            have hB7 := Below.refl wi.heap.size wi
            go_region_held3 (fun w' => w'.cell? ⟨bx, 3, none⟩ = some (.slice (some ⟨bs, os, none⟩) xseen.length xc) ∧ w'.cell? ⟨bs, os + d, none⟩ = some (.int .i64 s) ∧ w'.cell? ⟨gT, d, none⟩ = some (.int .i64 (td : Int)) ∧ w'.cell? ⟨gH, d, none⟩ = some (.int .i64 (hh : Int)) ∧ Below wi.heap.size wi w')
              (first | exact HSS.out _ hB7 | (refine HSS.out _ ?_; repeat (first | exact hB7 | exact Below.refl _ _ | refine Below.drew ?_ | refine Below.alloc ?_ (by first | exact Nat.le_refl _ | exact hB7.size | (simp <;> omega)) _ | refine Below.setCell ?_ (by first | exact Nat.le_refl _ | exact hB7.size | (simp <;> omega)) _)))
              (((with_reducible refine (HHI.out _ ?hs1).mono ?_)
                (case hs1 => go_split_ands; assumption)
                rintro e w9 ⟨rfl, hbF⟩
                have hB7 : Below wi.heap.size wi w9 := by go_split_ands; exact Below.trans (by assumption) (hbF.mono (Below.size (by assumption)))))
            have HB7 := Lib.hid hB7
            clear hB7 hbF
            go_wp2_with (fail)
            go_roundw
            case rel => exact ⟨d + 1, HLD.out, by go_num, HBI.out.trans (HB7.out.mono HBI.out.size)⟩
            case measure => have := HLD.out; simp [intOf]; omega
          · rw [hsA] at kX
            clear htd2 hs htd hhd hltd hd hb hsA
            go_upto_region 21 with (fail)
            go_quiet (fail)
            go_wp2_with (fail)
            go_roundw
            case rel => exact ⟨d + 1, HLD.out, by go_num, bdrewN HBI.out _⟩
            case measure => have := HLD.out; simp [intOf]; omega
        · obtain rfl : d = 8 := by omega
          have hdi : ¬ ((8 : Nat) : Int) < 8 := by omega
          have HS4 := Lib.hid (HS3.out.below hb)
          obtain ⟨zX, kX, fX⟩ := HS4.out.loc
          obtain ⟨zN, kN, fN⟩ := HS4.out.drop.cellN HTE.out
          have hwt : IntKind.i64.wrap ((te : Int) + 1) = (te : Int) + 1 := IntWalk.i64_in _ (by have := HXR.out.n1; simp only at this; omega)
          have HS5 := Lib.hid (HS4.out.sw.bumpN HTE.out)
          clear hb hd hltd
          go_wp2_with (fail)
          go_roundw
          case rel =>
            refine ⟨i + 1, HLI.out, by omega, bump t e, by unfold bump; rw [List.length_set]; exact HTL.out, fun d hd => ?_, HS5.out.drop2⟩
            rw [← List.getD_eq_getElem?_getD, bump_at HTL.out hd, countF_snoc HXV.out, HT.out d hd]
            by_cases hed : e = d
            · rw [if_pos hed, if_pos (by simp only; omega)]
            · rw [if_neg hed, if_neg (by simp only; omega)]
          case measure => have := HLI.out; simp [intOf]; omega
    · obtain rfl : i = nO := by omega
      have hii : ¬ ((i : Nat) : Int) < (i : Int) := by omega
      have htk : (ordF V).2.take i = (ordF V).2 := List.take_of_length_le (by rw [← HVO.out, vsOf_len, HLO.out.lenEq]; exact Nat.le_refl _)
      have HTO : Hid (∀ d : Nat, d < 8 → t.getD d 0 = countF (ordF V).2 d) := Lib.hid (by have := HT.out; rwa [htk] at this)
      clear HT htk hlt hi
      go_wp2_with (fail)
      go_loopw [11] (fun iv wr => ∃ d : Nat, d ≤ 8 ∧ iv = .int .i64 (d : Int) ∧ Sep w5 wr (ownR 3 1 (.slice (some ⟨gT, 0, none⟩) 8 8) 8 (t.map natC) :: [])) (fun iv _ => 8 - (intOf iv).toNat)
      case atStart => exact ⟨0, by omega, rfl, HSO.out⟩
      case round =>
        obtain ⟨d, hd, rfl, hS⟩ := hrel
        obtain ⟨wq, rfl⟩ : ∃ wq : World, wq = wr := ⟨_, rfl⟩
        have HSQ := Lib.hid hS
        clear hS HSO
        by_cases hltd : d < 8
        · have hdi : (d : Int) < 8 := by omega
          have hd0 : (0 : Int) ≤ (d : Int) := by omega
          have hwd : IntKind.i64.wrap ((d : Int) + 1) = (d : Int) + 1 := IntWalk.i64_in _ (by omega)
          have HLD := Lib.hid hltd
          have HSN := Lib.hid (HSQ.out.ownNil 40 5)
          clear hltd hd
          go_wp2_with (fail)
          go_loopw [12, 13] (fun sv kv wr => ∃ (k m : Nat) (A : Option Addr) (c : Nat), sv = .slice A m c ∧ kv = .int .i64 (k : Int) ∧ k ≤ i ∧ m ≤ k ∧ Sep w5 wr (ownR 40 5 (.slice A m c) m ((ownC (lO.take k) (d : Int)).map EntC.cells) :: ownR 3 1 (.slice (some ⟨gT, 0, none⟩) 8 8) 8 (t.map natC) :: [])) (fun _ kv _ => i - (intOf kv).toNat)
          case atStart => exact ⟨0, 0, none, 0, rfl, rfl, by omega, by omega, HSN.out⟩
          case round =>
            obtain ⟨k, m, Ao, co, rfl, rfl, hk, hmk, hS⟩ := hrel
            obtain ⟨wk, rfl⟩ : ∃ wk : World, wk = wr := ⟨_, rfl⟩
            have HSK := Lib.hid hS
            clear hS HSN
            by_cases hltk : k < i
            · obtain ⟨x, hx⟩ : ∃ v, lO[k]? = some v := ⟨_, List.getElem?_eq_getElem (by rw [HLO.out.lenEq]; exact hltk)⟩
              obtain ⟨b, o, rfl, hbl, d0, d1, d2, d3, d4⟩ := ent_at (HLO.out.sl.below HSK.out.base) hx
              have hki : (k : Int) < (i : Int) := by omega
              have hk0 : (0 : Int) ≤ (k : Int) := by omega
              have hwk : IntKind.i64.wrap ((k : Int) + 1) = (k : Int) + 1 := IntWalk.i64_in _ (by omega)
              have HTK := Lib.hid (take_succ' hx)
              have HLK := Lib.hid hltk
              clear hx hltk hbl hk
              by_cases hxd : x.v.dev = (d : Int)
              · have hdb : (x.v.dev == (d : Int)) = true := by simpa using hxd
                have HXD := Lib.hid hxd
                have HSA2 := Lib.hid (HSK.out.alloc (.cells #[.int .i64 x.v.dev, .int .i64 x.v.no, .int .i64 x.v.day, .slice x.A x.v.seen.length x.c, .string ⟨x.v.text.toArray⟩] 40))
                have HN1 := Lib.hid (Sl.new_ wk 40 (EntC.cells x))
                simp only [EntC.cells] at HN1
                clear hxd
                go_wp2_with (at_builtin; (refine wpList_append_sl _ rfl (.tmp 121) (.tmp 126) _ rfl w5.heap.size 40 ie _ 5 64 Tryd.underlying22 he0 he1 he2 he3 rfl (by omega) _ m ((ownC (lO.take k) (d : Int)).map EntC.cells) rfl HSA2.out.own (some ⟨wk.heap.size, 0, none⟩) 1 1 ([x].map EntC.cells) rfl HN1.out (ents_len _) (ents_one _) (by simp only [maxLen]; omega) (by omega) HSA2.out.base.size ?_); intro A9 c9 w9 hown9 hg9 hat9
                             have HS9 := Lib.hid (HSA2.out.grown hown9 hg9 hat9)
                             clear hown9 hg9 hat9)
                go_roundw
                case rel =>
                  refine ⟨k + 1, m + 1, A9, c9, rfl, by go_num, HLK.out, by omega, ?_⟩
                  rw [HTK.out, show ownC (lO.take k ++ [x]) (d : Int) = ownC (lO.take k) (d : Int) ++ [x] by simp [ownC, HXD.out], List.map_append]
                  exact HS9.out
                case measure => have := HLK.out; simp [intOf]; omega
              · have hdb : (x.v.dev == (d : Int)) = false := by simpa using hxd
                have HXD := Lib.hid hxd
                clear hxd
                go_wp2_with (fail)
                go_roundw
                case rel =>
                  refine ⟨k + 1, m, Ao, co, rfl, by go_num, HLK.out, by omega, ?_⟩
                  rw [HTK.out, show ownC (lO.take k ++ [x]) (d : Int) = ownC (lO.take k) (d : Int) by simp [ownC, HXD.out]]
                  exact HSK.out
                case measure => have := HLK.out; simp [intOf]; omega
            · as_aux_lemma =>
              obtain rfl : k = i := by omega
              have hki : ¬ ((k : Nat) : Int) < (k : Int) := by omega
              have htk : lO.take k = lO := List.take_of_length_le (by rw [HLO.out.lenEq]; exact Nat.le_refl _)
              have HSO2 := HSK.out
              rw [htk] at HSO2
              replace HSO2 := Lib.hid HSO2
              have hvo : vsOf (ownC lO (d : Int)) = ownF (ordF V).2 (d : Int) := by rw [vsOf_own, HVO.out]
              have hml : m = countF (ordF V).2 d := by
                have h1 : (ownC lO (d : Int)).length = m := by have := HSO2.out.own.2.2; simpa using this
                rw [← h1, ← vsOf_len, hvo]
                rfl
              have HML := Lib.hid hml
              have HVW := Lib.hid hvo
              have HBQ := Lib.hid (HB.out.trans (HSO2.out.base.mono HB.out.size))
              have HPA := Lib.hid (Past_anyO wk (HEV.out _ HBQ.out).1 (HEV.out _ HBQ.out).2 A1 n1 c1 l1 (HL1.out.below HSO2.out.base) (by omega) (d : Int))
              rw [HV.out] at HPA
              clear htk hvo hml hltk HSK
              go_wp2_with (fail)
              ((with_reducible refine HPA.out.mono ?_); rintro _ wp ⟨AP, cP, lP, rfl, hP, hvP, hbP, hcP⟩)
              have hmp : m ≤ (pastF (joinF V) (d : Int)).length := by rw [HML.out]; exact (ord_own HLD.out).2
              have hpl : (pastF (joinF V) (d : Int)).length ≤ 400 := past_len400 _ _
              obtain ⟨nP, hnP⟩ : ∃ n, (pastF (joinF V) (d : Int)).length = n := ⟨_, rfl⟩
              rw [hnP] at hP hcP hmp hpl ⊢
              have HP := Lib.hid hP
              have HVP := Lib.hid hvP
              have HSP := Lib.hid (HSO2.out.below hbP)
              clear hP hvP hbP hnP HPA HSO2
              obtain ⟨td, htd⟩ : ∃ te, t[d]? = some te := ⟨_, List.getElem?_eq_getElem (by rw [HTL.out]; exact HLD.out)⟩
              obtain ⟨hh, hhd⟩ : ∃ p, (ordF V).1[d]? = some p := ⟨_, List.getElem?_eq_getElem (by rw [heads_len]; exact HLD.out)⟩
              have e1 := HTO.out d HLD.out
              have e2 := ord_heads (V := V) HLD.out
              rw [List.getD_eq_getElem?_getD, htd, Option.getD_some] at e1
              rw [List.getD_eq_getElem?_getD, hhd, Option.getD_some] at e2
              rw [← e1] at e2
              subst e2
              obtain ⟨zT, kT, fT⟩ := HSP.out.drop.cellN htd
              obtain ⟨bh, oh, eh, hbh, kh⟩ := (HGH.out.below HSP.out.base).at1 (k := d) (v := .int .i64 (hh : Int)) (by rw [List.getElem?_map, hhd]; rfl)
              injection eh with eh
              injection eh with eh1 eh2
              subst eh1 eh2
              rw [Nat.zero_add] at kh
              have HOC : Hid (ChAt wp Ao m (ownC lO (d : Int))) := Lib.hid ⟨HSP.out.own.sl', fun u hu => Sl.below (HLO.out.at_ u ((List.mem_filter.1 hu).1)) HSP.out.base, fun u hu => HLO.out.len u ((List.mem_filter.1 hu).1)⟩
              have HCK1 := Lib.hid (fun W (hb : Below wp.heap.size wp W) => Check_any W Ao m co (ownC lO (d : Int)) (HOC.out.below hb) 0 (by rw [HVW.out, (ord_own HLD.out).1]; exact check_take (past_ok V _) _))
              have HCK2 := Lib.hid (fun W (hb : Below wp.heap.size wp W) => Check_any W AP nP cP lP (HP.out.below hb) 0 (by rw [HVP.out]; exact past_ok V _))
              have hS : ∀ w', Below wp.heap.size wp w' → (w'.cell? ⟨gT, d, none⟩ = some (.int .i64 (hh : Int)) ∧ w'.cell? ⟨gH, d, none⟩ = some (.int .i64 (hh : Int)) ∧ Below wp.heap.size wp w') := fun w' hbw => ⟨(hbw.cell (p := ⟨gT, d, none⟩) zT).trans kT, (hbw.cell (p := ⟨gH, d, none⟩) hbh).trans kh, hbw⟩
              have HSS := Lib.hid hS
              have hmpi : ¬ ((nP : Int) < (m : Int)) := by omega
              clear hS htd hhd e1 zT kT fT kh hbh
              go_upto_region 34 with (fail)
              refine wpTill.startN 26 (S := fun w' => w'.cell? ⟨gT, d, none⟩ = some (.int .i64 (hh : Int)) ∧ w'.cell? ⟨gH, d, none⟩ = some (.int .i64 (hh : Int)) ∧ Below wp.heap.size wp w') (T := fun _ => True) (m := 300) rfl (by kernel_rfl) ?_
              have HBZ := Lib.hid (Below.drew (Below.refl wp.heap.size wp))
              generalize wp.drew = wz at *
              refine wpTill.take (i := 0) (v := ?_) (by rfl) rfl (by kernel_rfl) (by kernel_rfl) (by kernel_rfl) (by exact fun _ _ _ h => h) (HSS.out _ HBZ.out) (fun _ => trivial) (Or.inl ⟨by rfl, ?_⟩) ?_
              rotate_left
              · (intro w' hSw; (try dsimp only at hSw); go_simp; (try with_reducible rfl))
              (try simp only [Act.put, List.setIfInBounds_toArray, List.set_cons_zero, List.set_cons_succ, List.getElem_toArray, List.getElem_cons_zero, List.getElem_cons_succ])
              refine wpTill.take (i := 1) (v := ?_) (by rfl) rfl (by kernel_rfl) (by kernel_rfl) (by kernel_rfl) (by exact fun _ _ _ h => h) (HSS.out _ HBZ.out) (fun _ => trivial) (Or.inl ⟨by rfl, ?_⟩) ?_
              rotate_left
              · (intro w' hSw; (try dsimp only at hSw); go_simp; (try with_reducible rfl))
              (try simp only [Act.put, List.setIfInBounds_toArray, List.set_cons_zero, List.set_cons_succ, List.getElem_toArray, List.getElem_cons_zero, List.getElem_cons_succ])
              refine wpTill.take (i := 2) (v := ?_) (by rfl) rfl (by kernel_rfl) (by kernel_rfl) (by kernel_rfl) (by exact fun _ _ _ h => h) (HSS.out _ HBZ.out) (fun _ => trivial) (Or.inl ⟨by rfl, ?_⟩) ?_
              rotate_left
              · (intro w' hSw; (try dsimp only at hSw); go_simp; (try with_reducible rfl))
              (try simp only [Act.put, List.setIfInBounds_toArray, List.set_cons_zero, List.set_cons_succ, List.getElem_toArray, List.getElem_cons_zero, List.getElem_cons_succ])
              refine wpTill.take (i := 3) (v := ?_) (by rfl) rfl (by kernel_rfl) (by kernel_rfl) (by kernel_rfl) (by exact fun _ _ _ h => h) (HSS.out _ HBZ.out) (fun _ => trivial) (Or.inl ⟨by rfl, ?_⟩) ?_
              rotate_left
              · (intro w' hSw; (try dsimp only at hSw); go_simp; (try with_reducible rfl))
              (try simp only [Act.put, List.setIfInBounds_toArray, List.set_cons_zero, List.set_cons_succ, List.getElem_toArray, List.getElem_cons_zero, List.getElem_cons_succ])
              refine wpTill.take (i := 4) (v := ?_) (by rfl) rfl (by kernel_rfl) (by kernel_rfl) (by kernel_rfl) (by exact fun _ _ _ h => h) (HSS.out _ HBZ.out) (fun _ => trivial) (Or.inl ⟨by rfl, ?_⟩) ?_
              rotate_left
              · (intro w' hSw; (try dsimp only at hSw); go_simp; (try with_reducible rfl))
              (try simp only [Act.put, List.setIfInBounds_toArray, List.set_cons_zero, List.set_cons_succ, List.getElem_toArray, List.getElem_cons_zero, List.getElem_cons_succ])
              refine wpTill.take (i := 5) (v := ?_) (by rfl) rfl (by kernel_rfl) (by kernel_rfl) (by kernel_rfl) (by exact fun _ _ _ h => h) (HSS.out _ HBZ.out) (fun _ => trivial) (Or.inl ⟨by rfl, ?_⟩) ?_
              rotate_left
              · (intro w' hSw; (try dsimp only at hSw); go_simp; (try with_reducible rfl))
              (try simp only [Act.put, List.setIfInBounds_toArray, List.set_cons_zero, List.set_cons_succ, List.getElem_toArray, List.getElem_cons_zero, List.getElem_cons_succ])
              refine wpTill.take (i := 6) (v := ?_) (by rfl) rfl (by kernel_rfl) (by kernel_rfl) (by kernel_rfl) (by exact fun _ _ _ h => h) (HSS.out _ HBZ.out) (fun _ => trivial) (Or.inl ⟨by rfl, ?_⟩) ?_
              rotate_left
              · (intro w' hSw; (try dsimp only at hSw); go_simp; (try with_reducible rfl))
              (try simp only [Act.put, List.setIfInBounds_toArray, List.set_cons_zero, List.set_cons_succ, List.getElem_toArray, List.getElem_cons_zero, List.getElem_cons_succ])
              refine wpTill.take (i := 7) (v := ?_) (by rfl) rfl (by kernel_rfl) (by kernel_rfl) (by kernel_rfl) (by exact fun _ _ _ h => h) (HSS.out _ HBZ.out) (fun _ => trivial) (Or.inl ⟨by rfl, ?_⟩) ?_
              rotate_left
              · (intro w' hSw; (try dsimp only at hSw); go_simp; (try with_reducible rfl))
              (try simp only [Act.put, List.setIfInBounds_toArray, List.set_cons_zero, List.set_cons_succ, List.getElem_toArray, List.getElem_cons_zero, List.getElem_cons_succ])
              refine wpTill.take (i := 8) (v := ?_) (by rfl) rfl (by kernel_rfl) (by kernel_rfl) (by kernel_rfl) (by exact fun _ _ _ h => h) (HSS.out _ HBZ.out) (fun _ => trivial) (Or.inl ⟨by rfl, ?_⟩) ?_
              rotate_left
              · (intro w' hSw; (try dsimp only at hSw); go_simp; (try with_reducible rfl))
              (try simp only [Act.put, List.setIfInBounds_toArray, List.set_cons_zero, List.set_cons_succ, List.getElem_toArray, List.getElem_cons_zero, List.getElem_cons_succ])
              try simp only [bne_self_eq_false, beq_self_eq_true, Bool.not_true]
              refine wpTill.take (i := 9) (v := ?_) (by rfl) rfl (by kernel_rfl) (by kernel_rfl) (by kernel_rfl) (by exact fun _ _ _ h => h) (HSS.out _ HBZ.out) (fun _ => trivial) (Or.inl ⟨by rfl, ?_⟩) ?_
              rotate_left
              · (intro w' hSw; (try dsimp only at hSw); go_simp; (try with_reducible rfl))
              (try simp only [Act.put, List.setIfInBounds_toArray, List.set_cons_zero, List.set_cons_succ, List.getElem_toArray, List.getElem_cons_zero, List.getElem_cons_succ])
              refine wpTill.take (i := 10) (v := ?_) (by rfl) rfl (by kernel_rfl) (by kernel_rfl) (by kernel_rfl) (by exact fun _ _ _ h => h) (HSS.out _ HBZ.out) (fun _ => trivial) (Or.inl ⟨by rfl, ?_⟩) ?_
              rotate_left
              · (intro w' hSw; (try dsimp only at hSw); go_simp; (try with_reducible rfl))
              (try simp only [Act.put, List.setIfInBounds_toArray, List.set_cons_zero, List.set_cons_succ, List.getElem_toArray, List.getElem_cons_zero, List.getElem_cons_succ])
              refine wpTill.take (i := 11) (v := ?_) (by rfl) rfl (by kernel_rfl) (by kernel_rfl) (by kernel_rfl) (by exact fun _ _ _ h => h) (HSS.out _ HBZ.out) (fun _ => trivial) (Or.inl ⟨by rfl, ?_⟩) ?_
              rotate_left
              · (intro w' hSw; (try dsimp only at hSw); go_simp; (try with_reducible rfl))
              (try simp only [Act.put, List.setIfInBounds_toArray, List.set_cons_zero, List.set_cons_succ, List.getElem_toArray, List.getElem_cons_zero, List.getElem_cons_succ])
              refine wpTill.take (i := 12) (v := ?_) (by rfl) rfl (by kernel_rfl) (by kernel_rfl) (by kernel_rfl) (by exact fun _ _ _ h => h) (HSS.out _ HBZ.out) (fun _ => trivial) (Or.inl ⟨by rfl, ?_⟩) ?_
              rotate_left
              · (intro w' hSw; (try dsimp only at hSw); go_simp; (try with_reducible rfl))
              (try simp only [Act.put, List.setIfInBounds_toArray, List.set_cons_zero, List.set_cons_succ, List.getElem_toArray, List.getElem_cons_zero, List.getElem_cons_succ])
              refine wpTill.take (i := 13) (v := ?_) (by rfl) rfl (by kernel_rfl) (by kernel_rfl) (by kernel_rfl) (by exact fun _ _ _ h => h) (HSS.out _ HBZ.out) (fun _ => trivial) (Or.inl ⟨by rfl, ?_⟩) ?_
              rotate_left
              · (intro w' hSw; (try dsimp only at hSw); go_simp; (try with_reducible rfl))
              (try simp only [Act.put, List.setIfInBounds_toArray, List.set_cons_zero, List.set_cons_succ, List.getElem_toArray, List.getElem_cons_zero, List.getElem_cons_succ])
              refine wpTill.take (i := 14) (v := ?_) (by rfl) rfl (by kernel_rfl) (by kernel_rfl) (by kernel_rfl) (by exact fun _ _ _ h => h) (HSS.out _ HBZ.out) (fun _ => trivial) (Or.inl ⟨by rfl, ?_⟩) ?_
              rotate_left
              · (intro w' hSw; (try dsimp only at hSw); go_simp; (try with_reducible rfl))
              (try simp only [Act.put, List.setIfInBounds_toArray, List.set_cons_zero, List.set_cons_succ, List.getElem_toArray, List.getElem_cons_zero, List.getElem_cons_succ])
              have hmpd : decide (nP < m) = false := decide_eq_false (by omega)
              simp only [hmpd]
              refine wpTill.take (i := 15) (v := ?_) (by rfl) rfl (by kernel_rfl) (by kernel_rfl) (by kernel_rfl) (by exact fun _ _ _ h => h) (HSS.out _ HBZ.out) (fun _ => trivial) (Or.inl ⟨by rfl, ?_⟩) ?_
              rotate_left
              · (intro w' hSw; (try dsimp only at hSw); go_simp; (try with_reducible rfl))
              (try simp only [Act.put, List.setIfInBounds_toArray, List.set_cons_zero, List.set_cons_succ, List.getElem_toArray, List.getElem_cons_zero, List.getElem_cons_succ])
              refine wpTill.take (i := 16) (v := ?_) (by rfl) rfl (by kernel_rfl) (by kernel_rfl) (by kernel_rfl) (by exact fun _ _ _ h => h) (HSS.out _ HBZ.out) (fun _ => trivial) (Or.inl ⟨by rfl, ?_⟩) ?_
              rotate_left
              · (intro w' hSw; (try dsimp only at hSw); go_simp; (try with_reducible rfl))
              (try simp only [Act.put, List.setIfInBounds_toArray, List.set_cons_zero, List.set_cons_succ, List.getElem_toArray, List.getElem_cons_zero, List.getElem_cons_succ])
              refine wpTill.take (i := 17) (v := ?_) (by rfl) rfl (by kernel_rfl) (by kernel_rfl) (by kernel_rfl) (by exact fun _ _ _ h => h) (HSS.out _ HBZ.out) (fun _ => trivial) (Or.inl ⟨by rfl, ?_⟩) ?_
              rotate_left
              · (intro w' hSw; (try dsimp only at hSw); go_simp; (try with_reducible rfl))
              (try simp only [Act.put, List.setIfInBounds_toArray, List.set_cons_zero, List.set_cons_succ, List.getElem_toArray, List.getElem_cons_zero, List.getElem_cons_succ])
              refine wpTill.step (i := 18) (by kernel_rfl) (by rfl) (fun K' hK => ?_)
              replace hK := Lib.hid hK
              go_simp
              go_at_call 23
              ((with_reducible refine (HCK1.out _ HBZ.out).mono ?_); rintro _ wy ⟨rfl, hby⟩)
              replace HBZ := Lib.hid (HBZ.out.trans (hby.mono HBZ.out.size))
              clear hby
              refine hK.out _ _ (HSS.out _ HBZ.out) (fun _ => trivial) ?_
              clear hK K'
              (try simp only [Act.put, List.setIfInBounds_toArray, List.set_cons_zero, List.set_cons_succ, List.getElem_toArray, List.getElem_cons_zero, List.getElem_cons_succ])
              refine wpTill.take (i := 19) (v := ?_) (by rfl) rfl (by kernel_rfl) (by kernel_rfl) (by kernel_rfl) (by exact fun _ _ _ h => h) (HSS.out _ HBZ.out) (fun _ => trivial) (Or.inl ⟨by rfl, ?_⟩) ?_
              rotate_left
              · (intro w' hSw; (try dsimp only at hSw); go_simp; (try with_reducible rfl))
              (try simp only [Act.put, List.setIfInBounds_toArray, List.set_cons_zero, List.set_cons_succ, List.getElem_toArray, List.getElem_cons_zero, List.getElem_cons_succ])
              refine wpTill.take (i := 20) (v := ?_) (by rfl) rfl (by kernel_rfl) (by kernel_rfl) (by kernel_rfl) (by exact fun _ _ _ h => h) (HSS.out _ HBZ.out) (fun _ => trivial) (Or.inl ⟨by rfl, ?_⟩) ?_
              rotate_left
              · (intro w' hSw; (try dsimp only at hSw); go_simp; (try with_reducible rfl))
              (try simp only [Act.put, List.setIfInBounds_toArray, List.set_cons_zero, List.set_cons_succ, List.getElem_toArray, List.getElem_cons_zero, List.getElem_cons_succ])
              refine wpTill.take (i := 21) (v := ?_) (by rfl) rfl (by kernel_rfl) (by kernel_rfl) (by kernel_rfl) (by exact fun _ _ _ h => h) (HSS.out _ HBZ.out) (fun _ => trivial) (Or.inl ⟨by rfl, ?_⟩) ?_
              rotate_left
              · (intro w' hSw; (try dsimp only at hSw); go_simp; (try with_reducible rfl))
              (try simp only [Act.put, List.setIfInBounds_toArray, List.set_cons_zero, List.set_cons_succ, List.getElem_toArray, List.getElem_cons_zero, List.getElem_cons_succ])
              refine wpTill.take (i := 22) (v := ?_) (by rfl) rfl (by kernel_rfl) (by kernel_rfl) (by kernel_rfl) (by exact fun _ _ _ h => h) (HSS.out _ HBZ.out) (fun _ => trivial) (Or.inl ⟨by rfl, ?_⟩) ?_
              rotate_left
              · (intro w' hSw; (try dsimp only at hSw); go_simp; (try with_reducible rfl))
              (try simp only [Act.put, List.setIfInBounds_toArray, List.set_cons_zero, List.set_cons_succ, List.getElem_toArray, List.getElem_cons_zero, List.getElem_cons_succ])
              refine wpTill.step (i := 23) (by kernel_rfl) (by rfl) (fun K' hK => ?_)
              replace hK := Lib.hid hK
              go_simp
              go_at_call 23
              ((with_reducible refine (HCK2.out _ HBZ.out).mono ?_); rintro _ wx ⟨rfl, hby⟩)
              replace HBZ := Lib.hid (HBZ.out.trans (hby.mono HBZ.out.size))
              clear hby
              refine hK.out _ _ (HSS.out _ HBZ.out) (fun _ => trivial) ?_
              clear hK K'
              (try simp only [Act.put, List.setIfInBounds_toArray, List.set_cons_zero, List.set_cons_succ, List.getElem_toArray, List.getElem_cons_zero, List.getElem_cons_succ])
              refine wpTill.take (i := 24) (v := ?_) (by rfl) rfl (by kernel_rfl) (by kernel_rfl) (by kernel_rfl) (by exact fun _ _ _ h => h) (HSS.out _ HBZ.out) (fun _ => trivial) (Or.inl ⟨by rfl, ?_⟩) ?_
              rotate_left
              · (intro w' hSw; (try dsimp only at hSw); go_simp; (try with_reducible rfl))
              (try simp only [Act.put, List.setIfInBounds_toArray, List.set_cons_zero, List.set_cons_succ, List.getElem_toArray, List.getElem_cons_zero, List.getElem_cons_succ])
              refine wpTill.take (i := 25) (v := ?_) (by rfl) rfl (by kernel_rfl) (by kernel_rfl) (by kernel_rfl) (by exact fun _ _ _ h => h) (HSS.out _ HBZ.out) (fun _ => trivial) (Or.inl ⟨by rfl, ?_⟩) ?_
              rotate_left
              · (intro w' hSw; (try dsimp only at hSw); go_simp; (try with_reducible rfl))
              (try simp only [Act.put, List.setIfInBounds_toArray, List.set_cons_zero, List.set_cons_succ, List.getElem_toArray, List.getElem_cons_zero, List.getElem_cons_succ])
              refine wpTill.stop (by kernel_rfl) ?_ _
              have HS7 := Lib.hid (HSP.out.below HBZ.out)
              have HPK : Hid (ChAt wx AP m (lP.take m)) := Lib.hid ⟨by rw [List.map_take]; exact (HP.out.below HBZ.out).sl.head hmp, fun u hu => Sl.below (HP.out.at_ u (List.mem_of_mem_take hu)) HBZ.out, fun u hu => HP.out.len u (List.mem_of_mem_take hu)⟩
              have HSC := Lib.hid (SameChain_any wx Ao AP m co m cP (ownC lO (d : Int)) (lP.take m) (HOC.out.below HBZ.out) HPK.out (by omega) true (by
                rw [HVW.out, (ord_own HLD.out).1, show vsOf (lP.take m) = (vsOf lP).take m by unfold vsOf; exact List.map_take .., HVP.out, HML.out]
                simp))
              have hmc : (m : Int) ≤ (cP : Int) := by omega
              have hm0 : (0 : Int) ≤ (m : Int) := by omega
              go_wp2_with (fail)
              ((with_reducible refine HSC.out.mono ?_); rintro _ wv ⟨rfl, hbv⟩)
              have HS8 := Lib.hid (HS7.out.below hbv)
              clear hbv
              go_wp2_with (fail)
              go_roundw
              case rel => exact ⟨d + 1, HLD.out, by go_num, HS8.out.drop⟩
              case measure => have := HLD.out; simp [intOf]; omega
        · obtain rfl : d = 8 := by omega
          have hdi : ¬ ((8 : Nat) : Int) < 8 := by omega
          have HB5 := Lib.hid (HB.out.trans (HSQ.out.base.mono HB.out.size))
          have HJ := Lib.hid (Join_anyO wq (HEV.out _ HB5.out).1 (HEV.out _ HB5.out).2 A1 none n1 0 c1 0 l1 [] (HL1.out.below HSQ.out.base) (chAt_nil _) (by omega) (by omega))
          have e0 : vsOf l1 ++ vsOf [] = V := by rw [HV.out]; simp [vsOf]
          rw [e0] at HJ
          clear e0
          go_wp2_with (fail)
          ((with_reducible refine HJ.out.mono ?_); rintro _ wj ⟨AJ, cJ, lJ, rfl, hJ, hvJ, hbJ, hcJ⟩)
          have hnJ : (joinF V).length ≤ 40 := Nat.le_trans (joinF_len _) (by rw [HVN.out]; exact hn1)
          obtain ⟨nJ, hnJe⟩ : ∃ n, (joinF V).length = n := ⟨_, rfl⟩
          rw [hnJe] at hJ hcJ hnJ ⊢
          have HLJ := Lib.hid hJ
          have HVJ := Lib.hid hvJ
          have HB6 := Lib.hid (HB5.out.trans (hbJ.mono HB5.out.size))
          clear hJ hvJ hbJ hnJe HJ
          go_wp2_with (fail)
          go_loopw [16] (fun iv wr => ∃ i3 : Nat, i3 ≤ nJ ∧ iv = .int .i64 (i3 : Int) ∧ Below wj.heap.size wj wr) (fun iv _ => nJ - (intOf iv).toNat)
          case atStart => exact ⟨0, Nat.zero_le _, rfl, Below.refl _ _⟩
          case round =>
            obtain ⟨i3, hi3, rfl, hb⟩ := hrel
            obtain ⟨wi, rfl⟩ : ∃ wi : World, wi = wr := ⟨_, rfl⟩
            have HBI := Lib.hid hb
            by_cases hlt3 : i3 < nJ
            case neg =>
              obtain rfl : i3 = nJ := by omega
              have hi3i : ¬ ((i3 : Nat) : Int) < (i3 : Int) := by omega
              have HB7 := Lib.hid (HB6.out.trans (hb.mono HB6.out.size))
              have hpj := Past_any wi (HEV.out _ HB7.out).1 (HEV.out _ HB7.out).2 AJ i3 cJ lJ (HLJ.out.below hb) (by omega) (-1)
              rw [HVJ.out, joinF_join, past_none] at hpj
              have HPJ := Lib.hid hpj
              clear hpj hb hlt3 hi3
              go_wp2_with (fail)
              ((with_reducible refine HPJ.out.mono ?_); rintro _ wp ⟨AP, cP, lP, rfl, hP, hvP, hbP⟩)
              have HSC := Lib.hid (SameChain_any wp AP none 0 cP 0 0 lP [] hP (chAt_nil _) (by omega) true (by rw [hvP]; simp [vsOf]))
              have HB8 := Lib.hid (HB7.out.trans (hbP.mono HB7.out.size))
              clear hP hvP hbP
              go_wp2_with (fail)
              ((with_reducible refine HSC.out.mono ?_); rintro _ wv ⟨rfl, hbv⟩)
              have HB9 := Lib.hid (HB8.out.trans (hbv.mono HB8.out.size))
              clear hbv
              go_wp2_with (fail)
              go_ret
              exact ⟨rfl, HB9.out⟩
            obtain ⟨x, hx⟩ : ∃ v, lJ[i3]? = some v := ⟨_, List.getElem?_eq_getElem (by rw [HLJ.out.lenEq]; exact hlt3)⟩
            have hxv : (joinF V)[i3]? = some x.v := by rw [← HVJ.out]; exact vsOf_at hx
            have hxr := joinF_right V x.v (List.mem_of_getElem? hxv)
            have hxn : x.v ∉ vsOf (lJ.take i3) := by
              rw [show vsOf (lJ.take i3) = (vsOf lJ).take i3 by unfold vsOf; exact List.map_take .., HVJ.out]
              exact asc_new (joinF_asc V) hxv
            have HLW := Lib.hid (HLJ.out.below hb)
            obtain ⟨b, o, rfl, hbl, d0, d1, d2, d3, d4⟩ := ent_at HLW.out.sl hx
            have hxa := HLW.out.at_ x (List.mem_of_getElem? hx)
            have hxl := HLW.out.len x (List.mem_of_getElem? hx)
            have HR42 := Lib.hid (fun W (hbw : Below wi.heap.size wi W) => Right_any W x (Sl.below hxa hbw) hxl.1 hxl.2 true (rightB_true.2 hxr))
            have HH42 := Lib.hid (fun W (hbw : Below wi.heap.size wi W) => Has_any W (some ⟨b, o, none⟩) i3 cJ (lJ.take i3) ⟨by rw [List.map_take]; exact (HLW.out.below hbw).sl.head (by omega), fun u hu => Sl.below (HLW.out.at_ u (List.mem_of_mem_take hu)) hbw, fun u hu => HLW.out.len u (List.mem_of_mem_take hu)⟩ (by omega) x (Sl.below hxa hbw) false (decide_eq_false hxn))
            simp only [EntC.cells] at HR42 HH42
            have hi3i : (i3 : Int) < (nJ : Int) := by omega
            have hi30 : (0 : Int) ≤ (i3 : Int) := by omega
            have hi3w : IntKind.i64.wrap ((i3 : Int) + 1) = (i3 : Int) + 1 := IntWalk.i64_in _ (by omega)
            have hi3c : (i3 : Int) ≤ (cJ : Int) := by omega
            have HL3 := Lib.hid hlt3
            have HX := Lib.hid hx
            have HXV := Lib.hid hxv
            clear hxv hxr hxn hxa hxl
            by_cases hz : i3 = 0
            · as_aux_lemma =>
              have hS : ∀ w', Below wi.heap.size wi w' → (w'.cell? ⟨b, o + i3 * 5, none⟩ = some (.int .i64 x.v.dev) ∧ w'.cell? ⟨b, o + i3 * 5 + 1, none⟩ = some (.int .i64 x.v.no) ∧ w'.cell? ⟨b, o + i3 * 5 + 2, none⟩ = some (.int .i64 x.v.day) ∧ w'.cell? ⟨b, o + i3 * 5 + 3, none⟩ = some (.slice x.A x.v.seen.length x.c) ∧ w'.cell? ⟨b, o + i3 * 5 + 4, none⟩ = some (.string ⟨x.v.text.toArray⟩) ∧ Below wi.heap.size wi w') := fun w' hbw => ⟨(hbw.cell (p := ⟨b, o + i3 * 5, none⟩) hbl).trans d0, (hbw.cell (p := ⟨b, o + i3 * 5 + 1, none⟩) hbl).trans d1, (hbw.cell (p := ⟨b, o + i3 * 5 + 2, none⟩) hbl).trans d2, (hbw.cell (p := ⟨b, o + i3 * 5 + 3, none⟩) hbl).trans d3, (hbw.cell (p := ⟨b, o + i3 * 5 + 4, none⟩) hbl).trans d4, hbw⟩
              have HSS := Lib.hid hS
              have hg : decide (0 < i3) = false := decide_eq_false (by omega)
              clear hS hz hx hlt3 hi3 hb d0 d1 d2 d3 d4
              go_upto_region 42 with (fail)
              dsimp only [List.append]
              refine wpTill.startN 65 (S := fun w' => w'.cell? ⟨b, o + i3 * 5, none⟩ = some (.int .i64 x.v.dev) ∧ w'.cell? ⟨b, o + i3 * 5 + 1, none⟩ = some (.int .i64 x.v.no) ∧ w'.cell? ⟨b, o + i3 * 5 + 2, none⟩ = some (.int .i64 x.v.day) ∧ w'.cell? ⟨b, o + i3 * 5 + 3, none⟩ = some (.slice x.A x.v.seen.length x.c) ∧ w'.cell? ⟨b, o + i3 * 5 + 4, none⟩ = some (.string ⟨x.v.text.toArray⟩) ∧ Below wi.heap.size wi w') (T := fun _ => True) (m := 300) (by rfl) (by kernel_rfl) ?_
              have HBZ := Lib.hid (Below.drew (Below.refl wi.heap.size wi))
              generalize wi.drew = wz at *
              refine wpTill.take (i := 0) (v := ?_) (by rfl) rfl (by kernel_rfl) (by kernel_rfl) (by kernel_rfl) (by exact fun _ _ _ h => h) (HSS.out _ HBZ.out) (fun _ => trivial) (Or.inl ⟨by rfl, ?_⟩) ?_
              rotate_left
              · (intro w' hSw; (try dsimp only at hSw); go_simp; (try with_reducible rfl))
              (try simp only [Act.put, List.setIfInBounds_toArray, List.set_cons_zero, List.set_cons_succ, List.getElem_toArray, List.getElem_cons_zero, List.getElem_cons_succ])
              refine wpTill.take (i := 1) (v := ?_) (by rfl) rfl (by kernel_rfl) (by kernel_rfl) (by kernel_rfl) (by exact fun _ _ _ h => h) (HSS.out _ HBZ.out) (fun _ => trivial) (Or.inl ⟨by rfl, ?_⟩) ?_
              rotate_left
              · (intro w' hSw; (try dsimp only at hSw); go_simp; (try with_reducible rfl))
              (try simp only [Act.put, List.setIfInBounds_toArray, List.set_cons_zero, List.set_cons_succ, List.getElem_toArray, List.getElem_cons_zero, List.getElem_cons_succ])
              refine wpTill.take (i := 2) (v := ?_) (by rfl) rfl (by kernel_rfl) (by kernel_rfl) (by kernel_rfl) (by exact fun _ _ _ h => h) (HSS.out _ HBZ.out) (fun _ => trivial) (Or.inl ⟨by rfl, ?_⟩) ?_
              rotate_left
              · (intro w' hSw; (try dsimp only at hSw); go_simp; (try with_reducible rfl))
              (try simp only [Act.put, List.setIfInBounds_toArray, List.set_cons_zero, List.set_cons_succ, List.getElem_toArray, List.getElem_cons_zero, List.getElem_cons_succ])
              refine wpTill.take (i := 3) (v := ?_) (by rfl) rfl (by kernel_rfl) (by kernel_rfl) (by kernel_rfl) (by exact fun _ _ _ h => h) (HSS.out _ HBZ.out) (fun _ => trivial) (Or.inl ⟨by rfl, ?_⟩) ?_
              rotate_left
              · (intro w' hSw; (try dsimp only at hSw); go_simp; (try with_reducible rfl))
              (try simp only [Act.put, List.setIfInBounds_toArray, List.set_cons_zero, List.set_cons_succ, List.getElem_toArray, List.getElem_cons_zero, List.getElem_cons_succ])
              refine wpTill.step (i := 4) (by kernel_rfl) (by rfl) (fun K' hK => ?_)
              replace hK := Lib.hid hK
              go_simp
              go_at_call 20
              ((with_reducible refine (HR42.out _ HBZ.out).mono ?_); rintro _ wy4 ⟨rfl, hby⟩)
              replace HBZ := Lib.hid (HBZ.out.trans (hby.mono HBZ.out.size))
              clear hby
              refine hK.out _ _ (HSS.out _ HBZ.out) (fun _ => trivial) ?_
              clear hK K'
              (try simp only [Act.put, List.setIfInBounds_toArray, List.set_cons_zero, List.set_cons_succ, List.getElem_toArray, List.getElem_cons_zero, List.getElem_cons_succ])
              refine wpTill.take (i := 5) (v := ?_) (by rfl) rfl (by kernel_rfl) (by kernel_rfl) (by kernel_rfl) (by exact fun _ _ _ h => h) (HSS.out _ HBZ.out) (fun _ => trivial) (Or.inl ⟨by rfl, ?_⟩) ?_
              rotate_left
              · (intro w' hSw; (try dsimp only at hSw); go_simp; (try with_reducible rfl))
              (try simp only [Act.put, List.setIfInBounds_toArray, List.set_cons_zero, List.set_cons_succ, List.getElem_toArray, List.getElem_cons_zero, List.getElem_cons_succ])
              refine wpTill.take (i := 6) (v := ?_) (by rfl) rfl (by kernel_rfl) (by kernel_rfl) (by kernel_rfl) (by exact fun _ _ _ h => h) (HSS.out _ HBZ.out) (fun _ => trivial) (Or.inl ⟨by rfl, ?_⟩) ?_
              rotate_left
              · (intro w' hSw; (try dsimp only at hSw); go_simp; (try with_reducible rfl))
              (try simp only [Act.put, List.setIfInBounds_toArray, List.set_cons_zero, List.set_cons_succ, List.getElem_toArray, List.getElem_cons_zero, List.getElem_cons_succ])
              refine wpTill.take (i := 7) (v := ?_) (by rfl) rfl (by kernel_rfl) (by kernel_rfl) (by kernel_rfl) (by exact fun _ _ _ h => h) (HSS.out _ HBZ.out) (fun _ => trivial) (Or.inl ⟨by rfl, ?_⟩) ?_
              rotate_left
              · (intro w' hSw; (try dsimp only at hSw); go_simp; (try with_reducible rfl))
              (try simp only [Act.put, List.setIfInBounds_toArray, List.set_cons_zero, List.set_cons_succ, List.getElem_toArray, List.getElem_cons_zero, List.getElem_cons_succ])
              refine wpTill.take (i := 8) (v := ?_) (by rfl) rfl (by kernel_rfl) (by kernel_rfl) (by kernel_rfl) (by exact fun _ _ _ h => h) (HSS.out _ HBZ.out) (fun _ => trivial) (Or.inl ⟨by rfl, ?_⟩) ?_
              rotate_left
              · (intro w' hSw; (try dsimp only at hSw); go_simp; (try with_reducible rfl))
              (try simp only [Act.put, List.setIfInBounds_toArray, List.set_cons_zero, List.set_cons_succ, List.getElem_toArray, List.getElem_cons_zero, List.getElem_cons_succ])
              try simp only [hg]
              refine wpTill.take (i := 9) (v := ?_) (by rfl) rfl (by kernel_rfl) (by kernel_rfl) (by kernel_rfl) (by exact fun _ _ _ h => h) (HSS.out _ HBZ.out) (fun _ => trivial) (Or.inl ⟨by rfl, ?_⟩) ?_
              rotate_left
              · (intro w' hSw; (try dsimp only at hSw); go_simp; (try with_reducible rfl))
              (try simp only [Act.put, List.setIfInBounds_toArray, List.set_cons_zero, List.set_cons_succ, List.getElem_toArray, List.getElem_cons_zero, List.getElem_cons_succ])
              refine wpTill.take (i := 10) (v := undef) (by rfl) rfl (by kernel_rfl) (by kernel_rfl) (by kernel_rfl) (by exact fun _ _ _ h => h) (HSS.out _ HBZ.out) (fun _ => trivial) (Or.inr ⟨by rfl, rfl⟩) ?_
              (try simp only [Act.put, List.setIfInBounds_toArray, List.set_cons_zero, List.set_cons_succ, List.getElem_toArray, List.getElem_cons_zero, List.getElem_cons_succ])
              refine wpTill.take (i := 11) (v := undef) (by rfl) rfl (by kernel_rfl) (by kernel_rfl) (by kernel_rfl) (by exact fun _ _ _ h => h) (HSS.out _ HBZ.out) (fun _ => trivial) (Or.inr ⟨by rfl, rfl⟩) ?_
              (try simp only [Act.put, List.setIfInBounds_toArray, List.set_cons_zero, List.set_cons_succ, List.getElem_toArray, List.getElem_cons_zero, List.getElem_cons_succ])
              refine wpTill.take (i := 12) (v := undef) (by rfl) rfl (by kernel_rfl) (by kernel_rfl) (by kernel_rfl) (by exact fun _ _ _ h => h) (HSS.out _ HBZ.out) (fun _ => trivial) (Or.inr ⟨by rfl, rfl⟩) ?_
              (try simp only [Act.put, List.setIfInBounds_toArray, List.set_cons_zero, List.set_cons_succ, List.getElem_toArray, List.getElem_cons_zero, List.getElem_cons_succ])
              refine wpTill.take (i := 13) (v := undef) (by rfl) rfl (by kernel_rfl) (by kernel_rfl) (by kernel_rfl) (by exact fun _ _ _ h => h) (HSS.out _ HBZ.out) (fun _ => trivial) (Or.inr ⟨by rfl, rfl⟩) ?_
              (try simp only [Act.put, List.setIfInBounds_toArray, List.set_cons_zero, List.set_cons_succ, List.getElem_toArray, List.getElem_cons_zero, List.getElem_cons_succ])
              refine wpTill.take (i := 14) (v := undef) (by rfl) rfl (by kernel_rfl) (by kernel_rfl) (by kernel_rfl) (by exact fun _ _ _ h => h) (HSS.out _ HBZ.out) (fun _ => trivial) (Or.inr ⟨by rfl, rfl⟩) ?_
              (try simp only [Act.put, List.setIfInBounds_toArray, List.set_cons_zero, List.set_cons_succ, List.getElem_toArray, List.getElem_cons_zero, List.getElem_cons_succ])
              refine wpTill.take (i := 15) (v := undef) (by rfl) rfl (by kernel_rfl) (by kernel_rfl) (by kernel_rfl) (by exact fun _ _ _ h => h) (HSS.out _ HBZ.out) (fun _ => trivial) (Or.inr ⟨by rfl, rfl⟩) ?_
              (try simp only [Act.put, List.setIfInBounds_toArray, List.set_cons_zero, List.set_cons_succ, List.getElem_toArray, List.getElem_cons_zero, List.getElem_cons_succ])
              refine wpTill.take (i := 16) (v := undef) (by rfl) rfl (by kernel_rfl) (by kernel_rfl) (by kernel_rfl) (by exact fun _ _ _ h => h) (HSS.out _ HBZ.out) (fun _ => trivial) (Or.inr ⟨by rfl, rfl⟩) ?_
              (try simp only [Act.put, List.setIfInBounds_toArray, List.set_cons_zero, List.set_cons_succ, List.getElem_toArray, List.getElem_cons_zero, List.getElem_cons_succ])
              refine wpTill.take (i := 17) (v := undef) (by rfl) rfl (by kernel_rfl) (by kernel_rfl) (by kernel_rfl) (by exact fun _ _ _ h => h) (HSS.out _ HBZ.out) (fun _ => trivial) (Or.inr ⟨by rfl, rfl⟩) ?_
              (try simp only [Act.put, List.setIfInBounds_toArray, List.set_cons_zero, List.set_cons_succ, List.getElem_toArray, List.getElem_cons_zero, List.getElem_cons_succ])
              refine wpTill.take (i := 18) (v := undef) (by rfl) rfl (by kernel_rfl) (by kernel_rfl) (by kernel_rfl) (by exact fun _ _ _ h => h) (HSS.out _ HBZ.out) (fun _ => trivial) (Or.inr ⟨by rfl, rfl⟩) ?_
              (try simp only [Act.put, List.setIfInBounds_toArray, List.set_cons_zero, List.set_cons_succ, List.getElem_toArray, List.getElem_cons_zero, List.getElem_cons_succ])
              refine wpTill.take (i := 19) (v := undef) (by rfl) rfl (by kernel_rfl) (by kernel_rfl) (by kernel_rfl) (by exact fun _ _ _ h => h) (HSS.out _ HBZ.out) (fun _ => trivial) (Or.inr ⟨by rfl, rfl⟩) ?_
              (try simp only [Act.put, List.setIfInBounds_toArray, List.set_cons_zero, List.set_cons_succ, List.getElem_toArray, List.getElem_cons_zero, List.getElem_cons_succ])
              refine wpTill.take (i := 20) (v := undef) (by rfl) rfl (by kernel_rfl) (by kernel_rfl) (by kernel_rfl) (by exact fun _ _ _ h => h) (HSS.out _ HBZ.out) (fun _ => trivial) (Or.inr ⟨by rfl, rfl⟩) ?_
              (try simp only [Act.put, List.setIfInBounds_toArray, List.set_cons_zero, List.set_cons_succ, List.getElem_toArray, List.getElem_cons_zero, List.getElem_cons_succ])
              refine wpTill.take (i := 21) (v := undef) (by rfl) rfl (by kernel_rfl) (by kernel_rfl) (by kernel_rfl) (by exact fun _ _ _ h => h) (HSS.out _ HBZ.out) (fun _ => trivial) (Or.inr ⟨by rfl, rfl⟩) ?_
              (try simp only [Act.put, List.setIfInBounds_toArray, List.set_cons_zero, List.set_cons_succ, List.getElem_toArray, List.getElem_cons_zero, List.getElem_cons_succ])
              refine wpTill.take (i := 22) (v := undef) (by rfl) rfl (by kernel_rfl) (by kernel_rfl) (by kernel_rfl) (by exact fun _ _ _ h => h) (HSS.out _ HBZ.out) (fun _ => trivial) (Or.inr ⟨by rfl, rfl⟩) ?_
              (try simp only [Act.put, List.setIfInBounds_toArray, List.set_cons_zero, List.set_cons_succ, List.getElem_toArray, List.getElem_cons_zero, List.getElem_cons_succ])
              refine wpTill.take (i := 23) (v := undef) (by rfl) rfl (by kernel_rfl) (by kernel_rfl) (by kernel_rfl) (by exact fun _ _ _ h => h) (HSS.out _ HBZ.out) (fun _ => trivial) (Or.inr ⟨by rfl, rfl⟩) ?_
              (try simp only [Act.put, List.setIfInBounds_toArray, List.set_cons_zero, List.set_cons_succ, List.getElem_toArray, List.getElem_cons_zero, List.getElem_cons_succ])
              refine wpTill.take (i := 24) (v := undef) (by rfl) rfl (by kernel_rfl) (by kernel_rfl) (by kernel_rfl) (by exact fun _ _ _ h => h) (HSS.out _ HBZ.out) (fun _ => trivial) (Or.inr ⟨by rfl, rfl⟩) ?_
              (try simp only [Act.put, List.setIfInBounds_toArray, List.set_cons_zero, List.set_cons_succ, List.getElem_toArray, List.getElem_cons_zero, List.getElem_cons_succ])
              refine wpTill.take (i := 25) (v := undef) (by rfl) rfl (by kernel_rfl) (by kernel_rfl) (by kernel_rfl) (by exact fun _ _ _ h => h) (HSS.out _ HBZ.out) (fun _ => trivial) (Or.inr ⟨by rfl, rfl⟩) ?_
              (try simp only [Act.put, List.setIfInBounds_toArray, List.set_cons_zero, List.set_cons_succ, List.getElem_toArray, List.getElem_cons_zero, List.getElem_cons_succ])
              refine wpTill.take (i := 26) (v := undef) (by rfl) rfl (by kernel_rfl) (by kernel_rfl) (by kernel_rfl) (by exact fun _ _ _ h => h) (HSS.out _ HBZ.out) (fun _ => trivial) (Or.inr ⟨by rfl, rfl⟩) ?_
              (try simp only [Act.put, List.setIfInBounds_toArray, List.set_cons_zero, List.set_cons_succ, List.getElem_toArray, List.getElem_cons_zero, List.getElem_cons_succ])
              refine wpTill.take (i := 27) (v := undef) (by rfl) rfl (by kernel_rfl) (by kernel_rfl) (by kernel_rfl) (by exact fun _ _ _ h => h) (HSS.out _ HBZ.out) (fun _ => trivial) (Or.inr ⟨by rfl, rfl⟩) ?_
              (try simp only [Act.put, List.setIfInBounds_toArray, List.set_cons_zero, List.set_cons_succ, List.getElem_toArray, List.getElem_cons_zero, List.getElem_cons_succ])
              refine wpTill.take (i := 28) (v := undef) (by rfl) rfl (by kernel_rfl) (by kernel_rfl) (by kernel_rfl) (by exact fun _ _ _ h => h) (HSS.out _ HBZ.out) (fun _ => trivial) (Or.inr ⟨by rfl, rfl⟩) ?_
              (try simp only [Act.put, List.setIfInBounds_toArray, List.set_cons_zero, List.set_cons_succ, List.getElem_toArray, List.getElem_cons_zero, List.getElem_cons_succ])
              refine wpTill.take (i := 29) (v := undef) (by rfl) rfl (by kernel_rfl) (by kernel_rfl) (by kernel_rfl) (by exact fun _ _ _ h => h) (HSS.out _ HBZ.out) (fun _ => trivial) (Or.inr ⟨by rfl, rfl⟩) ?_
              (try simp only [Act.put, List.setIfInBounds_toArray, List.set_cons_zero, List.set_cons_succ, List.getElem_toArray, List.getElem_cons_zero, List.getElem_cons_succ])
              refine wpTill.take (i := 30) (v := undef) (by rfl) rfl (by kernel_rfl) (by kernel_rfl) (by kernel_rfl) (by exact fun _ _ _ h => h) (HSS.out _ HBZ.out) (fun _ => trivial) (Or.inr ⟨by rfl, rfl⟩) ?_
              (try simp only [Act.put, List.setIfInBounds_toArray, List.set_cons_zero, List.set_cons_succ, List.getElem_toArray, List.getElem_cons_zero, List.getElem_cons_succ])
              refine wpTill.take (i := 31) (v := undef) (by rfl) rfl (by kernel_rfl) (by kernel_rfl) (by kernel_rfl) (by exact fun _ _ _ h => h) (HSS.out _ HBZ.out) (fun _ => trivial) (Or.inr ⟨by rfl, rfl⟩) ?_
              (try simp only [Act.put, List.setIfInBounds_toArray, List.set_cons_zero, List.set_cons_succ, List.getElem_toArray, List.getElem_cons_zero, List.getElem_cons_succ])
              refine wpTill.take (i := 32) (v := undef) (by rfl) rfl (by kernel_rfl) (by kernel_rfl) (by kernel_rfl) (by exact fun _ _ _ h => h) (HSS.out _ HBZ.out) (fun _ => trivial) (Or.inr ⟨by rfl, rfl⟩) ?_
              (try simp only [Act.put, List.setIfInBounds_toArray, List.set_cons_zero, List.set_cons_succ, List.getElem_toArray, List.getElem_cons_zero, List.getElem_cons_succ])
              refine wpTill.take (i := 33) (v := undef) (by rfl) rfl (by kernel_rfl) (by kernel_rfl) (by kernel_rfl) (by exact fun _ _ _ h => h) (HSS.out _ HBZ.out) (fun _ => trivial) (Or.inr ⟨by rfl, rfl⟩) ?_
              (try simp only [Act.put, List.setIfInBounds_toArray, List.set_cons_zero, List.set_cons_succ, List.getElem_toArray, List.getElem_cons_zero, List.getElem_cons_succ])
              refine wpTill.take (i := 34) (v := undef) (by rfl) rfl (by kernel_rfl) (by kernel_rfl) (by kernel_rfl) (by exact fun _ _ _ h => h) (HSS.out _ HBZ.out) (fun _ => trivial) (Or.inr ⟨by rfl, rfl⟩) ?_
              (try simp only [Act.put, List.setIfInBounds_toArray, List.set_cons_zero, List.set_cons_succ, List.getElem_toArray, List.getElem_cons_zero, List.getElem_cons_succ])
              refine wpTill.take (i := 35) (v := undef) (by rfl) rfl (by kernel_rfl) (by kernel_rfl) (by kernel_rfl) (by exact fun _ _ _ h => h) (HSS.out _ HBZ.out) (fun _ => trivial) (Or.inr ⟨by rfl, rfl⟩) ?_
              (try simp only [Act.put, List.setIfInBounds_toArray, List.set_cons_zero, List.set_cons_succ, List.getElem_toArray, List.getElem_cons_zero, List.getElem_cons_succ])
              refine wpTill.take (i := 36) (v := undef) (by rfl) rfl (by kernel_rfl) (by kernel_rfl) (by kernel_rfl) (by exact fun _ _ _ h => h) (HSS.out _ HBZ.out) (fun _ => trivial) (Or.inr ⟨by rfl, rfl⟩) ?_
              (try simp only [Act.put, List.setIfInBounds_toArray, List.set_cons_zero, List.set_cons_succ, List.getElem_toArray, List.getElem_cons_zero, List.getElem_cons_succ])
              refine wpTill.take (i := 37) (v := undef) (by rfl) rfl (by kernel_rfl) (by kernel_rfl) (by kernel_rfl) (by exact fun _ _ _ h => h) (HSS.out _ HBZ.out) (fun _ => trivial) (Or.inr ⟨by rfl, rfl⟩) ?_
              (try simp only [Act.put, List.setIfInBounds_toArray, List.set_cons_zero, List.set_cons_succ, List.getElem_toArray, List.getElem_cons_zero, List.getElem_cons_succ])
              refine wpTill.take (i := 38) (v := undef) (by rfl) rfl (by kernel_rfl) (by kernel_rfl) (by kernel_rfl) (by exact fun _ _ _ h => h) (HSS.out _ HBZ.out) (fun _ => trivial) (Or.inr ⟨by rfl, rfl⟩) ?_
              (try simp only [Act.put, List.setIfInBounds_toArray, List.set_cons_zero, List.set_cons_succ, List.getElem_toArray, List.getElem_cons_zero, List.getElem_cons_succ])
              refine wpTill.take (i := 39) (v := undef) (by rfl) rfl (by kernel_rfl) (by kernel_rfl) (by kernel_rfl) (by exact fun _ _ _ h => h) (HSS.out _ HBZ.out) (fun _ => trivial) (Or.inr ⟨by rfl, rfl⟩) ?_
              (try simp only [Act.put, List.setIfInBounds_toArray, List.set_cons_zero, List.set_cons_succ, List.getElem_toArray, List.getElem_cons_zero, List.getElem_cons_succ])
              refine wpTill.take (i := 40) (v := undef) (by rfl) rfl (by kernel_rfl) (by kernel_rfl) (by kernel_rfl) (by exact fun _ _ _ h => h) (HSS.out _ HBZ.out) (fun _ => trivial) (Or.inr ⟨by rfl, rfl⟩) ?_
              (try simp only [Act.put, List.setIfInBounds_toArray, List.set_cons_zero, List.set_cons_succ, List.getElem_toArray, List.getElem_cons_zero, List.getElem_cons_succ])
              refine wpTill.take (i := 41) (v := undef) (by rfl) rfl (by kernel_rfl) (by kernel_rfl) (by kernel_rfl) (by exact fun _ _ _ h => h) (HSS.out _ HBZ.out) (fun _ => trivial) (Or.inr ⟨by rfl, rfl⟩) ?_
              (try simp only [Act.put, List.setIfInBounds_toArray, List.set_cons_zero, List.set_cons_succ, List.getElem_toArray, List.getElem_cons_zero, List.getElem_cons_succ])
              refine wpTill.take (i := 42) (v := undef) (by rfl) rfl (by kernel_rfl) (by kernel_rfl) (by kernel_rfl) (by exact fun _ _ _ h => h) (HSS.out _ HBZ.out) (fun _ => trivial) (Or.inr ⟨by rfl, rfl⟩) ?_
              (try simp only [Act.put, List.setIfInBounds_toArray, List.set_cons_zero, List.set_cons_succ, List.getElem_toArray, List.getElem_cons_zero, List.getElem_cons_succ])
              refine wpTill.take (i := 43) (v := undef) (by rfl) rfl (by kernel_rfl) (by kernel_rfl) (by kernel_rfl) (by exact fun _ _ _ h => h) (HSS.out _ HBZ.out) (fun _ => trivial) (Or.inr ⟨by rfl, rfl⟩) ?_
              (try simp only [Act.put, List.setIfInBounds_toArray, List.set_cons_zero, List.set_cons_succ, List.getElem_toArray, List.getElem_cons_zero, List.getElem_cons_succ])
              refine wpTill.take (i := 44) (v := undef) (by rfl) rfl (by kernel_rfl) (by kernel_rfl) (by kernel_rfl) (by exact fun _ _ _ h => h) (HSS.out _ HBZ.out) (fun _ => trivial) (Or.inr ⟨by rfl, rfl⟩) ?_
              (try simp only [Act.put, List.setIfInBounds_toArray, List.set_cons_zero, List.set_cons_succ, List.getElem_toArray, List.getElem_cons_zero, List.getElem_cons_succ])
              refine wpTill.take (i := 45) (v := undef) (by rfl) rfl (by kernel_rfl) (by kernel_rfl) (by kernel_rfl) (by exact fun _ _ _ h => h) (HSS.out _ HBZ.out) (fun _ => trivial) (Or.inr ⟨by rfl, rfl⟩) ?_
              (try simp only [Act.put, List.setIfInBounds_toArray, List.set_cons_zero, List.set_cons_succ, List.getElem_toArray, List.getElem_cons_zero, List.getElem_cons_succ])
              refine wpTill.take (i := 46) (v := undef) (by rfl) rfl (by kernel_rfl) (by kernel_rfl) (by kernel_rfl) (by exact fun _ _ _ h => h) (HSS.out _ HBZ.out) (fun _ => trivial) (Or.inr ⟨by rfl, rfl⟩) ?_
              (try simp only [Act.put, List.setIfInBounds_toArray, List.set_cons_zero, List.set_cons_succ, List.getElem_toArray, List.getElem_cons_zero, List.getElem_cons_succ])
              refine wpTill.take (i := 47) (v := undef) (by rfl) rfl (by kernel_rfl) (by kernel_rfl) (by kernel_rfl) (by exact fun _ _ _ h => h) (HSS.out _ HBZ.out) (fun _ => trivial) (Or.inr ⟨by rfl, rfl⟩) ?_
              (try simp only [Act.put, List.setIfInBounds_toArray, List.set_cons_zero, List.set_cons_succ, List.getElem_toArray, List.getElem_cons_zero, List.getElem_cons_succ])
              refine wpTill.take (i := 48) (v := undef) (by rfl) rfl (by kernel_rfl) (by kernel_rfl) (by kernel_rfl) (by exact fun _ _ _ h => h) (HSS.out _ HBZ.out) (fun _ => trivial) (Or.inr ⟨by rfl, rfl⟩) ?_
              (try simp only [Act.put, List.setIfInBounds_toArray, List.set_cons_zero, List.set_cons_succ, List.getElem_toArray, List.getElem_cons_zero, List.getElem_cons_succ])
              refine wpTill.take (i := 49) (v := undef) (by rfl) rfl (by kernel_rfl) (by kernel_rfl) (by kernel_rfl) (by exact fun _ _ _ h => h) (HSS.out _ HBZ.out) (fun _ => trivial) (Or.inr ⟨by rfl, rfl⟩) ?_
              (try simp only [Act.put, List.setIfInBounds_toArray, List.set_cons_zero, List.set_cons_succ, List.getElem_toArray, List.getElem_cons_zero, List.getElem_cons_succ])
              refine wpTill.take (i := 50) (v := undef) (by rfl) rfl (by kernel_rfl) (by kernel_rfl) (by kernel_rfl) (by exact fun _ _ _ h => h) (HSS.out _ HBZ.out) (fun _ => trivial) (Or.inr ⟨by rfl, rfl⟩) ?_
              (try simp only [Act.put, List.setIfInBounds_toArray, List.set_cons_zero, List.set_cons_succ, List.getElem_toArray, List.getElem_cons_zero, List.getElem_cons_succ])
              refine wpTill.take (i := 51) (v := undef) (by rfl) rfl (by kernel_rfl) (by kernel_rfl) (by kernel_rfl) (by exact fun _ _ _ h => h) (HSS.out _ HBZ.out) (fun _ => trivial) (Or.inr ⟨by rfl, rfl⟩) ?_
              (try simp only [Act.put, List.setIfInBounds_toArray, List.set_cons_zero, List.set_cons_succ, List.getElem_toArray, List.getElem_cons_zero, List.getElem_cons_succ])
              refine wpTill.take (i := 52) (v := undef) (by rfl) rfl (by kernel_rfl) (by kernel_rfl) (by kernel_rfl) (by exact fun _ _ _ h => h) (HSS.out _ HBZ.out) (fun _ => trivial) (Or.inr ⟨by rfl, rfl⟩) ?_
              (try simp only [Act.put, List.setIfInBounds_toArray, List.set_cons_zero, List.set_cons_succ, List.getElem_toArray, List.getElem_cons_zero, List.getElem_cons_succ])
              refine wpTill.take (i := 53) (v := ?_) (by rfl) rfl (by kernel_rfl) (by kernel_rfl) (by kernel_rfl) (by exact fun _ _ _ h => h) (HSS.out _ HBZ.out) (fun _ => trivial) (Or.inl ⟨by rfl, ?_⟩) ?_
              rotate_left
              · (intro w' hSw; (try dsimp only at hSw); go_simp; (try with_reducible rfl))
              (try simp only [Act.put, List.setIfInBounds_toArray, List.set_cons_zero, List.set_cons_succ, List.getElem_toArray, List.getElem_cons_zero, List.getElem_cons_succ])
              refine wpTill.take (i := 54) (v := ?_) (by rfl) rfl (by kernel_rfl) (by kernel_rfl) (by kernel_rfl) (by exact fun _ _ _ h => h) (HSS.out _ HBZ.out) (fun _ => trivial) (Or.inl ⟨by rfl, ?_⟩) ?_
              rotate_left
              · (intro w' hSw; (try dsimp only at hSw); go_simp; (try with_reducible rfl))
              (try simp only [Act.put, List.setIfInBounds_toArray, List.set_cons_zero, List.set_cons_succ, List.getElem_toArray, List.getElem_cons_zero, List.getElem_cons_succ])
              refine wpTill.take (i := 55) (v := ?_) (by rfl) rfl (by kernel_rfl) (by kernel_rfl) (by kernel_rfl) (by exact fun _ _ _ h => h) (HSS.out _ HBZ.out) (fun _ => trivial) (Or.inl ⟨by rfl, ?_⟩) ?_
              rotate_left
              · (intro w' hSw; (try dsimp only at hSw); go_simp; (try with_reducible rfl))
              (try simp only [Act.put, List.setIfInBounds_toArray, List.set_cons_zero, List.set_cons_succ, List.getElem_toArray, List.getElem_cons_zero, List.getElem_cons_succ])
              refine wpTill.take (i := 56) (v := ?_) (by rfl) rfl (by kernel_rfl) (by kernel_rfl) (by kernel_rfl) (by exact fun _ _ _ h => h) (HSS.out _ HBZ.out) (fun _ => trivial) (Or.inl ⟨by rfl, ?_⟩) ?_
              rotate_left
              · (intro w' hSw; (try dsimp only at hSw); go_simp; (try with_reducible rfl))
              (try simp only [Act.put, List.setIfInBounds_toArray, List.set_cons_zero, List.set_cons_succ, List.getElem_toArray, List.getElem_cons_zero, List.getElem_cons_succ])
              refine wpTill.take (i := 57) (v := ?_) (by rfl) rfl (by kernel_rfl) (by kernel_rfl) (by kernel_rfl) (by exact fun _ _ _ h => h) (HSS.out _ HBZ.out) (fun _ => trivial) (Or.inl ⟨by rfl, ?_⟩) ?_
              rotate_left
              · (intro w' hSw; (try dsimp only at hSw); go_simp; (try with_reducible rfl))
              (try simp only [Act.put, List.setIfInBounds_toArray, List.set_cons_zero, List.set_cons_succ, List.getElem_toArray, List.getElem_cons_zero, List.getElem_cons_succ])
              refine wpTill.take (i := 58) (v := ?_) (by rfl) rfl (by kernel_rfl) (by kernel_rfl) (by kernel_rfl) (by exact fun _ _ _ h => h) (HSS.out _ HBZ.out) (fun _ => trivial) (Or.inl ⟨by rfl, ?_⟩) ?_
              rotate_left
              · (intro w' hSw; (try dsimp only at hSw); go_simp; (try with_reducible rfl))
              (try simp only [Act.put, List.setIfInBounds_toArray, List.set_cons_zero, List.set_cons_succ, List.getElem_toArray, List.getElem_cons_zero, List.getElem_cons_succ])
              refine wpTill.take (i := 59) (v := ?_) (by rfl) rfl (by kernel_rfl) (by kernel_rfl) (by kernel_rfl) (by exact fun _ _ _ h => h) (HSS.out _ HBZ.out) (fun _ => trivial) (Or.inl ⟨by rfl, ?_⟩) ?_
              rotate_left
              · (intro w' hSw; (try dsimp only at hSw); go_simp; (try with_reducible rfl))
              (try simp only [Act.put, List.setIfInBounds_toArray, List.set_cons_zero, List.set_cons_succ, List.getElem_toArray, List.getElem_cons_zero, List.getElem_cons_succ])
              refine wpTill.take (i := 60) (v := ?_) (by rfl) rfl (by kernel_rfl) (by kernel_rfl) (by kernel_rfl) (by exact fun _ _ _ h => h) (HSS.out _ HBZ.out) (fun _ => trivial) (Or.inl ⟨by rfl, ?_⟩) ?_
              rotate_left
              · (intro w' hSw; (try dsimp only at hSw); go_simp; (try with_reducible rfl))
              (try simp only [Act.put, List.setIfInBounds_toArray, List.set_cons_zero, List.set_cons_succ, List.getElem_toArray, List.getElem_cons_zero, List.getElem_cons_succ])
              refine wpTill.take (i := 61) (v := ?_) (by rfl) rfl (by kernel_rfl) (by kernel_rfl) (by kernel_rfl) (by exact fun _ _ _ h => h) (HSS.out _ HBZ.out) (fun _ => trivial) (Or.inl ⟨by rfl, ?_⟩) ?_
              rotate_left
              · (intro w' hSw; (try dsimp only at hSw); go_simp; (try with_reducible rfl))
              (try simp only [Act.put, List.setIfInBounds_toArray, List.set_cons_zero, List.set_cons_succ, List.getElem_toArray, List.getElem_cons_zero, List.getElem_cons_succ])
              refine wpTill.take (i := 62) (v := ?_) (by rfl) rfl (by kernel_rfl) (by kernel_rfl) (by kernel_rfl) (by exact fun _ _ _ h => h) (HSS.out _ HBZ.out) (fun _ => trivial) (Or.inl ⟨by rfl, ?_⟩) ?_
              rotate_left
              · (intro w' hSw; (try dsimp only at hSw); go_simp; (try with_reducible rfl))
              (try simp only [Act.put, List.setIfInBounds_toArray, List.set_cons_zero, List.set_cons_succ, List.getElem_toArray, List.getElem_cons_zero, List.getElem_cons_succ])
              refine wpTill.step (i := 63) (by kernel_rfl) (by rfl) (fun K' hK => ?_)
              replace hK := Lib.hid hK
              go_simp
              go_at_call 21
              ((with_reducible refine (HH42.out _ HBZ.out).mono ?_); rintro _ wy63 ⟨rfl, hby⟩)
              replace HBZ := Lib.hid (HBZ.out.trans (hby.mono HBZ.out.size))
              clear hby
              refine hK.out _ _ (HSS.out _ HBZ.out) (fun _ => trivial) ?_
              clear hK K'
              (try simp only [Act.put, List.setIfInBounds_toArray, List.set_cons_zero, List.set_cons_succ, List.getElem_toArray, List.getElem_cons_zero, List.getElem_cons_succ])
              refine wpTill.take (i := 64) (v := ?_) (by rfl) rfl (by kernel_rfl) (by kernel_rfl) (by kernel_rfl) (by exact fun _ _ _ h => h) (HSS.out _ HBZ.out) (fun _ => trivial) (Or.inl ⟨by rfl, ?_⟩) ?_
              rotate_left
              · (intro w' hSw; (try dsimp only at hSw); go_simp; (try with_reducible rfl))
              (try simp only [Act.put, List.setIfInBounds_toArray, List.set_cons_zero, List.set_cons_succ, List.getElem_toArray, List.getElem_cons_zero, List.getElem_cons_succ])
              refine wpTill.stop (by kernel_rfl) ?_ _
              go_wp2_with (fail)
              go_roundw
              case rel => exact ⟨i3 + 1, HL3.out, by go_num, HBI.out.trans (HBZ.out.mono HBI.out.size)⟩
              case measure => have := HL3.out; simp [intOf]; omega
            · obtain ⟨q, hq⟩ : ∃ q, i3 = q + 1 := ⟨i3 - 1, by omega⟩
              obtain ⟨y, hy⟩ : ∃ v, lJ[q]? = some v := ⟨_, List.getElem?_eq_getElem (by rw [HLJ.out.lenEq]; omega)⟩
              have hyv : (joinF V)[q]? = some y.v := by rw [← HVJ.out]; exact vsOf_at hy
              obtain ⟨b', o', eb, hbl', e0, e1, _, _, _⟩ := ent_at HLW.out.sl hy
              injection eb with eb
              injection eb with eb1 eb2
              subst eb1 eb2
              have hS : ∀ w', Below wi.heap.size wi w' → (w'.cell? ⟨b, o + i3 * 5, none⟩ = some (.int .i64 x.v.dev) ∧ w'.cell? ⟨b, o + i3 * 5 + 1, none⟩ = some (.int .i64 x.v.no) ∧ w'.cell? ⟨b, o + i3 * 5 + 2, none⟩ = some (.int .i64 x.v.day) ∧ w'.cell? ⟨b, o + i3 * 5 + 3, none⟩ = some (.slice x.A x.v.seen.length x.c) ∧ w'.cell? ⟨b, o + i3 * 5 + 4, none⟩ = some (.string ⟨x.v.text.toArray⟩) ∧ w'.cell? ⟨b, o + q * 5, none⟩ = some (.int .i64 y.v.dev) ∧ w'.cell? ⟨b, o + q * 5 + 1, none⟩ = some (.int .i64 y.v.no) ∧ Below wi.heap.size wi w') := fun w' hbw => ⟨(hbw.cell (p := ⟨b, o + i3 * 5, none⟩) hbl).trans d0, (hbw.cell (p := ⟨b, o + i3 * 5 + 1, none⟩) hbl).trans d1, (hbw.cell (p := ⟨b, o + i3 * 5 + 2, none⟩) hbl).trans d2, (hbw.cell (p := ⟨b, o + i3 * 5 + 3, none⟩) hbl).trans d3, (hbw.cell (p := ⟨b, o + i3 * 5 + 4, none⟩) hbl).trans d4, (hbw.cell (p := ⟨b, o + q * 5, none⟩) hbl).trans e0, (hbw.cell (p := ⟨b, o + q * 5 + 1, none⟩) hbl).trans e1, hbw⟩
              have HSS := Lib.hid hS
              have hg : decide (0 < i3) = true := decide_eq_true (by omega)
              have hqi : (q : Int) < (nJ : Int) := by omega
              have hq0 : (0 : Int) ≤ (q : Int) := by omega
              have hwq : IntKind.i64.wrap ((i3 : Int) - 1) = (q : Int) := by rw [IntWalk.i64_in _ (by omega)]; omega
              have hmx : max (q : Int) 0 = (q : Int) := by omega
              have hnx := asc_next (joinF_asc V) hyv (by rw [← hq]; exact HXV.out)
              clear hS hz hx hy hyv hlt3 hi3 hb d0 d1 d2 d3 d4 e0 e1 hq
              by_cases hdd : y.v.dev < x.v.dev
              · as_aux_lemma =>
                have hc1 : decide (x.v.dev < y.v.dev) = false := decide_eq_false (by omega)
                have hc2 : (y.v.dev == x.v.dev) = false := beq_eq_false_iff_ne.2 (by omega)
                have hc3 : decide (y.v.dev = x.v.dev) = false := decide_eq_false (by omega)
                clear hnx hdd
                go_upto_region 42 with (fail)
                dsimp only [List.append]
                refine wpTill.startN 65 (S := fun w' => w'.cell? ⟨b, o + i3 * 5, none⟩ = some (.int .i64 x.v.dev) ∧ w'.cell? ⟨b, o + i3 * 5 + 1, none⟩ = some (.int .i64 x.v.no) ∧ w'.cell? ⟨b, o + i3 * 5 + 2, none⟩ = some (.int .i64 x.v.day) ∧ w'.cell? ⟨b, o + i3 * 5 + 3, none⟩ = some (.slice x.A x.v.seen.length x.c) ∧ w'.cell? ⟨b, o + i3 * 5 + 4, none⟩ = some (.string ⟨x.v.text.toArray⟩) ∧ w'.cell? ⟨b, o + q * 5, none⟩ = some (.int .i64 y.v.dev) ∧ w'.cell? ⟨b, o + q * 5 + 1, none⟩ = some (.int .i64 y.v.no) ∧ Below wi.heap.size wi w') (T := fun _ => True) (m := 300) (by rfl) (by kernel_rfl) ?_
                have HBZ := Lib.hid (Below.drew (Below.refl wi.heap.size wi))
                generalize wi.drew = wz at *
                refine wpTill.take (i := 0) (v := ?_) (by rfl) rfl (by kernel_rfl) (by kernel_rfl) (by kernel_rfl) (by exact fun _ _ _ h => h) (HSS.out _ HBZ.out) (fun _ => trivial) (Or.inl ⟨by rfl, ?_⟩) ?_
                rotate_left
                · (intro w' hSw; (try dsimp only at hSw); go_simp; (try with_reducible rfl))
                (try simp only [Act.put, List.setIfInBounds_toArray, List.set_cons_zero, List.set_cons_succ, List.getElem_toArray, List.getElem_cons_zero, List.getElem_cons_succ])
                refine wpTill.take (i := 1) (v := ?_) (by rfl) rfl (by kernel_rfl) (by kernel_rfl) (by kernel_rfl) (by exact fun _ _ _ h => h) (HSS.out _ HBZ.out) (fun _ => trivial) (Or.inl ⟨by rfl, ?_⟩) ?_
                rotate_left
                · (intro w' hSw; (try dsimp only at hSw); go_simp; (try with_reducible rfl))
                (try simp only [Act.put, List.setIfInBounds_toArray, List.set_cons_zero, List.set_cons_succ, List.getElem_toArray, List.getElem_cons_zero, List.getElem_cons_succ])
                refine wpTill.take (i := 2) (v := ?_) (by rfl) rfl (by kernel_rfl) (by kernel_rfl) (by kernel_rfl) (by exact fun _ _ _ h => h) (HSS.out _ HBZ.out) (fun _ => trivial) (Or.inl ⟨by rfl, ?_⟩) ?_
                rotate_left
                · (intro w' hSw; (try dsimp only at hSw); go_simp; (try with_reducible rfl))
                (try simp only [Act.put, List.setIfInBounds_toArray, List.set_cons_zero, List.set_cons_succ, List.getElem_toArray, List.getElem_cons_zero, List.getElem_cons_succ])
                refine wpTill.take (i := 3) (v := ?_) (by rfl) rfl (by kernel_rfl) (by kernel_rfl) (by kernel_rfl) (by exact fun _ _ _ h => h) (HSS.out _ HBZ.out) (fun _ => trivial) (Or.inl ⟨by rfl, ?_⟩) ?_
                rotate_left
                · (intro w' hSw; (try dsimp only at hSw); go_simp; (try with_reducible rfl))
                (try simp only [Act.put, List.setIfInBounds_toArray, List.set_cons_zero, List.set_cons_succ, List.getElem_toArray, List.getElem_cons_zero, List.getElem_cons_succ])
                refine wpTill.step (i := 4) (by kernel_rfl) (by rfl) (fun K' hK => ?_)
                replace hK := Lib.hid hK
                go_simp
                go_at_call 20
                ((with_reducible refine (HR42.out _ HBZ.out).mono ?_); rintro _ wy4 ⟨rfl, hby⟩)
                replace HBZ := Lib.hid (HBZ.out.trans (hby.mono HBZ.out.size))
                clear hby
                refine hK.out _ _ (HSS.out _ HBZ.out) (fun _ => trivial) ?_
                clear hK K'
                (try simp only [Act.put, List.setIfInBounds_toArray, List.set_cons_zero, List.set_cons_succ, List.getElem_toArray, List.getElem_cons_zero, List.getElem_cons_succ])
                refine wpTill.take (i := 5) (v := ?_) (by rfl) rfl (by kernel_rfl) (by kernel_rfl) (by kernel_rfl) (by exact fun _ _ _ h => h) (HSS.out _ HBZ.out) (fun _ => trivial) (Or.inl ⟨by rfl, ?_⟩) ?_
                rotate_left
                · (intro w' hSw; (try dsimp only at hSw); go_simp; (try with_reducible rfl))
                (try simp only [Act.put, List.setIfInBounds_toArray, List.set_cons_zero, List.set_cons_succ, List.getElem_toArray, List.getElem_cons_zero, List.getElem_cons_succ])
                refine wpTill.take (i := 6) (v := ?_) (by rfl) rfl (by kernel_rfl) (by kernel_rfl) (by kernel_rfl) (by exact fun _ _ _ h => h) (HSS.out _ HBZ.out) (fun _ => trivial) (Or.inl ⟨by rfl, ?_⟩) ?_
                rotate_left
                · (intro w' hSw; (try dsimp only at hSw); go_simp; (try with_reducible rfl))
                (try simp only [Act.put, List.setIfInBounds_toArray, List.set_cons_zero, List.set_cons_succ, List.getElem_toArray, List.getElem_cons_zero, List.getElem_cons_succ])
                refine wpTill.take (i := 7) (v := ?_) (by rfl) rfl (by kernel_rfl) (by kernel_rfl) (by kernel_rfl) (by exact fun _ _ _ h => h) (HSS.out _ HBZ.out) (fun _ => trivial) (Or.inl ⟨by rfl, ?_⟩) ?_
                rotate_left
                · (intro w' hSw; (try dsimp only at hSw); go_simp; (try with_reducible rfl))
                (try simp only [Act.put, List.setIfInBounds_toArray, List.set_cons_zero, List.set_cons_succ, List.getElem_toArray, List.getElem_cons_zero, List.getElem_cons_succ])
                refine wpTill.take (i := 8) (v := ?_) (by rfl) rfl (by kernel_rfl) (by kernel_rfl) (by kernel_rfl) (by exact fun _ _ _ h => h) (HSS.out _ HBZ.out) (fun _ => trivial) (Or.inl ⟨by rfl, ?_⟩) ?_
                rotate_left
                · (intro w' hSw; (try dsimp only at hSw); go_simp; (try with_reducible rfl))
                (try simp only [Act.put, List.setIfInBounds_toArray, List.set_cons_zero, List.set_cons_succ, List.getElem_toArray, List.getElem_cons_zero, List.getElem_cons_succ])
                try simp only [hg]
                refine wpTill.take (i := 9) (v := ?_) (by rfl) rfl (by kernel_rfl) (by kernel_rfl) (by kernel_rfl) (by exact fun _ _ _ h => h) (HSS.out _ HBZ.out) (fun _ => trivial) (Or.inl ⟨by rfl, ?_⟩) ?_
                rotate_left
                · (intro w' hSw; (try dsimp only at hSw); go_simp; (try with_reducible rfl))
                (try simp only [Act.put, List.setIfInBounds_toArray, List.set_cons_zero, List.set_cons_succ, List.getElem_toArray, List.getElem_cons_zero, List.getElem_cons_succ])
                refine wpTill.take (i := 10) (v := ?_) (by rfl) rfl (by kernel_rfl) (by kernel_rfl) (by kernel_rfl) (by exact fun _ _ _ h => h) (HSS.out _ HBZ.out) (fun _ => trivial) (Or.inl ⟨by rfl, ?_⟩) ?_
                rotate_left
                · (intro w' hSw; (try dsimp only at hSw); go_simp; (try with_reducible rfl))
                (try simp only [Act.put, List.setIfInBounds_toArray, List.set_cons_zero, List.set_cons_succ, List.getElem_toArray, List.getElem_cons_zero, List.getElem_cons_succ])
                refine wpTill.take (i := 11) (v := ?_) (by rfl) rfl (by kernel_rfl) (by kernel_rfl) (by kernel_rfl) (by exact fun _ _ _ h => h) (HSS.out _ HBZ.out) (fun _ => trivial) (Or.inl ⟨by rfl, ?_⟩) ?_
                rotate_left
                · (intro w' hSw; (try dsimp only at hSw); go_simp; (try with_reducible rfl))
                (try simp only [Act.put, List.setIfInBounds_toArray, List.set_cons_zero, List.set_cons_succ, List.getElem_toArray, List.getElem_cons_zero, List.getElem_cons_succ])
                refine wpTill.take (i := 12) (v := ?_) (by rfl) rfl (by kernel_rfl) (by kernel_rfl) (by kernel_rfl) (by exact fun _ _ _ h => h) (HSS.out _ HBZ.out) (fun _ => trivial) (Or.inl ⟨by rfl, ?_⟩) ?_
                rotate_left
                · (intro w' hSw; (try dsimp only at hSw); go_simp; (try with_reducible rfl))
                (try simp only [Act.put, List.setIfInBounds_toArray, List.set_cons_zero, List.set_cons_succ, List.getElem_toArray, List.getElem_cons_zero, List.getElem_cons_succ])
                refine wpTill.take (i := 13) (v := ?_) (by rfl) rfl (by kernel_rfl) (by kernel_rfl) (by kernel_rfl) (by exact fun _ _ _ h => h) (HSS.out _ HBZ.out) (fun _ => trivial) (Or.inl ⟨by rfl, ?_⟩) ?_
                rotate_left
                · (intro w' hSw; (try dsimp only at hSw); go_simp; (try with_reducible rfl))
                (try simp only [Act.put, List.setIfInBounds_toArray, List.set_cons_zero, List.set_cons_succ, List.getElem_toArray, List.getElem_cons_zero, List.getElem_cons_succ])
                refine wpTill.take (i := 14) (v := ?_) (by rfl) rfl (by kernel_rfl) (by kernel_rfl) (by kernel_rfl) (by exact fun _ _ _ h => h) (HSS.out _ HBZ.out) (fun _ => trivial) (Or.inl ⟨by rfl, ?_⟩) ?_
                rotate_left
                · (intro w' hSw; (try dsimp only at hSw); go_simp; (try with_reducible rfl))
                (try simp only [Act.put, List.setIfInBounds_toArray, List.set_cons_zero, List.set_cons_succ, List.getElem_toArray, List.getElem_cons_zero, List.getElem_cons_succ])
                refine wpTill.take (i := 15) (v := ?_) (by rfl) rfl (by kernel_rfl) (by kernel_rfl) (by kernel_rfl) (by exact fun _ _ _ h => h) (HSS.out _ HBZ.out) (fun _ => trivial) (Or.inl ⟨by rfl, ?_⟩) ?_
                rotate_left
                · (intro w' hSw; (try dsimp only at hSw); go_simp; (try with_reducible rfl))
                (try simp only [Act.put, List.setIfInBounds_toArray, List.set_cons_zero, List.set_cons_succ, List.getElem_toArray, List.getElem_cons_zero, List.getElem_cons_succ])
                refine wpTill.take (i := 16) (v := ?_) (by rfl) rfl (by kernel_rfl) (by kernel_rfl) (by kernel_rfl) (by exact fun _ _ _ h => h) (HSS.out _ HBZ.out) (fun _ => trivial) (Or.inl ⟨by rfl, ?_⟩) ?_
                rotate_left
                · (intro w' hSw; (try dsimp only at hSw); go_simp; (try with_reducible rfl))
                (try simp only [Act.put, List.setIfInBounds_toArray, List.set_cons_zero, List.set_cons_succ, List.getElem_toArray, List.getElem_cons_zero, List.getElem_cons_succ])
                refine wpTill.take (i := 17) (v := ?_) (by rfl) rfl (by kernel_rfl) (by kernel_rfl) (by kernel_rfl) (by exact fun _ _ _ h => h) (HSS.out _ HBZ.out) (fun _ => trivial) (Or.inl ⟨by rfl, ?_⟩) ?_
                rotate_left
                · (intro w' hSw; (try dsimp only at hSw); go_simp; (try with_reducible rfl))
                (try simp only [Act.put, List.setIfInBounds_toArray, List.set_cons_zero, List.set_cons_succ, List.getElem_toArray, List.getElem_cons_zero, List.getElem_cons_succ])
                refine wpTill.take (i := 18) (v := ?_) (by rfl) rfl (by kernel_rfl) (by kernel_rfl) (by kernel_rfl) (by exact fun _ _ _ h => h) (HSS.out _ HBZ.out) (fun _ => trivial) (Or.inl ⟨by rfl, ?_⟩) ?_
                rotate_left
                · (intro w' hSw; (try dsimp only at hSw); go_simp; (try with_reducible rfl))
                (try simp only [Act.put, List.setIfInBounds_toArray, List.set_cons_zero, List.set_cons_succ, List.getElem_toArray, List.getElem_cons_zero, List.getElem_cons_succ])
                refine wpTill.take (i := 19) (v := ?_) (by rfl) rfl (by kernel_rfl) (by kernel_rfl) (by kernel_rfl) (by exact fun _ _ _ h => h) (HSS.out _ HBZ.out) (fun _ => trivial) (Or.inl ⟨by rfl, ?_⟩) ?_
                rotate_left
                · (intro w' hSw; (try dsimp only at hSw); go_simp; (try with_reducible rfl))
                (try simp only [Act.put, List.setIfInBounds_toArray, List.set_cons_zero, List.set_cons_succ, List.getElem_toArray, List.getElem_cons_zero, List.getElem_cons_succ])
                refine wpTill.take (i := 20) (v := ?_) (by rfl) rfl (by kernel_rfl) (by kernel_rfl) (by kernel_rfl) (by exact fun _ _ _ h => h) (HSS.out _ HBZ.out) (fun _ => trivial) (Or.inl ⟨by rfl, ?_⟩) ?_
                rotate_left
                · (intro w' hSw; (try dsimp only at hSw); go_simp; (try with_reducible rfl))
                (try simp only [Act.put, List.setIfInBounds_toArray, List.set_cons_zero, List.set_cons_succ, List.getElem_toArray, List.getElem_cons_zero, List.getElem_cons_succ])
                refine wpTill.take (i := 21) (v := ?_) (by rfl) rfl (by kernel_rfl) (by kernel_rfl) (by kernel_rfl) (by exact fun _ _ _ h => h) (HSS.out _ HBZ.out) (fun _ => trivial) (Or.inl ⟨by rfl, ?_⟩) ?_
                rotate_left
                · (intro w' hSw; (try dsimp only at hSw); go_simp; (try with_reducible rfl))
                (try simp only [Act.put, List.setIfInBounds_toArray, List.set_cons_zero, List.set_cons_succ, List.getElem_toArray, List.getElem_cons_zero, List.getElem_cons_succ])
                refine wpTill.take (i := 22) (v := ?_) (by rfl) rfl (by kernel_rfl) (by kernel_rfl) (by kernel_rfl) (by exact fun _ _ _ h => h) (HSS.out _ HBZ.out) (fun _ => trivial) (Or.inl ⟨by rfl, ?_⟩) ?_
                rotate_left
                · (intro w' hSw; (try dsimp only at hSw); go_simp; (try with_reducible rfl))
                (try simp only [Act.put, List.setIfInBounds_toArray, List.set_cons_zero, List.set_cons_succ, List.getElem_toArray, List.getElem_cons_zero, List.getElem_cons_succ])
                try simp only [hc1]
                refine wpTill.take (i := 23) (v := ?_) (by rfl) rfl (by kernel_rfl) (by kernel_rfl) (by kernel_rfl) (by exact fun _ _ _ h => h) (HSS.out _ HBZ.out) (fun _ => trivial) (Or.inl ⟨by rfl, ?_⟩) ?_
                rotate_left
                · (intro w' hSw; (try dsimp only at hSw); go_simp; (try with_reducible rfl))
                (try simp only [Act.put, List.setIfInBounds_toArray, List.set_cons_zero, List.set_cons_succ, List.getElem_toArray, List.getElem_cons_zero, List.getElem_cons_succ])
                refine wpTill.take (i := 24) (v := ?_) (by rfl) rfl (by kernel_rfl) (by kernel_rfl) (by kernel_rfl) (by exact fun _ _ _ h => h) (HSS.out _ HBZ.out) (fun _ => trivial) (Or.inl ⟨by rfl, ?_⟩) ?_
                rotate_left
                · (intro w' hSw; (try dsimp only at hSw); go_simp; (try with_reducible rfl))
                (try simp only [Act.put, List.setIfInBounds_toArray, List.set_cons_zero, List.set_cons_succ, List.getElem_toArray, List.getElem_cons_zero, List.getElem_cons_succ])
                refine wpTill.take (i := 25) (v := ?_) (by rfl) rfl (by kernel_rfl) (by kernel_rfl) (by kernel_rfl) (by exact fun _ _ _ h => h) (HSS.out _ HBZ.out) (fun _ => trivial) (Or.inl ⟨by rfl, ?_⟩) ?_
                rotate_left
                · (intro w' hSw; (try dsimp only at hSw); go_simp; (try with_reducible rfl))
                (try simp only [Act.put, List.setIfInBounds_toArray, List.set_cons_zero, List.set_cons_succ, List.getElem_toArray, List.getElem_cons_zero, List.getElem_cons_succ])
                refine wpTill.take (i := 26) (v := ?_) (by rfl) rfl (by kernel_rfl) (by kernel_rfl) (by kernel_rfl) (by exact fun _ _ _ h => h) (HSS.out _ HBZ.out) (fun _ => trivial) (Or.inl ⟨by rfl, ?_⟩) ?_
                rotate_left
                · (intro w' hSw; (try dsimp only at hSw); go_simp; (try with_reducible rfl))
                (try simp only [Act.put, List.setIfInBounds_toArray, List.set_cons_zero, List.set_cons_succ, List.getElem_toArray, List.getElem_cons_zero, List.getElem_cons_succ])
                refine wpTill.take (i := 27) (v := ?_) (by rfl) rfl (by kernel_rfl) (by kernel_rfl) (by kernel_rfl) (by exact fun _ _ _ h => h) (HSS.out _ HBZ.out) (fun _ => trivial) (Or.inl ⟨by rfl, ?_⟩) ?_
                rotate_left
                · (intro w' hSw; (try dsimp only at hSw); go_simp; (try with_reducible rfl))
                (try simp only [Act.put, List.setIfInBounds_toArray, List.set_cons_zero, List.set_cons_succ, List.getElem_toArray, List.getElem_cons_zero, List.getElem_cons_succ])
                refine wpTill.take (i := 28) (v := ?_) (by rfl) rfl (by kernel_rfl) (by kernel_rfl) (by kernel_rfl) (by exact fun _ _ _ h => h) (HSS.out _ HBZ.out) (fun _ => trivial) (Or.inl ⟨by rfl, ?_⟩) ?_
                rotate_left
                · (intro w' hSw; (try dsimp only at hSw); go_simp; (try with_reducible rfl))
                (try simp only [Act.put, List.setIfInBounds_toArray, List.set_cons_zero, List.set_cons_succ, List.getElem_toArray, List.getElem_cons_zero, List.getElem_cons_succ])
                refine wpTill.take (i := 29) (v := ?_) (by rfl) rfl (by kernel_rfl) (by kernel_rfl) (by kernel_rfl) (by exact fun _ _ _ h => h) (HSS.out _ HBZ.out) (fun _ => trivial) (Or.inl ⟨by rfl, ?_⟩) ?_
                rotate_left
                · (intro w' hSw; (try dsimp only at hSw); go_simp; (try with_reducible rfl))
                (try simp only [Act.put, List.setIfInBounds_toArray, List.set_cons_zero, List.set_cons_succ, List.getElem_toArray, List.getElem_cons_zero, List.getElem_cons_succ])
                refine wpTill.take (i := 30) (v := ?_) (by rfl) rfl (by kernel_rfl) (by kernel_rfl) (by kernel_rfl) (by exact fun _ _ _ h => h) (HSS.out _ HBZ.out) (fun _ => trivial) (Or.inl ⟨by rfl, ?_⟩) ?_
                rotate_left
                · (intro w' hSw; (try dsimp only at hSw); go_simp; (try with_reducible rfl))
                (try simp only [Act.put, List.setIfInBounds_toArray, List.set_cons_zero, List.set_cons_succ, List.getElem_toArray, List.getElem_cons_zero, List.getElem_cons_succ])
                refine wpTill.take (i := 31) (v := ?_) (by rfl) rfl (by kernel_rfl) (by kernel_rfl) (by kernel_rfl) (by exact fun _ _ _ h => h) (HSS.out _ HBZ.out) (fun _ => trivial) (Or.inl ⟨by rfl, ?_⟩) ?_
                rotate_left
                · (intro w' hSw; (try dsimp only at hSw); go_simp; (try with_reducible rfl))
                (try simp only [Act.put, List.setIfInBounds_toArray, List.set_cons_zero, List.set_cons_succ, List.getElem_toArray, List.getElem_cons_zero, List.getElem_cons_succ])
                refine wpTill.take (i := 32) (v := ?_) (by rfl) rfl (by kernel_rfl) (by kernel_rfl) (by kernel_rfl) (by exact fun _ _ _ h => h) (HSS.out _ HBZ.out) (fun _ => trivial) (Or.inl ⟨by rfl, ?_⟩) ?_
                rotate_left
                · (intro w' hSw; (try dsimp only at hSw); go_simp; (try with_reducible rfl))
                (try simp only [Act.put, List.setIfInBounds_toArray, List.set_cons_zero, List.set_cons_succ, List.getElem_toArray, List.getElem_cons_zero, List.getElem_cons_succ])
                refine wpTill.take (i := 33) (v := ?_) (by rfl) rfl (by kernel_rfl) (by kernel_rfl) (by kernel_rfl) (by exact fun _ _ _ h => h) (HSS.out _ HBZ.out) (fun _ => trivial) (Or.inl ⟨by rfl, ?_⟩) ?_
                rotate_left
                · (intro w' hSw; (try dsimp only at hSw); go_simp; (try with_reducible rfl))
                (try simp only [Act.put, List.setIfInBounds_toArray, List.set_cons_zero, List.set_cons_succ, List.getElem_toArray, List.getElem_cons_zero, List.getElem_cons_succ])
                refine wpTill.take (i := 34) (v := ?_) (by rfl) rfl (by kernel_rfl) (by kernel_rfl) (by kernel_rfl) (by exact fun _ _ _ h => h) (HSS.out _ HBZ.out) (fun _ => trivial) (Or.inl ⟨by rfl, ?_⟩) ?_
                rotate_left
                · (intro w' hSw; (try dsimp only at hSw); go_simp; (try with_reducible rfl))
                (try simp only [Act.put, List.setIfInBounds_toArray, List.set_cons_zero, List.set_cons_succ, List.getElem_toArray, List.getElem_cons_zero, List.getElem_cons_succ])
                refine wpTill.take (i := 35) (v := ?_) (by rfl) rfl (by kernel_rfl) (by kernel_rfl) (by kernel_rfl) (by exact fun _ _ _ h => h) (HSS.out _ HBZ.out) (fun _ => trivial) (Or.inl ⟨by rfl, ?_⟩) ?_
                rotate_left
                · (intro w' hSw; (try dsimp only at hSw); go_simp; (try with_reducible rfl))
                (try simp only [Act.put, List.setIfInBounds_toArray, List.set_cons_zero, List.set_cons_succ, List.getElem_toArray, List.getElem_cons_zero, List.getElem_cons_succ])
                refine wpTill.take (i := 36) (v := ?_) (by rfl) rfl (by kernel_rfl) (by kernel_rfl) (by kernel_rfl) (by exact fun _ _ _ h => h) (HSS.out _ HBZ.out) (fun _ => trivial) (Or.inl ⟨by rfl, ?_⟩) ?_
                rotate_left
                · (intro w' hSw; (try dsimp only at hSw); go_simp; (try with_reducible rfl))
                (try simp only [Act.put, List.setIfInBounds_toArray, List.set_cons_zero, List.set_cons_succ, List.getElem_toArray, List.getElem_cons_zero, List.getElem_cons_succ])
                try simp only [hc2, hc3]
                refine wpTill.take (i := 37) (v := ?_) (by rfl) rfl (by kernel_rfl) (by kernel_rfl) (by kernel_rfl) (by exact fun _ _ _ h => h) (HSS.out _ HBZ.out) (fun _ => trivial) (Or.inl ⟨by rfl, ?_⟩) ?_
                rotate_left
                · (intro w' hSw; (try dsimp only at hSw); go_simp; (try with_reducible rfl))
                (try simp only [Act.put, List.setIfInBounds_toArray, List.set_cons_zero, List.set_cons_succ, List.getElem_toArray, List.getElem_cons_zero, List.getElem_cons_succ])
                refine wpTill.take (i := 38) (v := undef) (by rfl) rfl (by kernel_rfl) (by kernel_rfl) (by kernel_rfl) (by exact fun _ _ _ h => h) (HSS.out _ HBZ.out) (fun _ => trivial) (Or.inr ⟨by rfl, rfl⟩) ?_
                (try simp only [Act.put, List.setIfInBounds_toArray, List.set_cons_zero, List.set_cons_succ, List.getElem_toArray, List.getElem_cons_zero, List.getElem_cons_succ])
                refine wpTill.take (i := 39) (v := undef) (by rfl) rfl (by kernel_rfl) (by kernel_rfl) (by kernel_rfl) (by exact fun _ _ _ h => h) (HSS.out _ HBZ.out) (fun _ => trivial) (Or.inr ⟨by rfl, rfl⟩) ?_
                (try simp only [Act.put, List.setIfInBounds_toArray, List.set_cons_zero, List.set_cons_succ, List.getElem_toArray, List.getElem_cons_zero, List.getElem_cons_succ])
                refine wpTill.take (i := 40) (v := undef) (by rfl) rfl (by kernel_rfl) (by kernel_rfl) (by kernel_rfl) (by exact fun _ _ _ h => h) (HSS.out _ HBZ.out) (fun _ => trivial) (Or.inr ⟨by rfl, rfl⟩) ?_
                (try simp only [Act.put, List.setIfInBounds_toArray, List.set_cons_zero, List.set_cons_succ, List.getElem_toArray, List.getElem_cons_zero, List.getElem_cons_succ])
                refine wpTill.take (i := 41) (v := undef) (by rfl) rfl (by kernel_rfl) (by kernel_rfl) (by kernel_rfl) (by exact fun _ _ _ h => h) (HSS.out _ HBZ.out) (fun _ => trivial) (Or.inr ⟨by rfl, rfl⟩) ?_
                (try simp only [Act.put, List.setIfInBounds_toArray, List.set_cons_zero, List.set_cons_succ, List.getElem_toArray, List.getElem_cons_zero, List.getElem_cons_succ])
                refine wpTill.take (i := 42) (v := undef) (by rfl) rfl (by kernel_rfl) (by kernel_rfl) (by kernel_rfl) (by exact fun _ _ _ h => h) (HSS.out _ HBZ.out) (fun _ => trivial) (Or.inr ⟨by rfl, rfl⟩) ?_
                (try simp only [Act.put, List.setIfInBounds_toArray, List.set_cons_zero, List.set_cons_succ, List.getElem_toArray, List.getElem_cons_zero, List.getElem_cons_succ])
                refine wpTill.take (i := 43) (v := undef) (by rfl) rfl (by kernel_rfl) (by kernel_rfl) (by kernel_rfl) (by exact fun _ _ _ h => h) (HSS.out _ HBZ.out) (fun _ => trivial) (Or.inr ⟨by rfl, rfl⟩) ?_
                (try simp only [Act.put, List.setIfInBounds_toArray, List.set_cons_zero, List.set_cons_succ, List.getElem_toArray, List.getElem_cons_zero, List.getElem_cons_succ])
                refine wpTill.take (i := 44) (v := undef) (by rfl) rfl (by kernel_rfl) (by kernel_rfl) (by kernel_rfl) (by exact fun _ _ _ h => h) (HSS.out _ HBZ.out) (fun _ => trivial) (Or.inr ⟨by rfl, rfl⟩) ?_
                (try simp only [Act.put, List.setIfInBounds_toArray, List.set_cons_zero, List.set_cons_succ, List.getElem_toArray, List.getElem_cons_zero, List.getElem_cons_succ])
                refine wpTill.take (i := 45) (v := undef) (by rfl) rfl (by kernel_rfl) (by kernel_rfl) (by kernel_rfl) (by exact fun _ _ _ h => h) (HSS.out _ HBZ.out) (fun _ => trivial) (Or.inr ⟨by rfl, rfl⟩) ?_
                (try simp only [Act.put, List.setIfInBounds_toArray, List.set_cons_zero, List.set_cons_succ, List.getElem_toArray, List.getElem_cons_zero, List.getElem_cons_succ])
                refine wpTill.take (i := 46) (v := undef) (by rfl) rfl (by kernel_rfl) (by kernel_rfl) (by kernel_rfl) (by exact fun _ _ _ h => h) (HSS.out _ HBZ.out) (fun _ => trivial) (Or.inr ⟨by rfl, rfl⟩) ?_
                (try simp only [Act.put, List.setIfInBounds_toArray, List.set_cons_zero, List.set_cons_succ, List.getElem_toArray, List.getElem_cons_zero, List.getElem_cons_succ])
                refine wpTill.take (i := 47) (v := undef) (by rfl) rfl (by kernel_rfl) (by kernel_rfl) (by kernel_rfl) (by exact fun _ _ _ h => h) (HSS.out _ HBZ.out) (fun _ => trivial) (Or.inr ⟨by rfl, rfl⟩) ?_
                (try simp only [Act.put, List.setIfInBounds_toArray, List.set_cons_zero, List.set_cons_succ, List.getElem_toArray, List.getElem_cons_zero, List.getElem_cons_succ])
                refine wpTill.take (i := 48) (v := undef) (by rfl) rfl (by kernel_rfl) (by kernel_rfl) (by kernel_rfl) (by exact fun _ _ _ h => h) (HSS.out _ HBZ.out) (fun _ => trivial) (Or.inr ⟨by rfl, rfl⟩) ?_
                (try simp only [Act.put, List.setIfInBounds_toArray, List.set_cons_zero, List.set_cons_succ, List.getElem_toArray, List.getElem_cons_zero, List.getElem_cons_succ])
                refine wpTill.take (i := 49) (v := undef) (by rfl) rfl (by kernel_rfl) (by kernel_rfl) (by kernel_rfl) (by exact fun _ _ _ h => h) (HSS.out _ HBZ.out) (fun _ => trivial) (Or.inr ⟨by rfl, rfl⟩) ?_
                (try simp only [Act.put, List.setIfInBounds_toArray, List.set_cons_zero, List.set_cons_succ, List.getElem_toArray, List.getElem_cons_zero, List.getElem_cons_succ])
                refine wpTill.take (i := 50) (v := undef) (by rfl) rfl (by kernel_rfl) (by kernel_rfl) (by kernel_rfl) (by exact fun _ _ _ h => h) (HSS.out _ HBZ.out) (fun _ => trivial) (Or.inr ⟨by rfl, rfl⟩) ?_
                (try simp only [Act.put, List.setIfInBounds_toArray, List.set_cons_zero, List.set_cons_succ, List.getElem_toArray, List.getElem_cons_zero, List.getElem_cons_succ])
                refine wpTill.take (i := 51) (v := ?_) (by rfl) rfl (by kernel_rfl) (by kernel_rfl) (by kernel_rfl) (by exact fun _ _ _ h => h) (HSS.out _ HBZ.out) (fun _ => trivial) (Or.inl ⟨by rfl, ?_⟩) ?_
                rotate_left
                · (intro w' hSw; (try dsimp only at hSw); go_simp; (try with_reducible rfl))
                (try simp only [Act.put, List.setIfInBounds_toArray, List.set_cons_zero, List.set_cons_succ, List.getElem_toArray, List.getElem_cons_zero, List.getElem_cons_succ])
                refine wpTill.take (i := 52) (v := ?_) (by rfl) rfl (by kernel_rfl) (by kernel_rfl) (by kernel_rfl) (by exact fun _ _ _ h => h) (HSS.out _ HBZ.out) (fun _ => trivial) (Or.inl ⟨by rfl, ?_⟩) ?_
                rotate_left
                · (intro w' hSw; (try dsimp only at hSw); go_simp; (try with_reducible rfl))
                (try simp only [Act.put, List.setIfInBounds_toArray, List.set_cons_zero, List.set_cons_succ, List.getElem_toArray, List.getElem_cons_zero, List.getElem_cons_succ])
                refine wpTill.take (i := 53) (v := ?_) (by rfl) rfl (by kernel_rfl) (by kernel_rfl) (by kernel_rfl) (by exact fun _ _ _ h => h) (HSS.out _ HBZ.out) (fun _ => trivial) (Or.inl ⟨by rfl, ?_⟩) ?_
                rotate_left
                · (intro w' hSw; (try dsimp only at hSw); go_simp; (try with_reducible rfl))
                (try simp only [Act.put, List.setIfInBounds_toArray, List.set_cons_zero, List.set_cons_succ, List.getElem_toArray, List.getElem_cons_zero, List.getElem_cons_succ])
                refine wpTill.take (i := 54) (v := ?_) (by rfl) rfl (by kernel_rfl) (by kernel_rfl) (by kernel_rfl) (by exact fun _ _ _ h => h) (HSS.out _ HBZ.out) (fun _ => trivial) (Or.inl ⟨by rfl, ?_⟩) ?_
                rotate_left
                · (intro w' hSw; (try dsimp only at hSw); go_simp; (try with_reducible rfl))
                (try simp only [Act.put, List.setIfInBounds_toArray, List.set_cons_zero, List.set_cons_succ, List.getElem_toArray, List.getElem_cons_zero, List.getElem_cons_succ])
                refine wpTill.take (i := 55) (v := ?_) (by rfl) rfl (by kernel_rfl) (by kernel_rfl) (by kernel_rfl) (by exact fun _ _ _ h => h) (HSS.out _ HBZ.out) (fun _ => trivial) (Or.inl ⟨by rfl, ?_⟩) ?_
                rotate_left
                · (intro w' hSw; (try dsimp only at hSw); go_simp; (try with_reducible rfl))
                (try simp only [Act.put, List.setIfInBounds_toArray, List.set_cons_zero, List.set_cons_succ, List.getElem_toArray, List.getElem_cons_zero, List.getElem_cons_succ])
                refine wpTill.take (i := 56) (v := ?_) (by rfl) rfl (by kernel_rfl) (by kernel_rfl) (by kernel_rfl) (by exact fun _ _ _ h => h) (HSS.out _ HBZ.out) (fun _ => trivial) (Or.inl ⟨by rfl, ?_⟩) ?_
                rotate_left
                · (intro w' hSw; (try dsimp only at hSw); go_simp; (try with_reducible rfl))
                (try simp only [Act.put, List.setIfInBounds_toArray, List.set_cons_zero, List.set_cons_succ, List.getElem_toArray, List.getElem_cons_zero, List.getElem_cons_succ])
                refine wpTill.take (i := 57) (v := ?_) (by rfl) rfl (by kernel_rfl) (by kernel_rfl) (by kernel_rfl) (by exact fun _ _ _ h => h) (HSS.out _ HBZ.out) (fun _ => trivial) (Or.inl ⟨by rfl, ?_⟩) ?_
                rotate_left
                · (intro w' hSw; (try dsimp only at hSw); go_simp; (try with_reducible rfl))
                (try simp only [Act.put, List.setIfInBounds_toArray, List.set_cons_zero, List.set_cons_succ, List.getElem_toArray, List.getElem_cons_zero, List.getElem_cons_succ])
                refine wpTill.take (i := 58) (v := ?_) (by rfl) rfl (by kernel_rfl) (by kernel_rfl) (by kernel_rfl) (by exact fun _ _ _ h => h) (HSS.out _ HBZ.out) (fun _ => trivial) (Or.inl ⟨by rfl, ?_⟩) ?_
                rotate_left
                · (intro w' hSw; (try dsimp only at hSw); go_simp; (try with_reducible rfl))
                (try simp only [Act.put, List.setIfInBounds_toArray, List.set_cons_zero, List.set_cons_succ, List.getElem_toArray, List.getElem_cons_zero, List.getElem_cons_succ])
                refine wpTill.take (i := 59) (v := ?_) (by rfl) rfl (by kernel_rfl) (by kernel_rfl) (by kernel_rfl) (by exact fun _ _ _ h => h) (HSS.out _ HBZ.out) (fun _ => trivial) (Or.inl ⟨by rfl, ?_⟩) ?_
                rotate_left
                · (intro w' hSw; (try dsimp only at hSw); go_simp; (try with_reducible rfl))
                (try simp only [Act.put, List.setIfInBounds_toArray, List.set_cons_zero, List.set_cons_succ, List.getElem_toArray, List.getElem_cons_zero, List.getElem_cons_succ])
                refine wpTill.take (i := 60) (v := ?_) (by rfl) rfl (by kernel_rfl) (by kernel_rfl) (by kernel_rfl) (by exact fun _ _ _ h => h) (HSS.out _ HBZ.out) (fun _ => trivial) (Or.inl ⟨by rfl, ?_⟩) ?_
                rotate_left
                · (intro w' hSw; (try dsimp only at hSw); go_simp; (try with_reducible rfl))
                (try simp only [Act.put, List.setIfInBounds_toArray, List.set_cons_zero, List.set_cons_succ, List.getElem_toArray, List.getElem_cons_zero, List.getElem_cons_succ])
                refine wpTill.take (i := 61) (v := ?_) (by rfl) rfl (by kernel_rfl) (by kernel_rfl) (by kernel_rfl) (by exact fun _ _ _ h => h) (HSS.out _ HBZ.out) (fun _ => trivial) (Or.inl ⟨by rfl, ?_⟩) ?_
                rotate_left
                · (intro w' hSw; (try dsimp only at hSw); go_simp; (try with_reducible rfl))
                (try simp only [Act.put, List.setIfInBounds_toArray, List.set_cons_zero, List.set_cons_succ, List.getElem_toArray, List.getElem_cons_zero, List.getElem_cons_succ])
                refine wpTill.take (i := 62) (v := ?_) (by rfl) rfl (by kernel_rfl) (by kernel_rfl) (by kernel_rfl) (by exact fun _ _ _ h => h) (HSS.out _ HBZ.out) (fun _ => trivial) (Or.inl ⟨by rfl, ?_⟩) ?_
                rotate_left
                · (intro w' hSw; (try dsimp only at hSw); go_simp; (try with_reducible rfl))
                (try simp only [Act.put, List.setIfInBounds_toArray, List.set_cons_zero, List.set_cons_succ, List.getElem_toArray, List.getElem_cons_zero, List.getElem_cons_succ])
                refine wpTill.step (i := 63) (by kernel_rfl) (by rfl) (fun K' hK => ?_)
                replace hK := Lib.hid hK
                go_simp
                go_at_call 21
                ((with_reducible refine (HH42.out _ HBZ.out).mono ?_); rintro _ wy63 ⟨rfl, hby⟩)
                replace HBZ := Lib.hid (HBZ.out.trans (hby.mono HBZ.out.size))
                clear hby
                refine hK.out _ _ (HSS.out _ HBZ.out) (fun _ => trivial) ?_
                clear hK K'
                (try simp only [Act.put, List.setIfInBounds_toArray, List.set_cons_zero, List.set_cons_succ, List.getElem_toArray, List.getElem_cons_zero, List.getElem_cons_succ])
                refine wpTill.take (i := 64) (v := ?_) (by rfl) rfl (by kernel_rfl) (by kernel_rfl) (by kernel_rfl) (by exact fun _ _ _ h => h) (HSS.out _ HBZ.out) (fun _ => trivial) (Or.inl ⟨by rfl, ?_⟩) ?_
                rotate_left
                · (intro w' hSw; (try dsimp only at hSw); go_simp; (try with_reducible rfl))
                (try simp only [Act.put, List.setIfInBounds_toArray, List.set_cons_zero, List.set_cons_succ, List.getElem_toArray, List.getElem_cons_zero, List.getElem_cons_succ])
                refine wpTill.stop (by kernel_rfl) ?_ _
                go_wp2_with (fail)
                go_roundw
                case rel => exact ⟨i3 + 1, HL3.out, by go_num, HBI.out.trans (HBZ.out.mono HBI.out.size)⟩
                case measure => have := HL3.out; simp [intOf]; omega
              · as_aux_lemma =>
                have hdv : y.v.dev = x.v.dev := by omega
                have hc1 : decide (x.v.dev < y.v.dev) = false := decide_eq_false (by omega)
                have hc2 : (y.v.dev == x.v.dev) = true := by simpa using hdv
                have hc3 : decide (y.v.dev = x.v.dev) = true := decide_eq_true hdv
                have hc4 : decide (x.v.no < y.v.no) = false := decide_eq_false (by omega)
                clear hnx hdd hdv
                go_upto_region 42 with (fail)
                dsimp only [List.append]
                refine wpTill.startN 65 (S := fun w' => w'.cell? ⟨b, o + i3 * 5, none⟩ = some (.int .i64 x.v.dev) ∧ w'.cell? ⟨b, o + i3 * 5 + 1, none⟩ = some (.int .i64 x.v.no) ∧ w'.cell? ⟨b, o + i3 * 5 + 2, none⟩ = some (.int .i64 x.v.day) ∧ w'.cell? ⟨b, o + i3 * 5 + 3, none⟩ = some (.slice x.A x.v.seen.length x.c) ∧ w'.cell? ⟨b, o + i3 * 5 + 4, none⟩ = some (.string ⟨x.v.text.toArray⟩) ∧ w'.cell? ⟨b, o + q * 5, none⟩ = some (.int .i64 y.v.dev) ∧ w'.cell? ⟨b, o + q * 5 + 1, none⟩ = some (.int .i64 y.v.no) ∧ Below wi.heap.size wi w') (T := fun _ => True) (m := 300) (by rfl) (by kernel_rfl) ?_
                have HBZ := Lib.hid (Below.drew (Below.refl wi.heap.size wi))
                generalize wi.drew = wz at *
                refine wpTill.take (i := 0) (v := ?_) (by rfl) rfl (by kernel_rfl) (by kernel_rfl) (by kernel_rfl) (by exact fun _ _ _ h => h) (HSS.out _ HBZ.out) (fun _ => trivial) (Or.inl ⟨by rfl, ?_⟩) ?_
                rotate_left
                · (intro w' hSw; (try dsimp only at hSw); go_simp; (try with_reducible rfl))
                (try simp only [Act.put, List.setIfInBounds_toArray, List.set_cons_zero, List.set_cons_succ, List.getElem_toArray, List.getElem_cons_zero, List.getElem_cons_succ])
                refine wpTill.take (i := 1) (v := ?_) (by rfl) rfl (by kernel_rfl) (by kernel_rfl) (by kernel_rfl) (by exact fun _ _ _ h => h) (HSS.out _ HBZ.out) (fun _ => trivial) (Or.inl ⟨by rfl, ?_⟩) ?_
                rotate_left
                · (intro w' hSw; (try dsimp only at hSw); go_simp; (try with_reducible rfl))
                (try simp only [Act.put, List.setIfInBounds_toArray, List.set_cons_zero, List.set_cons_succ, List.getElem_toArray, List.getElem_cons_zero, List.getElem_cons_succ])
                refine wpTill.take (i := 2) (v := ?_) (by rfl) rfl (by kernel_rfl) (by kernel_rfl) (by kernel_rfl) (by exact fun _ _ _ h => h) (HSS.out _ HBZ.out) (fun _ => trivial) (Or.inl ⟨by rfl, ?_⟩) ?_
                rotate_left
                · (intro w' hSw; (try dsimp only at hSw); go_simp; (try with_reducible rfl))
                (try simp only [Act.put, List.setIfInBounds_toArray, List.set_cons_zero, List.set_cons_succ, List.getElem_toArray, List.getElem_cons_zero, List.getElem_cons_succ])
                refine wpTill.take (i := 3) (v := ?_) (by rfl) rfl (by kernel_rfl) (by kernel_rfl) (by kernel_rfl) (by exact fun _ _ _ h => h) (HSS.out _ HBZ.out) (fun _ => trivial) (Or.inl ⟨by rfl, ?_⟩) ?_
                rotate_left
                · (intro w' hSw; (try dsimp only at hSw); go_simp; (try with_reducible rfl))
                (try simp only [Act.put, List.setIfInBounds_toArray, List.set_cons_zero, List.set_cons_succ, List.getElem_toArray, List.getElem_cons_zero, List.getElem_cons_succ])
                refine wpTill.step (i := 4) (by kernel_rfl) (by rfl) (fun K' hK => ?_)
                replace hK := Lib.hid hK
                go_simp
                go_at_call 20
                ((with_reducible refine (HR42.out _ HBZ.out).mono ?_); rintro _ wy4 ⟨rfl, hby⟩)
                replace HBZ := Lib.hid (HBZ.out.trans (hby.mono HBZ.out.size))
                clear hby
                refine hK.out _ _ (HSS.out _ HBZ.out) (fun _ => trivial) ?_
                clear hK K'
                (try simp only [Act.put, List.setIfInBounds_toArray, List.set_cons_zero, List.set_cons_succ, List.getElem_toArray, List.getElem_cons_zero, List.getElem_cons_succ])
                refine wpTill.take (i := 5) (v := ?_) (by rfl) rfl (by kernel_rfl) (by kernel_rfl) (by kernel_rfl) (by exact fun _ _ _ h => h) (HSS.out _ HBZ.out) (fun _ => trivial) (Or.inl ⟨by rfl, ?_⟩) ?_
                rotate_left
                · (intro w' hSw; (try dsimp only at hSw); go_simp; (try with_reducible rfl))
                (try simp only [Act.put, List.setIfInBounds_toArray, List.set_cons_zero, List.set_cons_succ, List.getElem_toArray, List.getElem_cons_zero, List.getElem_cons_succ])
                refine wpTill.take (i := 6) (v := ?_) (by rfl) rfl (by kernel_rfl) (by kernel_rfl) (by kernel_rfl) (by exact fun _ _ _ h => h) (HSS.out _ HBZ.out) (fun _ => trivial) (Or.inl ⟨by rfl, ?_⟩) ?_
                rotate_left
                · (intro w' hSw; (try dsimp only at hSw); go_simp; (try with_reducible rfl))
                (try simp only [Act.put, List.setIfInBounds_toArray, List.set_cons_zero, List.set_cons_succ, List.getElem_toArray, List.getElem_cons_zero, List.getElem_cons_succ])
                refine wpTill.take (i := 7) (v := ?_) (by rfl) rfl (by kernel_rfl) (by kernel_rfl) (by kernel_rfl) (by exact fun _ _ _ h => h) (HSS.out _ HBZ.out) (fun _ => trivial) (Or.inl ⟨by rfl, ?_⟩) ?_
                rotate_left
                · (intro w' hSw; (try dsimp only at hSw); go_simp; (try with_reducible rfl))
                (try simp only [Act.put, List.setIfInBounds_toArray, List.set_cons_zero, List.set_cons_succ, List.getElem_toArray, List.getElem_cons_zero, List.getElem_cons_succ])
                refine wpTill.take (i := 8) (v := ?_) (by rfl) rfl (by kernel_rfl) (by kernel_rfl) (by kernel_rfl) (by exact fun _ _ _ h => h) (HSS.out _ HBZ.out) (fun _ => trivial) (Or.inl ⟨by rfl, ?_⟩) ?_
                rotate_left
                · (intro w' hSw; (try dsimp only at hSw); go_simp; (try with_reducible rfl))
                (try simp only [Act.put, List.setIfInBounds_toArray, List.set_cons_zero, List.set_cons_succ, List.getElem_toArray, List.getElem_cons_zero, List.getElem_cons_succ])
                try simp only [hg]
                refine wpTill.take (i := 9) (v := ?_) (by rfl) rfl (by kernel_rfl) (by kernel_rfl) (by kernel_rfl) (by exact fun _ _ _ h => h) (HSS.out _ HBZ.out) (fun _ => trivial) (Or.inl ⟨by rfl, ?_⟩) ?_
                rotate_left
                · (intro w' hSw; (try dsimp only at hSw); go_simp; (try with_reducible rfl))
                (try simp only [Act.put, List.setIfInBounds_toArray, List.set_cons_zero, List.set_cons_succ, List.getElem_toArray, List.getElem_cons_zero, List.getElem_cons_succ])
                refine wpTill.take (i := 10) (v := ?_) (by rfl) rfl (by kernel_rfl) (by kernel_rfl) (by kernel_rfl) (by exact fun _ _ _ h => h) (HSS.out _ HBZ.out) (fun _ => trivial) (Or.inl ⟨by rfl, ?_⟩) ?_
                rotate_left
                · (intro w' hSw; (try dsimp only at hSw); go_simp; (try with_reducible rfl))
                (try simp only [Act.put, List.setIfInBounds_toArray, List.set_cons_zero, List.set_cons_succ, List.getElem_toArray, List.getElem_cons_zero, List.getElem_cons_succ])
                refine wpTill.take (i := 11) (v := ?_) (by rfl) rfl (by kernel_rfl) (by kernel_rfl) (by kernel_rfl) (by exact fun _ _ _ h => h) (HSS.out _ HBZ.out) (fun _ => trivial) (Or.inl ⟨by rfl, ?_⟩) ?_
                rotate_left
                · (intro w' hSw; (try dsimp only at hSw); go_simp; (try with_reducible rfl))
                (try simp only [Act.put, List.setIfInBounds_toArray, List.set_cons_zero, List.set_cons_succ, List.getElem_toArray, List.getElem_cons_zero, List.getElem_cons_succ])
                refine wpTill.take (i := 12) (v := ?_) (by rfl) rfl (by kernel_rfl) (by kernel_rfl) (by kernel_rfl) (by exact fun _ _ _ h => h) (HSS.out _ HBZ.out) (fun _ => trivial) (Or.inl ⟨by rfl, ?_⟩) ?_
                rotate_left
                · (intro w' hSw; (try dsimp only at hSw); go_simp; (try with_reducible rfl))
                (try simp only [Act.put, List.setIfInBounds_toArray, List.set_cons_zero, List.set_cons_succ, List.getElem_toArray, List.getElem_cons_zero, List.getElem_cons_succ])
                refine wpTill.take (i := 13) (v := ?_) (by rfl) rfl (by kernel_rfl) (by kernel_rfl) (by kernel_rfl) (by exact fun _ _ _ h => h) (HSS.out _ HBZ.out) (fun _ => trivial) (Or.inl ⟨by rfl, ?_⟩) ?_
                rotate_left
                · (intro w' hSw; (try dsimp only at hSw); go_simp; (try with_reducible rfl))
                (try simp only [Act.put, List.setIfInBounds_toArray, List.set_cons_zero, List.set_cons_succ, List.getElem_toArray, List.getElem_cons_zero, List.getElem_cons_succ])
                refine wpTill.take (i := 14) (v := ?_) (by rfl) rfl (by kernel_rfl) (by kernel_rfl) (by kernel_rfl) (by exact fun _ _ _ h => h) (HSS.out _ HBZ.out) (fun _ => trivial) (Or.inl ⟨by rfl, ?_⟩) ?_
                rotate_left
                · (intro w' hSw; (try dsimp only at hSw); go_simp; (try with_reducible rfl))
                (try simp only [Act.put, List.setIfInBounds_toArray, List.set_cons_zero, List.set_cons_succ, List.getElem_toArray, List.getElem_cons_zero, List.getElem_cons_succ])
                refine wpTill.take (i := 15) (v := ?_) (by rfl) rfl (by kernel_rfl) (by kernel_rfl) (by kernel_rfl) (by exact fun _ _ _ h => h) (HSS.out _ HBZ.out) (fun _ => trivial) (Or.inl ⟨by rfl, ?_⟩) ?_
                rotate_left
                · (intro w' hSw; (try dsimp only at hSw); go_simp; (try with_reducible rfl))
                (try simp only [Act.put, List.setIfInBounds_toArray, List.set_cons_zero, List.set_cons_succ, List.getElem_toArray, List.getElem_cons_zero, List.getElem_cons_succ])
                refine wpTill.take (i := 16) (v := ?_) (by rfl) rfl (by kernel_rfl) (by kernel_rfl) (by kernel_rfl) (by exact fun _ _ _ h => h) (HSS.out _ HBZ.out) (fun _ => trivial) (Or.inl ⟨by rfl, ?_⟩) ?_
                rotate_left
                · (intro w' hSw; (try dsimp only at hSw); go_simp; (try with_reducible rfl))
                (try simp only [Act.put, List.setIfInBounds_toArray, List.set_cons_zero, List.set_cons_succ, List.getElem_toArray, List.getElem_cons_zero, List.getElem_cons_succ])
                refine wpTill.take (i := 17) (v := ?_) (by rfl) rfl (by kernel_rfl) (by kernel_rfl) (by kernel_rfl) (by exact fun _ _ _ h => h) (HSS.out _ HBZ.out) (fun _ => trivial) (Or.inl ⟨by rfl, ?_⟩) ?_
                rotate_left
                · (intro w' hSw; (try dsimp only at hSw); go_simp; (try with_reducible rfl))
                (try simp only [Act.put, List.setIfInBounds_toArray, List.set_cons_zero, List.set_cons_succ, List.getElem_toArray, List.getElem_cons_zero, List.getElem_cons_succ])
                refine wpTill.take (i := 18) (v := ?_) (by rfl) rfl (by kernel_rfl) (by kernel_rfl) (by kernel_rfl) (by exact fun _ _ _ h => h) (HSS.out _ HBZ.out) (fun _ => trivial) (Or.inl ⟨by rfl, ?_⟩) ?_
                rotate_left
                · (intro w' hSw; (try dsimp only at hSw); go_simp; (try with_reducible rfl))
                (try simp only [Act.put, List.setIfInBounds_toArray, List.set_cons_zero, List.set_cons_succ, List.getElem_toArray, List.getElem_cons_zero, List.getElem_cons_succ])
                refine wpTill.take (i := 19) (v := ?_) (by rfl) rfl (by kernel_rfl) (by kernel_rfl) (by kernel_rfl) (by exact fun _ _ _ h => h) (HSS.out _ HBZ.out) (fun _ => trivial) (Or.inl ⟨by rfl, ?_⟩) ?_
                rotate_left
                · (intro w' hSw; (try dsimp only at hSw); go_simp; (try with_reducible rfl))
                (try simp only [Act.put, List.setIfInBounds_toArray, List.set_cons_zero, List.set_cons_succ, List.getElem_toArray, List.getElem_cons_zero, List.getElem_cons_succ])
                refine wpTill.take (i := 20) (v := ?_) (by rfl) rfl (by kernel_rfl) (by kernel_rfl) (by kernel_rfl) (by exact fun _ _ _ h => h) (HSS.out _ HBZ.out) (fun _ => trivial) (Or.inl ⟨by rfl, ?_⟩) ?_
                rotate_left
                · (intro w' hSw; (try dsimp only at hSw); go_simp; (try with_reducible rfl))
                (try simp only [Act.put, List.setIfInBounds_toArray, List.set_cons_zero, List.set_cons_succ, List.getElem_toArray, List.getElem_cons_zero, List.getElem_cons_succ])
                refine wpTill.take (i := 21) (v := ?_) (by rfl) rfl (by kernel_rfl) (by kernel_rfl) (by kernel_rfl) (by exact fun _ _ _ h => h) (HSS.out _ HBZ.out) (fun _ => trivial) (Or.inl ⟨by rfl, ?_⟩) ?_
                rotate_left
                · (intro w' hSw; (try dsimp only at hSw); go_simp; (try with_reducible rfl))
                (try simp only [Act.put, List.setIfInBounds_toArray, List.set_cons_zero, List.set_cons_succ, List.getElem_toArray, List.getElem_cons_zero, List.getElem_cons_succ])
                refine wpTill.take (i := 22) (v := ?_) (by rfl) rfl (by kernel_rfl) (by kernel_rfl) (by kernel_rfl) (by exact fun _ _ _ h => h) (HSS.out _ HBZ.out) (fun _ => trivial) (Or.inl ⟨by rfl, ?_⟩) ?_
                rotate_left
                · (intro w' hSw; (try dsimp only at hSw); go_simp; (try with_reducible rfl))
                (try simp only [Act.put, List.setIfInBounds_toArray, List.set_cons_zero, List.set_cons_succ, List.getElem_toArray, List.getElem_cons_zero, List.getElem_cons_succ])
                try simp only [hc1]
                refine wpTill.take (i := 23) (v := ?_) (by rfl) rfl (by kernel_rfl) (by kernel_rfl) (by kernel_rfl) (by exact fun _ _ _ h => h) (HSS.out _ HBZ.out) (fun _ => trivial) (Or.inl ⟨by rfl, ?_⟩) ?_
                rotate_left
                · (intro w' hSw; (try dsimp only at hSw); go_simp; (try with_reducible rfl))
                (try simp only [Act.put, List.setIfInBounds_toArray, List.set_cons_zero, List.set_cons_succ, List.getElem_toArray, List.getElem_cons_zero, List.getElem_cons_succ])
                refine wpTill.take (i := 24) (v := ?_) (by rfl) rfl (by kernel_rfl) (by kernel_rfl) (by kernel_rfl) (by exact fun _ _ _ h => h) (HSS.out _ HBZ.out) (fun _ => trivial) (Or.inl ⟨by rfl, ?_⟩) ?_
                rotate_left
                · (intro w' hSw; (try dsimp only at hSw); go_simp; (try with_reducible rfl))
                (try simp only [Act.put, List.setIfInBounds_toArray, List.set_cons_zero, List.set_cons_succ, List.getElem_toArray, List.getElem_cons_zero, List.getElem_cons_succ])
                refine wpTill.take (i := 25) (v := ?_) (by rfl) rfl (by kernel_rfl) (by kernel_rfl) (by kernel_rfl) (by exact fun _ _ _ h => h) (HSS.out _ HBZ.out) (fun _ => trivial) (Or.inl ⟨by rfl, ?_⟩) ?_
                rotate_left
                · (intro w' hSw; (try dsimp only at hSw); go_simp; (try with_reducible rfl))
                (try simp only [Act.put, List.setIfInBounds_toArray, List.set_cons_zero, List.set_cons_succ, List.getElem_toArray, List.getElem_cons_zero, List.getElem_cons_succ])
                refine wpTill.take (i := 26) (v := ?_) (by rfl) rfl (by kernel_rfl) (by kernel_rfl) (by kernel_rfl) (by exact fun _ _ _ h => h) (HSS.out _ HBZ.out) (fun _ => trivial) (Or.inl ⟨by rfl, ?_⟩) ?_
                rotate_left
                · (intro w' hSw; (try dsimp only at hSw); go_simp; (try with_reducible rfl))
                (try simp only [Act.put, List.setIfInBounds_toArray, List.set_cons_zero, List.set_cons_succ, List.getElem_toArray, List.getElem_cons_zero, List.getElem_cons_succ])
                refine wpTill.take (i := 27) (v := ?_) (by rfl) rfl (by kernel_rfl) (by kernel_rfl) (by kernel_rfl) (by exact fun _ _ _ h => h) (HSS.out _ HBZ.out) (fun _ => trivial) (Or.inl ⟨by rfl, ?_⟩) ?_
                rotate_left
                · (intro w' hSw; (try dsimp only at hSw); go_simp; (try with_reducible rfl))
                (try simp only [Act.put, List.setIfInBounds_toArray, List.set_cons_zero, List.set_cons_succ, List.getElem_toArray, List.getElem_cons_zero, List.getElem_cons_succ])
                refine wpTill.take (i := 28) (v := ?_) (by rfl) rfl (by kernel_rfl) (by kernel_rfl) (by kernel_rfl) (by exact fun _ _ _ h => h) (HSS.out _ HBZ.out) (fun _ => trivial) (Or.inl ⟨by rfl, ?_⟩) ?_
                rotate_left
                · (intro w' hSw; (try dsimp only at hSw); go_simp; (try with_reducible rfl))
                (try simp only [Act.put, List.setIfInBounds_toArray, List.set_cons_zero, List.set_cons_succ, List.getElem_toArray, List.getElem_cons_zero, List.getElem_cons_succ])
                refine wpTill.take (i := 29) (v := ?_) (by rfl) rfl (by kernel_rfl) (by kernel_rfl) (by kernel_rfl) (by exact fun _ _ _ h => h) (HSS.out _ HBZ.out) (fun _ => trivial) (Or.inl ⟨by rfl, ?_⟩) ?_
                rotate_left
                · (intro w' hSw; (try dsimp only at hSw); go_simp; (try with_reducible rfl))
                (try simp only [Act.put, List.setIfInBounds_toArray, List.set_cons_zero, List.set_cons_succ, List.getElem_toArray, List.getElem_cons_zero, List.getElem_cons_succ])
                refine wpTill.take (i := 30) (v := ?_) (by rfl) rfl (by kernel_rfl) (by kernel_rfl) (by kernel_rfl) (by exact fun _ _ _ h => h) (HSS.out _ HBZ.out) (fun _ => trivial) (Or.inl ⟨by rfl, ?_⟩) ?_
                rotate_left
                · (intro w' hSw; (try dsimp only at hSw); go_simp; (try with_reducible rfl))
                (try simp only [Act.put, List.setIfInBounds_toArray, List.set_cons_zero, List.set_cons_succ, List.getElem_toArray, List.getElem_cons_zero, List.getElem_cons_succ])
                refine wpTill.take (i := 31) (v := ?_) (by rfl) rfl (by kernel_rfl) (by kernel_rfl) (by kernel_rfl) (by exact fun _ _ _ h => h) (HSS.out _ HBZ.out) (fun _ => trivial) (Or.inl ⟨by rfl, ?_⟩) ?_
                rotate_left
                · (intro w' hSw; (try dsimp only at hSw); go_simp; (try with_reducible rfl))
                (try simp only [Act.put, List.setIfInBounds_toArray, List.set_cons_zero, List.set_cons_succ, List.getElem_toArray, List.getElem_cons_zero, List.getElem_cons_succ])
                refine wpTill.take (i := 32) (v := ?_) (by rfl) rfl (by kernel_rfl) (by kernel_rfl) (by kernel_rfl) (by exact fun _ _ _ h => h) (HSS.out _ HBZ.out) (fun _ => trivial) (Or.inl ⟨by rfl, ?_⟩) ?_
                rotate_left
                · (intro w' hSw; (try dsimp only at hSw); go_simp; (try with_reducible rfl))
                (try simp only [Act.put, List.setIfInBounds_toArray, List.set_cons_zero, List.set_cons_succ, List.getElem_toArray, List.getElem_cons_zero, List.getElem_cons_succ])
                refine wpTill.take (i := 33) (v := ?_) (by rfl) rfl (by kernel_rfl) (by kernel_rfl) (by kernel_rfl) (by exact fun _ _ _ h => h) (HSS.out _ HBZ.out) (fun _ => trivial) (Or.inl ⟨by rfl, ?_⟩) ?_
                rotate_left
                · (intro w' hSw; (try dsimp only at hSw); go_simp; (try with_reducible rfl))
                (try simp only [Act.put, List.setIfInBounds_toArray, List.set_cons_zero, List.set_cons_succ, List.getElem_toArray, List.getElem_cons_zero, List.getElem_cons_succ])
                refine wpTill.take (i := 34) (v := ?_) (by rfl) rfl (by kernel_rfl) (by kernel_rfl) (by kernel_rfl) (by exact fun _ _ _ h => h) (HSS.out _ HBZ.out) (fun _ => trivial) (Or.inl ⟨by rfl, ?_⟩) ?_
                rotate_left
                · (intro w' hSw; (try dsimp only at hSw); go_simp; (try with_reducible rfl))
                (try simp only [Act.put, List.setIfInBounds_toArray, List.set_cons_zero, List.set_cons_succ, List.getElem_toArray, List.getElem_cons_zero, List.getElem_cons_succ])
                refine wpTill.take (i := 35) (v := ?_) (by rfl) rfl (by kernel_rfl) (by kernel_rfl) (by kernel_rfl) (by exact fun _ _ _ h => h) (HSS.out _ HBZ.out) (fun _ => trivial) (Or.inl ⟨by rfl, ?_⟩) ?_
                rotate_left
                · (intro w' hSw; (try dsimp only at hSw); go_simp; (try with_reducible rfl))
                (try simp only [Act.put, List.setIfInBounds_toArray, List.set_cons_zero, List.set_cons_succ, List.getElem_toArray, List.getElem_cons_zero, List.getElem_cons_succ])
                refine wpTill.take (i := 36) (v := ?_) (by rfl) rfl (by kernel_rfl) (by kernel_rfl) (by kernel_rfl) (by exact fun _ _ _ h => h) (HSS.out _ HBZ.out) (fun _ => trivial) (Or.inl ⟨by rfl, ?_⟩) ?_
                rotate_left
                · (intro w' hSw; (try dsimp only at hSw); go_simp; (try with_reducible rfl))
                (try simp only [Act.put, List.setIfInBounds_toArray, List.set_cons_zero, List.set_cons_succ, List.getElem_toArray, List.getElem_cons_zero, List.getElem_cons_succ])
                try simp only [hc2, hc3]
                refine wpTill.take (i := 37) (v := ?_) (by rfl) rfl (by kernel_rfl) (by kernel_rfl) (by kernel_rfl) (by exact fun _ _ _ h => h) (HSS.out _ HBZ.out) (fun _ => trivial) (Or.inl ⟨by rfl, ?_⟩) ?_
                rotate_left
                · (intro w' hSw; (try dsimp only at hSw); go_simp; (try with_reducible rfl))
                (try simp only [Act.put, List.setIfInBounds_toArray, List.set_cons_zero, List.set_cons_succ, List.getElem_toArray, List.getElem_cons_zero, List.getElem_cons_succ])
                refine wpTill.take (i := 38) (v := ?_) (by rfl) rfl (by kernel_rfl) (by kernel_rfl) (by kernel_rfl) (by exact fun _ _ _ h => h) (HSS.out _ HBZ.out) (fun _ => trivial) (Or.inl ⟨by rfl, ?_⟩) ?_
                rotate_left
                · (intro w' hSw; (try dsimp only at hSw); go_simp; (try with_reducible rfl))
                (try simp only [Act.put, List.setIfInBounds_toArray, List.set_cons_zero, List.set_cons_succ, List.getElem_toArray, List.getElem_cons_zero, List.getElem_cons_succ])
                refine wpTill.take (i := 39) (v := ?_) (by rfl) rfl (by kernel_rfl) (by kernel_rfl) (by kernel_rfl) (by exact fun _ _ _ h => h) (HSS.out _ HBZ.out) (fun _ => trivial) (Or.inl ⟨by rfl, ?_⟩) ?_
                rotate_left
                · (intro w' hSw; (try dsimp only at hSw); go_simp; (try with_reducible rfl))
                (try simp only [Act.put, List.setIfInBounds_toArray, List.set_cons_zero, List.set_cons_succ, List.getElem_toArray, List.getElem_cons_zero, List.getElem_cons_succ])
                refine wpTill.take (i := 40) (v := ?_) (by rfl) rfl (by kernel_rfl) (by kernel_rfl) (by kernel_rfl) (by exact fun _ _ _ h => h) (HSS.out _ HBZ.out) (fun _ => trivial) (Or.inl ⟨by rfl, ?_⟩) ?_
                rotate_left
                · (intro w' hSw; (try dsimp only at hSw); go_simp; (try with_reducible rfl))
                (try simp only [Act.put, List.setIfInBounds_toArray, List.set_cons_zero, List.set_cons_succ, List.getElem_toArray, List.getElem_cons_zero, List.getElem_cons_succ])
                refine wpTill.take (i := 41) (v := ?_) (by rfl) rfl (by kernel_rfl) (by kernel_rfl) (by kernel_rfl) (by exact fun _ _ _ h => h) (HSS.out _ HBZ.out) (fun _ => trivial) (Or.inl ⟨by rfl, ?_⟩) ?_
                rotate_left
                · (intro w' hSw; (try dsimp only at hSw); go_simp; (try with_reducible rfl))
                (try simp only [Act.put, List.setIfInBounds_toArray, List.set_cons_zero, List.set_cons_succ, List.getElem_toArray, List.getElem_cons_zero, List.getElem_cons_succ])
                refine wpTill.take (i := 42) (v := ?_) (by rfl) rfl (by kernel_rfl) (by kernel_rfl) (by kernel_rfl) (by exact fun _ _ _ h => h) (HSS.out _ HBZ.out) (fun _ => trivial) (Or.inl ⟨by rfl, ?_⟩) ?_
                rotate_left
                · (intro w' hSw; (try dsimp only at hSw); go_simp; (try with_reducible rfl))
                (try simp only [Act.put, List.setIfInBounds_toArray, List.set_cons_zero, List.set_cons_succ, List.getElem_toArray, List.getElem_cons_zero, List.getElem_cons_succ])
                refine wpTill.take (i := 43) (v := ?_) (by rfl) rfl (by kernel_rfl) (by kernel_rfl) (by kernel_rfl) (by exact fun _ _ _ h => h) (HSS.out _ HBZ.out) (fun _ => trivial) (Or.inl ⟨by rfl, ?_⟩) ?_
                rotate_left
                · (intro w' hSw; (try dsimp only at hSw); go_simp; (try with_reducible rfl))
                (try simp only [Act.put, List.setIfInBounds_toArray, List.set_cons_zero, List.set_cons_succ, List.getElem_toArray, List.getElem_cons_zero, List.getElem_cons_succ])
                refine wpTill.take (i := 44) (v := ?_) (by rfl) rfl (by kernel_rfl) (by kernel_rfl) (by kernel_rfl) (by exact fun _ _ _ h => h) (HSS.out _ HBZ.out) (fun _ => trivial) (Or.inl ⟨by rfl, ?_⟩) ?_
                rotate_left
                · (intro w' hSw; (try dsimp only at hSw); go_simp; (try with_reducible rfl))
                (try simp only [Act.put, List.setIfInBounds_toArray, List.set_cons_zero, List.set_cons_succ, List.getElem_toArray, List.getElem_cons_zero, List.getElem_cons_succ])
                refine wpTill.take (i := 45) (v := ?_) (by rfl) rfl (by kernel_rfl) (by kernel_rfl) (by kernel_rfl) (by exact fun _ _ _ h => h) (HSS.out _ HBZ.out) (fun _ => trivial) (Or.inl ⟨by rfl, ?_⟩) ?_
                rotate_left
                · (intro w' hSw; (try dsimp only at hSw); go_simp; (try with_reducible rfl))
                (try simp only [Act.put, List.setIfInBounds_toArray, List.set_cons_zero, List.set_cons_succ, List.getElem_toArray, List.getElem_cons_zero, List.getElem_cons_succ])
                refine wpTill.take (i := 46) (v := ?_) (by rfl) rfl (by kernel_rfl) (by kernel_rfl) (by kernel_rfl) (by exact fun _ _ _ h => h) (HSS.out _ HBZ.out) (fun _ => trivial) (Or.inl ⟨by rfl, ?_⟩) ?_
                rotate_left
                · (intro w' hSw; (try dsimp only at hSw); go_simp; (try with_reducible rfl))
                (try simp only [Act.put, List.setIfInBounds_toArray, List.set_cons_zero, List.set_cons_succ, List.getElem_toArray, List.getElem_cons_zero, List.getElem_cons_succ])
                refine wpTill.take (i := 47) (v := ?_) (by rfl) rfl (by kernel_rfl) (by kernel_rfl) (by kernel_rfl) (by exact fun _ _ _ h => h) (HSS.out _ HBZ.out) (fun _ => trivial) (Or.inl ⟨by rfl, ?_⟩) ?_
                rotate_left
                · (intro w' hSw; (try dsimp only at hSw); go_simp; (try with_reducible rfl))
                (try simp only [Act.put, List.setIfInBounds_toArray, List.set_cons_zero, List.set_cons_succ, List.getElem_toArray, List.getElem_cons_zero, List.getElem_cons_succ])
                refine wpTill.take (i := 48) (v := ?_) (by rfl) rfl (by kernel_rfl) (by kernel_rfl) (by kernel_rfl) (by exact fun _ _ _ h => h) (HSS.out _ HBZ.out) (fun _ => trivial) (Or.inl ⟨by rfl, ?_⟩) ?_
                rotate_left
                · (intro w' hSw; (try dsimp only at hSw); go_simp; (try with_reducible rfl))
                (try simp only [Act.put, List.setIfInBounds_toArray, List.set_cons_zero, List.set_cons_succ, List.getElem_toArray, List.getElem_cons_zero, List.getElem_cons_succ])
                refine wpTill.take (i := 49) (v := ?_) (by rfl) rfl (by kernel_rfl) (by kernel_rfl) (by kernel_rfl) (by exact fun _ _ _ h => h) (HSS.out _ HBZ.out) (fun _ => trivial) (Or.inl ⟨by rfl, ?_⟩) ?_
                rotate_left
                · (intro w' hSw; (try dsimp only at hSw); go_simp; (try with_reducible rfl))
                (try simp only [Act.put, List.setIfInBounds_toArray, List.set_cons_zero, List.set_cons_succ, List.getElem_toArray, List.getElem_cons_zero, List.getElem_cons_succ])
                refine wpTill.take (i := 50) (v := ?_) (by rfl) rfl (by kernel_rfl) (by kernel_rfl) (by kernel_rfl) (by exact fun _ _ _ h => h) (HSS.out _ HBZ.out) (fun _ => trivial) (Or.inl ⟨by rfl, ?_⟩) ?_
                rotate_left
                · (intro w' hSw; (try dsimp only at hSw); go_simp; (try with_reducible rfl))
                (try simp only [Act.put, List.setIfInBounds_toArray, List.set_cons_zero, List.set_cons_succ, List.getElem_toArray, List.getElem_cons_zero, List.getElem_cons_succ])
                try simp only [hc4]
                refine wpTill.take (i := 51) (v := ?_) (by rfl) rfl (by kernel_rfl) (by kernel_rfl) (by kernel_rfl) (by exact fun _ _ _ h => h) (HSS.out _ HBZ.out) (fun _ => trivial) (Or.inl ⟨by rfl, ?_⟩) ?_
                rotate_left
                · (intro w' hSw; (try dsimp only at hSw); go_simp; (try with_reducible rfl))
                (try simp only [Act.put, List.setIfInBounds_toArray, List.set_cons_zero, List.set_cons_succ, List.getElem_toArray, List.getElem_cons_zero, List.getElem_cons_succ])
                refine wpTill.take (i := 52) (v := ?_) (by rfl) rfl (by kernel_rfl) (by kernel_rfl) (by kernel_rfl) (by exact fun _ _ _ h => h) (HSS.out _ HBZ.out) (fun _ => trivial) (Or.inl ⟨by rfl, ?_⟩) ?_
                rotate_left
                · (intro w' hSw; (try dsimp only at hSw); go_simp; (try with_reducible rfl))
                (try simp only [Act.put, List.setIfInBounds_toArray, List.set_cons_zero, List.set_cons_succ, List.getElem_toArray, List.getElem_cons_zero, List.getElem_cons_succ])
                refine wpTill.take (i := 53) (v := ?_) (by rfl) rfl (by kernel_rfl) (by kernel_rfl) (by kernel_rfl) (by exact fun _ _ _ h => h) (HSS.out _ HBZ.out) (fun _ => trivial) (Or.inl ⟨by rfl, ?_⟩) ?_
                rotate_left
                · (intro w' hSw; (try dsimp only at hSw); go_simp; (try with_reducible rfl))
                (try simp only [Act.put, List.setIfInBounds_toArray, List.set_cons_zero, List.set_cons_succ, List.getElem_toArray, List.getElem_cons_zero, List.getElem_cons_succ])
                refine wpTill.take (i := 54) (v := ?_) (by rfl) rfl (by kernel_rfl) (by kernel_rfl) (by kernel_rfl) (by exact fun _ _ _ h => h) (HSS.out _ HBZ.out) (fun _ => trivial) (Or.inl ⟨by rfl, ?_⟩) ?_
                rotate_left
                · (intro w' hSw; (try dsimp only at hSw); go_simp; (try with_reducible rfl))
                (try simp only [Act.put, List.setIfInBounds_toArray, List.set_cons_zero, List.set_cons_succ, List.getElem_toArray, List.getElem_cons_zero, List.getElem_cons_succ])
                refine wpTill.take (i := 55) (v := ?_) (by rfl) rfl (by kernel_rfl) (by kernel_rfl) (by kernel_rfl) (by exact fun _ _ _ h => h) (HSS.out _ HBZ.out) (fun _ => trivial) (Or.inl ⟨by rfl, ?_⟩) ?_
                rotate_left
                · (intro w' hSw; (try dsimp only at hSw); go_simp; (try with_reducible rfl))
                (try simp only [Act.put, List.setIfInBounds_toArray, List.set_cons_zero, List.set_cons_succ, List.getElem_toArray, List.getElem_cons_zero, List.getElem_cons_succ])
                refine wpTill.take (i := 56) (v := ?_) (by rfl) rfl (by kernel_rfl) (by kernel_rfl) (by kernel_rfl) (by exact fun _ _ _ h => h) (HSS.out _ HBZ.out) (fun _ => trivial) (Or.inl ⟨by rfl, ?_⟩) ?_
                rotate_left
                · (intro w' hSw; (try dsimp only at hSw); go_simp; (try with_reducible rfl))
                (try simp only [Act.put, List.setIfInBounds_toArray, List.set_cons_zero, List.set_cons_succ, List.getElem_toArray, List.getElem_cons_zero, List.getElem_cons_succ])
                refine wpTill.take (i := 57) (v := ?_) (by rfl) rfl (by kernel_rfl) (by kernel_rfl) (by kernel_rfl) (by exact fun _ _ _ h => h) (HSS.out _ HBZ.out) (fun _ => trivial) (Or.inl ⟨by rfl, ?_⟩) ?_
                rotate_left
                · (intro w' hSw; (try dsimp only at hSw); go_simp; (try with_reducible rfl))
                (try simp only [Act.put, List.setIfInBounds_toArray, List.set_cons_zero, List.set_cons_succ, List.getElem_toArray, List.getElem_cons_zero, List.getElem_cons_succ])
                refine wpTill.take (i := 58) (v := ?_) (by rfl) rfl (by kernel_rfl) (by kernel_rfl) (by kernel_rfl) (by exact fun _ _ _ h => h) (HSS.out _ HBZ.out) (fun _ => trivial) (Or.inl ⟨by rfl, ?_⟩) ?_
                rotate_left
                · (intro w' hSw; (try dsimp only at hSw); go_simp; (try with_reducible rfl))
                (try simp only [Act.put, List.setIfInBounds_toArray, List.set_cons_zero, List.set_cons_succ, List.getElem_toArray, List.getElem_cons_zero, List.getElem_cons_succ])
                refine wpTill.take (i := 59) (v := ?_) (by rfl) rfl (by kernel_rfl) (by kernel_rfl) (by kernel_rfl) (by exact fun _ _ _ h => h) (HSS.out _ HBZ.out) (fun _ => trivial) (Or.inl ⟨by rfl, ?_⟩) ?_
                rotate_left
                · (intro w' hSw; (try dsimp only at hSw); go_simp; (try with_reducible rfl))
                (try simp only [Act.put, List.setIfInBounds_toArray, List.set_cons_zero, List.set_cons_succ, List.getElem_toArray, List.getElem_cons_zero, List.getElem_cons_succ])
                refine wpTill.take (i := 60) (v := ?_) (by rfl) rfl (by kernel_rfl) (by kernel_rfl) (by kernel_rfl) (by exact fun _ _ _ h => h) (HSS.out _ HBZ.out) (fun _ => trivial) (Or.inl ⟨by rfl, ?_⟩) ?_
                rotate_left
                · (intro w' hSw; (try dsimp only at hSw); go_simp; (try with_reducible rfl))
                (try simp only [Act.put, List.setIfInBounds_toArray, List.set_cons_zero, List.set_cons_succ, List.getElem_toArray, List.getElem_cons_zero, List.getElem_cons_succ])
                refine wpTill.take (i := 61) (v := ?_) (by rfl) rfl (by kernel_rfl) (by kernel_rfl) (by kernel_rfl) (by exact fun _ _ _ h => h) (HSS.out _ HBZ.out) (fun _ => trivial) (Or.inl ⟨by rfl, ?_⟩) ?_
                rotate_left
                · (intro w' hSw; (try dsimp only at hSw); go_simp; (try with_reducible rfl))
                (try simp only [Act.put, List.setIfInBounds_toArray, List.set_cons_zero, List.set_cons_succ, List.getElem_toArray, List.getElem_cons_zero, List.getElem_cons_succ])
                refine wpTill.take (i := 62) (v := ?_) (by rfl) rfl (by kernel_rfl) (by kernel_rfl) (by kernel_rfl) (by exact fun _ _ _ h => h) (HSS.out _ HBZ.out) (fun _ => trivial) (Or.inl ⟨by rfl, ?_⟩) ?_
                rotate_left
                · (intro w' hSw; (try dsimp only at hSw); go_simp; (try with_reducible rfl))
                (try simp only [Act.put, List.setIfInBounds_toArray, List.set_cons_zero, List.set_cons_succ, List.getElem_toArray, List.getElem_cons_zero, List.getElem_cons_succ])
                refine wpTill.step (i := 63) (by kernel_rfl) (by rfl) (fun K' hK => ?_)
                replace hK := Lib.hid hK
                go_simp
                go_at_call 21
                ((with_reducible refine (HH42.out _ HBZ.out).mono ?_); rintro _ wy63 ⟨rfl, hby⟩)
                replace HBZ := Lib.hid (HBZ.out.trans (hby.mono HBZ.out.size))
                clear hby
                refine hK.out _ _ (HSS.out _ HBZ.out) (fun _ => trivial) ?_
                clear hK K'
                (try simp only [Act.put, List.setIfInBounds_toArray, List.set_cons_zero, List.set_cons_succ, List.getElem_toArray, List.getElem_cons_zero, List.getElem_cons_succ])
                refine wpTill.take (i := 64) (v := ?_) (by rfl) rfl (by kernel_rfl) (by kernel_rfl) (by kernel_rfl) (by exact fun _ _ _ h => h) (HSS.out _ HBZ.out) (fun _ => trivial) (Or.inl ⟨by rfl, ?_⟩) ?_
                rotate_left
                · (intro w' hSw; (try dsimp only at hSw); go_simp; (try with_reducible rfl))
                (try simp only [Act.put, List.setIfInBounds_toArray, List.set_cons_zero, List.set_cons_succ, List.getElem_toArray, List.getElem_cons_zero, List.getElem_cons_succ])
                refine wpTill.stop (by kernel_rfl) ?_ _
                go_wp2_with (fail)
                go_roundw
                case rel => exact ⟨i3 + 1, HL3.out, by go_num, HBI.out.trans (HBZ.out.mono HBI.out.size)⟩
                case measure => have := HL3.out; simp [intOf]; omega
end Go.Proofs.YtnnnibkainlplaaDoor
