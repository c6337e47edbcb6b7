/- merge: the law MergeTells, walked. -/
import Derived.Test.YtnnnibkainlplaaGreatDoorMtG
import Derived.Test.YtnnnibkainlplaaGreatDoorMrgG
namespace Go.Proofs.YtnnnibkainlplaaGreatDoor
open Go.RowKit Go.Sort Go.Lib

theorem natC_ints (t : List Nat) : t.map natC = (t.map fun n : Nat => (n : Int)).map intC := by simp [natC, intC]
set_option maxRecDepth 100000 in
set_option maxHeartbeats 8000000 in
theorem mergeTells_any {B0 : Nat} (w : World) (hE : Env B0 w) (hB0 : B0 ≤ w.heap.size) (A1 : Option Addr) (n1 c1 : Nat) (l1 : List EntC) (hs1 : Sl w 5 A1 n1 (l1.map EntC.cells)) (ho1 : ∀ u ∈ l1, EntAt w u) (A2 : Option Addr) (n2 c2 : Nat) (l2 : List EntC) (hs2 : Sl w 5 A2 n2 (l2.map EntC.cells)) (ho2 : ∀ u ∈ l2, EntAt w u) (dev : Int) :
    Calls Tryz.prog 3 #[.slice A1 n1 c1, .slice A2 n2 c2, .int .i64 dev] w fun e w' => e = .returned (.bool true) ∧ Below w.heap.size w w' := by
  have HEV := Lib.hid (fun W (hb : Below w.heap.size w W) => (⟨hE.below (hb.mono hB0), Nat.le_trans hB0 hb.size⟩ : Env B0 W ∧ B0 ≤ W.heap.size))
  have HSM := Lib.hid (small47_any w hE hB0)
  have HS1 := Lib.hid hs1
  have HS2 := Lib.hid hs2
  have HC1 := Lib.hid (fun W (hb : Below w.heap.size w W) h => FewM.ch (hs1.below hb) (fun u hu => Sl.below (ho1 u hu) hb) h)
  have HC2 := Lib.hid (fun W (hb : Below w.heap.size w W) h => FewM.ch (hs2.below hb) (fun u hu => Sl.below (ho2 u hu) hb) h)
  have HB : Hid (Below w.heap.size w w) := Lib.hid (Below.refl _ _)
  clear hE hB0 hs1 ho1 hs2 ho2
  go_enter Tryz.func3, Tryz.ntmps3
  go_wp2_with (fail)
  ((with_reducible refine (HSM.out).mono ?_); rintro _ w1 ⟨rfl, hb1⟩)
  have hbT := hb1
  replace HB := Lib.hid (HB.out.trans (hbT.mono HB.out.size))
  clear hbT hb1 
  go_wp2_with (fail)
  ((with_reducible refine (few47_40 w1 A1 n1 c1 l1 (HS1.out.below HB.out)).mono ?_); rintro _ w2 ⟨k1, rfl, hk1, hb2⟩)
  have hbT := hb2
  replace HB := Lib.hid (HB.out.trans (hbT.mono HB.out.size))
  clear hbT hb2 
  have HK1 := Lib.hid hk1
  clear hk1
  cases k1
  case false =>
    go_wp2_with (fail)
    go_ret
    exact ⟨rfl, HB.out⟩
  go_wp2_with (fail)
  ((with_reducible refine (few47_40 w2 A2 n2 c2 l2 (HS2.out.below HB.out)).mono ?_); rintro _ w3 ⟨k2, rfl, hk2, hb3⟩)
  have hbT := hb3
  replace HB := Lib.hid (HB.out.trans (hbT.mono HB.out.size))
  clear hbT hb3 
  have HK2 := Lib.hid hk2
  clear hk2
  cases k2
  case false =>
    go_wp2_with (fail)
    go_ret
    exact ⟨rfl, HB.out⟩
  have HL1 := Lib.hid (HC1.out _ HB.out (HK1.out (by simp)).1)
  have HL2 := Lib.hid (HC2.out _ HB.out (HK2.out (by simp)).1)
  have hn1 : n1 ≤ 40 := by rw [← HL1.out.lenEq]; exact (HK1.out (by simp)).2
  have hn2 : n2 ≤ 40 := by rw [← HL2.out.lenEq]; exact (HK2.out (by simp)).2
  clear HC1 HC2 HK1 HK2 HS1 HS2 HSM
  go_wp2_with (fail)
  ((with_reducible refine (Join_any w3 (HEV.out _ HB.out).1 (HEV.out _ HB.out).2 A1 A2 n1 n2 c1 c2 l1 l2 HL1.out HL2.out (by omega) (by omega)).mono ?_); rintro _ w4 ⟨A4, c4, l4, rfl, h4, hv4, hb4⟩)
  have hbT := hb4
  replace HB := Lib.hid (HB.out.trans (hbT.mono HB.out.size))
  replace HL1 := Lib.hid (HL1.out.below hbT)
  replace HL2 := Lib.hid (HL2.out.below hbT)
  clear hbT hb4 
  have hj4 : (joinF (vsOf l1 ++ vsOf l2)).length ≤ 80 := Nat.le_trans (joinF_len _) (by rw [List.length_append, vsOf_len, vsOf_len, HL1.out.lenEq, HL2.out.lenEq]; omega)
  obtain ⟨n4, hn4⟩ : ∃ n, (joinF (vsOf l1 ++ vsOf l2)).length = n := ⟨_, rfl⟩
  rw [hn4] at h4 hj4 ⊢
  have HL4 := Lib.hid h4
  have HV4 := Lib.hid hv4
  clear h4 hv4 hn4
  go_wp2_with (fail)
  ((with_reducible refine (RJoin_any w4 A1 A2 n1 n2 c1 c2 l1 l2 HL1.out HL2.out (by omega) (by omega)).mono ?_); rintro _ w5 ⟨A5, c5, l5, n5, rfl, h5, hv5, hb5, _⟩)
  have hbT := hb5
  replace HB := Lib.hid (HB.out.trans (hbT.mono HB.out.size))
  replace HL1 := Lib.hid (HL1.out.below hbT)
  replace HL2 := Lib.hid (HL2.out.below hbT)
  replace HL4 := Lib.hid (HL4.out.below hbT)
  clear hbT hb5 
  have HL5 := Lib.hid h5
  have HV5 := Lib.hid hv5
  clear h5 hv5
  go_wp2_with (fail)
  ((with_reducible refine (SameChain_any w5 A4 A5 n4 c4 n5 c5 l4 l5 HL4.out HL5.out (by omega) true (by rw [HV4.out, HV5.out]; simp)).mono ?_); rintro _ w6 ⟨rfl, hb6⟩)
  have hbT := hb6
  replace HB := Lib.hid (HB.out.trans (hbT.mono HB.out.size))
  replace HL1 := Lib.hid (HL1.out.below hbT)
  replace HL2 := Lib.hid (HL2.out.below hbT)
  replace HL4 := Lib.hid (HL4.out.below hbT)
  replace HL5 := Lib.hid (HL5.out.below hbT)
  clear hbT hb6 
  obtain ⟨V, hV⟩ : ∃ V, vsOf l1 = V := ⟨_, rfl⟩
  have HV := Lib.hid hV
  clear hV
  go_wp2_with (fail)
  ((with_reducible refine (Forks_any w6 (HEV.out _ HB.out).1 (HEV.out _ HB.out).2 A1 n1 c1 l1 HL1.out (by omega) (forkO V) (by rw [HV.out])).mono ?_); rintro _ w7 ⟨A7, c7, rfl, h7, hb7⟩)
  have hbT := hb7
  replace HB := Lib.hid (HB.out.trans (hbT.mono HB.out.size))
  replace HL1 := Lib.hid (HL1.out.below hbT)
  replace HL2 := Lib.hid (HL2.out.below hbT)
  replace HL4 := Lib.hid (HL4.out.below hbT)
  replace HL5 := Lib.hid (HL5.out.below hbT)
  clear hbT hb7 
  have HG7 := Lib.hid h7.sl'
  have hn7 : (forkO V).length ≤ 8 := forkO_len V
  obtain ⟨n7, hn7e⟩ : ∃ n, (forkO V).length = n := ⟨_, rfl⟩
  rw [hn7e] at hn7 HG7 ⊢
  have HN7 := Lib.hid hn7e
  clear h7 hn7e
  go_wp2_with (fail)
  ((with_reducible refine (RForks_any w7 A1 n1 c1 l1 HL1.out (by omega) (forkO V) (by rw [HV.out])).mono ?_); rintro _ w8 ⟨A8, c8, rfl, h8, hb8⟩)
  have hbT := hb8
  replace HB := Lib.hid (HB.out.trans (hbT.mono HB.out.size))
  replace HL1 := Lib.hid (HL1.out.below hbT)
  replace HL2 := Lib.hid (HL2.out.below hbT)
  replace HL4 := Lib.hid (HL4.out.below hbT)
  replace HL5 := Lib.hid (HL5.out.below hbT)
  replace HG7 := Lib.hid (HG7.out.below hbT)
  clear hbT hb8 
  have HG8 := Lib.hid h8.sl'
  rw [HN7.out] at HG8 ⊢
  clear h8
  go_wp2_with (fail)
  ((with_reducible refine (SameInts_any w8 A7 A8 n7 c7 n7 c8 (forkO V) (forkO V) HG7.out HG8.out (by omega) true (by simp)).mono ?_); rintro _ w9 ⟨rfl, hb9⟩)
  have hbT := hb9
  replace HB := Lib.hid (HB.out.trans (hbT.mono HB.out.size))
  replace HL1 := Lib.hid (HL1.out.below hbT)
  replace HL2 := Lib.hid (HL2.out.below hbT)
  replace HL4 := Lib.hid (HL4.out.below hbT)
  replace HL5 := Lib.hid (HL5.out.below hbT)
  replace HG7 := Lib.hid (HG7.out.below hbT)
  replace HG8 := Lib.hid (HG8.out.below hbT)
  clear hbT hb9 
  go_wp2_with (fail)
  ((with_reducible refine (Past_any w9 (HEV.out _ HB.out).1 (HEV.out _ HB.out).2 A1 n1 c1 l1 HL1.out (by omega) dev).mono ?_); rintro _ wa ⟨Aa, ca, la, rfl, ha, hva, hba⟩)
  have hbT := hba
  replace HB := Lib.hid (HB.out.trans (hbT.mono HB.out.size))
  replace HL1 := Lib.hid (HL1.out.below hbT)
  replace HL2 := Lib.hid (HL2.out.below hbT)
  replace HL4 := Lib.hid (HL4.out.below hbT)
  replace HL5 := Lib.hid (HL5.out.below hbT)
  replace HG7 := Lib.hid (HG7.out.below hbT)
  replace HG8 := Lib.hid (HG8.out.below hbT)
  clear hbT hba 
  rw [HV.out] at ha hva ⊢
  have hna : (pastF (joinF V) dev).length ≤ 400 := past_len400 _ _
  obtain ⟨na, hnae⟩ : ∃ n, (pastF (joinF V) dev).length = n := ⟨_, rfl⟩
  rw [hnae] at ha hna ⊢
  have HLA := Lib.hid ha
  have HVA := Lib.hid hva
  clear ha hva hnae
  go_wp2_with (fail)
  ((with_reducible refine (RPast_any wa A1 n1 c1 l1 HL1.out (by omega) dev).mono ?_); rintro _ wb ⟨Ab, cb, lb, nb, rfl, hb', hvb, hbb, _⟩)
  have hbT := hbb
  replace HB := Lib.hid (HB.out.trans (hbT.mono HB.out.size))
  replace HL1 := Lib.hid (HL1.out.below hbT)
  replace HL2 := Lib.hid (HL2.out.below hbT)
  replace HL4 := Lib.hid (HL4.out.below hbT)
  replace HL5 := Lib.hid (HL5.out.below hbT)
  replace HG7 := Lib.hid (HG7.out.below hbT)
  replace HG8 := Lib.hid (HG8.out.below hbT)
  replace HLA := Lib.hid (HLA.out.below hbT)
  clear hbT hbb 
  rw [HV.out] at hvb
  have HLB := Lib.hid hb'
  have HVB := Lib.hid hvb
  clear hb' hvb
  go_wp2_with (fail)
  ((with_reducible refine (SameChain_any wb Aa Ab na ca nb cb la lb HLA.out HLB.out (by omega) true (by rw [HVA.out, HVB.out]; simp)).mono ?_); rintro _ wc ⟨rfl, hbc⟩)
  have hbT := hbc
  replace HB := Lib.hid (HB.out.trans (hbT.mono HB.out.size))
  replace HL1 := Lib.hid (HL1.out.below hbT)
  replace HL2 := Lib.hid (HL2.out.below hbT)
  replace HL4 := Lib.hid (HL4.out.below hbT)
  replace HL5 := Lib.hid (HL5.out.below hbT)
  replace HG7 := Lib.hid (HG7.out.below hbT)
  replace HG8 := Lib.hid (HG8.out.below hbT)
  replace HLA := Lib.hid (HLA.out.below hbT)
  replace HLB := Lib.hid (HLB.out.below hbT)
  clear hbT hbc 
  go_wp2_with (fail)
  ((with_reducible refine (Order_any wc (HEV.out _ HB.out).1 (HEV.out _ HB.out).2 A1 n1 c1 l1 HL1.out (by omega)).mono ?_); rintro _ wd ⟨Ad, cd, ld, rfl, hd, hvd, hbd⟩)
  have hbT := hbd
  replace HB := Lib.hid (HB.out.trans (hbT.mono HB.out.size))
  replace HL1 := Lib.hid (HL1.out.below hbT)
  replace HL2 := Lib.hid (HL2.out.below hbT)
  replace HL4 := Lib.hid (HL4.out.below hbT)
  replace HL5 := Lib.hid (HL5.out.below hbT)
  replace HG7 := Lib.hid (HG7.out.below hbT)
  replace HG8 := Lib.hid (HG8.out.below hbT)
  replace HLA := Lib.hid (HLA.out.below hbT)
  replace HLB := Lib.hid (HLB.out.below hbT)
  clear hbT hbd 
  rw [HV.out] at hd hvd ⊢
  have hnd : (ordF V).2.length ≤ 3200 := ord_len V
  obtain ⟨nd, hnde⟩ : ∃ n, (ordF V).2.length = n := ⟨_, rfl⟩
  rw [hnde] at hd hnd ⊢
  have HLD := Lib.hid hd
  have HVD := Lib.hid hvd
  clear hd hvd hnde
  go_wp2_with (fail)
  ((with_reducible refine (ROrder_any wd A1 n1 c1 l1 HL1.out (by omega)).mono ?_); rintro _ we ⟨Ae, ce, le, ne, rfl, he, hve, hbe, _⟩)
  have hbT := hbe
  replace HB := Lib.hid (HB.out.trans (hbT.mono HB.out.size))
  replace HL1 := Lib.hid (HL1.out.below hbT)
  replace HL2 := Lib.hid (HL2.out.below hbT)
  replace HL4 := Lib.hid (HL4.out.below hbT)
  replace HL5 := Lib.hid (HL5.out.below hbT)
  replace HG7 := Lib.hid (HG7.out.below hbT)
  replace HG8 := Lib.hid (HG8.out.below hbT)
  replace HLA := Lib.hid (HLA.out.below hbT)
  replace HLB := Lib.hid (HLB.out.below hbT)
  replace HLD := Lib.hid (HLD.out.below hbT)
  clear hbT hbe 
  rw [HV.out] at hve
  have HLE := Lib.hid he
  have HVE := Lib.hid hve
  clear he hve
  go_wp2_with (fail)
  ((with_reducible refine (SameChain_any we Ad Ae nd cd ne ce ld le HLD.out HLE.out (by omega) true (by rw [HVD.out, HVE.out]; simp)).mono ?_); rintro _ wf ⟨rfl, hbf⟩)
  have hbT := hbf
  replace HB := Lib.hid (HB.out.trans (hbT.mono HB.out.size))
  replace HL1 := Lib.hid (HL1.out.below hbT)
  replace HL2 := Lib.hid (HL2.out.below hbT)
  replace HL4 := Lib.hid (HL4.out.below hbT)
  replace HL5 := Lib.hid (HL5.out.below hbT)
  replace HG7 := Lib.hid (HG7.out.below hbT)
  replace HG8 := Lib.hid (HG8.out.below hbT)
  replace HLA := Lib.hid (HLA.out.below hbT)
  replace HLB := Lib.hid (HLB.out.below hbT)
  replace HLD := Lib.hid (HLD.out.below hbT)
  replace HLE := Lib.hid (HLE.out.below hbT)
  clear hbT hbf 
  go_wp2_with (fail)
  ((with_reducible refine (Heads_any wf (HEV.out _ HB.out).1 (HEV.out _ HB.out).2 A1 n1 c1 l1 HL1.out (by omega)).mono ?_); rintro _ wg ⟨gg, rfl, hg, hbg⟩)
  have hbT := hbg
  replace HB := Lib.hid (HB.out.trans (hbT.mono HB.out.size))
  replace HL1 := Lib.hid (HL1.out.below hbT)
  replace HL2 := Lib.hid (HL2.out.below hbT)
  replace HL4 := Lib.hid (HL4.out.below hbT)
  replace HL5 := Lib.hid (HL5.out.below hbT)
  replace HG7 := Lib.hid (HG7.out.below hbT)
  replace HG8 := Lib.hid (HG8.out.below hbT)
  replace HLA := Lib.hid (HLA.out.below hbT)
  replace HLB := Lib.hid (HLB.out.below hbT)
  replace HLD := Lib.hid (HLD.out.below hbT)
  replace HLE := Lib.hid (HLE.out.below hbT)
  clear hbT hbg 
  have hg2 := hg.sl'
  rw [HV.out, natC_ints] at hg2
  have HGG := Lib.hid hg2
  clear hg hg2
  go_wp2_with (fail)
  ((with_reducible refine (RHeads_any wg A1 n1 c1 l1 HL1.out (by omega)).mono ?_); rintro _ wh ⟨gh, rfl, hh, hbh⟩)
  have hbT := hbh
  replace HB := Lib.hid (HB.out.trans (hbT.mono HB.out.size))
  replace HL1 := Lib.hid (HL1.out.below hbT)
  replace HL2 := Lib.hid (HL2.out.below hbT)
  replace HL4 := Lib.hid (HL4.out.below hbT)
  replace HL5 := Lib.hid (HL5.out.below hbT)
  replace HG7 := Lib.hid (HG7.out.below hbT)
  replace HG8 := Lib.hid (HG8.out.below hbT)
  replace HLA := Lib.hid (HLA.out.below hbT)
  replace HLB := Lib.hid (HLB.out.below hbT)
  replace HLD := Lib.hid (HLD.out.below hbT)
  replace HLE := Lib.hid (HLE.out.below hbT)
  replace HGG := Lib.hid (HGG.out.below hbT)
  clear hbT hbh 
  rw [HV.out, natC_ints] at hh
  have HGH := Lib.hid hh
  clear hh
  go_wp2_with (fail)
  ((with_reducible refine (SameInts_any wh (some ⟨gg, 0, none⟩) (some ⟨gh, 0, none⟩) 8 8 8 8 ((ordF V).1.map fun n : Nat => (n : Int)) ((ordF V).1.map fun n : Nat => (n : Int)) HGG.out HGH.out (by omega) true (by simp)).mono ?_); rintro _ wi ⟨rfl, hbi⟩)
  have hbT := hbi
  replace HB := Lib.hid (HB.out.trans (hbT.mono HB.out.size))
  replace HL1 := Lib.hid (HL1.out.below hbT)
  replace HL2 := Lib.hid (HL2.out.below hbT)
  replace HL4 := Lib.hid (HL4.out.below hbT)
  replace HL5 := Lib.hid (HL5.out.below hbT)
  replace HG7 := Lib.hid (HG7.out.below hbT)
  replace HG8 := Lib.hid (HG8.out.below hbT)
  replace HLA := Lib.hid (HLA.out.below hbT)
  replace HLB := Lib.hid (HLB.out.below hbT)
  replace HLD := Lib.hid (HLD.out.below hbT)
  replace HLE := Lib.hid (HLE.out.below hbT)
  replace HGG := Lib.hid (HGG.out.below hbT)
  replace HGH := Lib.hid (HGH.out.below hbT)
  clear hbT hbi 
  go_wp2_with (fail)
  ((with_reducible refine (Missing_any wi (HEV.out _ HB.out).1 (HEV.out _ HB.out).2 A1 n1 c1 l1 HL1.out (by omega) (missF (joinF V)) (by rw [HV.out])).mono ?_); rintro _ wj ⟨Aj, cj, rfl, hj, hbj⟩)
  have hbT := hbj
  replace HB := Lib.hid (HB.out.trans (hbT.mono HB.out.size))
  replace HL1 := Lib.hid (HL1.out.below hbT)
  replace HL2 := Lib.hid (HL2.out.below hbT)
  replace HL4 := Lib.hid (HL4.out.below hbT)
  replace HL5 := Lib.hid (HL5.out.below hbT)
  replace HG7 := Lib.hid (HG7.out.below hbT)
  replace HG8 := Lib.hid (HG8.out.below hbT)
  replace HLA := Lib.hid (HLA.out.below hbT)
  replace HLB := Lib.hid (HLB.out.below hbT)
  replace HLD := Lib.hid (HLD.out.below hbT)
  replace HLE := Lib.hid (HLE.out.below hbT)
  replace HGG := Lib.hid (HGG.out.below hbT)
  replace HGH := Lib.hid (HGH.out.below hbT)
  clear hbT hbj 
  have hnm : (missF (joinF V)).length ≤ 8 := Nat.le_trans (List.length_filterMap_le _ _) (by simp)
  obtain ⟨nm, hnme⟩ : ∃ n, (missF (joinF V)).length = n := ⟨_, rfl⟩
  rw [hnme] at hj hnm ⊢
  have HGJ := Lib.hid hj
  have HNM := Lib.hid hnme
  clear hj hnme
  go_wp2_with (fail)
  ((with_reducible refine (RMissing_any wj A1 n1 c1 l1 HL1.out (by omega) (missF (joinF V)) (by rw [HV.out])).mono ?_); rintro _ wk ⟨Ak, ck, rfl, hk, hbk⟩)
  have hbT := hbk
  replace HB := Lib.hid (HB.out.trans (hbT.mono HB.out.size))
  replace HL1 := Lib.hid (HL1.out.below hbT)
  replace HL2 := Lib.hid (HL2.out.below hbT)
  replace HL4 := Lib.hid (HL4.out.below hbT)
  replace HL5 := Lib.hid (HL5.out.below hbT)
  replace HG7 := Lib.hid (HG7.out.below hbT)
  replace HG8 := Lib.hid (HG8.out.below hbT)
  replace HLA := Lib.hid (HLA.out.below hbT)
  replace HLB := Lib.hid (HLB.out.below hbT)
  replace HLD := Lib.hid (HLD.out.below hbT)
  replace HLE := Lib.hid (HLE.out.below hbT)
  replace HGG := Lib.hid (HGG.out.below hbT)
  replace HGH := Lib.hid (HGH.out.below hbT)
  replace HGJ := Lib.hid (HGJ.out.below hbT)
  clear hbT hbk 
  rw [HNM.out] at hk ⊢
  have HGK := Lib.hid hk
  clear hk
  go_wp2_with (fail)
  ((with_reducible refine (SameRefs_any wk Aj Ak nm cj nm ck (missF (joinF V)) (missF (joinF V)) HGJ.out HGK.out (by omega) true (by simp)).mono ?_); rintro _ wl ⟨rfl, hbl⟩)
  have hbT := hbl
  replace HB := Lib.hid (HB.out.trans (hbT.mono HB.out.size))
  replace HL1 := Lib.hid (HL1.out.below hbT)
  replace HL2 := Lib.hid (HL2.out.below hbT)
  replace HL4 := Lib.hid (HL4.out.below hbT)
  replace HL5 := Lib.hid (HL5.out.below hbT)
  replace HG7 := Lib.hid (HG7.out.below hbT)
  replace HG8 := Lib.hid (HG8.out.below hbT)
  replace HLA := Lib.hid (HLA.out.below hbT)
  replace HLB := Lib.hid (HLB.out.below hbT)
  replace HLD := Lib.hid (HLD.out.below hbT)
  replace HLE := Lib.hid (HLE.out.below hbT)
  replace HGG := Lib.hid (HGG.out.below hbT)
  replace HGH := Lib.hid (HGH.out.below hbT)
  replace HGJ := Lib.hid (HGJ.out.below hbT)
  replace HGK := Lib.hid (HGK.out.below hbT)
  clear hbT hbl 
  go_wp2_with (fail)
  go_ret
  exact ⟨rfl, HB.out⟩
end Go.Proofs.YtnnnibkainlplaaGreatDoor
