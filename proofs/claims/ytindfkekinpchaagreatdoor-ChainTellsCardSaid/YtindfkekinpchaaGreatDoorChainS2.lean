/- chain: the laws' sane, walked: the checks. -/
import Derived.Test.YtindfkekinpchaaGreatDoorChainS
import Derived.Test.YtindfkekinpchaaGreatDoorOrdL
import Derived.Deep.RegionHeld3
import Derived.Deep.DeepCutAuto
namespace Go.Proofs.YtindfkekinpchaaGreatDoor
open Go.RowKit Go.Sort Go.Lib

set_option maxRecDepth 100000 in
set_option maxHeartbeats 16000000 in
theorem sane_any (w : World) (hE : Env w.heap.size w) :
    Calls Tryz.prog 4 #[] w fun e w' => e = .returned (.bool true) ∧ Below w.heap.size w w' := by
  have HE := Lib.hid (fun W (hb : Below w.heap.size w W) => hE.below hb)
  have HB := Lib.hid (Below.refl w.heap.size w)
  clear hE
  go_enter Tryz.func4, Tryz.ntmps4
  go_wp2_with (fail)
  ((with_reducible refine (entry_row _ 0 4 [] ⟨#[]⟩ rfl).mono ?_); rintro _ w1 ⟨A1, c1, rfl, h1, hb1⟩)
  have hbT := hb1
  replace HB := Lib.hid (HB.out.trans (hbT.mono HB.out.size))
  clear hbT hb1 
  have S1 : Hid (EntAt w1 (exE 0 4 [] A1 c1)) := Lib.hid h1.1
  clear h1
  go_wp2_with (fail)
  ((with_reducible refine (entry_row _ 1 4 [97] ⟨#[97]⟩ rfl).mono ?_); rintro _ w2 ⟨A2, c2, rfl, h2, hb2⟩)
  have hbT := hb2
  replace HB := Lib.hid (HB.out.trans (hbT.mono HB.out.size))
  replace S1 := Lib.hid (S1.out.below hbT)
  clear hbT hb2 
  have S2 : Hid (EntAt w2 (exE 1 4 [97] A2 c2)) := Lib.hid h2.1
  clear h2
  go_wp2_with (fail)
  ((with_reducible refine (check2 _ _ _ _ _ _ _ _ _ _ _ S1.out S2.out _ _ rfl rfl (by decide) (by decide) 0 (ex1' _ _ _ _)).mono ?_); rintro _ w3 ⟨rfl, hb3⟩)
  obtain ⟨_, hbT⟩ := locs1 hb3
  replace HB := Lib.hid (HB.out.trans (hbT.mono HB.out.size))
  replace S1 := Lib.hid (S1.out.below hbT)
  replace S2 := Lib.hid (S2.out.below hbT)
  clear hbT hb3 
  clear S1
  clear S2
  go_wp2_with (fail)
  ((with_reducible refine (entry_row _ 0 4 [] ⟨#[]⟩ rfl).mono ?_); rintro _ w4 ⟨A4, c4, rfl, h4, hb4⟩)
  have hbT := hb4
  replace HB := Lib.hid (HB.out.trans (hbT.mono HB.out.size))
  clear hbT hb4 
  have S4 : Hid (EntAt w4 (exE 0 4 [] A4 c4)) := Lib.hid h4.1
  clear h4
  go_wp2_with (fail)
  ((with_reducible refine (entry_row _ 2 4 [97] ⟨#[97]⟩ rfl).mono ?_); rintro _ w5 ⟨A5, c5, rfl, h5, hb5⟩)
  have hbT := hb5
  replace HB := Lib.hid (HB.out.trans (hbT.mono HB.out.size))
  replace S4 := Lib.hid (S4.out.below hbT)
  clear hbT hb5 
  have S5 : Hid (EntAt w5 (exE 2 4 [97] A5 c5)) := Lib.hid h5.1
  clear h5
  go_wp2_with (fail)
  ((with_reducible refine (check2 _ _ _ _ _ _ _ _ _ _ _ S4.out S5.out _ _ rfl rfl (by decide) (by decide) 23 (ex2' _ _ _ _)).mono ?_); rintro _ w6 ⟨rfl, hb6⟩)
  obtain ⟨_, hbT⟩ := locs1 hb6
  replace HB := Lib.hid (HB.out.trans (hbT.mono HB.out.size))
  replace S4 := Lib.hid (S4.out.below hbT)
  replace S5 := Lib.hid (S5.out.below hbT)
  clear hbT hb6 
  clear S4
  clear S5
  go_wp2_with (fail)
  ((with_reducible refine (entry_row _ 0 4 [] ⟨#[]⟩ rfl).mono ?_); rintro _ w7 ⟨A7, c7, rfl, h7, hb7⟩)
  have hbT := hb7
  replace HB := Lib.hid (HB.out.trans (hbT.mono HB.out.size))
  clear hbT hb7 
  have S7 : Hid (EntAt w7 (exE 0 4 [] A7 c7)) := Lib.hid h7.1
  clear h7
  go_wp2_with (fail)
  ((with_reducible refine (entry_row _ 0 4 [97] ⟨#[97]⟩ rfl).mono ?_); rintro _ w8 ⟨A8, c8, rfl, h8, hb8⟩)
  have hbT := hb8
  replace HB := Lib.hid (HB.out.trans (hbT.mono HB.out.size))
  replace S7 := Lib.hid (S7.out.below hbT)
  clear hbT hb8 
  have S8 : Hid (EntAt w8 (exE 0 4 [97] A8 c8)) := Lib.hid h8.1
  clear h8
  go_wp2_with (fail)
  ((with_reducible refine (check2 _ _ _ _ _ _ _ _ _ _ _ S7.out S8.out _ _ rfl rfl (by decide) (by decide) 5 (ex3' _ _ _ _)).mono ?_); rintro _ w9 ⟨rfl, hb9⟩)
  obtain ⟨_, hbT⟩ := locs1 hb9
  replace HB := Lib.hid (HB.out.trans (hbT.mono HB.out.size))
  replace S7 := Lib.hid (S7.out.below hbT)
  replace S8 := Lib.hid (S8.out.below hbT)
  clear hbT hb9 
  clear S7
  clear S8
  go_wp2_with (fail)
  ((with_reducible refine (entry_row _ 1 4 [] ⟨#[]⟩ rfl).mono ?_); rintro _ w10 ⟨A10, c10, rfl, h10, hb10⟩)
  have hbT := hb10
  replace HB := Lib.hid (HB.out.trans (hbT.mono HB.out.size))
  clear hbT hb10 
  have S10 : Hid (EntAt w10 (exE 1 4 [] A10 c10)) := Lib.hid h10.1
  clear h10
  go_wp2_with (fail)
  ((with_reducible refine (check1 _ _ _ _ _ _ S10.out _ rfl (by decide) 23 (ex4' _ _)).mono ?_); rintro _ w11 ⟨rfl, hb11⟩)
  obtain ⟨_, hbT⟩ := locs1 hb11
  replace HB := Lib.hid (HB.out.trans (hbT.mono HB.out.size))
  replace S10 := Lib.hid (S10.out.below hbT)
  clear hbT hb11 
  clear S10
  go_wp2_with (fail)
  ((with_reducible refine (entry_row _ 0 4 [] ⟨#[]⟩ rfl).mono ?_); rintro _ w12 ⟨A12, c12, rfl, h12, hb12⟩)
  have hbT := hb12
  replace HB := Lib.hid (HB.out.trans (hbT.mono HB.out.size))
  clear hbT hb12 
  have S12 : Hid (EntAt w12 (exE 0 4 [] A12 c12)) := Lib.hid h12.1
  clear h12
  go_wp2_with (fail)
  ((with_reducible refine (entry_row _ 1 3 [] ⟨#[]⟩ rfl).mono ?_); rintro _ w13 ⟨A13, c13, rfl, h13, hb13⟩)
  have hbT := hb13
  replace HB := Lib.hid (HB.out.trans (hbT.mono HB.out.size))
  replace S12 := Lib.hid (S12.out.below hbT)
  clear hbT hb13 
  have S13 : Hid (EntAt w13 (exE 1 3 [] A13 c13)) := Lib.hid h13.1
  clear h13
  go_wp2_with (fail)
  ((with_reducible refine (check2 _ _ _ _ _ _ _ _ _ _ _ S12.out S13.out _ _ rfl rfl (by decide) (by decide) 17 (ex5' _ _ _ _)).mono ?_); rintro _ w14 ⟨rfl, hb14⟩)
  obtain ⟨_, hbT⟩ := locs1 hb14
  replace HB := Lib.hid (HB.out.trans (hbT.mono HB.out.size))
  replace S12 := Lib.hid (S12.out.below hbT)
  replace S13 := Lib.hid (S13.out.below hbT)
  clear hbT hb14 
  clear S12
  clear S13
  go_wp2_with (fail)
  ((with_reducible refine (entry_row _ 1 4 [97] ⟨#[97]⟩ rfl).mono ?_); rintro _ w15 ⟨A15, c15, rfl, h15, hb15⟩)
  have hbT := hb15
  replace HB := Lib.hid (HB.out.trans (hbT.mono HB.out.size))
  clear hbT hb15 
  have S15 : Hid (EntAt w15 (exE 1 4 [97] A15 c15)) := Lib.hid h15.1
  clear h15
  go_wp2_with (fail)
  ((with_reducible refine (encode_ex _ (HE.out _ HB.out) HB.out.size _ _ S15.out).mono ?_); rintro _ w16 ⟨rfl, hb16⟩)
  have hbT := hb16
  replace HB := Lib.hid (HB.out.trans (hbT.mono HB.out.size))
  replace S15 := Lib.hid (S15.out.below hbT)
  clear hbT hb16 
  clear S15
  go_wp2_with (fail)
  ((with_reducible refine (decode_ex _ ((HE.out _ HB.out).up HB.out.size)).mono ?_); rintro _ w17 ⟨A17, c17, rfl, h17, hb17⟩)
  have hbT := hb17
  replace HB := Lib.hid (HB.out.trans (hbT.mono HB.out.size))
  clear hbT hb17 
  have S17 := Lib.hid h17
  clear h17
  go_wp2_with (fail)
  ((with_reducible refine (entry_row _ 0 4 [] ⟨#[]⟩ rfl).mono ?_); rintro _ w18 ⟨A18, c18, rfl, h18, hb18⟩)
  obtain ⟨hX, hbT⟩ := locs1 hb18
  have X := Lib.hid hX
  clear hX
  replace HB := Lib.hid (HB.out.trans (hbT.mono HB.out.size))
  replace S17 := Lib.hid (S17.out.below hbT)
  clear hbT hb18 
  have S18 : Hid (EntAt w18 (exE 0 4 [] A18 c18)) := Lib.hid h18.1
  clear h18
  have S18a := Lib.hid S18.out
  go_wp2_with (fail)
  ((with_reducible refine (seen_any _ 0).mono ?_); rintro _ w19 ⟨A19, c19, rfl, h19, hb19⟩; have HBR := Lib.hid hb19; have S19 := Lib.hid h19.1; clear h19)
  obtain ⟨_, hbT⟩ := locs1 hb19
  replace HB := Lib.hid (HB.out.trans (hbT.mono HB.out.size))
  replace S17 := Lib.hid (S17.out.below hbT)
  replace X := Lib.hid (X.out.below hbT)
  replace S18 := Lib.hid (S18.out.below hbT)
  clear hbT hb19 
  clear S18
  go_wp2_with (fail)
  ((with_reducible refine (next_ex w18 A18 c18 S18a.out w19 HBR.out A19 c19 S19.out).mono ?_); rintro _ w20 ⟨A20, c20, rfl, h20, hb20⟩)
  have hbT := hb20
  replace HB := Lib.hid (HB.out.trans (hbT.mono HB.out.size))
  replace S17 := Lib.hid (S17.out.below hbT)
  replace X := Lib.hid (X.out.below hbT)
  clear hbT hb20 
  have S20 := Lib.hid h20
  clear h20 S18a HBR S19
  go_upto_region 11 with (fail)
  have HW21 := Lib.hid (below_alloc w20 (.cells #[.int .i64 2, .int .i64 1, .int .i64 4, .slice A20 8 c20, .string ⟨#[97]⟩] 25))
  have Y := Lib.hid (Loc.new_ w20 #[.int .i64 2, .int .i64 1, .int .i64 4, .slice A20 8 c20, .string ⟨#[97]⟩] 25)
  have X21 := Lib.hid (X.out.below HW21.out)
  have T17 := Lib.hid (S17.out.below HW21.out)
  have T20 := Lib.hid (S20.out.below HW21.out)
  have HB21 := Lib.hid (HB.out.trans (HW21.out.mono HB.out.size))
  clear X HW21 S17 S20 HB
  generalize w20.alloc (.cells #[.int .i64 2, .int .i64 1, .int .i64 4, .slice A20 8 c20, .string ⟨#[97]⟩] 25) = W at *
  have hS : ∀ w', Below W.heap.size W w' → _ := fun w' hb => And.intro ((X21.out.below hb).cell 0) (And.intro ((X21.out.below hb).cell 1) (And.intro ((X21.out.below hb).cell 2) (And.intro ((X21.out.below hb).cell 3) (And.intro ((X21.out.below hb).cell 4) (And.intro ((Y.out.below hb).cell 0) (And.intro ((Y.out.below hb).cell 1) (And.intro ((Y.out.below hb).cell 2) (And.intro ((Y.out.below hb).cell 3) (And.intro ((Y.out.below hb).cell 4) hb)))))))))
  have HSS := Lib.hid hS
  clear hS
  have HEN := Lib.hid (fun W' => entry_row W' 1 4 [97] ⟨#[97]⟩ rfl)
  obtain ⟨zX21, kX21, fX21⟩ := X21.out
  obtain ⟨zY, kY, fY⟩ := Y.out
  go_region_held3 (fun w' => w'.cell? ⟨w17.heap.size, 0, none⟩ = some (.int .i64 2) ∧ w'.cell? ⟨w17.heap.size, 1, none⟩ = some (.int .i64 1) ∧ w'.cell? ⟨w17.heap.size, 2, none⟩ = some (.int .i64 4) ∧ w'.cell? ⟨w17.heap.size, 3, none⟩ = some (.slice A17 8 c17) ∧ w'.cell? ⟨w17.heap.size, 4, none⟩ = some (.string ⟨#[97]⟩) ∧ w'.cell? ⟨w20.heap.size, 0, none⟩ = some (.int .i64 2) ∧ w'.cell? ⟨w20.heap.size, 1, none⟩ = some (.int .i64 1) ∧ w'.cell? ⟨w20.heap.size, 2, none⟩ = some (.int .i64 4) ∧ w'.cell? ⟨w20.heap.size, 3, none⟩ = some (.slice A20 8 c20) ∧ w'.cell? ⟨w20.heap.size, 4, none⟩ = some (.string ⟨#[97]⟩) ∧ Below W.heap.size W w')
      (first | exact HSS.out _ hB7 | (refine HSS.out _ ?_; repeat (first | exact hB7 | exact Below.refl _ _ | refine Below.drew ?_ | refine Below.alloc ?_ (by first | exact Nat.le_refl _ | exact hB7.size | (simp <;> omega)) _ | refine Below.setCell ?_ (by first | exact Nat.le_refl _ | exact hB7.size | (simp <;> omega)) _)))
      (first
        | (go_at_call 21
           ((with_reducible refine (HEN.out _).mono ?_)
            rintro e w3 ⟨Ae, ce, rfl, hEe, hbF⟩
            have hEa := hEe.1
            have hB7 : Below W.heap.size W w3 := by go_split_ands; exact Below.trans (by assumption) (hbF.mono (Below.size (by assumption)))))
        | (go_at_call 13
           ((with_reducible refine (same_ex _ _ _ _ _ ?hs1 ?hs2).mono ?_)
            (case hs1 => exact T17.out.below (by go_split_ands; assumption))
            (case hs2 => first | exact hEa | exact T20.out.below (by go_split_ands; assumption))
            rintro e w4 ⟨rfl, hbG⟩
            have hB7 : Below W.heap.size W w4 := by go_split_ands; exact Below.trans (by assumption) (hbG.mono (Below.size (by assumption))))))
  have HB := Lib.hid (HB21.out.trans (hB7.mono HB21.out.size))
  have X := Lib.hid (X21.out.below hB7)
  have Z := Lib.hid (Y.out.below hB7)
  have S17 := Lib.hid (T17.out.below hB7)
  have S20 := Lib.hid (T20.out.below hB7)
  clear hB7 zX21 kX21 fX21 zY kY fY hbG hEa hEe hbF HSS HB21 X21 Y T17 T20
  go_wp2_with (fail)
  ((with_reducible refine (entry_row _ 1 4 [97] ⟨#[97]⟩ rfl).mono ?_); rintro _ w31 ⟨A31, c31, rfl, h31, hb31⟩)
  have hbT := hb31
  replace HB := Lib.hid (HB.out.trans (hbT.mono HB.out.size))
  replace X := Lib.hid (X.out.below hbT)
  replace Z := Lib.hid (Z.out.below hbT)
  replace S17 := Lib.hid (S17.out.below hbT)
  replace S20 := Lib.hid (S20.out.below hbT)
  clear hbT hb31 
  have S31 : Hid (EntAt w31 (exE 1 4 [97] A31 c31)) := Lib.hid h31.1
  clear h31
  go_wp2_with (fail)
  ((with_reducible refine (entry_row _ 1 4 [98] ⟨#[98]⟩ rfl).mono ?_); rintro _ w32 ⟨A32, c32, rfl, h32, hb32⟩)
  have hbT := hb32
  replace HB := Lib.hid (HB.out.trans (hbT.mono HB.out.size))
  replace X := Lib.hid (X.out.below hbT)
  replace Z := Lib.hid (Z.out.below hbT)
  replace S17 := Lib.hid (S17.out.below hbT)
  replace S20 := Lib.hid (S20.out.below hbT)
  replace S31 := Lib.hid (S31.out.below hbT)
  clear hbT hb32 
  have S32 : Hid (EntAt w32 (exE 1 4 [98] A32 c32)) := Lib.hid h32.1
  clear h32
  go_wp2_with (fail)
  ((with_reducible refine (conv_ex _ _ _ _ _ _ _ _ _ _ _ S31.out S32.out _ _ rfl rfl (by decide) (by decide) true ex9).mono ?_); rintro _ w33 ⟨rfl, hb33⟩)
  have hbT := hb33
  replace HB := Lib.hid (HB.out.trans (hbT.mono HB.out.size))
  replace X := Lib.hid (X.out.below hbT)
  replace Z := Lib.hid (Z.out.below hbT)
  replace S17 := Lib.hid (S17.out.below hbT)
  replace S20 := Lib.hid (S20.out.below hbT)
  replace S31 := Lib.hid (S31.out.below hbT)
  replace S32 := Lib.hid (S32.out.below hbT)
  clear hbT hb33 
  clear S31 S32
  obtain ⟨zX, kX, fX⟩ := X.out
  obtain ⟨zZ, kZ, fZ⟩ := Z.out
  go_wp2_with (fail)
  ((with_reducible refine (conv_ex _ _ _ _ _ _ _ _ _ _ _ S17.out S20.out _ _ rfl rfl (by decide) (by decide) false ex10).mono ?_); rintro _ w34 ⟨rfl, hb34⟩)
  have hbT := hb34
  replace HB := Lib.hid (HB.out.trans (hbT.mono HB.out.size))
  replace X := Lib.hid (X.out.below hbT)
  replace Z := Lib.hid (Z.out.below hbT)
  replace S17 := Lib.hid (S17.out.below hbT)
  replace S20 := Lib.hid (S20.out.below hbT)
  clear hbT hb34 zX kX fX zZ kZ fZ
  go_wp2_with (fail)
  ((with_reducible refine (entry_row _ 1 4 [97] ⟨#[97]⟩ rfl).mono ?_); rintro _ w35 ⟨A35, c35, rfl, h35, hb35⟩)
  have hbT := hb35
  replace HB := Lib.hid (HB.out.trans (hbT.mono HB.out.size))
  replace X := Lib.hid (X.out.below hbT)
  replace Z := Lib.hid (Z.out.below hbT)
  replace S17 := Lib.hid (S17.out.below hbT)
  replace S20 := Lib.hid (S20.out.below hbT)
  clear hbT hb35 
  have S35 : Hid (EntAt w35 (exE 1 4 [97] A35 c35)) := Lib.hid h35.1
  clear h35
  go_wp2_with (fail)
  ((with_reducible refine (entry_row _ 2 4 [98] ⟨#[98]⟩ rfl).mono ?_); rintro _ w36 ⟨A36, c36, rfl, h36, hb36⟩)
  have hbT := hb36
  replace HB := Lib.hid (HB.out.trans (hbT.mono HB.out.size))
  replace X := Lib.hid (X.out.below hbT)
  replace Z := Lib.hid (Z.out.below hbT)
  replace S17 := Lib.hid (S17.out.below hbT)
  replace S20 := Lib.hid (S20.out.below hbT)
  replace S35 := Lib.hid (S35.out.below hbT)
  clear hbT hb36 
  have S36 : Hid (EntAt w36 (exE 2 4 [98] A36 c36)) := Lib.hid h36.1
  clear h36
  go_wp2_with (fail)
  ((with_reducible refine (conv_ex _ _ _ _ _ _ _ _ _ _ _ S35.out S36.out _ _ rfl rfl (by decide) (by decide) false ex11).mono ?_); rintro _ w37 ⟨rfl, hb37⟩)
  have hbT := hb37
  replace HB := Lib.hid (HB.out.trans (hbT.mono HB.out.size))
  replace X := Lib.hid (X.out.below hbT)
  replace Z := Lib.hid (Z.out.below hbT)
  replace S17 := Lib.hid (S17.out.below hbT)
  replace S20 := Lib.hid (S20.out.below hbT)
  replace S35 := Lib.hid (S35.out.below hbT)
  replace S36 := Lib.hid (S36.out.below hbT)
  clear hbT hb37 
  go_wp2_with (fail)
  go_ret
  exact ⟨rfl, HB.out⟩
end Go.Proofs.YtindfkekinpchaaGreatDoor
