/- merge: the law MergeGrows, walked. -/
import Derived.Test.YtnnnibkainlplaaDoorMrgG
import Derived.Test.YtnnnibkainlplaaDoorMrgG0
namespace Go.Proofs.YtnnnibkainlplaaDoor
open Go.RowKit Go.Sort Go.Lib

/-- of none of the entries the device is in the list -/
def NoneIn (l : List EntC) (F : List Int) : Prop := ∀ x ∈ l, x.v.dev ∉ F
set_option maxRecDepth 100000 in
set_option maxHeartbeats 4000000 in
theorem mergeGrows_any {B0 : Nat} (w : World) (hE : Env B0 w) (hB0 : B0 ≤ w.heap.size) (A1 : Option Addr) (n1 c1 : Nat) (l1 : List EntC) (hs1 : Sl w 5 A1 n1 (l1.map EntC.cells)) (ho1 : ∀ u ∈ l1, EntAt w u) (A2 : Option Addr) (n2 c2 : Nat) (l2 : List EntC) (hs2 : Sl w 5 A2 n2 (l2.map EntC.cells)) (ho2 : ∀ u ∈ l2, EntAt w u) :
    Calls Tryd.prog 5 #[.slice A1 n1 c1, .slice A2 n2 c2] w fun e w' => e = .returned (.bool true) ∧ Below w.heap.size w w' := by
  have HEV := Lib.hid (fun W (hb : Below w.heap.size w W) => (⟨hE.below (hb.mono hB0), Nat.le_trans hB0 hb.size⟩ : Env B0 W ∧ B0 ≤ W.heap.size))
  have HSM := Lib.hid (small47_any w hE hB0)
  have HS1 := Lib.hid hs1
  have HS2 := Lib.hid hs2
  have HC1 := Lib.hid (fun W (hb : Below w.heap.size w W) h => FewM.ch (hs1.below hb) (fun u hu => Sl.below (ho1 u hu) hb) h)
  have HC2 := Lib.hid (fun W (hb : Below w.heap.size w W) h => FewM.ch (hs2.below hb) (fun u hu => Sl.below (ho2 u hu) hb) h)
  have HB : Hid (Below w.heap.size w w) := Lib.hid (Below.refl _ _)
  clear hE hB0 hs1 ho1 hs2 ho2
  go_enter Tryd.func5, Tryd.ntmps5
  go_wp2_with (fail)
  ((with_reducible refine (HSM.out).mono ?_); rintro _ w1 ⟨rfl, hb1⟩)
  have hbT := hb1
  replace HB := Lib.hid (HB.out.trans (hbT.mono HB.out.size))
  clear hbT hb1 
  go_wp2_with (fail)
  ((with_reducible refine (few47_30 w1 A1 n1 c1 l1 (HS1.out.below HB.out)).mono ?_); rintro _ w2 ⟨k1, rfl, hk1, hb2⟩)
  have hbT := hb2
  replace HB := Lib.hid (HB.out.trans (hbT.mono HB.out.size))
  clear hbT hb2 
  have HK1 := Lib.hid hk1
  clear hk1
  cases k1
  case false =>
    go_wp2_with (fail)
    go_ret
    exact ⟨rfl, HB.out⟩
  go_wp2_with (fail)
  ((with_reducible refine (few47_30 w2 A2 n2 c2 l2 (HS2.out.below HB.out)).mono ?_); rintro _ w3 ⟨k2, rfl, hk2, hb3⟩)
  have hbT := hb3
  replace HB := Lib.hid (HB.out.trans (hbT.mono HB.out.size))
  clear hbT hb3 
  have HK2 := Lib.hid hk2
  clear hk2
  cases k2
  case false =>
    go_wp2_with (fail)
    go_ret
    exact ⟨rfl, HB.out⟩
  have HL1 := Lib.hid (HC1.out _ HB.out (HK1.out (by simp)).1)
  have HL2 := Lib.hid (HC2.out _ HB.out (HK2.out (by simp)).1)
  have hn1 : n1 ≤ 30 := by rw [← HL1.out.lenEq]; exact (HK1.out (by simp)).2
  have hn2 : n2 ≤ 30 := by rw [← HL2.out.lenEq]; exact (HK2.out (by simp)).2
  go_wp2_with (fail)
  ((with_reducible refine (Join_any w3 (HEV.out _ HB.out).1 (HEV.out _ HB.out).2 A1 A2 n1 n2 c1 c2 l1 l2 HL1.out HL2.out (by omega) (by omega)).mono ?_); rintro _ w4 ⟨A4, c4, l4, rfl, h4, hv4, hb4⟩)
  have hbT := hb4
  replace HB := Lib.hid (HB.out.trans (hbT.mono HB.out.size))
  replace HL1 := Lib.hid (HL1.out.below hbT)
  replace HL2 := Lib.hid (HL2.out.below hbT)
  clear hbT hb4 
  obtain ⟨X, hX⟩ : ∃ X, vsOf l1 ++ vsOf l2 = X := ⟨_, rfl⟩
  rw [hX] at hv4 h4 ⊢
  have hn4 : (joinF X).length ≤ 60 := by
    refine Nat.le_trans (joinF_len _) ?_
    rw [← hX, List.length_append, vsOf_len, vsOf_len, HL1.out.lenEq, HL2.out.lenEq]
    omega
  obtain ⟨n4, hn4e⟩ : ∃ n4, (joinF X).length = n4 := ⟨_, rfl⟩
  rw [hn4e] at hn4 h4 ⊢
  have HL4 := Lib.hid h4
  have HV4 := Lib.hid hv4
  have HX := Lib.hid hX
  clear h4 hv4 hX hn4e
  go_wp2_with (fail)
  ((with_reducible refine (Forks_any w4 (HEV.out _ HB.out).1 (HEV.out _ HB.out).2 A4 n4 c4 l4 HL4.out (by omega) (forkO X) (by rw [HV4.out, forkO_join])).mono ?_); rintro _ w5 ⟨A5, c5, rfl, h5, hb5⟩)
  have hbT := hb5
  replace HB := Lib.hid (HB.out.trans (hbT.mono HB.out.size))
  replace HL1 := Lib.hid (HL1.out.below hbT)
  replace HL2 := Lib.hid (HL2.out.below hbT)
  replace HL4 := Lib.hid (HL4.out.below hbT)
  clear hbT hb5 
  have HG5 := Lib.hid h5.sl'
  have hn5 : (forkO X).length ≤ 8 := forkO_len X
  obtain ⟨n5, hn5e⟩ : ∃ n5, (forkO X).length = n5 := ⟨_, rfl⟩
  rw [hn5e] at hn5 HG5 ⊢
  clear h5 hn5e
  go_wp2_with (fail)
  go_loopw [8] (fun iv wr => ∃ k : Nat, k ≤ n2 ∧ iv = .int .i64 (k : Int) ∧ Below w5.heap.size w5 wr ∧ NoneIn (l2.take k) (forkO X)) (fun iv _ => n2 - (intOf iv).toNat)
  case atStart => exact ⟨0, Nat.zero_le _, rfl, Below.refl _ _, fun x hx => by simp at hx⟩
  case round =>
    obtain ⟨k, hk, rfl, hb, hx⟩ := hrel
    obtain ⟨wo, rfl⟩ : ∃ wo : World, wo = wr := ⟨_, rfl⟩
    have HBR := Lib.hid hb
    have HXX := Lib.hid hx
    clear hb hx
    by_cases hlt : k < n2
    · obtain ⟨x, hx⟩ : ∃ v, l2[k]? = some v := ⟨_, List.getElem?_eq_getElem (by rw [HL2.out.lenEq]; exact hlt)⟩
      obtain ⟨b, o, rfl, hbl, d0, d1, d2, d3, d4⟩ := ent_at (HL2.out.sl.below HBR.out) hx
      have hki : (k : Int) < (n2 : Int) := by omega
      have hk0 : (0 : Int) ≤ (k : Int) := by omega
      have hwk : IntKind.i64.wrap ((k : Int) + 1) = (k : Int) + 1 := IntWalk.i64_in _ (by omega)
      obtain ⟨r, hr⟩ : ∃ r, decide (x.v.dev ∈ forkO X) = r := ⟨_, rfl⟩
      have HR := Lib.hid hr
      have HIX := Lib.hid hx
      have HLT := Lib.hid hlt
      have HHA := Lib.hid (hasI_any wo A5 n5 c5 (forkO X) (HG5.out.below HBR.out) (by omega) x.v.dev r hr)
      clear hr hx hlt hbl
      go_wp2_with (fail)
      ((with_reducible refine HHA.out.mono ?_); rintro _ w6 ⟨rfl, hb6⟩)
      cases r
      · have HB6 := Lib.hid (HBR.out.trans (hb6.mono HBR.out.size))
        clear hb6
        go_wp2_with (fail)
        go_roundw
        case rel => exact ⟨k + 1, HLT.out, by go_num, HB6.out, by
          rw [take_succ' HIX.out]
          intro y hy
          rcases List.mem_append.1 hy with h | h
          · exact HXX.out y h
          · rw [List.mem_singleton.1 h]; exact of_decide_eq_false HR.out⟩
        case measure => have := HLT.out; simp [intOf]; omega
      · have HB6 := Lib.hid (HB.out.trans ((HBR.out.trans (hb6.mono HBR.out.size)).mono HB.out.size))
        clear hb6
        go_wp2_with (fail)
        go_ret
        exact ⟨rfl, HB6.out⟩
    · obtain rfl : k = n2 := by omega
      have hki : ¬ ((k : Nat) : Int) < (k : Int) := by omega
      have htk : l2.take k = l2 := List.take_of_length_le (by rw [HL2.out.lenEq]; exact Nat.le_refl _)
      have hm : ∀ x ∈ vsOf l2, forkB (joinF (vsOf l1 ++ vsOf l2)) x.dev = false := by
        have h0 := HXX.out
        rw [htk] at h0
        intro x hx
        obtain ⟨u, hu, rfl⟩ := List.mem_map.1 hx
        rw [HX.out]
        cases hf : forkB (joinF X) u.v.dev with
        | false => rfl
        | true => exact absurd (mem_forkO.2 hf) (h0 u hu)
      have hgr := order_grows hm
      have hfo : forkO (vsOf l1) = forkO X := by rw [← HX.out]; exact forkO_congr (forks_more hm)
      rw [HX.out] at hgr
      have HGR := Lib.hid hgr
      have HFO := Lib.hid hfo
      clear hgr hfo hm htk hlt hk HXX
      have hbr := HBR.out
      clear HBR
      have hbT := hbr
      replace HB := Lib.hid (HB.out.trans (hbT.mono HB.out.size))
      replace HL1 := Lib.hid (HL1.out.below hbT)
      replace HL2 := Lib.hid (HL2.out.below hbT)
      replace HL4 := Lib.hid (HL4.out.below hbT)
      replace HG5 := Lib.hid (HG5.out.below hbT)
      clear hbT hbr 
      go_wp2_with (fail)
      ((with_reducible refine (Order_any wo (HEV.out _ HB.out).1 (HEV.out _ HB.out).2 A1 n1 c1 l1 HL1.out (by omega)).mono ?_); rintro _ w7 ⟨A7, c7, l7, rfl, h7, hv7, hb7⟩)
      have hbT := hb7
      replace HB := Lib.hid (HB.out.trans (hbT.mono HB.out.size))
      replace HL1 := Lib.hid (HL1.out.below hbT)
      replace HL2 := Lib.hid (HL2.out.below hbT)
      replace HL4 := Lib.hid (HL4.out.below hbT)
      replace HG5 := Lib.hid (HG5.out.below hbT)
      clear hbT hb7 
      have hn7 : (ordF (vsOf l1)).2.length ≤ 3200 := ord_len _
      obtain ⟨n7, hn7e⟩ : ∃ n7, (ordF (vsOf l1)).2.length = n7 := ⟨_, rfl⟩
      rw [hn7e] at hn7 h7 ⊢
      have HL7 := Lib.hid h7
      have HV7 := Lib.hid hv7
      clear h7 hv7 hn7e
      go_wp2_with (fail)
      ((with_reducible refine (Order_any w7 (HEV.out _ HB.out).1 (HEV.out _ HB.out).2 A4 n4 c4 l4 HL4.out (by omega)).mono ?_); rintro _ w8 ⟨A8, c8, l8, rfl, h8, hv8, hb8⟩)
      have hbT := hb8
      replace HB := Lib.hid (HB.out.trans (hbT.mono HB.out.size))
      replace HL1 := Lib.hid (HL1.out.below hbT)
      replace HL2 := Lib.hid (HL2.out.below hbT)
      replace HL4 := Lib.hid (HL4.out.below hbT)
      replace HG5 := Lib.hid (HG5.out.below hbT)
      replace HL7 := Lib.hid (HL7.out.below hbT)
      clear hbT hb8 
      rw [HV4.out, ordF_join] at hv8 h8 ⊢
      have hn8 : (ordF X).2.length ≤ 3200 := ord_len _
      obtain ⟨n8, hn8e⟩ : ∃ n8, (ordF X).2.length = n8 := ⟨_, rfl⟩
      rw [hn8e] at hn8 h8 ⊢
      have HL8 := Lib.hid h8
      have HV8 := Lib.hid hv8
      clear h8 hv8 hn8e
      go_wp2_with (fail)
      go_loopw [11] (fun iv wr => ∃ k : Nat, k ≤ n7 ∧ iv = .int .i64 (k : Int) ∧ Below w8.heap.size w8 wr) (fun iv _ => n7 - (intOf iv).toNat)
      case atStart => exact ⟨0, Nat.zero_le _, rfl, Below.refl _ _⟩
      case round =>
        obtain ⟨k, hk, rfl, hb⟩ := hrel
        obtain ⟨wi, rfl⟩ : ∃ wi : World, wi = wr := ⟨_, rfl⟩
        have HBR := Lib.hid hb
        clear hb
        by_cases hlt : k < n7
        · obtain ⟨x, hx⟩ : ∃ v, l7[k]? = some v := ⟨_, List.getElem?_eq_getElem (by rw [HL7.out.lenEq]; exact hlt)⟩
          obtain ⟨b, o, rfl, hbl, d0, d1, d2, d3, d4⟩ := ent_at (HL7.out.sl.below HBR.out) hx
          have hki : (k : Int) < (n7 : Int) := by omega
          have hk0 : (0 : Int) ≤ (k : Int) := by omega
          have hwk : IntKind.i64.wrap ((k : Int) + 1) = (k : Int) + 1 := IntWalk.i64_in _ (by omega)
          have hmem : x.v ∈ vsOf l8 := by
            rw [HV8.out]
            refine HGR.out.2 _ ?_
            rw [← HV7.out]
            exact List.mem_of_getElem? (vsOf_at hx)
          have hha := Has_any wi A8 n8 c8 l8 (HL8.out.below HBR.out) (by omega) x (Sl.below (HL7.out.at_ x (List.mem_of_getElem? hx)) HBR.out) true (decide_eq_true hmem)
          simp only [EntC.cells] at hha
          have HHA := Lib.hid hha
          have HLT := Lib.hid hlt
          clear hha hmem hx hlt hbl
          go_wp2_with ((with_reducible refine HHA.out.mono ?_); rintro _ w6 ⟨rfl, hb6⟩)
          go_roundw
          case rel => exact ⟨k + 1, HLT.out, by go_num, HBR.out.trans (hb6.mono HBR.out.size)⟩
          case measure => have := HLT.out; simp [intOf]; omega
        · obtain rfl : k = n7 := by omega
          have hki : ¬ ((k : Nat) : Int) < (k : Int) := by omega
          clear hlt hk
          have hbr := HBR.out
          clear HBR
          have hbT := hbr
          replace HB := Lib.hid (HB.out.trans (hbT.mono HB.out.size))
          replace HL1 := Lib.hid (HL1.out.below hbT)
          replace HL2 := Lib.hid (HL2.out.below hbT)
          replace HL4 := Lib.hid (HL4.out.below hbT)
          replace HG5 := Lib.hid (HG5.out.below hbT)
          replace HL7 := Lib.hid (HL7.out.below hbT)
          replace HL8 := Lib.hid (HL8.out.below hbT)
          clear hbT hbr 
          go_wp2_with (fail)
          ((with_reducible refine (Heads_any wi (HEV.out _ HB.out).1 (HEV.out _ HB.out).2 _ n1 c1 l1 HL1.out (by omega)).mono ?_); rintro _ w9 ⟨g9, rfl, h9, hb9⟩)
          have hbT := hb9
          replace HB := Lib.hid (HB.out.trans (hbT.mono HB.out.size))
          replace HL1 := Lib.hid (HL1.out.below hbT)
          replace HL2 := Lib.hid (HL2.out.below hbT)
          replace HL4 := Lib.hid (HL4.out.below hbT)
          replace HG5 := Lib.hid (HG5.out.below hbT)
          replace HL7 := Lib.hid (HL7.out.below hbT)
          replace HL8 := Lib.hid (HL8.out.below hbT)
          clear hbT hb9 
          have HG9 := Lib.hid h9.sl'
          clear h9
          go_wp2_with (fail)
          ((with_reducible refine (Heads_any w9 (HEV.out _ HB.out).1 (HEV.out _ HB.out).2 A4 n4 c4 l4 HL4.out (by omega)).mono ?_); rintro _ wa ⟨ga, rfl, ha, hba⟩)
          have hbT := hba
          replace HB := Lib.hid (HB.out.trans (hbT.mono HB.out.size))
          replace HL1 := Lib.hid (HL1.out.below hbT)
          replace HL2 := Lib.hid (HL2.out.below hbT)
          replace HL4 := Lib.hid (HL4.out.below hbT)
          replace HG5 := Lib.hid (HG5.out.below hbT)
          replace HL7 := Lib.hid (HL7.out.below hbT)
          replace HL8 := Lib.hid (HL8.out.below hbT)
          replace HG9 := Lib.hid (HG9.out.below hbT)
          clear hbT hba 
          rw [HV4.out, ordF_join] at ha
          have HGA := Lib.hid ha.sl'
          clear ha
          go_wp2_with (fail)
          go_loopw [14] (fun iv wr => ∃ k : Nat, k ≤ 8 ∧ iv = .int .i64 (k : Int) ∧ Below wa.heap.size wa wr) (fun iv _ => 8 - (intOf iv).toNat)
          case atStart => exact ⟨0, Nat.zero_le _, rfl, Below.refl _ _⟩
          case round =>
            obtain ⟨d, hd, rfl, hb⟩ := hrel
            obtain ⟨wj, rfl⟩ : ∃ wj : World, wj = wr := ⟨_, rfl⟩
            have HBR := Lib.hid hb
            clear hb
            by_cases hlt : d < 8
            · obtain ⟨p, hp⟩ : ∃ p, (ordF (vsOf l1)).1[d]? = some p := ⟨_, List.getElem?_eq_getElem (by rw [heads_len]; exact hlt)⟩
              obtain ⟨q, hq⟩ : ∃ q, (ordF X).1[d]? = some q := ⟨_, List.getElem?_eq_getElem (by rw [heads_len]; exact hlt)⟩
              have hpq : p ≤ q := by
                have := HGR.out.1 d hlt
                rwa [List.getD_eq_getElem?_getD, List.getD_eq_getElem?_getD, hp, hq] at this
              obtain ⟨bp, op, ep, hbp, kp⟩ := (HG9.out.below HBR.out).at1 (k := d) (v := .int .i64 (p : Int)) (by rw [List.getElem?_map, hp]; rfl)
              obtain ⟨bq, oq, eq, hbq, kq⟩ := (HGA.out.below HBR.out).at1 (k := d) (v := .int .i64 (q : Int)) (by rw [List.getElem?_map, hq]; rfl)
              injection ep with ep
              injection ep with ep1 ep2
              injection eq with eq
              injection eq with eq1 eq2
              subst ep1 ep2 eq1 eq2
              rw [Nat.zero_add] at kp kq
              have hdi : (d : Int) < 8 := by omega
              have hd0 : (0 : Int) ≤ (d : Int) := by omega
              have hpi : (p : Int) ≤ (q : Int) := by omega
              have hwd : IntKind.i64.wrap ((d : Int) + 1) = (d : Int) + 1 := IntWalk.i64_in _ (by omega)
              have HLT := Lib.hid hlt
              clear hp hq hpq hlt hd
              go_wp2_with (fail)
              go_quiet (fail)
              go_wp2_with (fail)
              go_roundw
              case rel => exact ⟨d + 1, HLT.out, by go_num, bdrewN HBR.out _⟩
              case measure => have := HLT.out; simp [intOf]; omega
            · obtain rfl : d = 8 := by omega
              have hdi : ¬ ((8 : Nat) : Int) < 8 := by omega
              have hbr := HBR.out
              clear HBR
              have hbT := hbr
              replace HB := Lib.hid (HB.out.trans (hbT.mono HB.out.size))
              replace HL1 := Lib.hid (HL1.out.below hbT)
              replace HG5 := Lib.hid (HG5.out.below hbT)
              clear hbT hbr 
              go_wp2_with (fail)
              ((with_reducible refine (Forks_any wj (HEV.out _ HB.out).1 (HEV.out _ HB.out).2 _ n1 c1 l1 HL1.out (by omega) (forkO X) HFO.out).mono ?_); rintro _ wb ⟨Ab, cb, rfl, hgb, hbb⟩)
              have hbT := hbb
              replace HB := Lib.hid (HB.out.trans (hbT.mono HB.out.size))
              replace HL1 := Lib.hid (HL1.out.below hbT)
              replace HG5 := Lib.hid (HG5.out.below hbT)
              clear hbT hbb 
              have HGB := Lib.hid hgb.sl'
              have hne : (forkO X).length = n5 := by have := HG5.out.1; simpa using this
              rw [hne] at HGB ⊢
              clear hgb hne
              go_wp2_with (fail)
              ((with_reducible refine (SameInts_any wb Ab A5 n5 cb n5 c5 (forkO X) (forkO X) HGB.out HG5.out (by omega) true (by simp)).mono ?_); rintro _ wc ⟨rfl, hbc⟩)
              have hbT := hbc
              replace HB := Lib.hid (HB.out.trans (hbT.mono HB.out.size))
              replace HL1 := Lib.hid (HL1.out.below hbT)
              replace HG5 := Lib.hid (HG5.out.below hbT)
              replace HGB := Lib.hid (HGB.out.below hbT)
              clear hbT hbc 
              go_wp2_with (fail)
              go_ret
              exact ⟨rfl, HB.out⟩
end Go.Proofs.YtnnnibkainlplaaDoor
