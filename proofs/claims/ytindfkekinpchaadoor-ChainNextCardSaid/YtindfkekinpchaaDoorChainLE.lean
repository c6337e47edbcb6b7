/- kerbsidelaw46: ChainLess, walked. -/
import Derived.Test.YtindfkekinpchaaDoorChainLC
import Derived.Test.YtindfkekinpchaaDoorSlCut
namespace Go.Proofs.YtindfkekinpchaaDoor
open Go.RowKit Go.Sort Go.Lib

/-- a list of entries of another one's, in memory -/
theorem ChAt.part {w w' : World} {A A' : Option Addr} {n n' : Nat} {l l' : List EntC} (h : ChAt w A n l) (hb : Below w.heap.size w w') (hs : Sl w' 5 A' n' (l'.map EntC.cells)) (hm : ∀ x ∈ l', x ∈ l) : ChAt w' A' n' l' :=
  ⟨hs, fun e he => (h.at_ e (hm e he)).below hb, fun e he => h.len e (hm e he)⟩
set_option maxRecDepth 100000 in
set_option maxHeartbeats 32000000 in
theorem chainLess_any (w : World) (hE : Env w.heap.size w) (A : Option Addr) (n c : Nat) (l : List EntC) (hs : Sl w 5 A n (l.map EntC.cells)) (hc : n ≤ c) (ha : ∀ e ∈ l, EntAt w e) (i : Int) (hi : 0 ≤ i ∧ i ≤ 255) :
    Calls Tryd.prog 5 #[.slice A n c, .int .u8 i] w fun x w' => x = .returned (.bool true) ∧ Below w.heap.size w w' := by
  have HSA := Lib.hid (fun W (hb : Below w.heap.size w W) => sane_any W ((hE.below hb).up hb.size))
  have HFW := Lib.hid (fun W (hb : Below w.heap.size w W) => few30 W A n c l (hs.below hb))
  have HS := Lib.hid hs
  have HA := Lib.hid ha
  have hll : l.length = n := by simpa using hs.1
  have HL := Lib.hid hll
  have HB := Lib.hid (Below.refl w.heap.size w)
  have HI := Lib.hid hi
  have HC := Lib.hid hc
  clear hE hs ha hll hi hc
  go_enter Tryd.func5, Tryd.ntmps5
  go_wp2_with (fail)
  ((with_reducible refine (HSA.out _ HB.out).mono ?_); rintro _ w1 ⟨rfl, hb1⟩)
  have hbT := hb1
  replace HB := Lib.hid (HB.out.trans (hbT.mono HB.out.size))
  clear hbT hb1 
  go_wp2_with (fail)
  ((with_reducible refine (HFW.out _ HB.out).mono ?_); rintro _ w2 ⟨few, rfl, hfew, hb2⟩; have HFE := Lib.hid hfew; clear hfew)
  have hbT := hb2
  replace HB := Lib.hid (HB.out.trans (hbT.mono HB.out.size))
  clear hbT hb2 
  cases few
  · go_wp2_with (fail)
    go_ret
    exact ⟨rfl, HB.out⟩
  obtain ⟨hpl, hln⟩ := HFE.out rfl
  have HCH := Lib.hid (ChAt.of HS.out HA.out hpl)
  have HLN := Lib.hid hln
  clear HFE hpl hln HS HA
  obtain ⟨r, hr⟩ : ∃ r, checkF (vsOf l) = r := ⟨_, rfl⟩
  have HCK := Lib.hid (fun W (hb : Below w.heap.size w W) => Check_any W A n c l (HCH.out.below hb) r hr)
  have HR := Lib.hid hr
  clear hr
  go_wp2_with (fail)
  ((with_reducible refine (HCK.out _ HB.out).mono ?_); rintro _ w3 ⟨rfl, hb3⟩)
  have hbT := hb3
  replace HB := Lib.hid (HB.out.trans (hbT.mono HB.out.size))
  clear hbT hb3 
  by_cases h0 : r = 0
  case neg =>
    have hb0 : (r == 0) = false := by simpa using h0
    have hb1 : (r != 0) = true := by simpa using h0
    clear h0
    go_wp2_with (fail)
    go_ret
    exact ⟨rfl, HB.out⟩
  subst h0
  have HN : Hid (n ≤ 30) := Lib.hid (by
    have h1 := (checkF_zero.1 HR.out).1
    rw [vsOf_len] at h1
    have h2 := HL.out
    have h3 := HLN.out
    omega)
  clear HLN HCK HFW HSA
  by_cases hz : n = 0
  · have hzb : ((n : Int) == 0) = true := by rw [beq_iff_eq]; omega
    clear hz
    go_wp2_with (fail)
    go_ret
    exact ⟨rfl, HB.out⟩
  have hzb : ((n : Int) == 0) = false := by rw [beq_eq_false_iff_ne]; omega
  have hnz : ¬ ((n : Int) = 0) := by omega
  have hnzN : ¬ (n = 0) := hz
  have HZ : Hid (0 < n) := Lib.hid (by omega)
  clear hz
  obtain ⟨e0, h0⟩ : ∃ v, l[0]? = some v := ⟨_, List.getElem?_eq_getElem (by rw [HL.out]; exact HZ.out)⟩
  obtain ⟨b, o, rfl, hbl, d0, d1, d2, d3, d4⟩ := ent_at (HCH.out.below HB.out).sl h0
  obtain ⟨p, hp⟩ : ∃ p : Nat, i % (n : Int) = (p : Int) := ⟨(i % (n : Int)).toNat, by have := Int.emod_nonneg i (b := (n : Int)) (by have := HZ.out; omega); omega⟩
  have hpn : (p : Int) < (n : Int) := by rw [← hp]; exact Int.emod_lt_of_pos i (by have := HZ.out; omega)
  have hp0 : (0 : Int) ≤ (p : Int) := by omega
  have hi0 : 0 ≤ i := HI.out.1
  have hi1 : i ≤ 255 := HI.out.2
  have hpt : i.tmod (n : Int) = (p : Int) := by rw [Int.tmod_eq_emod_of_nonneg hi0]; exact hp
  have hwp : IntKind.i64.wrap (p : Int) = (p : Int) := IntWalk.i64_in _ (by have := HN.out; omega)
  have hwi : IntKind.i64.wrap i = i := IntWalk.i64_in _ (by omega)
  have HP : Hid (p < n) := Lib.hid (by omega)
  clear h0 d0 d1 d2 d3 d4 hbl
  go_upto_region 5 with (fail)
  clear hzb hnz hnzN hp hpt hwi hi0 hi1
  have hpc : (p : Int) ≤ (c : Int) := by have := HC.out; have := HP.out; omega
  have hp1 : (p : Int) + 1 ≤ (n : Int) := by have := HP.out; omega
  have hp10 : (0 : Int) ≤ (p : Int) + 1 := by omega
  have htn : ((p : Int) + 1).toNat = p + 1 := by omega
  have hw1 : IntKind.i64.wrap ((p : Int) + 1) = (p : Int) + 1 := IntWalk.i64_in _ (by have := HN.out; omega)
  obtain ⟨i0, hi0, hz0, hz1, hz2⟩ := info_parts infoEnt
  have HO := Lib.hid ((HCH.out.below HB.out).sl)
  have HLH : Hid (Sl w3 5 (some ⟨b, o, none⟩) p ((l.take p).map EntC.cells)) := Lib.hid (by have h := HO.out.head (k := p) (by have := HP.out; omega); rwa [← List.map_take] at h)
  have HLT : Hid (Sl w3 5 (if c = p + 1 then some ⟨b, o, none⟩ else some ⟨b, o + (p + 1) * 5, none⟩) (n - (p + 1)) ((l.drop (p + 1)).map EntC.cells)) := Lib.hid (by have h := HO.out.tailIf (k := p + 1) HC.out; rwa [← List.map_drop] at h)
  go_region_law (first
    | (refine step_append_sl _ (by rfl) (.tmp 29) (.tmp 32) _ (by rfl) w3.heap.size 24 i0 _ 5 64 Tryd.underlying33 hi0 hz0 hz1 hz2 rfl (by omega) (.slice (some ⟨w3.heap.size, 0, none⟩) 0 0) 0 [] (by rfl) (Own.empty (by simp) (Nat.le_refl _)) (some ⟨b, o, none⟩) (p) c ((l.take (p)).map EntC.cells) (by rfl) (by exact Sl.alloc (Sl.drew HLH.out) _) (ents_len _) (ents_one _) (by have := HN.out; have := HP.out; simp only [maxLen]; omega) (by have := HN.out; have := HP.out; omega) (by simp) ?_
       intro Aa1 ca1 wa1 hown1 hg1 hat1
       rw [Nat.zero_add, List.nil_append] at hown1
       have hbA : Below w3.heap.size w3 wa1 := (((((Below.refl w3.heap.size w3).alloc (Nat.le_refl _) _).drew).grown hg1 (by simp) (fun k hk => by simp [Value.ownBlock] at hk; omega))))
    | (refine step_append_sl _ (by rfl) (.tmp 33) (.tmp 37) _ (by rfl) w3.heap.size 24 i0 _ 5 64 Tryd.underlying33 hi0 hz0 hz1 hz2 rfl (by omega) (.slice Aa1 (p) ca1) (p) ((l.take (p)).map EntC.cells) (by rfl) (by exact hown1) _ (n - (p + 1)) _ ((l.drop (p + 1)).map EntC.cells) (by rfl) (by exact HLT.out.below hbA) (ents_len _) (ents_one _) (by have := HN.out; have := HP.out; simp only [maxLen]; omega) (by have := HN.out; have := HP.out; omega) (by have := hg1.size; simp at this ⊢; omega) ?_
       intro Aa2 ca2 wa2 hown2 hg2 hat2
       have hbB : Below w3.heap.size w3 wa2 := hown1.below_grown (Nat.le_refl _) hbA.size hbA hg2))
  have hX := Own.sl' hown2
  rw [← List.map_append] at hX
  have HX := Lib.hid hX
  have HB5 := Lib.hid (HB.out.trans (hbB.mono HB.out.size))
  have HO5 := Lib.hid (HO.out.below hbB)
  have HLH5 : Hid (Sl wa2 5 (some ⟨b, o, none⟩) (p + 1) ((l.take (p + 1)).map EntC.cells)) := Lib.hid (by have h := HO5.out.head (k := p + 1) (by have := HP.out; omega); rwa [← List.map_take] at h)
  have HLT5 : Hid (Sl wa2 5 (if c = p then some ⟨b, o, none⟩ else some ⟨b, o + p * 5, none⟩) (n - p) ((l.drop p).map EntC.cells)) := Lib.hid (by have h := HO5.out.tailIf (k := p) HC.out; rwa [← List.map_drop] at h)
  clear hX hown1 hg1 hat1 hbA hown2 hg2 hat2 hbB HLH HLT HO HB
  generalize (if c = p + 1 then some (⟨b, o, none⟩ : Addr) else some ⟨b, o + (p + 1) * 5, none⟩) = A37 at *
  have hp1c : (p : Int) + 1 ≤ (c : Int) := by have := HC.out; have := HP.out; omega
  have hpn' : (p : Int) ≤ (n : Int) := by omega
  go_upto_region 6 with (fail)
  go_region_law (first
    | (refine step_append_sl _ (by rfl) (.tmp 39) (.tmp 43) _ (by rfl) wa2.heap.size 24 i0 _ 5 64 Tryd.underlying33 hi0 hz0 hz1 hz2 rfl (by omega) (.slice (some ⟨wa2.heap.size, 0, none⟩) 0 0) 0 [] (by rfl) (Own.empty (by simp) (Nat.le_refl _)) (some ⟨b, o, none⟩) (p + 1) c ((l.take (p + 1)).map EntC.cells) (by rfl) (by exact Sl.alloc (Sl.drew HLH5.out) _) (ents_len _) (ents_one _) (by have := HN.out; have := HP.out; simp only [maxLen]; omega) (by have := HN.out; have := HP.out; omega) (by simp) ?_
       intro Ab1 cb1 wb1 hown1 hg1 hat1
       rw [Nat.zero_add, List.nil_append] at hown1
       have hbA : Below wa2.heap.size wa2 wb1 := (((((Below.refl wa2.heap.size wa2).alloc (Nat.le_refl _) _).drew).grown hg1 (by simp) (fun k hk => by simp [Value.ownBlock] at hk; omega))))
    | (refine step_append_sl _ (by rfl) (.tmp 44) (.tmp 47) _ (by rfl) wa2.heap.size 24 i0 _ 5 64 Tryd.underlying33 hi0 hz0 hz1 hz2 rfl (by omega) (.slice Ab1 (p + 1) cb1) (p + 1) ((l.take (p + 1)).map EntC.cells) (by rfl) (by exact hown1) _ (n - (p)) _ ((l.drop (p)).map EntC.cells) (by rfl) (by exact HLT5.out.below hbA) (ents_len _) (ents_one _) (by have := HN.out; have := HP.out; simp only [maxLen]; omega) (by have := HN.out; have := HP.out; omega) (by have := hg1.size; simp at this ⊢; omega) ?_
       intro Ab2 cb2 wb2 hown2 hg2 hat2
       have hbB : Below wa2.heap.size wa2 wb2 := hown1.below_grown (Nat.le_refl _) hbA.size hbA hg2))
  have hY := Own.sl' hown2
  rw [← List.map_append] at hY
  have HB6 := Lib.hid (HB5.out.trans (hbB.mono HB5.out.size))
  have hwo : checkF (vsOf (l.take p ++ l.drop (p + 1))) = if p + 1 = n then 0 else 23 := by
    have e : vsOf (l.take p ++ l.drop (p + 1)) = (vsOf l).take p ++ (vsOf l).drop (p + 1) := by unfold vsOf; rw [List.map_append, List.map_take, List.map_drop]
    have hl := vsOf_len l
    rw [HL.out] at hl
    rw [e]
    split
    · exact check_last HR.out (by rw [hl]; assumption)
    · exact check_without HR.out (by have := HP.out; omega)
  have htw : checkF (vsOf (l.take (p + 1) ++ l.drop p)) = 5 := by
    have e : vsOf (l.take (p + 1) ++ l.drop p) = (vsOf l).take (p + 1) ++ (vsOf l).drop p := by unfold vsOf; rw [List.map_append, List.map_take, List.map_drop]
    have hl := vsOf_len l
    rw [HL.out] at hl
    rw [e]
    exact check_twice HR.out (by have := HN.out; omega) (by have := HP.out; omega)
  have hhd : checkF (vsOf (l.take p)) = 0 := by
    have e : vsOf (l.take p) = (vsOf l).take p := by unfold vsOf; rw [List.map_take]
    rw [e]
    exact check_take HR.out p
  have HWO := Lib.hid (fun W (hb : Below wa2.heap.size wa2 W) => Check_any W Aa2 _ ca2 _ ((HCH.out.part HB5.out HX.out (fun x hx => by
    rcases List.mem_append.1 hx with hx | hx
    · exact List.mem_of_mem_take hx
    · exact List.mem_of_mem_drop hx)).below hb) _ hwo)
  have HTW := Lib.hid (fun W (hb : Below wb2.heap.size wb2 W) => Check_any W Ab2 _ cb2 _ ((HCH.out.part HB6.out hY (fun x hx => by
    rcases List.mem_append.1 hx with hx | hx
    · exact List.mem_of_mem_take hx
    · exact List.mem_of_mem_drop hx)).below hb) 5 htw)
  have HHD := Lib.hid (fun W (hb : Below wb2.heap.size wb2 W) => Check_any W (some ⟨b, o, none⟩) p c _ ((HCH.out.part HB6.out ((HO5.out.below hbB).head (k := p) (by have := HP.out; omega)  |> fun h => by rwa [← List.map_take] at h) (fun x hx => List.mem_of_mem_take hx)).below hb) 0 hhd)
  have HB7 := Lib.hid hbB
  have HB := Lib.hid (Below.refl wb2.heap.size wb2)
  have HBF := Lib.hid HB6.out
  clear hwo htw hhd hY HX HO5 HLH5 HLT5 hown1 hg1 hat1 hbA hown2 hg2 hat2 hbB HB5 HB6 hw1 htn hp10 hp1 hp1c
  generalize (if c = p then some (⟨b, o, none⟩ : Addr) else some ⟨b, o + p * 5, none⟩) = A47 at *
  go_wp2_with (fail)
  ((with_reducible refine (HHD.out _ HB.out).mono ?_); rintro _ w8 ⟨rfl, hb8⟩)
  have hbT := hb8
  replace HB := Lib.hid (HB.out.trans (hbT.mono HB.out.size))
  clear hbT hb8 
  go_wp2_with (fail)
  ((with_reducible refine (HTW.out _ HB.out).mono ?_); rintro _ w9 ⟨rfl, hb9⟩)
  have hbT := hb9
  replace HB := Lib.hid (HB.out.trans (hbT.mono HB.out.size))
  clear hbT hb9 
  have hwn : IntKind.i64.wrap ((n : Int) - 1) = (n : Int) - 1 := IntWalk.i64_in _ (by have := HN.out; omega)
  by_cases hlast : p + 1 = n
  · have hlb : ((p : Int) == (n : Int) - 1) = true := by rw [beq_iff_eq]; omega
    rw [if_pos hlast] at HWO
    clear hlast
    go_wp2_with (fail)
    ((with_reducible refine (HWO.out _ (HB7.out.trans (HB.out.mono HB7.out.size))).mono ?_); rintro _ w10 ⟨rfl, hb10⟩)
    have hbT := hb10
    replace HB := Lib.hid (HB.out.trans (hbT.mono HB.out.size))
    clear hbT hb10 
    go_wp2_with (fail)
    go_ret
    exact ⟨rfl, HBF.out.trans (HB.out.mono HBF.out.size)⟩
  · have hlb : ((p : Int) == (n : Int) - 1) = false := by rw [beq_eq_false_iff_ne]; omega
    rw [if_neg hlast] at HWO
    clear hlast
    go_wp2_with (fail)
    ((with_reducible refine (HWO.out _ (HB7.out.trans (HB.out.mono HB7.out.size))).mono ?_); rintro _ w10 ⟨rfl, hb10⟩)
    have hbT := hb10
    replace HB := Lib.hid (HB.out.trans (hbT.mono HB.out.size))
    clear hbT hb10 
    go_wp2_with (fail)
    go_ret
    exact ⟨rfl, HBF.out.trans (HB.out.mono HBF.out.size)⟩
end Go.Proofs.YtindfkekinpchaaDoor
