/- merge: who is convicted (plain Lean). -/
/- kerbsidelaw49: DeviceHands, walked. -/
import Derived.Test.YtjncmlglhegnaaaGreatDoorMrgC
import Derived.Test.YtjncmlglhegnaaaGreatDoorMrgP7
import Derived.Test.YtjncmlglhegnaaaGreatDoorDevWC
namespace Go.Proofs.YtjncmlglhegnaaaGreatDoor
open Go.RowKit Go.Sort Go.Lib

theorem forkB_dev {l : List EntV} {d : Int} (h : forkB (joinF l) d = true) : 0 ≤ d ∧ d ≤ 7 := by
  obtain ⟨x, y, hx, _, _, rfl⟩ := (forkB_iff (joinF_asc l) (joinF_right l)).1 h
  exact ⟨(joinF_right l x hx).d0, (joinF_right l x hx).d1⟩
theorem mem_forkO {l : List EntV} {d : Int} : d ∈ forkO l ↔ forkB (joinF l) d = true := by
  unfold forkO forkI
  rw [List.mem_map]
  constructor
  · rintro ⟨a, ha, rfl⟩
    obtain ⟨h1, h2⟩ := List.mem_filter.1 ha
    have h1 := List.mem_range.1 h1
    rw [List.getD_eq_getElem?_getD, forksL_at _ h1] at h2
    exact h2
  · intro h
    obtain ⟨h0, h7⟩ := forkB_dev h
    refine ⟨d.toNat, List.mem_filter.2 ⟨List.mem_range.2 (by omega), ?_⟩, by omega⟩
    rw [List.getD_eq_getElem?_getD, forksL_at _ (by omega), show ((d.toNat : Nat) : Int) = d by omega]
    exact h
/-- nobody is convicted, if no two entries of the list convict -/
theorem forkO_nil {l : List EntV} (h : ∀ x ∈ l, ∀ y ∈ l, convictsB x y = false) : forkO l = [] := by
  refine List.eq_nil_iff_forall_not_mem.2 fun d hd => ?_
  obtain ⟨x, y, hx, hy, hc, _⟩ := (forkB_iff (joinF_asc l) (joinF_right l)).1 (mem_forkO.1 hd)
  rw [h x (mem_joinF.1 hx).1 y (mem_joinF.1 hy).1] at hc
  cases hc
end Go.Proofs.YtjncmlglhegnaaaGreatDoor
namespace Go.Proofs.YtjncmlglhegnaaaGreatDoor
open Go.RowKit Go.Sort Go.Lib

set_option maxRecDepth 100000 in
set_option maxHeartbeats 32000000 in
theorem deviceHands_any (w : World) (hE : Env w.heap.size w) (A : Option Addr) (n c : Nat) (l : List ActE) (hs : Sl w 5 A n (l.map ActE.cells)) (hok : ∀ a ∈ l, a.ok) (hks : ActsAtE w l) (u : Int) (b : Int) (hb : 0 ≤ b ∧ b ≤ 255) :
    Calls Tryz.prog 6 #[.slice A n c, .int .i64 u, .int .u8 b] w fun e w' => e = .returned (.bool true) ∧ Below w.heap.size w w' := by
  have HE := Lib.hid hE
  have HSA := Lib.hid (sane_any w hE)
  have HS := Lib.hid hs
  have HOK := Lib.hid hok
  have HKS := Lib.hid hks
  have hll : l.length = n := by simpa using hs.1
  have HL := Lib.hid hll
  have HFI := Lib.hid (fun W (hb : Below w.heap.size w W) => fine_any49 W A n c l (hs.below hb) u)
  have HB0 := Lib.hid hb
  clear hE hs hok hks hll hb
  go_enter Tryz.func6, Tryz.ntmps6
  go_wp2_with (fail)
  ((with_reducible refine (HSA.out).mono ?_); rintro _ w1 ⟨rfl, hb1⟩)
  have HB := Lib.hid hb1
  clear hb1 HSA
  go_wp2_with (fail)
  ((with_reducible refine (HFI.out _ HB.out).mono ?_); rintro _ _ ⟨r, rfl, hr, rfl⟩)
  have HR := Lib.hid hr
  clear hr
  cases r
  · go_wp2_with (fail)
    go_ret
    exact ⟨rfl, HB.out⟩
  obtain ⟨hfew, hu1, hu2⟩ := HR.out (by simp)
  have HF := Lib.hid hfew
  have HU := Lib.hid (And.intro hu1 hu2)
  clear hfew hu1 hu2 HR HFI
  have HN : Hid (n ≤ 25) := Lib.hid (by have := HF.out.2; rw [HL.out] at this; exact this)
  obtain ⟨p, hp⟩ : ∃ p : Nat, b % 8 = (p : Int) := ⟨(b % 8).toNat, by have := Int.emod_nonneg b (b := 8) (by omega); omega⟩
  have HP : Hid (p < 8) := Lib.hid (by have := Int.emod_lt_of_pos b (b := 8) (by omega); omega)
  have hpt : b.tmod 8 = (p : Int) := by rw [Int.tmod_eq_emod_of_nonneg HB0.out.1]; exact hp
  have hwi : IntKind.i64.wrap b = b := IntWalk.i64_in _ (by have := HB0.out; omega)
  have hwp : IntKind.i64.wrap (p : Int) = (p : Int) := IntWalk.i64_in _ (by have := HP.out; omega)
  have HBG := Lib.hid (begin_all (Sep.of_below HB.out) HE.out (p : Int) u (by omega) (by have := HP.out; omega) HU.out.1 HU.out.2)
  go_wp2_with (fail)
  ((with_reducible refine (HBG.out).mono ?_); rintro _ w2 ⟨W, v0, rfl, hI0, hn0, hu0, hh0, hs0, hx0, h2⟩)
  have HI0 := Lib.hid hI0
  have HV0 := Lib.hid (And.intro hn0 (And.intro hu0 hx0))
  have H2 := Lib.hid (h2.ownNil (32) 5)
  clear hI0 hn0 hu0 hh0 hs0 hx0 h2 HBG hp hpt hwi hwp HB
  go_wp2_with (fail)
  go_loopw [9, 10] (fun av iv wr => ∃ (k : Nat) (v : WorV) (A1 : Option Addr) (c1 : Nat), k ≤ n ∧ av = .slice A1 v.ex.length c1 ∧ iv = .int .i64 (k : Int) ∧ WI k v ∧ v.ex.length ≤ 30 * k ∧ (∀ e ∈ v.ex, e.v ∈ v.handed) ∧ Sep w wr (worR W v :: ownR 32 5 (.slice A1 v.ex.length c1) v.ex.length (v.ex.map EntC.cells) :: [])) (fun _ iv _ => n - (Go.RowKit.intOf iv).toNat)
  case atStart =>
    refine ⟨0, v0, none, 0, Nat.zero_le _, by rw [HV0.out.2.2]; rfl, rfl, HI0.out, by rw [HV0.out.2.2]; simp, by rw [HV0.out.2.2]; simp, ?_⟩
    have h := H2.out.sw
    rw [HV0.out.2.2]
    exact h
  case round =>
    obtain ⟨k, v, A1, c1, hk, rfl, rfl, hI, hxl, hxm, hq⟩ := hrel
    obtain ⟨wo, rfl⟩ : ∃ wo : World, wo = wr := ⟨_, rfl⟩
    have HI := Lib.hid hI
    have HXL := Lib.hid hxl
    have HXM := Lib.hid hxm
    have HQ := Lib.hid hq
    clear hI hxl hxm hq H2 HI0 HV0
    obtain ⟨⟨B0, X0, L1, L2, L3, L4⟩, hv0, hq0⟩ := HQ.out.worPart
    have HVW := Lib.hid hv0
    have HQW := Lib.hid hq0
    simp only [worLs, List.cons_append] at HQW
    clear hv0 hq0
    obtain ⟨zW, kW, fW⟩ := HQW.out.loc
    by_cases hlt : k < n
    · obtain ⟨a, ha⟩ : ∃ v, l[k]? = some v := ⟨_, List.getElem?_eq_getElem (by rw [HL.out]; exact hlt)⟩
      have HA := Lib.hid ha
      have HMA := Lib.hid (List.mem_of_getElem? ha)
      obtain ⟨ba, oa, rfl, hbl, d0, d1, d2, d3, d4⟩ := act_at (HS.out.below HQ.out.base) ha
      have hki : (k : Int) < (n : Int) := by omega
      have hk0 : (0 : Int) ≤ (k : Int) := by omega
      have hwk : IntKind.i64.wrap ((k : Int) + 1) = (k : Int) + 1 := IntWalk.i64_in _ (by have := HN.out; omega)
      have HLT := Lib.hid hlt
      have HDO := Lib.hid (do_all HQ.out HE.out HI.out (by have := HN.out; omega) a (HOK.out a HMA.out) (HF.out.1 a HMA.out) (HKS.out a HMA.out))
      simp only [actX] at HDO
      clear ha hlt hk
      go_wp2_with (fail)
      clear zW kW fW d0 d1 d2 d3 d4 hbl
      ((with_reducible refine (HDO.out).mono ?_); rintro _ w3 ⟨v', rfl, hI', hdr, hq'⟩)
      have HI' := Lib.hid hI'
      have HDR := Lib.hid hdr
      have HQ' := Lib.hid hq'
      clear hI' hdr hq' HDO HQ
      obtain ⟨ba2, oa2, hA2, hbl, d0, d1, d2, d3, d4⟩ := act_at (HS.out.below HQ'.out.base) HA.out
      simp only [Option.some.injEq, Addr.mk.injEq, and_true] at hA2
      obtain ⟨rfl, rfl⟩ := hA2
      clear d1 d2 d3 d4 HQW HVW
      obtain ⟨lh, hlh, hlat, ⟨B', px, vd, vl, vt, hloc⟩, hsee, hq2⟩ := HQ'.out.worHand
      have HLH := Lib.hid hlh
      have HLAT := Lib.hid hlat
      have HQ2 := Lib.hid hq2
      have HLW := Lib.hid hloc
      have hex := HDR.out.ex
      have HEX := Lib.hid hex
      clear hlh hlat hsee hq2 hloc hex
      by_cases h3 : a.kind = 3
      case neg =>
        have h3b : (a.kind == 3) = false := beq_eq_false_iff_ne.2 h3
        clear h3
        go_wp2_with (fail)
        go_roundw
        case rel =>
          have hx := HEX.out
          exact ⟨k + 1, v', A1, c1, HLT.out, by rw [hx], by go_num, HI'.out, by rw [hx]; have := HXL.out; omega, by rw [hx]; exact fun e he => HDR.out.hand.mem (HXM.out e he), by have h := HQ'.out; rw [← hx] at h; exact h⟩
        case measure => have := HLT.out; simp [Go.RowKit.intOf]; omega
      · rw [h3] at d0
        have h3b : (a.kind == 3) = true := by rw [h3]; rfl
        obtain ⟨i0, hi0, hz0, hz1, hz2⟩ := info_parts infoEnt
        have HLL2 : Hid (lh.es.length ≤ 30) := Lib.hid (by
          have h1 := congrArg List.length HLH.out
          rw [vsOf_len] at h1
          have h2 := HI'.out.core.hand.length_le
          have h5 := HI'.out.core.dur.length_le
          have h4 := HI'.out.core.len
          have := HN.out
          have := HLT.out
          omega)
        have HVL : Hid (v.ex.length ≤ 750) := Lib.hid (by have := HXL.out; have := HN.out; have := HLT.out; omega)
        obtain ⟨zW, kW, fW⟩ := HLW.out
        clear h3
        go_wp2_with (at_builtin; (refine wpList_append_sl _ rfl (.tmp 49) (.tmp 53) _ rfl w.heap.size 32 i0 _ 5 64 Tryz.underlying22 hi0 hz0 hz1 hz2 rfl (by omega) _ v.ex.length (v.ex.map EntC.cells) rfl HQ'.out.sw.own lh.A lh.es.length lh.c (lh.es.map EntC.cells) rfl HLAT.out.sl (ents_len _) (ents_one _) (by have := HVL.out; have := HLL2.out; simp only [maxLen]; omega) (by have := HVL.out; have := HLL2.out; omega) HQ'.out.base.size ?_); intro A9 c9 w9 hown9 hg9 hat9; have HQ9 := Lib.hid (HQ2.out.sw.grown hown9 hg9 hat9).sw; clear hown9 hg9 hat9)
        go_roundw
        case rel =>
          have hx := HEX.out
          have hl : (v'.ex ++ lh.es).length = v.ex.length + lh.es.length := by rw [List.length_append, hx]
          refine ⟨k + 1, { v' with ex := v'.ex ++ lh.es }, A9, c9, HLT.out, ?_, by go_num, ⟨HI'.out.core, HI'.out.dev⟩, ?_, ?_, ?_⟩
          · show _ = Value.slice A9 (v'.ex ++ lh.es).length c9
            rw [hl]
          · show (v'.ex ++ lh.es).length ≤ _
            rw [hl]; have := HXL.out; have := HLL2.out; omega
          · intro e he
            rcases List.mem_append.1 he with g | g
            · rw [hx] at g; exact HDR.out.hand.mem (HXM.out e g)
            · show e.v ∈ v'.handed
              rw [← HLH.out]; exact List.mem_map.2 ⟨e, g, rfl⟩
          · show Sep w w9 (worR W { v' with ex := v'.ex ++ lh.es } :: ownR 32 5 (.slice A9 (v'.ex ++ lh.es).length c9) (v'.ex ++ lh.es).length ((v'.ex ++ lh.es).map EntC.cells) :: [])
            rw [hl, List.map_append, hx]
            have h := HQ9.out
            rw [hx] at h
            exact h
        case measure => have := HLT.out; simp [Go.RowKit.intOf]; omega
    · obtain rfl : k = n := by omega
      have hki : ¬ ((k : Int) < (k : Int)) := by omega
      clear hlt hk
      go_wp2_with (fail)
      clear zW kW fW
      have hArm := Arm_sep HQW.out.r3 0 (by decide) [] none 0 (Sl.nil_ _ _ _) (by decide) _ rfl
      rw [List.length_nil] at hArm
      ((with_reducible refine (hArm).mono ?_); rintro _ w3 ⟨rfl, h3⟩)
      have H3 := Lib.hid h3.l3
      clear h3 hArm HQW HQ
      obtain ⟨zW, kW, fW⟩ := H3.out.loc
      have HLO := Lib.hid (Lose_sep H3.out.r3 0 (by decide) _ rfl)
      go_wp2_with (fail)
      clear zW kW fW
      ((with_reducible refine (HLO.out).mono ?_); rintro _ w4 ⟨rfl, h4⟩)
      have H4 := Lib.hid h4.l3
      clear h4 HLO H3
      obtain ⟨zW, kW, fW⟩ := H4.out.loc
      have hCr := Crash_sep H4.out.r3 [] none 0 (Sl.nil_ _ _ _) (by decide) _ rfl
      rw [List.length_nil] at hCr
      have HCR := Lib.hid hCr
      clear hCr
      go_wp2_with (fail)
      clear zW kW fW
      ((with_reducible refine (HCR.out).mono ?_); rintro _ w5 ⟨rfl, h5⟩)
      have H5 := Lib.hid h5.l3
      clear h5 HCR H4
      obtain ⟨zW, kW, fW⟩ := H5.out.loc
      have HST := Lib.hid (Start_sep H5.out.r3 _ rfl)
      go_wp2_with (fail)
      clear zW kW fW
      ((with_reducible refine (HST.out).mono ?_); rintro _ w6 ⟨rfl, h6⟩)
      obtain ⟨d9, hd9⟩ : ∃ d9, StartF (crashF (LoseF (ArmF v.d 0 []) 0) []) = d9 := ⟨_, rfl⟩
      rw [hd9] at h6
      have hc9 : WC k d9 v.number v.units v.handed v.durable v.last v.torn v.spent none := by rw [← hd9]; exact (((HI.out.core.arm 0 (by decide) [] (by decide)).lose 0 (by decide)).crash []).start
      have hca := crash_armed (LoseF (ArmF v.d 0 []) 0) [] rfl
      have h9a : d9.armed = 0 := by rw [← hd9]; exact hca.1
      have h9l : d9.lost = 0 := by rw [← hd9]; exact hca.2
      have h9d : d9.down = false := by rw [← hd9]; rfl
      have HW6 : Hid (Sep w w6 (worR W { v with d := d9 } :: ownR 32 5 (.slice A1 v.ex.length c1) v.ex.length (v.ex.map EntC.cells) :: [])) := Lib.hid (Sep.worPack ⟨B0, X0, L1, L2, L3, L4⟩ HVW.out h6.l3)
      obtain ⟨g1, g2, g3, g4, g5, g6, _, g8, _⟩ := WC.openAll (v := { v with d := d9 }) hc9 (by have := HN.out; omega)
      obtain ⟨x, hxo, hx1, hx2, hx3, hx4, hx5⟩ := WC.lastly (v := { v with d := d9 }) hc9 (by have := HN.out; omega) h9a h9l h9d
      have HOP := Lib.hid (wopen_any HW6.out HE.out g1 g2)
      have HX := Lib.hid (And.intro hxo (And.intro hx1 hx2))
      have HX3 : Hid (v.handed <+: x.ents) := Lib.hid hx3
      have HX4 := Lib.hid hx4
      have HX5 := Lib.hid hx5
      have HG : Hid ((openW { v with d := d9 }).handed = v.handed ∧ (openW { v with d := d9 }).ex = v.ex) := Lib.hid ⟨g6, g8⟩
      clear h6 HST H5 hc9 hca h9a h9l h9d hd9 g1 g2 g3 g4 g5 g6 g8 hxo hx1 hx2 hx3 hx4 hx5 HVW
      go_wp2_with (fail)
      ((with_reducible refine (HOP.out).mono ?_); rintro _ w7 ⟨rfl, h7⟩)
      obtain ⟨v7, hv7⟩ : ∃ v7, openW { v with d := d9 } = v7 := ⟨_, rfl⟩
      rw [hv7] at h7 HX HG
      obtain ⟨⟨B7, X7, K1, K2, K3, K4⟩, hvs7, hq7⟩ := h7.worPart
      simp only [worLs, List.cons_append, HX.out.1, devO, devP, List.nil_append] at hq7
      have HQ7 := Lib.hid hq7
      have HVS7 := Lib.hid hvs7
      clear h7 hq7 hvs7 HOP HW6 hv7
      obtain ⟨zW, kW, fW⟩ := HQ7.out.loc
      have hrt := checkF_right HX4.out
      have HHD := Lib.hid (Hand_sep HQ7.out.w1 (by have := HX5.out; have := HN.out; omega) hrt _ rfl)
      go_wp2_with (fail)
      clear zW kW fW
      ((with_reducible refine (HHD.out).mono ?_); rintro _ w8 ⟨A8, c8, fs, hfs, rfl, h8⟩)
      rw [HX.out.2.1]
      rw [HX.out.2.2] at hfs
      have HFS := Lib.hid hfs
      have HQ8 := Lib.hid h8
      have HRT := Lib.hid hrt
      clear h8 hfs HHD HQ7 hrt
      have hlen : ∀ e ∈ fs, e.v.seen.length ≤ 1099511627776 ∧ e.v.text.length ≤ 140737488351232 := fun e he => by
        have h := HRT.out e.v (by rw [← HFS.out]; exact List.mem_map.2 ⟨e, he, rfl⟩)
        have := h.len
        have := h.txt
        exact ⟨by omega, by omega⟩
      have HLF := Lib.hid hlen
      have hcf : ChAt w8 A8 fs.length fs := ⟨HQ8.out.own.sl', HQ8.out.sw.sees, hlen⟩
      have HFL : Hid (fs.length ≤ 25) := Lib.hid (by rw [← vsOf_len, HFS.out]; have := HX5.out; have := HN.out; omega)
      have HBG := Lib.hid (begins49_any w8 A8 K1.A fs.length K1.es.length c8 K1.c fs K1.es hcf HQ8.out.r6.sees.1.1 (own_capE HQ8.out.own).1 (by have := HFL.out; omega) (by rw [HVS7.out.1, HG.out.1, HFS.out]; exact HX3.out))
      clear hlen hcf
      obtain ⟨zW, kW, fW⟩ := HQ8.out.r5.loc
      go_wp2_with (fail)
      clear zW kW fW
      ((with_reducible refine (HBG.out).mono ?_); rintro _ w9 ⟨rfl, hb9⟩)
      have HQ9 := Lib.hid (HQ8.out.below hb9)
      clear hb9 HBG HQ8
      have HP9 := Lib.hid (HQ9.out.perm (List.perm_middle (l₁ := [_, _, _, _, _, _]) (l₂ := [])))
      obtain ⟨i0, hi0, hz0, hz1, hz2⟩ := info_parts infoEnt
      have HVL : Hid (v.ex.length ≤ 750) := Lib.hid (by have := HXL.out; have := HN.out; omega)
      go_wp2_with (at_builtin; (refine wpList_append_d (by first | rfl | simp [go_sem]) (.tmp 114) (.tmp 115) 22 rfl w.heap.size 32 i0 _ 5 64 Tryz.underlying22 hi0 hz0 hz1 hz2 rfl (by omega) (.slice A1 v.ex.length c1) v.ex.length (v.ex.map EntC.cells) rfl HP9.out.own A8 fs.length c8 (fs.map EntC.cells) rfl HQ9.out.own.sl' (ents_len _) (ents_one _) (by have := HVL.out; have := HFL.out; simp only [maxLen]; omega) (by have := HVL.out; have := HFL.out; omega) HP9.out.base.size ?_); intro A10 c10 w10 hown10 hg10 hat10; have HQ10 := Lib.hid (HP9.out.grown hown10 hg10 hat10); clear hown10 hg10 hat10)
      have hin : ∀ e ∈ v.ex ++ fs, e.v ∈ x.ents := fun e he => by
        rcases List.mem_append.1 he with g | g
        · exact HX3.out.mem (HXM.out e g)
        · rw [← HFS.out]; exact List.mem_map.2 ⟨e, g, rfl⟩
      have hrow := HQ10.out.own.sl'
      rw [← List.map_append] at hrow
      have hca : ChAt w10 A10 (v.ex.length + fs.length) (v.ex ++ fs) := ⟨hrow, fun e he => by
        rcases List.mem_append.1 he with g | g
        · have h := HQ10.out.drop.drop.drop.drop.drop.drop.sees.1.2
          rw [HG.out.2] at h
          exact h e g
        · exact HQ10.out.drop.drop.sees e g, fun e he => by
        have h := HRT.out e.v (hin e he)
        have := h.len
        have := h.txt
        exact ⟨by omega, by omega⟩⟩
      have HFK := Lib.hid (Forks_any w10 (HE.out.below HQ10.out.base) HQ10.out.base.size A10 (v.ex.length + fs.length) c10 (v.ex ++ fs) hca (by have := HVL.out; have := HFL.out; omega) [] (forkO_nil fun y hy z hz => by
        obtain ⟨e1, h1, rfl⟩ := List.mem_map.1 hy
        obtain ⟨e2, h2, rfl⟩ := List.mem_map.1 hz
        obtain ⟨i1, g1⟩ := List.mem_iff_getElem?.1 (hin e1 h1)
        obtain ⟨i2, g2⟩ := List.mem_iff_getElem?.1 (hin e2 h2)
        exact convicts_own HX4.out g1 g2))
      clear hin hrow hca
      ((with_reducible refine (HFK.out).mono ?_); rintro _ w11 ⟨A11, c11, rfl, _, hb11⟩)
      have HB11 := Lib.hid (HQ10.out.base.trans (hb11.mono HQ10.out.base.size))
      clear hb11 HFK HQ10 HP9 HQ9
      simp only [List.length_nil]
      go_wp2_with (fail)
      go_ret
      exact ⟨rfl, HB11.out⟩
end Go.Proofs.YtjncmlglhegnaaaGreatDoor
