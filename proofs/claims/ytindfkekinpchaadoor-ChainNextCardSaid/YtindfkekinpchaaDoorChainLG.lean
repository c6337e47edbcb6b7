/- kerbsidelaw46: ChainNext where there is a next entry, walked (the head as gen_chainnext.py writes it). -/
import Derived.Test.YtindfkekinpchaaDoorChainLF
namespace Go.Proofs.YtindfkekinpchaaDoor
open Go.RowKit Go.Sort Go.Lib

set_option maxRecDepth 100000 in
set_option maxHeartbeats 64000000 in
theorem chainNext_yes (w : World) (hE : Env w.heap.size w) (A : Option Addr) (n c : Nat) (l : List EntC) (hs : Sl w 5 A n (l.map EntC.cells)) (ha : ∀ e ∈ l, EntAt w e) (device day : Int) (B : Option Addr) (m d : Nat) (known : List Int) (hk : Sl w 1 B m (known.map intC)) (text : List UInt8) (ht : text.length ≤ maxLen) (hv2 : (nextF (vsOf l) device day known text).2 = 0) :
    Calls Tryd.prog 7 #[.slice A n c, .int .i64 device, .int .i64 day, .slice B m d, .string ⟨text.toArray⟩] w fun x w' => x = .returned (.bool true) ∧ Below w.heap.size w w' := by
  have HSA := Lib.hid (fun W (hb : Below w.heap.size w W) => sane_any W ((hE.below hb).up hb.size))
  have HFW := Lib.hid (fun W (hb : Below w.heap.size w W) => few20 W A n c l (hs.below hb))
  have HS := Lib.hid hs
  have HA := Lib.hid ha
  have hll : l.length = n := by simpa using hs.1
  have HL := Lib.hid hll
  have HKN := Lib.hid hk
  have hkl : known.length = m := by simpa using hk.1
  have HKL := Lib.hid hkl
  have HB := Lib.hid (Below.refl w.heap.size w)
  have hsz := str_size text
  have HTX := Lib.hid ht
  clear hE hs ha hll hk hkl ht
  go_enter Tryd.func7, Tryd.ntmps7
  go_wp2_with (fail)
  ((with_reducible refine (HSA.out _ HB.out).mono ?_); rintro _ w1 ⟨rfl, hb1⟩)
  have hbT := hb1
  replace HB := Lib.hid (HB.out.trans (hbT.mono HB.out.size))
  clear hbT hb1 
  go_wp2_with (fail)
  ((with_reducible refine (HFW.out _ HB.out).mono ?_); rintro _ w2 ⟨few, rfl, hfew, hb2⟩; have HFE := Lib.hid hfew; clear hfew)
  have hbT := hb2
  replace HB := Lib.hid (HB.out.trans (hbT.mono HB.out.size))
  clear hbT hb2 
  cases few
  · go_wp2_with (fail)
    go_ret
    exact ⟨rfl, HB.out⟩
  obtain ⟨hpl, hln⟩ := HFE.out rfl
  have HCH := Lib.hid (ChAt.of HS.out HA.out hpl)
  have HLN := Lib.hid hln
  clear HFE hpl hln HS HA
  by_cases h12 : 12 < (m : Int)
  · go_wp2_with (fail)
    go_ret
    exact ⟨rfl, HB.out⟩
  have h12' : (m : Int) ≤ 12 := by omega
  by_cases h200 : 200 < (text.length : Int)
  · clear h12
    go_wp2_with (fail)
    go_ret
    exact ⟨rfl, HB.out⟩
  have h200' : (text.length : Int) ≤ 200 := by omega
  have HM : Hid (m ≤ 12) := Lib.hid (by omega)
  have HT : Hid (text.length ≤ 200) := Lib.hid (by omega)
  have HN : Hid (n ≤ 420) := Lib.hid (by have := HLN.out; have := HL.out; omega)
  clear h12 h200
  obtain ⟨v, hv⟩ : ∃ v, nextF (vsOf l) device day known text = v := ⟨_, rfl⟩
  obtain ⟨r, hr⟩ : ∃ r, checkF (vsOf l) = r := ⟨_, rfl⟩
  have HNX := Lib.hid (fun W (hb : Below w.heap.size w W) => Next_any W A n c l (HCH.out.below hb) (by have := HN.out; omega) device day B m d known (HKN.out.below hb) text (by have := HT.out; omega) v hv)
  have HCK := Lib.hid (fun W (hb : Below w.heap.size w W) => Check_any W A n c l (HCH.out.below hb) r hr)
  have HR := Lib.hid hr
  have HV := Lib.hid hv
  rw [hv] at hv2
  have HVN := Lib.hid hv2
  clear hv2
  clear hr hv HTX
  go_wp2_with (fail)
  ((with_reducible refine (HNX.out _ HB.out).mono ?_); rintro _ w3 ⟨⟨⟨xd, xn, xy, xs, xt⟩, xA, xc⟩, hxv, rfl, hxf, hb3⟩; simp only [EntC.cells]; have HXV := Lib.hid hxv; have S3 := Lib.hid hxf.1; clear hxv hxf)
  have hbT := hb3
  replace HB := Lib.hid (HB.out.trans (hbT.mono HB.out.size))
  clear hbT hb3 
  obtain ⟨nx, hnx⟩ : ∃ nx, xs.length = nx := ⟨_, rfl⟩
  simp only [hnx] at S3 ⊢
  have HNL := Lib.hid hnx
  clear hnx
  go_upto_region 5 with (fail)
  have HW4 := Lib.hid (below_alloc w3 (.cells #[.int .i64 xd, .int .i64 xn, .int .i64 xy, .slice xA nx xc, .string ⟨xt.toArray⟩] 24))
  have Y := Lib.hid (Loc.new_ w3 #[.int .i64 xd, .int .i64 xn, .int .i64 xy, .slice xA nx xc, .string ⟨xt.toArray⟩] 24)
  replace HB := Lib.hid (HB.out.trans (HW4.out.mono HB.out.size))
  replace S3 := Lib.hid (S3.out.below HW4.out)
  clear HW4
  generalize hWd : w3.alloc (.cells #[.int .i64 xd, .int .i64 xn, .int .i64 xy, .slice xA nx xc, .string ⟨xt.toArray⟩] 24) = W at *
  clear hWd
  generalize w3.heap.size = y at *
  have hmay := (next_may (l := vsOf l) (device := device) (day := day) (known := known) (text := text) (by have := HT.out; omega)).1 (by rw [HV.out]; exact HVN.out)
  have HMY := Lib.hid hmay.1
  have HST := Lib.hid hmay.2
  have hd0 := hmay.1.d0
  have hd1 := hmay.1.d1
  have hm8 := hmay.1.len
  rw [HKL.out] at hm8
  have hmb : ((m : Int) == 8) = true := by rw [beq_iff_eq]; omega
  have hmi : (m : Int) = 8 := by omega
  have hrb : (r == 0) = true := by rw [beq_iff_eq, ← HR.out]; exact hmay.1.chk
  have hr0 : r = 0 := by rw [← HR.out]; exact hmay.1.chk
  have hni : (n : Int) < 400 := by have h := hmay.1.room; rw [vsOf_len, HL.out] at h; omega
  have hy0 := hmay.1.y0
  have hy1 := hmay.1.y1
  have HM8 := Lib.hid hm8
  have HN4 : Hid (n < 400) := Lib.hid (by omega)
  subst hr0
  have HV2 := Lib.hid HVN.out
  clear hmay hm8
  go_wp2_with (fail)
  ((with_reducible refine (HCK.out _ HB.out).mono ?_); rintro _ w5 ⟨rfl, hb5⟩)
  have hbT := hb5
  replace HB := Lib.hid (HB.out.trans (hbT.mono HB.out.size))
  replace Y := Lib.hid (Y.out.below hbT)
  replace S3 := Lib.hid (S3.out.below hbT)
  clear hbT hb5 
  go_wp2_with (fail)
  clear hmb hmi hrb hni hy0 hy1 hd0 hd1 HNX HCK
  go_loopw [14, 15] (fun mv iv wr => ∃ k : Nat, k ≤ m ∧ iv = .int .i64 (k : Int) ∧ mv = .bool true ∧ Below w5.heap.size w5 wr) (fun _ i _ => m - (Go.RowKit.intOf i).toNat)
  case atStart => exact ⟨0, Nat.zero_le _, rfl, rfl, Below.refl _ _⟩
  case round =>
    obtain ⟨k, hk, rfl, rfl, hb⟩ := hrel
    obtain ⟨wo, rfl⟩ : ∃ wo : World, wo = wr := ⟨_, rfl⟩
    have HBO := Lib.hid hb
    have HKM := Lib.hid hk
    clear hb hk
    by_cases hlt : k < m
    case neg =>
      obtain rfl : k = m := by have := HKM.out; omega
      have hki : (k : Int) ≤ (k : Int) := Int.le_refl _
      clear hlt
      obtain ⟨hy1, hy2⟩ := nextF_yes (l := vsOf l) (device := device) (day := day) (known := known) (text := text) (by rw [HV.out]; exact HV2.out)
      rw [HV.out] at hy1
      have hxn := HXV.out.trans hy1
      have hmy := HMY.out
      have hX0 := HXV.out.trans hy1
      simp only [nextV, EntV.mk.injEq] at hxn
      obtain ⟨h1, h2, h3, h4, h5⟩ := hxn
      rw [vsOf_len, HL.out] at h2
      replace h1 := h1.symm
      subst h1
      replace h3 := h3.symm
      subst h3
      replace h5 := h5.symm
      subst h5
      replace h2 := h2.symm
      subst h2
      have hkl8 := hmy.len
      rw [HKL.out] at hkl8
      obtain rfl : nx = k := by rw [← HNL.out, h4, List.length_set, HKL.out]
      have HOT : Hid (∀ i : Nat, (i : Int) ≠ device → xs[i]? = known[i]?) := Lib.hid (fun i hi => by rw [h4, List.getElem?_set_ne (by have := hmy.d0; omega)])
      have hX1 : checkF (vsOf (l ++ [(⟨⟨device, (n : Int), day, xs, text⟩, xA, xc⟩ : EntC)])) = 0 := by
        have e : vsOf (l ++ [(⟨⟨device, (n : Int), day, xs, text⟩, xA, xc⟩ : EntC)]) = vsOf l ++ [⟨device, (n : Int), day, xs, text⟩] := by unfold vsOf; rw [List.map_append]; rfl
        rw [e, hX0]
        exact hy2
      have HX1 := Lib.hid hX1
      have hvb : (v.2 == 0) = true := by rw [beq_iff_eq]; exact HV2.out
      have hvn : (v.2 != 0) = false := by rw [bne_eq_false_iff_eq]; exact HV2.out
      have HK8 := Lib.hid hkl8
      replace HB := Lib.hid (HB.out.trans (HBO.out.mono HB.out.size))
      replace Y := Lib.hid (Y.out.below HBO.out)
      replace S3 := Lib.hid (S3.out.below HBO.out)
      have HCO := Lib.hid (HCH.out.below HB.out)
      clear hX1 hX0 hy1 hy2 hmy hkl8 h4 HXV
      obtain ⟨zY, kY, fY⟩ := Y.out
      go_upto_region 19 with (fail)
      clear hvb hvn
      obtain ⟨i0, hi0, hz0, hz1, hz2⟩ := info_parts infoEnt
      go_cut [17] (fun s17 wy => ∃ A3 c3, s17 = .slice A3 (n + 1) c3 ∧ ChAt wy A3 (n + 1) (l ++ [(⟨⟨device, (n : Int), day, xs, text⟩, xA, xc⟩ : EntC)]) ∧ Below wo.heap.size wo wy)
      case first =>
        go_region_law (first
          | (refine step_append_sl _ (by rfl) (.tmp 155) (.tmp 156) _ (by rfl) wo.heap.size 24 i0 _ 5 64 Tryd.underlying33 hi0 hz0 hz1 hz2 rfl (by omega) (.slice (some ⟨_, 0, none⟩) 0 0) 0 [] (by rfl) (by first | exact Own.empty (by simp) (by first | exact Nat.le_refl _ | simp) | exact (Own.empty (by simp) (by first | exact Nat.le_refl _ | simp)).alloc _) A n c (l.map EntC.cells) (by rfl) (by first | exact Sl.alloc (Sl.drew HCO.out.sl) _ | exact Sl.alloc (Sl.alloc (Sl.drew HCO.out.sl) _) _) (ents_len _) (ents_one _) (by have := HN4.out; simp only [maxLen]; omega) (by have := HN4.out; omega) (by simp <;> omega) ?_
             intro A1 c1 wA hown1 hg1 hat1
             rw [Nat.zero_add, List.nil_append] at hown1
             have hbA : Below wo.heap.size wo wA := by
               first
                 | exact (((((Below.refl wo.heap.size wo).alloc (Nat.le_refl _) _).drew).grown hg1 (by simp) (fun k hk => by simp [Value.ownBlock] at hk; omega)))
                 | exact ((((((Below.refl wo.heap.size wo).alloc (Nat.le_refl _) _).alloc (by simp) _).drew).grown hg1 (by simp; omega) (fun k hk => by simp [Value.ownBlock] at hk; omega)))
             obtain ⟨zYA, kYA, fYA⟩ := Y.out.below hbA)
          | (refine step_append_sl _ (by rfl) (.tmp 157) (.tmp 159) _ (by rfl) wo.heap.size 24 i0 _ 5 64 Tryd.underlying33 hi0 hz0 hz1 hz2 rfl (by omega) (.slice A1 n c1) n (l.map EntC.cells) (by rfl) (by first | exact hown1 | exact hown1.alloc _) _ 1 _ [[.int .i64 device, .int .i64 (n : Int), .int .i64 day, .slice xA nx xc, .string ⟨text.toArray⟩]] (by rfl) (by first | exact Sl.new_ _ _ _ | exact Sl.grown (by first | exact Sl.drew (Sl.alloc (Sl.new_ wo _ [.int .i64 device, .int .i64 (n : Int), .int .i64 day, .slice xA nx xc, .string ⟨text.toArray⟩]) _) | (have h := Sl.drew (Sl.new_ (wo.alloc (.cells #[] 24)) 24 [.int .i64 device, .int .i64 (n : Int), .int .i64 day, .slice xA nx xc, .string ⟨text.toArray⟩]); simp only [World.size_alloc] at h; exact h)) hg1 (.inr (fun ad e => by injection e with e; subst e; simp [Value.ownBlock]))) (by simp) (by simp [Value.oneCell']) (by have := HN4.out; simp only [maxLen]; omega) (by have := HN4.out; omega) (by first | exact hbA.size | exact Nat.le_trans hbA.size (by simp)) ?_
             intro A2 c2 wB hown2 hg2 hat2
             have hbB : Below wo.heap.size wo wB := by
               first
                 | exact hown1.below_grown (Nat.le_refl _) hbA.size hbA hg2
                 | exact (hown1.alloc _).below_grown (Nat.le_refl _) (by have := hbA.size; simp; omega) (hbA.alloc hbA.size _) hg2))
        all_goals
          go_wp2_with (fail)
          go_meet
          exact ⟨_, _, rfl, HCO.out.snoc (x := (⟨⟨device, (n : Int), day, xs, text⟩, xA, xc⟩ : EntC)) (by show Sl wo 1 xA xs.length _; rw [HNL.out]; exact S3.out) ⟨(by show xs.length ≤ _; rw [HNL.out, HK8.out]; omega), (by show text.length ≤ _; have := HT.out; omega)⟩ (by simp only [EntC.cells, HNL.out]; exact hown2) hbB, hbB⟩
      case rest =>
        obtain ⟨A3, c3, rfl, hch3, hb3⟩ := hcut
        have HC3 := Lib.hid hch3
        replace HB := Lib.hid (HB.out.trans (hb3.mono HB.out.size))
        replace Y := Lib.hid (Y.out.below hb3)
        replace S3 := Lib.hid (S3.out.below hb3)
        have HKC := Lib.hid (fun W (hb : Below wc.heap.size wc W) => Check_any W A3 (n + 1) c3 _ (HC3.out.below hb) 0 HX1.out)
        clear hch3 hb3
        obtain ⟨zY, kY, fY⟩ := Y.out
        go_wp2_with (fail)
        ((with_reducible refine (HKC.out _ (Below.refl _ _)).mono ?_); rintro _ w7 ⟨rfl, hb7⟩)
        have hbT := hb7
        replace HB := Lib.hid (HB.out.trans (hbT.mono HB.out.size))
        replace Y := Lib.hid (Y.out.below hbT)
        replace S3 := Lib.hid (S3.out.below hbT)
        clear hbT hb7 zY kY fY
        obtain ⟨zY, kY, fY⟩ := Y.out
        go_wp2_with (fail)
        clear zY kY fY
        go_loopw [18] (fun iv wr => ∃ j : Nat, j ≤ nx ∧ iv = .int .i64 (j : Int) ∧ Below w7.heap.size w7 wr) (fun i _ => nx - (Go.RowKit.intOf i).toNat)
        case atStart => exact ⟨0, Nat.zero_le _, rfl, Below.refl _ _⟩
        case round =>
          obtain ⟨j, hj, rfl, hb⟩ := hrel
          obtain ⟨wi, rfl⟩ : ∃ wi : World, wi = wr := ⟨_, rfl⟩
          have HBI := Lib.hid hb
          have YI := Lib.hid (Y.out.below hb)
          clear hb
          by_cases hlt : j < nx
          case neg =>
            obtain rfl : j = nx := by omega
            have hji : (j : Int) ≤ (j : Int) := Int.le_refl _
            clear hlt hj
            go_wp2_with (fail)
            go_ret
            exact ⟨rfl, HB.out.trans (HBI.out.mono HB.out.size)⟩
          have hji : (j : Int) < (nx : Int) := by omega
          have hj0 : (0 : Int) ≤ (j : Int) := by omega
          have HLJ := Lib.hid hlt
          have hwj : IntKind.i64.wrap ((j : Int) + 1) = (j : Int) + 1 := IntWalk.i64_in _ (by have := HM.out; omega)
          clear hlt hj
          by_cases hjd : (j : Int) = device
          · have hjb : ((j : Int) == device) = true := by rw [beq_iff_eq]; exact hjd
            have hjn : ((j : Int) != device) = false := by rw [bne_eq_false_iff_eq]; exact hjd
            clear hjd
            obtain ⟨zYI, kYI, fYI⟩ := YI.out
            go_wp2_with (fail)
            go_quiet (fail)
            go_wp2_with (fail)
            go_roundw
            case rel => exact ⟨j + 1, HLJ.out, by go_num, bdrewN HBI.out _⟩
            case measure => have := HLJ.out; simp [Go.RowKit.intOf]; omega
          · have hjb : ((j : Int) == device) = false := by rw [beq_eq_false_iff_ne]; exact hjd
            have hjn : ((j : Int) != device) = true := by rw [bne_iff_ne]; exact hjd
            obtain ⟨z, hz⟩ : ∃ z, known[j]? = some z := ⟨_, List.getElem?_eq_getElem (by rw [HKL.out]; exact HLJ.out)⟩
            have hz2 : xs[j]? = some z := by rw [HOT.out j hjd]; exact hz
            have HJZ := Lib.hid hz
            have HJZ2 := Lib.hid hz2
            clear hjd hz hz2
            obtain ⟨b1, o1, rfl, hbl1, g1⟩ := (S3.out.below HBI.out).at1 (k := j) (v := .int .i64 z) (by rw [List.getElem?_map, HJZ2.out]; rfl)
            obtain ⟨b2, o2, rfl, hbl2, g2⟩ := ((HKN.out.below HB.out).below HBI.out).at1 (k := j) (v := .int .i64 z) (by rw [List.getElem?_map, HJZ.out]; rfl)
            obtain ⟨zYI, kYI, fYI⟩ := YI.out
            go_wp2_with (fail)
            go_quiet (fail)
            go_wp2_with (fail)
            go_roundw
            case rel => exact ⟨j + 1, HLJ.out, by go_num, bdrewN HBI.out _⟩
            case measure => have := HLJ.out; simp [Go.RowKit.intOf]; omega
    have hki : (k : Int) < (m : Int) := by omega
    have hk0 : (0 : Int) ≤ (k : Int) := by omega
    have HLT := Lib.hid hlt
    obtain ⟨x, hx⟩ : ∃ x, known[k]? = some x := ⟨_, List.getElem?_eq_getElem (by rw [HKL.out]; exact hlt)⟩
    have HX := Lib.hid hx
    obtain ⟨bk, ok, rfl, hbl, c0⟩ := (HKN.out.below (HB.out.trans (HBO.out.mono HB.out.size))).at1 (k := k) (v := .int .i64 x) (by rw [List.getElem?_map, HX.out]; rfl)
    have hwk : IntKind.i64.wrap ((k : Int) + 1) = (k : Int) + 1 := IntWalk.i64_in _ (by have := HM.out; omega)
    have HS1 := Lib.hid (HST.out k (by rw [HKL.out]; exact hlt))
    clear hx hlt
    have HOUT := Lib.hid (fun (W : World) (hb : Below wo.heap.size wo W) => (show ∃ k1 : Nat, k1 ≤ m ∧ Value.int .i64 ((k : Int) + 1) = .int .i64 (k1 : Int) ∧ Value.bool true = .bool true ∧ Below w5.heap.size w5 W from ⟨k + 1, HLT.out, by go_num, rfl, HBO.out.trans (hb.mono HBO.out.size)⟩))
    by_cases hkd : (k : Int) = device
    · have hkb : ((k : Int) == device) = true := by rw [beq_iff_eq]; exact hkd
      have HKD := Lib.hid hkd
      clear hkd
      by_cases hn : n = 0
      · have hnb : (n : Int) ≤ 0 := by omega
        clear hn
        go_wp2_with (fail)
        go_roundw
        case rel => exact ⟨k + 1, HLT.out, by go_num, rfl, HBO.out.trans (Below.mono (Below.refl _ _) HBO.out.size)⟩
        case measure => have := HLT.out; simp [Go.RowKit.intOf]; omega
      obtain ⟨q, hq⟩ : ∃ q, n = q + 1 := ⟨n - 1, by omega⟩
      obtain ⟨p, hp⟩ : ∃ p, l[q]? = some p := ⟨_, List.getElem?_eq_getElem (by rw [HL.out]; omega)⟩
      have hgl := last_at (HL.out.trans hq) hp
      have hst := HS1.out
      rw [step_dev HKD.out, hgl] at hst
      simp only [Bool.and_eq_true, decide_eq_true_eq] at hst
      have hn0 : 0 < (n : Int) := by omega
      have hqn : (q : Int) < (n : Int) := by omega
      have hq0 : (0 : Int) ≤ (q : Int) := by omega
      have hwn : IntKind.i64.wrap ((n : Int) - 1) = (q : Int) := by rw [IntWalk.i64_in _ (by have := HN4.out; omega)]; omega
      have hpk := check_at HMY.out.chk (vsOf_at hp)
      have hO := HCH.out.below (HB.out.trans (HBO.out.mono HB.out.size))
      obtain ⟨b, o, rfl, hbl2, e0, e1, e2, e3, e4⟩ := ent_at hO.sl hp
      have HPA := Lib.hid (hO.at_ p (List.mem_of_getElem? hp))
      rw [hpk.right.len] at e3
      have HP8 := Lib.hid hpk.right.len
      have hk8 : (k : Int) < 8 := by have h := HMY.out.len; rw [HKL.out] at h; omega
      obtain ⟨hpd, hpy⟩ := hst
      have hpb : (p.v.dev == device) = true := by rw [beq_iff_eq]; exact hpd
      clear hn hq hp hgl hpk hO hpd
      go_wp2_with (fail)
      go_quiet (fail)
      go_wp2_with (fail)
      go_roundw
      case rel => exact ⟨k + 1, HLT.out, by go_num, rfl, HBO.out.trans (Below.mono (bdrewN (below_alloc _ _) _) HBO.out.size)⟩
      case measure => have := HLT.out; simp [Go.RowKit.intOf]; omega
    have hkb : ((k : Int) == device) = false := by rw [beq_eq_false_iff_ne]; exact hkd
    have HKD := Lib.hid hkd
    clear hkd
    have hxx : 0 ≤ x ∧ x ≤ 400 := by
      have h := HS1.out
      by_cases h1 : 0 ≤ x ∧ x ≤ 400
      · exact h1
      · rw [step_out HX.out HKD.out (by omega)] at h; cases h
    have hx0 := hxx.1
    have hx4 := hxx.2
    clear hxx
    by_cases hn : n = 0
    · have hnb : (n : Int) ≤ 0 := by omega
      clear hn
      go_wp2_with (fail)
      go_roundw
      case rel => exact ⟨k + 1, HLT.out, by go_num, rfl, HBO.out.trans (Below.mono (Below.refl _ _) HBO.out.size)⟩
      case measure => have := HLT.out; simp [Go.RowKit.intOf]; omega
    obtain ⟨q, hq⟩ : ∃ q, n = q + 1 := ⟨n - 1, by omega⟩
    obtain ⟨p, hp⟩ : ∃ p, l[q]? = some p := ⟨_, List.getElem?_eq_getElem (by rw [HL.out]; omega)⟩
    have hgl := last_at (HL.out.trans hq) hp
    have hst := HS1.out
    rw [step_in HX.out HKD.out hx0 hx4, hgl] at hst
    simp only [Bool.and_eq_true, decide_eq_true_eq] at hst
    have hn0 : 0 < (n : Int) := by omega
    have hqn : (q : Int) < (n : Int) := by omega
    have hq0 : (0 : Int) ≤ (q : Int) := by omega
    have hwn : IntKind.i64.wrap ((n : Int) - 1) = (q : Int) := by rw [IntWalk.i64_in _ (by have := HN4.out; omega)]; omega
    have hpk := check_at HMY.out.chk (vsOf_at hp)
    have hO := HCH.out.below (HB.out.trans (HBO.out.mono HB.out.size))
    obtain ⟨b, o, rfl, hbl2, e0, e1, e2, e3, e4⟩ := ent_at hO.sl hp
    have HPA := Lib.hid (hO.at_ p (List.mem_of_getElem? hp))
    rw [hpk.right.len] at e3
    have HP8 := Lib.hid hpk.right.len
    have hk8 : (k : Int) < 8 := by have h := HMY.out.len; rw [HKL.out] at h; omega
    obtain ⟨⟨hpd, hpy⟩, hz⟩ := hst
    have hpb : (p.v.dev == device) = true := by rw [beq_iff_eq]; exact hpd
    obtain ⟨z, hzz⟩ : ∃ z, p.v.seen[k]? = some z := ⟨_, List.getElem?_eq_getElem (by rw [HP8.out]; omega)⟩
    rw [getD_of hzz] at hz
    obtain ⟨b2, o2, hA2, hbl3, f0⟩ := HPA.out.at1 (k := k) (v := .int .i64 z) (by rw [List.getElem?_map, hzz]; rfl)
    rw [hA2] at e3
    clear hn hq hp hgl hpk hO hpd hA2 hzz
    go_wp2_with (fail)
    go_quiet (fail)
    go_wp2_with (fail)
    go_roundw
    case rel => exact ⟨k + 1, HLT.out, by go_num, rfl, HBO.out.trans (Below.mono (bdrewN (below_alloc _ _) _) HBO.out.size)⟩
    case measure => have := HLT.out; simp [Go.RowKit.intOf]; omega
end Go.Proofs.YtindfkekinpchaaDoor
