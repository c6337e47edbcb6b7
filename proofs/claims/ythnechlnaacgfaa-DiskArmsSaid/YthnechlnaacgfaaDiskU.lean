/- kerbsidelaw02: DiskArms, walked. -/
import Derived.Test.YthnechlnaacgfaaDiskT
namespace Go.Proofs.Ythnechlnaacgfaa
open Go.RowKit

/-- the two disks of DiskArms, behind 'cnt' counted calls -/
def ArmsRel (n : Int) (keep : List Int) (w1 wr : World) (Bd Bc : Nat) (cnt : Int) : Prop := ∃ dd dc, Two w1 wr Bd dd Bc dc ∧ ((cnt < n ∧ ArmRel keep (n - cnt) dd dc) ∨ (n ≤ cnt ∧ DownRel dd dc))
theorem ArmsRel.same {n : Int} {keep : List Int} {w1 wr : World} {Bd Bc : Nat} {cnt : Int} (h : ArmsRel n keep w1 wr Bd Bc cnt) : ∃ dd dc, Two w1 wr Bd dd Bc dc ∧ SameD dd dc := by
  obtain ⟨dd, dc, h, ⟨_, hr⟩ | ⟨_, hr⟩⟩ := h
  · exact ⟨dd, dc, h, hr.sim.down, hr.sim.files⟩
  · exact ⟨dd, dc, h, hr.d.trans hr.c.symm, hr.files⟩
theorem SameD.start {d c : DV} (h : SameD d c) : SameD (StartF d) (StartF c) := ⟨rfl, h.2⟩
theorem Sl.again {w w' : World} {size b o n k : Nat} {xs : List (List Value)} {x : List Value} (h : Sl w size (some ⟨b, o, none⟩) n xs) (hb : Below w.heap.size w w') (hx : xs[k]? = some x) :
    b < w'.heap.size ∧ ∀ j v, x[j]? = some v → w'.cell? ⟨b, o + k * size + j, none⟩ = some v := by
  obtain ⟨b', o', he, h1, h2⟩ := (h.below hb).2 k x hx
  cases he
  exact ⟨h1, h2⟩
set_option maxRecDepth 100000 in
set_option maxHeartbeats 8000000 in
theorem arms_any (w : World) (A : Option Addr) (n c : Nat) (l : List ActC) (hs : Sl w 5 A n (l.map ActC.cells)) (hn : n ≤ maxLen) (ho : ∀ a ∈ l, a.ok) (hk : ActsAt w l) (nn : Int) (hnn : inI nn)
    (A3 : Option Addr) (c3 : Nat) (keep : List Int) (hk3 : IntsAt w A3 keep) (hkl : keep.length ≤ maxLen) :
    Calls Try.prog 6 #[.slice A n c, .int .i64 nn, .slice A3 keep.length c3] w fun e w' => e = .returned (.bool true) ∧ Below w.heap.size w w' := by
  unfold maxLen at hkl
  unfold inI at hnn
  have HS := Lib.hid hs
  have HO := Lib.hid ho
  have HK := Lib.hid hk
  have HN := Lib.hid hn
  have HK3 := Lib.hid hk3
  clear hs ho hk hn hk3
  have HSM := Lib.hid (small_any w)
  obtain ⟨q, hq⟩ : ∃ q, fewB l = q := ⟨_, rfl⟩
  have HFW := Lib.hid (fun w1 hb => few_any w1 A n c l (HS.out.below hb) HN.out q hq)
  have HQ := Lib.hid hq
  clear hq
  by_cases hbad : q = false ∨ 60 < (keep.length : Int) ∨ nn < 1 ∨ 60 < nn
  · rcases hbad with h | h
    · subst h
      go_enter Try.func6, Try.ntmps6
      go_wp2_with (first
        | ((with_reducible refine (HSM.out).mono ?_); rintro e w1 ⟨rfl, hb⟩; have HB := Lib.hid hb; clear hb)
        | ((with_reducible refine (HFW.out _ HB.out).mono ?_); rintro _ _ ⟨rfl, rfl⟩))
      go_ret
      exact ⟨rfl, HB.out⟩
    · rcases h with h | h | h
      all_goals
        cases q <;>
        · go_enter Try.func6, Try.ntmps6
          go_wp2_with (first
            | ((with_reducible refine (HSM.out).mono ?_); rintro e w1 ⟨rfl, hb⟩; have HB := Lib.hid hb; clear hb)
            | ((with_reducible refine (HFW.out _ HB.out).mono ?_); rintro _ _ ⟨rfl, rfl⟩))
          all_goals
            go_ret
            exact ⟨rfl, HB.out⟩
  simp only [not_or, Bool.not_eq_false] at hbad
  obtain ⟨rfl, b3, b4, b5⟩ := hbad
  have hfew := (few_all HQ.out).1
  have hl40 := (few_all HQ.out).2
  have HFE := Lib.hid hfew
  have c3' : (keep.length : Int) ≤ 60 := by omega
  have c3n : keep.length ≤ 60 := by omega
  have n1 : 1 ≤ nn := by omega
  have n2 : nn ≤ 60 := by omega
  have hln : l.length = n := by simpa using HS.out.1
  have hn40 : n ≤ 40 := by omega
  have HLN := Lib.hid hln
  have har : ArmF newD nn keep = { newD with armed := nn, keep := keep } := by unfold ArmF; rw [show max nn 0 = nn by omega]
  have hrel0 : ArmRel keep (nn - 0) (ArmF newD nn keep) newD := by
    rw [har]
    exact ⟨⟨rfl, rfl, rfl, rfl⟩, rfl, by show nn = nn - 0; omega, rfl, rfl⟩
  have HR0 := Lib.hid hrel0
  clear b3 b4 b5 hfew hl40 hln har hrel0
  go_enter Try.func6, Try.ntmps6
  go_wp2_with (first
    | ((with_reducible refine (HSM.out).mono ?_); rintro e w1 ⟨rfl, hb⟩; have HB := Lib.hid hb; clear hb)
    | ((with_reducible refine (HFW.out _ HB.out).mono ?_); rintro _ _ ⟨rfl, rfl⟩)
    | ((with_reducible refine (New_two H2.out).mono ?_); rintro e w3 ⟨Bc, rfl, h3⟩; have H3 := Lib.hid h3; clear h3)
    | ((with_reducible refine (New_has w1).mono ?_); rintro e w2 ⟨Bd, rfl, h2⟩; have H2 := Lib.hid h2; clear h2)
    | ((with_reducible refine (H3.out.arm nn (by unfold inI; omega) keep A3 c3 (HK3.out.below HB.out) c3n).mono ?_); rintro e w4 ⟨rfl, h4⟩; have H4 := Lib.hid h4; clear h4))
  go_loopw [10, 11] (fun cn i wr => ∃ (k : Nat) (cnt : Int), k ≤ n ∧ i = .int .i64 k ∧ cn = .int .i64 cnt ∧ 0 ≤ cnt ∧ cnt ≤ k ∧ ArmsRel nn keep w1 wr Bd Bc cnt) (fun _ i _ => n - (intOf i).toNat)
  case atStart => exact ⟨0, 0, Nat.zero_le _, rfl, rfl, Int.le_refl _, by omega, _, _, H4.out, .inl ⟨by omega, HR0.out⟩⟩
  case round =>
    obtain ⟨k, cnt, hk, rfl, rfl, hc0, hc1, hA⟩ := hrel
    obtain ⟨wo, rfl⟩ : ∃ wo : World, wo = wr := ⟨_, rfl⟩
    by_cases hlt : k < n
    · obtain ⟨dd, dc, ht, hst⟩ := hA
      obtain ⟨a, ha⟩ : ∃ a, l[k]? = some a := ⟨_, List.getElem?_eq_getElem (by rw [HLN.out]; exact hlt)⟩
      have hbase := HB.out.trans (ht.fst.base.mono HB.out.size)
      have HC := Lib.hid (HS.out.below hbase)
      obtain ⟨b, o, rfl, hbl, hcell⟩ := HC.out.2 k a.cells (by rw [List.getElem?_map, ha]; rfl)
      have HCB := Lib.hid hbl
      have c0 := hcell 0 _ rfl
      have c1 := hcell 1 _ rfl
      have c2' := hcell 2 _ rfl
      have c3'' := hcell 3 _ rfl
      have c4 := hcell 4 _ rfl
      rw [Nat.add_zero] at c0
      have hki : (k : Int) < (n : Int) := by omega
      have hck : cnt ≤ 40 := by omega
      have hmem := List.mem_of_getElem? ha
      have hb7 := and7 a.do_
      have hmod : 0 ≤ a.do_ % 8 ∧ a.do_ % 8 < 8 := by omega
      obtain ⟨r, hr⟩ : ∃ r, a.do_ % 8 = r := ⟨_, rfl⟩
      rw [hr] at hb7 hmod
      have HAK := Lib.hid (show (l.map ActC.cells)[k]? = some a.cells by rw [List.getElem?_map, ha]; rfl)
      have HR := Lib.hid hr
      have HT := Lib.hid ht
      have HST := Lib.hid hst
      have HLT := Lib.hid hlt
      have HCK := Lib.hid (And.intro hc0 hc1)
      obtain ⟨d1, e1, hd1⟩ : ∃ d e, doF dd a = (d, e) := ⟨_, _, rfl⟩
      obtain ⟨d2, e2, hd2⟩ : ∃ d e, doF dc a = (d, e) := ⟨_, _, rfl⟩
      have HD1 := Lib.hid hd1
      have HD2 := Lib.hid hd2
      have hcall1 := ht.do_ a (HO.out a hmem) (HFE.out a hmem) ((HK.out a hmem).below HB.out) _ hd1
      have hcall2 := fun (wx : World) (dx : DV) (hx : Two w1 wx Bd dx Bc dc) => hx.do2 a (HO.out a hmem) (HFE.out a hmem) ((HK.out a hmem).below HB.out) _ hd2
      have HC1 := Lib.hid hcall1
      have HC2 := Lib.hid hcall2
      clear hcall1 hcall2 hd1 hd2 hcell ha hmem hr ht hst hbase hlt hbl
      -- MARK
      by_cases hbig : 4 < r
      · go_wp2_with (fail)
        go_ret
        exact ⟨rfl, HB.out.trans (HT.out.fst.base.mono HB.out.size)⟩
      by_cases hr4 : r = 4
      · subst hr4
        clear hbig
        rcases HST.out with ⟨hcn, hrel⟩ | ⟨hcn, hrel⟩
        · have hl := hrel.lose a HR.out
          rw [HD1.out, HD2.out] at hl
          obtain ⟨rfl, hl2⟩ := hl
          have HL2 := Lib.hid hl2
          have HCN := Lib.hid hcn
          clear hl2 hrel
          go_wp2_with (first
            | ((with_reducible refine (HC1.out).mono ?_); rintro e w5 ⟨rfl, h5⟩; have H5 := Lib.hid h5; clear h5; have HC5 := Lib.hid (HS.out.again (HB.out.trans (H5.out.fst.base.mono HB.out.size)) HAK.out); have p5 := HC5.out.1; have d0 := HC5.out.2 0 _ rfl; rw [Nat.add_zero] at d0; have d1x := HC5.out.2 1 _ rfl; have d2x := HC5.out.2 2 _ rfl; have d3x := HC5.out.2 3 _ rfl; have d4x := HC5.out.2 4 _ rfl)
            | ((with_reducible refine (HC2.out _ _ H5.out).mono ?_); rintro e w6 ⟨rfl, h6⟩; have H6 := Lib.hid h6; clear h6))
          go_roundw
          case rel => exact ⟨k + 1, cnt, HLT.out, by go_num, by go_num, by have := HCK.out; omega, by have := HCK.out; omega, _, _, H6.out, .inl ⟨HCN.out, HL2.out⟩⟩
          case measure => have := HLT.out; simp [intOf]; omega
        · have hl := (hrel.do_ a (by have := HR.out; omega)).2
          rw [HD1.out] at hl
          have HL2 := Lib.hid hl
          have HDT := Lib.hid hl.d
          have HCN := Lib.hid hcn
          have hlt' : ¬ cnt < nn := by omega
          clear hl hrel
          by_cases heq : cnt = nn
          · have heqb : (cnt == nn) = true := by simpa using heq
            go_wp2_with (first
              | ((with_reducible refine (HC1.out).mono ?_); rintro e w5 ⟨rfl, h5⟩; have H5 := Lib.hid h5; clear h5)
              | ((with_reducible refine (Down_has H5.out.fst true HDT.out).mono ?_); rintro _ _ ⟨rfl, rfl⟩))
            go_roundw
            case rel => exact ⟨k + 1, cnt, HLT.out, by go_num, by go_num, by have := HCK.out; omega, by have := HCK.out; omega, _, _, H5.out, .inr ⟨HCN.out, HL2.out⟩⟩
            case measure => have := HLT.out; simp [intOf]; omega
          · have heqb : (cnt == nn) = false := by simpa using heq
            go_wp2_with (first
              | ((with_reducible refine (HC1.out).mono ?_); rintro e w5 ⟨rfl, h5⟩; have H5 := Lib.hid h5; clear h5)
              | ((with_reducible refine (Down_has H5.out.fst true HDT.out).mono ?_); rintro _ _ ⟨rfl, rfl⟩))
            go_roundw
            case rel => exact ⟨k + 1, cnt, HLT.out, by go_num, by go_num, by have := HCK.out; omega, by have := HCK.out; omega, _, _, H5.out, .inr ⟨HCN.out, HL2.out⟩⟩
            case measure => have := HLT.out; simp [intOf]; omega
      have hr3 : r < 4 := by omega
      have hr4b : (r == 4) = false := by simpa using hr4
      have hr0 : 0 ≤ r := hmod.1
      clear hbig hr4 hmod
      rcases HST.out with ⟨hcn, hrel⟩ | ⟨hcn, hrel⟩
      · by_cases hmore : cnt + 1 < nn
        · have hl := hrel.more (by omega) a (by have := HR.out; omega)
          rw [HD1.out, HD2.out] at hl
          obtain ⟨rfl, hl2⟩ := hl
          have HL2 := Lib.hid hl2
          have HMO := Lib.hid hmore
          clear hl2 hrel
          go_wp2_with (first
            | ((with_reducible refine (HC1.out).mono ?_); rintro e w5 ⟨rfl, h5⟩; have H5 := Lib.hid h5; clear h5; have HC5 := Lib.hid (HS.out.again (HB.out.trans (H5.out.fst.base.mono HB.out.size)) HAK.out); have p5 := HC5.out.1; have d0 := HC5.out.2 0 _ rfl; rw [Nat.add_zero] at d0; have d1x := HC5.out.2 1 _ rfl; have d2x := HC5.out.2 2 _ rfl; have d3x := HC5.out.2 3 _ rfl; have d4x := HC5.out.2 4 _ rfl)
            | ((with_reducible refine (HC2.out _ _ H5.out).mono ?_); rintro e w6 ⟨rfl, h6⟩; have H6 := Lib.hid h6; clear h6))
          go_roundw
          case rel => exact ⟨k + 1, cnt + 1, HLT.out, by go_num, by go_num, by have := HCK.out; omega, by have := HCK.out; omega, _, _, H6.out, .inl ⟨HMO.out, by have := HL2.out; rw [show nn - (cnt + 1) = nn - cnt - 1 by omega]; exact this⟩⟩
          case measure => have := HLT.out; simp [intOf]; omega
        · obtain rfl : nn = cnt + 1 := by omega
          have heqb : (cnt + 1 == cnt + 1) = true := by simp
          rw [show cnt + 1 - cnt = 1 by omega] at hrel
          clear hmore
          by_cases hr2 : r < 2
          · have hl := hrel.nowWrite a (by have := HR.out; omega)
            rw [HD1.out, HD2.out] at hl
            obtain ⟨rfl, hl2⟩ := hl
            have HL2 := Lib.hid hl2
            have HDT := Lib.hid hl2.d
            clear hl2 hrel
            go_wp2_with (first
              | ((with_reducible refine (HC1.out).mono ?_); rintro e w5 ⟨rfl, h5⟩; have H5 := Lib.hid h5; clear h5; have HC5 := Lib.hid (HS.out.again (HB.out.trans (H5.out.fst.base.mono HB.out.size)) HAK.out); have p5 := HC5.out.1; have d0 := HC5.out.2 0 _ rfl; rw [Nat.add_zero] at d0; have d1x := HC5.out.2 1 _ rfl; have d2x := HC5.out.2 2 _ rfl; have d3x := HC5.out.2 3 _ rfl; have d4x := HC5.out.2 4 _ rfl)
              | ((with_reducible refine (HC2.out _ _ H5.out).mono ?_); rintro e w6 ⟨rfl, h6⟩; have H6 := Lib.hid h6; clear h6)
              | ((with_reducible refine (Two.crash2 H6.out keep A3 c3 (HK3.out.below HB.out) c3n).mono ?_); rintro e w7 ⟨rfl, h7⟩; have H7 := Lib.hid h7; clear h7)
              | ((with_reducible refine (Down_has H7.out.fst true HDT.out).mono ?_); rintro _ _ ⟨rfl, rfl⟩))
            go_roundw
            case rel => exact ⟨k + 1, cnt + 1, HLT.out, by go_num, by go_num, by have := HCK.out; omega, by have := HCK.out; omega, _, _, H7.out, .inr ⟨Int.le_refl _, HL2.out⟩⟩
            case measure => have := HLT.out; simp [intOf]; omega
          · have hl := hrel.nowOther a (by have := HR.out; omega)
            rw [HD1.out] at hl
            obtain ⟨rfl, hl2⟩ := hl
            have HL2 := Lib.hid hl2
            have HDT := Lib.hid hl2.d
            clear hl2 hrel
            go_wp2_with (first
              | ((with_reducible refine (HC1.out).mono ?_); rintro e w5 ⟨rfl, h5⟩; have H5 := Lib.hid h5; clear h5)
              | ((with_reducible refine (Two.crash2 H5.out keep A3 c3 (HK3.out.below HB.out) c3n).mono ?_); rintro e w7 ⟨rfl, h7⟩; have H7 := Lib.hid h7; clear h7)
              | ((with_reducible refine (Down_has H7.out.fst true HDT.out).mono ?_); rintro _ _ ⟨rfl, rfl⟩))
            go_roundw
            case rel => exact ⟨k + 1, cnt + 1, HLT.out, by go_num, by go_num, by have := HCK.out; omega, by have := HCK.out; omega, _, _, H7.out, .inr ⟨Int.le_refl _, HL2.out⟩⟩
            case measure => have := HLT.out; simp [intOf]; omega
      · have hl := hrel.do_ a (by have := HR.out; omega)
        rw [HD1.out] at hl
        obtain rfl := hl.1 (by have := HR.out; omega)
        have HL2 := Lib.hid hl.2
        have HDT := Lib.hid hl.2.d
        have hgt : nn < cnt + 1 := by omega
        have hgt' : ¬ cnt + 1 < nn := by omega
        have heqb : (cnt + 1 == nn) = false := by simp; omega
        have HCN := Lib.hid hcn
        clear hl hrel
        go_wp2_with (first
          | ((with_reducible refine (HC1.out).mono ?_); rintro e w5 ⟨rfl, h5⟩; have H5 := Lib.hid h5; clear h5)
          | ((with_reducible refine (Down_has H5.out.fst true HDT.out).mono ?_); rintro _ _ ⟨rfl, rfl⟩))
        go_roundw
        case rel => exact ⟨k + 1, cnt + 1, HLT.out, by go_num, by go_num, by have := HCK.out; omega, by have := HCK.out; omega, _, _, H5.out, .inr ⟨by have := HCN.out; omega, HL2.out⟩⟩
        case measure => have := HLT.out; simp [intOf]; omega
      -- END
    · obtain rfl : k = n := by omega
      obtain ⟨dd, dc, ht, hsm⟩ := hA.same
      have HT := Lib.hid ht
      have HSA := Lib.hid hsm
      have hki : (k : Int) ≤ (k : Int) := Int.le_refl _
      clear ht hsm hA
      have hsl := HS.out.below (HB.out.trans (HT.out.fst.base.mono HB.out.size))
      have HSL := Lib.hid hsl
      clear hsl
      go_wp2_with (first
        | ((with_reducible refine (same_any HT.out HSA.out A k c l HSL.out HN.out).mono ?_); rintro e w6 ⟨rfl, hb6⟩; have HB6 := Lib.hid hb6; have H6 := Lib.hid (HT.out.below hb6); clear hb6)
        | ((with_reducible refine (Two.start H6.out).mono ?_); rintro e w7 ⟨rfl, h7⟩; have H7 := Lib.hid h7; clear h7)
        | ((with_reducible refine (Two.start2 H7.out).mono ?_); rintro e w8 ⟨rfl, h8⟩; have H8 := Lib.hid h8; clear h8)
        | ((with_reducible refine (same_any H8.out HSA.out.start A k c l (HS.out.below (HB.out.trans (H8.out.fst.base.mono HB.out.size))) HN.out).mono ?_); rintro e w9 ⟨rfl, hb9⟩; have H9 := Lib.hid (H8.out.below hb9); clear hb9))
      go_ret
      exact ⟨rfl, HB.out.trans (H9.out.fst.base.mono HB.out.size)⟩
end Go.Proofs.Ythnechlnaacgfaa
