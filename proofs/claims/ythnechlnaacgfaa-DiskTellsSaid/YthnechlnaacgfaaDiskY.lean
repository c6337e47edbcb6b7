/- kerbsidelaw02: DiskSynced, walked. -/
import Derived.Test.YthnechlnaacgfaaDiskW
import Derived.Test.YthnechlnaacgfaaDiskR
namespace Go.Proofs.Ythnechlnaacgfaa
open Go.RowKit

def SyncedRel (w1 : World) (B : Nat) (f : Int) (X : List UInt8) (wr : World) : Prop := ∃ dd, Has w1 wr B dd ∧ Stb f X dd
theorem Sync_str {w0 w : World} {B : Nat} {d : DV} (h : Has w0 w B d) (f : Int) (r : DV × Int) (hr : SyncF d f = r) :
    Calls Try.prog 19 #[.pointer (some ⟨B, 0, none⟩), .int .i64 f] w fun e w' => e = .returned (.int .i64 r.2) ∧ Has w0 w' B r.1 := by
  subst hr
  exact Sync_has h f
set_option maxRecDepth 100000 in
set_option maxHeartbeats 4000000 in
theorem synced_any (w : World) (A : Option Addr) (n c : Nat) (l : List ActC) (hs : Sl w 5 A n (l.map ActC.cells)) (hn : n ≤ maxLen) (ho : ∀ a ∈ l, a.ok) (hk : ActsAt w l) (f : Int)
    (A2 : Option Addr) (n2 c2 : Nat) (l2 : List ActC) (hs2 : Sl w 5 A2 n2 (l2.map ActC.cells)) (hn2 : n2 ≤ maxLen) (ho2 : ∀ a ∈ l2, a.ok) (hk2 : ActsAt w l2)
    (A3 : Option Addr) (c3 : Nat) (keep : List Int) (hk3 : IntsAt w A3 keep) (hkl : keep.length ≤ maxLen) :
    Calls Try.prog 5 #[.slice A n c, .int .i64 f, .slice A2 n2 c2, .slice A3 keep.length c3] w fun e w' => e = .returned (.bool true) ∧ Below w.heap.size w w' := by
  unfold maxLen at hkl
  have HS := Lib.hid hs
  have HO := Lib.hid ho
  have HK := Lib.hid hk
  have HN := Lib.hid hn
  have HS2 := Lib.hid hs2
  have HO2 := Lib.hid ho2
  have HK2 := Lib.hid hk2
  have HN2 := Lib.hid hn2
  have HK3 := Lib.hid hk3
  clear hs ho hk hn hs2 ho2 hk2 hn2 hk3
  have HSM := Lib.hid (small_any w)
  obtain ⟨q, hq⟩ : ∃ q, fewB l = q := ⟨_, rfl⟩
  obtain ⟨q2, hq2⟩ : ∃ q, fewB l2 = q := ⟨_, rfl⟩
  have HFW := Lib.hid (fun w1 hb => few_any w1 A n c l (HS.out.below hb) HN.out q hq)
  have HFW2 := Lib.hid (fun w1 hb => few_any w1 A2 n2 c2 l2 (HS2.out.below hb) HN2.out q2 hq2)
  have HQ := Lib.hid hq
  have HQ2 := Lib.hid hq2
  clear hq hq2
  by_cases hbad : q = false ∨ q2 = false ∨ 60 < (keep.length : Int)
  · rcases hbad with h | h | h
    · subst h
      go_enter Try.func5, Try.ntmps5
      go_wp2_with (first
        | ((with_reducible refine (HSM.out).mono ?_); rintro e w1 ⟨rfl, hb⟩; have HB := Lib.hid hb; clear hb)
        | ((with_reducible refine (HFW.out _ HB.out).mono ?_); rintro _ _ ⟨rfl, rfl⟩))
      go_ret
      exact ⟨rfl, HB.out⟩
    · subst h
      cases q <;>
      · go_enter Try.func5, Try.ntmps5
        go_wp2_with (first
          | ((with_reducible refine (HSM.out).mono ?_); rintro e w1 ⟨rfl, hb⟩; have HB := Lib.hid hb; clear hb)
          | ((with_reducible refine (HFW.out _ HB.out).mono ?_); rintro _ _ ⟨rfl, rfl⟩)
          | ((with_reducible refine (HFW2.out _ HB.out).mono ?_); rintro _ _ ⟨rfl, rfl⟩))
        go_ret
        exact ⟨rfl, HB.out⟩
    · cases q <;> cases q2 <;>
      · go_enter Try.func5, Try.ntmps5
        go_wp2_with (first
          | ((with_reducible refine (HSM.out).mono ?_); rintro e w1 ⟨rfl, hb⟩; have HB := Lib.hid hb; clear hb)
          | ((with_reducible refine (HFW.out _ HB.out).mono ?_); rintro _ _ ⟨rfl, rfl⟩)
          | ((with_reducible refine (HFW2.out _ HB.out).mono ?_); rintro _ _ ⟨rfl, rfl⟩))
        go_ret
        exact ⟨rfl, HB.out⟩
  · simp only [not_or, Bool.not_eq_false] at hbad
    obtain ⟨rfl, rfl, b3⟩ := hbad
    have hfew := (few_all HQ.out).1
    have hfew2 := (few_all HQ2.out).1
    have HFE := Lib.hid hfew
    have HFE2 := Lib.hid hfew2
    have c3' : (keep.length : Int) ≤ 60 := by omega
    have c3n : keep.length ≤ 60 := by omega
    have hok0 : DOk (playF l) := play_ok HO.out hfew
    obtain ⟨d0, hd0⟩ : ∃ d0, playF l = d0 := ⟨_, rfl⟩
    rw [hd0] at hok0
    obtain ⟨d1, e1, hsy⟩ : ∃ d1 e1, SyncF d0 f = (d1, e1) := ⟨_, _, rfl⟩
    have HD0 := Lib.hid hd0
    have HSY := Lib.hid hsy
    clear b3 hfew hfew2 hd0
    by_cases he : e1 = 0
    · subst he
      obtain ⟨⟨f0, f1⟩, r1, stb, r2⟩ := sync_ok (d := d0) (f := f) hok0 (by rw [hsy])
      rw [hsy] at stb r2
      obtain ⟨X, hX⟩ : ∃ X, (d0.file f).now = X := ⟨_, rfl⟩
      rw [hX] at r1 stb r2
      have HR1 := Lib.hid r1
      have HST := Lib.hid stb
      have HR2 := Lib.hid r2
      have HF01 := Lib.hid (And.intro f0 f1)
      clear r1 stb r2 hX hsy hok0 f0 f1
      go_enter Try.func5, Try.ntmps5
      go_wp2_with (first
        | ((with_reducible refine (HSM.out).mono ?_); rintro e w1 ⟨rfl, hb⟩; have HB := Lib.hid hb; clear hb)
        | ((with_reducible refine (HFW.out _ HB.out).mono ?_); rintro _ _ ⟨rfl, rfl⟩)
        | ((with_reducible refine (HFW2.out _ HB.out).mono ?_); rintro _ _ ⟨rfl, rfl⟩)
        | ((with_reducible refine (played_any w1 A n c l (HS.out.below HB.out) HN.out HO.out HFE.out (HK.out.below HB.out)).mono ?_); rintro e w2 ⟨B, rfl, h2⟩; rw [HD0.out] at h2; have H2 := Lib.hid h2; clear h2)
        | ((with_reducible refine (Read_str H2.out f 0 16777216 _ _ HR1.out).mono ?_); rintro _ _ ⟨rfl, rfl⟩)
        | ((with_reducible refine (Sync_str H2.out f _ HSY.out).mono ?_); rintro e w3 ⟨rfl, h3⟩; have H3 := Lib.hid h3; clear h3)
        | ((with_reducible refine (Read_str H3.out f 0 16777216 _ _ HR2.out).mono ?_); rintro _ _ ⟨rfl, rfl⟩))
      go_loopw [15] (fun i wr => ∃ k : Nat, k ≤ n2 ∧ i = .int .i64 k ∧ SyncedRel w1 B f X wr) (fun i _ => n2 - (intOf i).toNat)
      case atStart => exact ⟨0, Nat.zero_le _, rfl, d1, H3.out, HST.out⟩
      case round =>
        obtain ⟨k, hk, rfl, dd, hh, hst⟩ := hrel
        obtain ⟨wo, rfl⟩ : ∃ wo : World, wo = wr := ⟨_, rfl⟩
        have HH := Lib.hid hh
        have HSt := Lib.hid hst
        clear hh hst
        by_cases hlt : k < n2
        · have hl2 : l2.length = n2 := by simpa using HS2.out.1
          obtain ⟨a, ha⟩ : ∃ a, l2[k]? = some a := ⟨_, List.getElem?_eq_getElem (by rw [hl2]; exact hlt)⟩
          have hbase := HB.out.trans (HH.out.base.mono HB.out.size)
          obtain ⟨b, o, rfl, hbl, hcell⟩ := (HS2.out.below hbase).2 k a.cells (by rw [List.getElem?_map, ha]; rfl)
          have c0 := hcell 0 _ rfl
          have c1 := hcell 1 _ rfl
          have c2' := hcell 2 _ rfl
          have c3'' := hcell 3 _ rfl
          have c4 := hcell 4 _ rfl
          rw [Nat.add_zero] at c0
          have hki : (k : Int) < (n2 : Int) := by omega
          have HLT := Lib.hid hlt
          have hn2' : n2 ≤ 9223372036854775807 := by have := HN2.out; unfold maxLen at this; exact this
          have hmem := List.mem_of_getElem? ha
          have hb7 := and7 a.do_
          have hmod : 0 ≤ a.do_ % 8 ∧ a.do_ % 8 < 8 := by omega
          obtain ⟨r, hr⟩ : ∃ r, a.do_ % 8 = r := ⟨_, rfl⟩
          rw [hr] at hb7 hmod
          have HR := Lib.hid hr
          have hd := fun wx (hx : Has w1 wx B dd) => do_has hx a (HO2.out a hmem) (HFE2.out a hmem) ((HK2.out a hmem).below HB.out)
          have HD := Lib.hid hd
          clear hd hcell ha hmem hr hl2 hbase
          have hstb : ∀ h : r < 4 ∧ a.f ≠ f ∨ r = 4, Stb f X (doF dd a).1 := fun h => HSt.out.do_ (by rw [HR.out]; exact h)
          have HSTB := Lib.hid hstb
          clear hstb
          by_cases h4 : r = 4
          · subst h4
            have HST2 := Lib.hid (HSTB.out (.inr rfl))
            clear HSTB
            go_wp2_with ((with_reducible refine (HD.out _ HH.out).mono ?_); rintro e w5 ⟨rfl, h5⟩; have H5 := Lib.hid h5; clear h5)
            go_roundw
            case rel => exact ⟨k + 1, HLT.out, by go_num, _, H5.out, HST2.out⟩
            case measure => have := HLT.out; simp [intOf]; omega
          · by_cases h3 : r < 4
            · by_cases hff : a.f = f
              · have hfe : (a.f != f) = false := by simp [hff]
                have hfe2 : (r == 4) = false := by simp [h4]
                clear h4 hff
                go_wp2_with (fail)
                go_roundw
                case rel => exact ⟨k + 1, HLT.out, by go_num, _, HH.out, HSt.out⟩
                case measure => have := HLT.out; simp [intOf]; omega
              · have HST2 := Lib.hid (HSTB.out (.inl ⟨h3, hff⟩))
                have hfe : (a.f != f) = true := by simp [hff]
                have hfe2 : (r == 4) = false := by simp [h4]
                clear HSTB h4 hff
                go_wp2_with ((with_reducible refine (HD.out _ HH.out).mono ?_); rintro e w5 ⟨rfl, h5⟩; have H5 := Lib.hid h5; clear h5)
                go_roundw
                case rel => exact ⟨k + 1, HLT.out, by go_num, _, H5.out, HST2.out⟩
                case measure => have := HLT.out; simp [intOf]; omega
            · have h3' : 4 ≤ r := by omega
              have hfe2 : (r == 4) = false := by simp [h4]
              clear h4 h3 HSTB
              go_wp2_with (fail)
              go_roundw
              case rel => exact ⟨k + 1, HLT.out, by go_num, _, HH.out, HSt.out⟩
              case measure => have := HLT.out; simp [intOf]; omega
        · obtain rfl : k = n2 := by omega
          have hki : (k : Int) ≤ (k : Int) := Int.le_refl _
          have HRF := Lib.hid (HSt.out.read HH.out.ok HF01.out.1 HF01.out.2 keep)
          go_wp2_with (first
            | ((with_reducible refine (Crash_has HH.out keep A3 c3 (HK3.out.below HB.out) c3n).mono ?_); rintro e w6 ⟨rfl, h6⟩; have H6 := Lib.hid h6; clear h6)
            | ((with_reducible refine (Start_has H6.out).mono ?_); rintro e w7 ⟨rfl, h7⟩; have H7 := Lib.hid h7; clear h7)
            | ((with_reducible refine (Read_str H7.out f 0 16777216 _ _ HRF.out).mono ?_); rintro _ _ ⟨rfl, rfl⟩))
          go_ret
          exact ⟨rfl, HB.out.trans (H7.out.base.mono HB.out.size)⟩
    · have he' : (e1 != 0) = true := by simpa using he
      obtain ⟨s0, e0, hr0⟩ : ∃ s e, ReadF d0 f 0 16777216 = (s, e) := ⟨_, _, rfl⟩
      have HR0 := Lib.hid hr0
      clear he hsy hr0 hok0
      go_enter Try.func5, Try.ntmps5
      go_wp2_with (first
        | ((with_reducible refine (HSM.out).mono ?_); rintro e w1 ⟨rfl, hb⟩; have HB := Lib.hid hb; clear hb)
        | ((with_reducible refine (HFW.out _ HB.out).mono ?_); rintro _ _ ⟨rfl, rfl⟩)
        | ((with_reducible refine (HFW2.out _ HB.out).mono ?_); rintro _ _ ⟨rfl, rfl⟩)
        | ((with_reducible refine (played_any w1 A n c l (HS.out.below HB.out) HN.out HO.out HFE.out (HK.out.below HB.out)).mono ?_); rintro e w2 ⟨B, rfl, h2⟩; rw [HD0.out] at h2; have H2 := Lib.hid h2; clear h2)
        | ((with_reducible refine (Read_str H2.out f 0 16777216 _ _ HR0.out).mono ?_); rintro _ _ ⟨rfl, rfl⟩)
        | ((with_reducible refine (Sync_str H2.out f _ HSY.out).mono ?_); rintro e w3 ⟨rfl, h3⟩; have H3 := Lib.hid h3; clear h3))
      go_ret
      exact ⟨rfl, HB.out.trans (H3.out.base.mono HB.out.size)⟩
end Go.Proofs.Ythnechlnaacgfaa
