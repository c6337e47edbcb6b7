/- kerbsideref02: Write, Sync, Truncate, walked. -/
import Derived.Test.YthnechlnaacgfaaRefJ
namespace Go.Proofs.Ythnechlnaacgfaa
open Go.RowKit

section
variable {w w' : World} {F G : Nat → Prop} {B : Nat} {r : DV} {FA : Option Addr} {cf : Nat} {Q : Option Addr} {cq : Nat} {K : Option Addr} {ck : Nat}
set_option maxHeartbeats 2000000 in
theorem Write_ref (h : RefAt w F B r FA cf Q cq K ck) (hok : ROk r) (f at_ : Int) (s : List UInt8) (hs : s.length ≤ 140737488351232) (hat : inI at_) :
    Calls Try.prog 38 #[.pointer (some ⟨B, 0, none⟩), .int .i64 f, .int .i64 at_, .string ⟨s.toArray⟩] w fun e w' => e = .returned (.int .i64 (WriteR r f at_ s).2) ∧ RefTo F w B (WriteR r f at_ s).1 w' := by
  rw [WriteR_last]
  have HC := Lib.hid (comes_ref h hok f at_ s hs hat)
  have HO := Lib.hid (hok.comes f at_ s)
  have HFT := Lib.hid (fun W x hx => fits_ref W at_ s hs hat x hx)
  unfold strV at HFT
  generalize comesR r f at_ s = r1 at *
  clear h hok
  unfold lastR
  by_cases hm : mayF r1 f = 0
  · rw [if_neg (by simp [hm])]
    have HM0 := Lib.hid hm
    by_cases ha : at_ < 0
    · rw [if_pos ha]
      clear hm
      go_enter Try.func38, Try.ntmps38
      go_wp2_with (first
        | ((with_reducible refine (HC.out).mono ?_); rintro e w1 ⟨rfl, F1, ⟨FA1, cf1, Q1, cq1, K1, ck1, h1⟩, hE1⟩; have H1 := Lib.hid h1; have HE1 := Lib.hid hE1; have HM := Lib.hid (may_ref h1 f 0 HM0.out); clear h1 hE1)
        | ((with_reducible refine (HM.out).mono ?_); rintro _ w9 ⟨rfl, hw9⟩; obtain rfl := hw9.symm))
      go_ret
      exact ⟨rfl, (RefTo.refl H1.out).from HE1.out⟩
    · rw [if_neg ha]
      have ha' : 0 ≤ at_ := by omega
      by_cases hfi : fitsR at_ s = false
      · rw [if_pos hfi]
        have HF1 := Lib.hid (fun W => HFT.out W false hfi)
        clear hm ha hfi
        go_enter Try.func38, Try.ntmps38
        go_wp2_with (first
          | ((with_reducible refine (HC.out).mono ?_); rintro e w1 ⟨rfl, F1, ⟨FA1, cf1, Q1, cq1, K1, ck1, h1⟩, hE1⟩; have H1 := Lib.hid h1; have HE1 := Lib.hid hE1; have HM := Lib.hid (may_ref h1 f 0 HM0.out); clear h1 hE1)
          | ((with_reducible refine (HM.out).mono ?_); rintro _ w9 ⟨rfl, hw9⟩; obtain rfl := hw9.symm)
          | ((with_reducible refine (HF1.out _).mono ?_); rintro _ w9 ⟨rfl, hw9⟩; obtain rfl := hw9.symm))
        go_ret
        exact ⟨rfl, (RefTo.refl H1.out).from HE1.out⟩
      · rw [if_neg hfi]
        have hft : fitsR at_ s = true := by simpa using hfi
        have HF1 := Lib.hid (fun W => HFT.out W true hft)
        have hrg := ROk.may_rng (r := r1) (f := f) (by simp [hm])
        have hfb := ROk.fits hft
        obtain ⟨a, rfl⟩ : ∃ a : Nat, at_ = (a : Int) := ⟨at_.toNat, by omega⟩
        have HAD := Lib.hid (fun W F FA cf Q cq K ck (h : RefAt W F B r1 FA cf Q cq K ck) => add_ref h HO.out f a s hrg.1 hrg.2 (by omega))
        clear hm ha hfi hft hrg hfb
        go_enter Try.func38, Try.ntmps38
        go_wp2_with (first
          | ((with_reducible refine (HC.out).mono ?_); rintro e w1 ⟨rfl, F1, ⟨FA1, cf1, Q1, cq1, K1, ck1, h1⟩, hE1⟩; have H1 := Lib.hid h1; have HE1 := Lib.hid hE1; have HM := Lib.hid (may_ref h1 f 0 HM0.out); clear h1 hE1)
          | ((with_reducible refine (HM.out).mono ?_); rintro _ w9 ⟨rfl, hw9⟩; obtain rfl := hw9.symm)
          | ((with_reducible refine (HF1.out _).mono ?_); rintro _ w9 ⟨rfl, hw9⟩; obtain rfl := hw9.symm)
          | ((with_reducible refine (HAD.out _ _ _ _ _ _ _ _ H1.out).mono ?_); rintro e w2 ⟨rfl, h2⟩; have H2 := Lib.hid h2; clear h2))
        go_ret
        exact ⟨rfl, H2.out.from HE1.out⟩
  · rw [if_pos hm]
    have h1 : (mayF r1 f == 0) = false := by simpa using hm
    have h2 : (mayF r1 f != 0) = true := by simpa using hm
    have HMX := Lib.hid (fun W F FA cf Q cq K ck (h : RefAt W F B r1 FA cf Q cq K ck) => may_ref h f _ rfl)
    clear hm
    generalize mayF r1 f = m at *
    go_enter Try.func38, Try.ntmps38
    go_wp2_with (first
      | ((with_reducible refine (HC.out).mono ?_); rintro e w1 ⟨rfl, F1, ⟨FA1, cf1, Q1, cq1, K1, ck1, h1⟩, hE1⟩; have H1 := Lib.hid h1; have HE1 := Lib.hid hE1; have HM := Lib.hid (HMX.out _ _ _ _ _ _ _ _ h1); clear h1 hE1)
      | ((with_reducible refine (HM.out).mono ?_); rintro _ w9 ⟨rfl, hw9⟩; obtain rfl := hw9.symm))
    go_ret
    exact ⟨rfl, (RefTo.refl H1.out).from HE1.out⟩
set_option maxHeartbeats 2000000 in
theorem Sync_ref (h : RefAt w F B r FA cf Q cq K ck) (hok : ROk r) (f : Int) :
    Calls Try.prog 32 #[.pointer (some ⟨B, 0, none⟩), .int .i64 f] w fun e w' => e = .returned (.int .i64 (SyncR r f).2) ∧ RefTo F w B (SyncR r f).1 w' := by
  have HC := Lib.hid (comes_ref h hok 0 0 [] (by simp) (by unfold inI; omega))
  have HO := Lib.hid (hok.comes 0 0 [])
  unfold SyncR
  generalize comesR r 0 0 [] = r1 at *
  clear h hok
  dsimp only
  by_cases hm : mayF r1 f = 0
  · rw [if_neg (by simp [hm])]
    have HM0 := Lib.hid hm
    have hrg := ROk.may_rng (r := r1) (f := f) (by simp [hm])
    have hlo := HO.out.ok.lost
    by_cases hl : 0 < r1.lost
    · rw [if_pos hl]
      have hw : IntKind.i64.wrap (r1.lost - 1) = r1.lost - 1 := IntWalk.i64_in _ (by omega)
      clear hm hrg
      go_enter Try.func32, Try.ntmps32
      go_wp2_with (first
        | ((with_reducible refine (HC.out).mono ?_); rintro e w1 ⟨rfl, F1, ⟨FA1, cf1, Q1, cq1, K1, ck1, h1⟩, hE1⟩; have H1 := Lib.hid h1; have HE1 := Lib.hid hE1; have HM := Lib.hid (may_ref h1 f 0 HM0.out); obtain ⟨zB, kB, fB⟩ := h1.loc; clear h1 hE1)
        | ((with_reducible refine (HM.out).mono ?_); rintro _ w9 ⟨rfl, hw9⟩; obtain rfl := hw9.symm))
      go_ret
      exact ⟨rfl, (RefTo.refl (H1.out.setField (r1.lost - 1) r1.armed r1.down (i := 2) (v := .int .i64 (r1.lost - 1)) (by simp))).from (HE1.out.trans (Ext.same (Keeps.setCell (p := ⟨B, 2, none⟩) H1.out.fB _)))⟩
    · rw [if_neg hl]
      obtain ⟨y, hy⟩ : ∃ y, r1.file f = y := ⟨_, rfl⟩
      rw [hy]
      have hpn := fun w => part_now f (.string ⟨y.now.toArray⟩) (.string ⟨y.last.toArray⟩) w
      have HG := Lib.hid (fun W F FA cf Q cq K ck (h : RefAt W F B r1 FA cf Q cq K ck) => get_ref h HO.out.few f y hy)
      have HSE := Lib.hid (fun W F FA cf Q cq K ck (h : RefAt W F B r1 FA cf Q cq K ck) => settle_ref h HO.out.few HO.out.len f y.now)
      have hl' : r1.lost ≤ 0 := by omega
      clear hm hrg hy
      go_enter Try.func32, Try.ntmps32
      go_wp2_with (first
        | ((with_reducible refine (HC.out).mono ?_); rintro e w1 ⟨rfl, F1, ⟨FA1, cf1, Q1, cq1, K1, ck1, h1⟩, hE1⟩; have H1 := Lib.hid h1; have HE1 := Lib.hid hE1; have HM := Lib.hid (may_ref h1 f 0 HM0.out); obtain ⟨zB, kB, fB⟩ := h1.loc; clear h1 hE1)
        | ((with_reducible refine (HM.out).mono ?_); rintro _ w9 ⟨rfl, hw9⟩; obtain rfl := hw9.symm)
        | ((with_reducible refine (HG.out _ _ _ _ _ _ _ _ H1.out).mono ?_); rintro e w2 ⟨rfl, hb2⟩; have HB2 := Lib.hid hb2; clear hb2)
        | ((with_reducible refine (HSE.out _ _ _ _ _ _ _ _ (H1.out.below HB2.out)).mono ?_); rintro e w3 ⟨rfl, h3⟩; have H3 := Lib.hid h3; clear h3))
      go_ret
      exact ⟨rfl, H3.out.from (HE1.out.trans (Ext.same (Keeps.below HB2.out)))⟩
  · rw [if_pos hm]
    have h1 : (mayF r1 f == 0) = false := by simpa using hm
    have h2 : (mayF r1 f != 0) = true := by simpa using hm
    have HMX := Lib.hid (fun W F FA cf Q cq K ck (h : RefAt W F B r1 FA cf Q cq K ck) => may_ref h f _ rfl)
    clear hm
    generalize mayF r1 f = m at *
    go_enter Try.func32, Try.ntmps32
    go_wp2_with (first
      | ((with_reducible refine (HC.out).mono ?_); rintro e w1 ⟨rfl, F1, ⟨FA1, cf1, Q1, cq1, K1, ck1, h1⟩, hE1⟩; have H1 := Lib.hid h1; have HE1 := Lib.hid hE1; have HM := Lib.hid (HMX.out _ _ _ _ _ _ _ _ h1); clear h1 hE1)
      | ((with_reducible refine (HM.out).mono ?_); rintro _ w9 ⟨rfl, hw9⟩; obtain rfl := hw9.symm))
    go_ret
    exact ⟨rfl, (RefTo.refl H1.out).from HE1.out⟩
set_option maxHeartbeats 2000000 in
theorem Trunc_ref (h : RefAt w F B r FA cf Q cq K ck) (hok : ROk r) (f n : Int) :
    Calls Try.prog 33 #[.pointer (some ⟨B, 0, none⟩), .int .i64 f, .int .i64 n] w fun e w' => e = .returned (.int .i64 (TruncR r f n).2) ∧ RefTo F w B (TruncR r f n).1 w' := by
  have HC := Lib.hid (comes_ref h hok 0 0 [] (by simp) (by unfold inI; omega))
  have HO := Lib.hid (hok.comes 0 0 [])
  unfold TruncR
  generalize comesR r 0 0 [] = r1 at *
  clear h hok
  dsimp only
  by_cases hm : mayF r1 f = 0
  · rw [if_neg (by simp [hm])]
    have HM0 := Lib.hid hm
    obtain ⟨y, hy⟩ : ∃ y, r1.file f = y := ⟨_, rfl⟩
    rw [hy]
    have hpn := fun w => part_now f (.string ⟨y.now.toArray⟩) (.string ⟨y.last.toArray⟩) w
    have hsl := strV_len y.now
    have hyl := HO.out.file f
    rw [hy] at hyl
    have HG := Lib.hid (fun W F FA cf Q cq K ck (h : RefAt W F B r1 FA cf Q cq K ck) => get_ref h HO.out.few f y hy)
    clear hm hy
    by_cases hc : n < 0
    · rw [if_pos (Or.inl hc)]
      go_enter Try.func33, Try.ntmps33
      go_wp2_with (first
        | ((with_reducible refine (HC.out).mono ?_); rintro e w1 ⟨rfl, F1, ⟨FA1, cf1, Q1, cq1, K1, ck1, h1⟩, hE1⟩; have H1 := Lib.hid h1; have HE1 := Lib.hid hE1; have HM := Lib.hid (may_ref h1 f 0 HM0.out); clear h1 hE1)
        | ((with_reducible refine (HM.out).mono ?_); rintro _ w9 ⟨rfl, hw9⟩; obtain rfl := hw9.symm)
        | ((with_reducible refine (HG.out _ _ _ _ _ _ _ _ H1.out).mono ?_); rintro e w2 ⟨rfl, hb2⟩; have HB2 := Lib.hid hb2; clear hb2))
      go_ret
      exact ⟨rfl, (RefTo.refl (H1.out.below HB2.out)).from (HE1.out.trans (Ext.same (Keeps.below HB2.out)))⟩
    · have hc' : 0 ≤ n := by omega
      by_cases hc2 : (y.now.length : Int) < n
      · rw [if_pos (Or.inr hc2)]
        go_enter Try.func33, Try.ntmps33
        go_wp2_with (first
          | ((with_reducible refine (HC.out).mono ?_); rintro e w1 ⟨rfl, F1, ⟨FA1, cf1, Q1, cq1, K1, ck1, h1⟩, hE1⟩; have H1 := Lib.hid h1; have HE1 := Lib.hid hE1; have HM := Lib.hid (may_ref h1 f 0 HM0.out); clear h1 hE1)
          | ((with_reducible refine (HM.out).mono ?_); rintro _ w9 ⟨rfl, hw9⟩; obtain rfl := hw9.symm)
          | ((with_reducible refine (HG.out _ _ _ _ _ _ _ _ H1.out).mono ?_); rintro e w2 ⟨rfl, hb2⟩; have HB2 := Lib.hid hb2; clear hb2))
        go_ret
        exact ⟨rfl, (RefTo.refl (H1.out.below HB2.out)).from (HE1.out.trans (Ext.same (Keeps.below HB2.out)))⟩
      · rw [if_neg (by omega)]
        have hc3 : n ≤ (y.now.length : Int) := by omega
        have hex := extract_list y.now 0 n.toNat
        rw [List.drop_zero, Nat.sub_zero] at hex
        have HSE := Lib.hid (fun W F FA cf Q cq K ck (h : RefAt W F B r1 FA cf Q cq K ck) => settle_ref h HO.out.few HO.out.len f (y.now.take n.toNat))
        clear hc hc2
        go_enter Try.func33, Try.ntmps33
        go_wp2_with (first
          | ((with_reducible refine (HC.out).mono ?_); rintro e w1 ⟨rfl, F1, ⟨FA1, cf1, Q1, cq1, K1, ck1, h1⟩, hE1⟩; have H1 := Lib.hid h1; have HE1 := Lib.hid hE1; have HM := Lib.hid (may_ref h1 f 0 HM0.out); clear h1 hE1)
          | ((with_reducible refine (HM.out).mono ?_); rintro _ w9 ⟨rfl, hw9⟩; obtain rfl := hw9.symm)
          | ((with_reducible refine (HG.out _ _ _ _ _ _ _ _ H1.out).mono ?_); rintro e w2 ⟨rfl, hb2⟩; have HB2 := Lib.hid hb2; clear hb2)
          | ((with_reducible refine (HSE.out _ _ _ _ _ _ _ _ (H1.out.below HB2.out)).mono ?_); rintro e w3 ⟨rfl, h3⟩; have H3 := Lib.hid h3; clear h3))
        go_ret
        exact ⟨rfl, H3.out.from (HE1.out.trans (Ext.same (Keeps.below HB2.out)))⟩
  · rw [if_pos hm]
    have h1 : (mayF r1 f == 0) = false := by simpa using hm
    have h2 : (mayF r1 f != 0) = true := by simpa using hm
    have HMX := Lib.hid (fun W F FA cf Q cq K ck (h : RefAt W F B r1 FA cf Q cq K ck) => may_ref h f _ rfl)
    clear hm
    generalize mayF r1 f = m at *
    go_enter Try.func33, Try.ntmps33
    go_wp2_with (first
      | ((with_reducible refine (HC.out).mono ?_); rintro e w1 ⟨rfl, F1, ⟨FA1, cf1, Q1, cq1, K1, ck1, h1⟩, hE1⟩; have H1 := Lib.hid h1; have HE1 := Lib.hid hE1; have HM := Lib.hid (HMX.out _ _ _ _ _ _ _ _ h1); clear h1 hE1)
      | ((with_reducible refine (HM.out).mono ?_); rintro _ w9 ⟨rfl, hw9⟩; obtain rfl := hw9.symm))
    go_ret
    exact ⟨rfl, (RefTo.refl H1.out).from HE1.out⟩
end
end Go.Proofs.Ythnechlnaacgfaa
