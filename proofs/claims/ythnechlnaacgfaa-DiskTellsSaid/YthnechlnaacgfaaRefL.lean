/- kerbsidelaw02: tell, walked. -/
import Derived.Test.YthnechlnaacgfaaRefK
namespace Go.Proofs.Ythnechlnaacgfaa
open Go.RowKit

section
variable {w w' : World} {F G : Nat → Prop} {B : Nat} {r : DV} {FA : Option Addr} {cf : Nat} {Q : Option Addr} {cq : Nat} {K : Option Addr} {ck : Nat}
set_option maxHeartbeats 2000000 in
theorem tell_ref (h : RefAt w F B r FA cf Q cq K ck) (hok : ROk r) (a : ActC) (ha : a.ok) (hf : a.few) (hk : IntsAt w a.A a.keep) (hkf : a.keep ≠ [] → ∀ ad, a.A = some ad → ¬ F ad.block) :
    Calls Try.prog 13 #[.pointer (some ⟨B, 0, none⟩), .agg #[.int .i64 a.do_, .int .i64 a.f, .int .i64 a.n, strV a.s, .slice a.A a.keep.length a.c]] w fun e w' => e = .returned (.int .i64 (tellF r a).2) ∧ RefTo F w B (tellF r a).1 w' := by
  obtain ⟨do_, f, n, s, keep, A, c⟩ := a
  simp only at hk hkf ⊢
  obtain ⟨fs, fk, fn⟩ := hf
  obtain ⟨_, _, hn⟩ := ha
  simp only at fs fk hn
  have H := Lib.hid h
  have HO := Lib.hid hok
  have HK := Lib.hid hk
  have HKF := Lib.hid hkf
  have hb7 := and7 do_
  have HA := Lib.hid (h.below (below_alloc w (.cells #[.int .i64 do_, .int .i64 f, .int .i64 n, strV s, .slice A keep.length c] 33)))
  have HKA := Lib.hid (hk.below (below_alloc w (.cells #[.int .i64 do_, .int .i64 f, .int .i64 n, strV s, .slice A keep.length c] 33)))
  have hmod : 0 ≤ do_ % 8 ∧ do_ % 8 < 8 := by omega
  clear h hok hk hkf fn
  unfold tellF
  simp only
  by_cases h2 : do_ % 8 = 2
  · rw [if_pos h2]
    rw [h2] at hb7
    clear hmod h2
    go_enter Try.func13, Try.ntmps13
    go_wp2_with ((with_reducible refine (Sync_ref HA.out HO.out f).mono ?_); rintro e w1 ⟨rfl, h1⟩; have H1 := Lib.hid h1; clear h1)
    go_ret
    exact ⟨rfl, H1.out.from (Ext.same (Keeps.below (below_alloc w _)))⟩
  rw [if_neg h2]
  by_cases h3 : do_ % 8 = 3
  · rw [if_pos h3]
    rw [h3] at hb7
    clear hmod h2 h3
    go_enter Try.func13, Try.ntmps13
    go_wp2_with ((with_reducible refine (Trunc_ref HA.out HO.out f n).mono ?_); rintro e w1 ⟨rfl, h1⟩; have H1 := Lib.hid h1; clear h1)
    go_ret
    exact ⟨rfl, H1.out.from (Ext.same (Keeps.below (below_alloc w _)))⟩
  rw [if_neg h3]
  by_cases h4 : do_ % 8 = 4
  · rw [if_pos h4]
    rw [h4] at hb7
    have hb3 := and3 n
    clear hmod h2 h3 h4
    go_enter Try.func13, Try.ntmps13
    go_wp2_with ((with_reducible refine (Lose_ref HA.out (n % 4)).mono ?_); rintro e w1 ⟨rfl, h1⟩; have H1 := Lib.hid h1; clear h1)
    go_ret
    exact ⟨rfl, H1.out.from (Ext.same (Keeps.below (below_alloc w _)))⟩
  rw [if_neg h4]
  by_cases h5 : do_ % 8 = 5
  · rw [if_pos h5]
    rw [h5] at hb7
    clear hmod h2 h3 h4 h5
    go_enter Try.func13, Try.ntmps13
    go_wp2_with ((with_reducible refine (Arm_ref HA.out n keep A c HKA.out (by omega) HKF.out).mono ?_); rintro e w1 ⟨rfl, h1⟩; have H1 := Lib.hid h1; clear h1)
    go_ret
    exact ⟨rfl, H1.out.from (Ext.same (Keeps.below (below_alloc w _)))⟩
  rw [if_neg h5]
  by_cases h6 : do_ % 8 = 6
  · rw [if_pos h6]
    rw [h6] at hb7
    have hst := Crash_ref HA.out HO.out keep keep.length rfl A c (by omega) (fun _ _ _ _ _ _ _ _ _ hE => HKA.out.keeps hE.keeps (fun hne => HKF.out (fun e => hne (by rw [e]; rfl))))
    have HST := Lib.hid hst
    clear hst
    clear hmod h2 h3 h4 h5 h6
    go_enter Try.func13, Try.ntmps13
    go_wp2_with ((with_reducible refine (HST.out).mono ?_); rintro e w1 ⟨rfl, h1⟩; have H1 := Lib.hid h1; clear h1)
    go_ret
    exact ⟨rfl, H1.out.from (Ext.same (Keeps.below (below_alloc w _)))⟩
  rw [if_neg h6]
  by_cases h7 : do_ % 8 = 7
  · rw [if_pos h7]
    rw [h7] at hb7
    clear hmod h2 h3 h4 h5 h6 h7
    go_enter Try.func13, Try.ntmps13
    go_wp2_with ((with_reducible refine (Start_ref HA.out).mono ?_); rintro e w1 ⟨rfl, h1⟩; have H1 := Lib.hid h1; clear h1)
    go_ret
    exact ⟨rfl, H1.out.from (Ext.same (Keeps.below (below_alloc w _)))⟩
  rw [if_neg h7]
  have hw : ∀ w1, RefAt w1 F B r FA cf Q cq K ck → _ := fun w1 h1 => Write_ref h1 HO.out f n s (by omega) hn
  unfold strV at HA
  have HW := Lib.hid hw
  unfold strV
  rcases (by omega : do_ % 8 = 0 ∨ do_ % 8 = 1) with h0 | h0
  · rw [h0] at hb7
    clear hmod h2 h3 h4 h5 h6 h7 h0 hw
    go_enter Try.func13, Try.ntmps13
    go_wp2_with ((with_reducible refine (HW.out _ HA.out).mono ?_); rintro e w1 ⟨rfl, h1⟩; have H1 := Lib.hid h1; clear h1)
    go_ret
    exact ⟨rfl, H1.out.from (Ext.same (Keeps.below (below_alloc w _)))⟩
  · rw [h0] at hb7
    clear hmod h2 h3 h4 h5 h6 h7 h0 hw
    go_enter Try.func13, Try.ntmps13
    go_wp2_with ((with_reducible refine (HW.out _ HA.out).mono ?_); rintro e w1 ⟨rfl, h1⟩; have H1 := Lib.hid h1; clear h1)
    go_ret
    exact ⟨rfl, H1.out.from (Ext.same (Keeps.below (below_alloc w _)))⟩
end
end Go.Proofs.Ythnechlnaacgfaa
