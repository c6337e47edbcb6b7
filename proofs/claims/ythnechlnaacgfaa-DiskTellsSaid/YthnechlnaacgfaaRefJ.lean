/- kerbsideref02: comes, Write, walked. -/
import Derived.Test.YthnechlnaacgfaaRefI
namespace Go.Proofs.Ythnechlnaacgfaa
open Go.RowKit

theorem addR_keep (r : DV) (f a : Int) (s : List UInt8) : (addR r f a s).keep = r.keep := by unfold addR; split <;> rfl
section
variable {w w' : World} {F G : Nat → Prop} {B : Nat} {r : DV} {FA : Option Addr} {cf : Nat} {Q : Option Addr} {cq : Nat} {K : Option Addr} {ck : Nat}
theorem Crash_own (h : RefAt w F B r FA cf Q cq K ck) (hok : ROk r) :
    Calls Try.prog 36 #[.pointer (some ⟨B, 0, none⟩), .slice K r.keep.length ck] w fun e w' => e = .returned (.tuple #[]) ∧ RefTo F w B (crashR r r.keep) w' :=
  Crash_ref h hok r.keep _ rfl K ck (by have := hok.ok.klen; omega) fun _ _ r' _ _ _ _ h' hk _ => by have := h'.keep; rw [hk] at this; exact this
set_option maxHeartbeats 2000000 in
theorem comes_ref (h : RefAt w F B r FA cf Q cq K ck) (hok : ROk r) (f at_ : Int) (s : List UInt8) (hs : s.length ≤ 140737488351232) (hat : inI at_) :
    Calls Try.prog 50 #[.pointer (some ⟨B, 0, none⟩), .int .i64 f, .int .i64 at_, .string ⟨s.toArray⟩] w fun e w' => e = .returned (.tuple #[]) ∧ RefTo F w B (comesR r f at_ s) w' := by
  have har := hok.ok.armed
  have HR := Lib.hid (RefTo.refl h)
  have hz := h.loc
  by_cases hd : r.down = true
  · have e : comesR r f at_ s = r := by unfold comesR; rw [if_pos (Or.inl hd)]
    rw [e]
    rw [hd] at hz
    obtain ⟨zB, kB, fB⟩ := hz
    clear h hok hd e
    go_enter Try.func50, Try.ntmps50
    go_wp2_with (fail)
    exact bodyPost_ret (v := .tuple #[]) (by simp [results, Try.results50, go_sem]) rfl ⟨rfl, HR.out⟩
  have hd0 : r.down = false := by simpa using hd
  rw [hd0] at hz
  by_cases ha0 : r.armed = 0
  · have e : comesR r f at_ s = r := by unfold comesR; rw [if_pos (Or.inr ha0)]
    rw [e]
    rw [ha0] at hz
    obtain ⟨zB, kB, fB⟩ := hz
    clear h hok hd e hd0 ha0
    go_enter Try.func50, Try.ntmps50
    go_wp2_with (fail)
    exact bodyPost_ret (v := .tuple #[]) (by simp [results, Try.results50, go_sem]) rfl ⟨rfl, HR.out⟩
  have haz : (r.armed == 0) = false := by simpa using ha0
  have hw : IntKind.i64.wrap (r.armed - 1) = r.armed - 1 := IntWalk.i64_in _ (by omega)
  have H1 := Lib.hid (h.setField r.lost (r.armed - 1) r.down (i := 4) (v := .int .i64 (r.armed - 1)) (by simp))
  have HE : Hid (Ext F F w (w.setCell ⟨B, 4, none⟩ (.int .i64 (r.armed - 1)))) := Ext.same (Keeps.setCell (p := ⟨B, 4, none⟩) h.fB (.int .i64 (r.armed - 1)))
  have hok1 := hok.turn ha0
  have HO1 := Lib.hid hok1
  obtain ⟨zB, kB, fB⟩ := hz
  by_cases ha1 : 0 < r.armed - 1
  · have e : comesR r f at_ s = { r with armed := r.armed - 1 } := by unfold comesR; rw [if_neg (by simp [hd0, ha0]), if_pos ha1]
    rw [e]
    clear h hok hd e hd0 ha0
    go_enter Try.func50, Try.ntmps50
    go_wp2_with (fail)
    exact bodyPost_ret (v := .tuple #[]) (by simp [results, Try.results50, go_sem]) rfl ⟨rfl, (RefTo.refl H1.out).from HE.out⟩
  have e : comesR r f at_ s = crashR (if 0 ≤ f ∧ f ≤ 15 ∧ fitsR at_ s = true then addR { r with armed := r.armed - 1 } f at_ s else { r with armed := r.armed - 1 }) r.keep := by
    unfold comesR; rw [if_neg (by simp [hd0, ha0]), if_neg ha1]
  rw [e]
  have HC := Lib.hid (Crash_own H1.out hok1)
  have HFT := Lib.hid (fun W x hx => fits_ref W at_ s hs hat x hx)
  unfold strV at HFT
  have hl1 := Lib.hid (h.loc.set_ 4 (.int .i64 (r.armed - 1)))
  generalize hr1 : ({ r with armed := r.armed - 1 } : DV) = r1 at *
  have HKE : Hid (r1.keep = r.keep) := by show r1.keep = r.keep; rw [← hr1]
  have HAD : Hid (∀ a : Nat, at_ = (a : Int) → 0 ≤ f → f ≤ 15 → a + s.length ≤ 16777216 → Calls Try.prog 54 #[.pointer (some ⟨B, 0, none⟩), .int .i64 f, .int .i64 a, .string ⟨s.toArray⟩] (w.setCell ⟨B, 4, none⟩ (.int .i64 (r.armed - 1))) fun e w' => e = .returned (.tuple #[]) ∧ RefTo F (w.setCell ⟨B, 4, none⟩ (.int .i64 (r.armed - 1))) B (addR r1 f a s) w') :=
    Lib.hid fun a _ h0 h1 h2 => add_ref H1.out hok1 f a s h0 (by omega) h2
  clear h hok hd hd0 ha0 e hr1 hok1
  rw [HKE.out] at HC
  by_cases hc : 0 ≤ f ∧ f ≤ 15 ∧ fitsR at_ s = true
  · rw [if_pos hc]
    obtain ⟨hf0, hf1, hfi⟩ := hc
    have hft := ROk.fits hfi
    obtain ⟨a, rfl⟩ : ∃ a : Nat, at_ = (a : Int) := ⟨at_.toNat, by omega⟩
    have HF1 := Lib.hid (HFT.out (w.setCell ⟨B, 4, none⟩ (.int .i64 (r.armed - 1))) true hfi)
    have HA1 := Lib.hid (HAD.out a rfl hf0 hf1 (by omega))
    have HOA := Lib.hid (HO1.out.add hf0 (by omega) hfi)
    clear hfi hft HAD HFT
    go_enter Try.func50, Try.ntmps50
    go_wp2_with (first
      | ((with_reducible refine (HF1.out).mono ?_); rintro _ w9 ⟨rfl, hw9⟩; obtain rfl := hw9.symm)
      | ((with_reducible refine (HA1.out).mono ?_); rintro e w2 ⟨rfl, F2, ⟨FA2, cf2, Q2, cq2, K2, ck2, h2⟩, hE2⟩; have H2 := Lib.hid h2; have HE2 := Lib.hid hE2; have hl2 := h2.loc; rw [addR_keep, HKE.out] at hl2; obtain ⟨z2, k2, f2⟩ := hl2; have hC2 := Crash_own h2 HOA.out; rw [addR_keep, HKE.out] at hC2; have HC2 := Lib.hid hC2; clear h2 hE2 hC2 zB kB fB)
      | ((with_reducible refine (HC2.out).mono ?_); rintro e w3 ⟨rfl, h3⟩; have H3 := Lib.hid h3; clear h3))
    go_end0
    exact ⟨rfl, (H3.out.from HE2.out).from HE.out⟩
  · rw [if_neg hc]
    by_cases hf0 : f < 0
    · clear hc
      go_enter Try.func50, Try.ntmps50
      go_wp2_with ((with_reducible refine (HC.out).mono ?_); rintro e w3 ⟨rfl, h3⟩; have H3 := Lib.hid h3; clear h3)
      go_end0
      exact ⟨rfl, H3.out.from HE.out⟩
    · have hf0' : 0 ≤ f := by omega
      by_cases hf1 : 15 < f
      · clear hc hf0
        go_enter Try.func50, Try.ntmps50
        go_wp2_with ((with_reducible refine (HC.out).mono ?_); rintro e w3 ⟨rfl, h3⟩; have H3 := Lib.hid h3; clear h3)
        go_end0
        exact ⟨rfl, H3.out.from HE.out⟩
      · have hf1' : f ≤ 15 := by omega
        have HF1 := Lib.hid (HFT.out (w.setCell ⟨B, 4, none⟩ (.int .i64 (r.armed - 1))) false (by
          rw [Bool.eq_false_iff]
          exact fun c => hc ⟨hf0', hf1', c⟩))
        clear hc hf0 hf1
        go_enter Try.func50, Try.ntmps50
        go_wp2_with (first
          | ((with_reducible refine (HF1.out).mono ?_); rintro _ w9 ⟨rfl, hw9⟩; obtain rfl := hw9.symm)
          | ((with_reducible refine (HC.out).mono ?_); rintro e w3 ⟨rfl, h3⟩; have H3 := Lib.hid h3; clear h3))
        go_end0
        exact ⟨rfl, H3.out.from HE.out⟩
end
end Go.Proofs.Ythnechlnaacgfaa
