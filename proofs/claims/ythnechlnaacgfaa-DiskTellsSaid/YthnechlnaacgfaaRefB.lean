/- kerbsideref02: Read, walked. -/
import Derived.Test.YthnechlnaacgfaaRefA
namespace Go.Proofs.Ythnechlnaacgfaa
open Go.RowKit

section
variable {w w' : World} {F G : Nat → Prop} {B : Nat} {r : DV} {FA : Option Addr} {cf : Nat} {Q : Option Addr} {cq : Nat} {K : Option Addr} {ck : Nat}
set_option maxHeartbeats 2000000 in
theorem Read_ref (h : RefAt w F B r FA cf Q cq K ck) (hok : ROk r) (f at_ n : Int) (x : List UInt8 × Int) (hx : ReadF r f at_ n = x) :
    Calls Try.prog 21 #[.pointer (some ⟨B, 0, none⟩), .int .i64 f, .int .i64 at_, .int .i64 n] w fun e w' => e = .returned (.tuple #[strV x.1, .int .i64 x.2]) ∧ Below w.heap.size w w' := by
  have hfl := (hok.file f).1
  obtain ⟨y, hy⟩ : ∃ y, r.file f = y := ⟨_, rfl⟩
  have hs := strV_len y.now
  have hpn := fun w => part_now f (.string ⟨y.now.toArray⟩) (.string ⟨y.last.toArray⟩) w
  have HM := Lib.hid (fun m => may_ref h f m)
  have HG := Lib.hid (get_ref h hok.few f _ hy)
  subst hx
  unfold ReadF
  rw [hy] at hfl ⊢
  clear h hok
  by_cases hm : mayF r f = 0
  · have HM0 := Lib.hid (HM.out 0 hm)
    rw [if_neg (by simp [hm])]
    clear hm hy
    unfold strV
    by_cases ha : at_ < 0
    · rw [if_pos (Or.inl ha)]
      go_enter Try.func21, Try.ntmps21
      go_wp2_with ((with_reducible refine (HM0.out).mono ?_); rintro _ _ ⟨rfl, rfl⟩)
      go_ret2
      exact ⟨rfl, Below.refl _ _⟩
    · by_cases ha2 : n < 0
      · rw [if_pos (Or.inr ha2)]
        go_enter Try.func21, Try.ntmps21
        go_wp2_with ((with_reducible refine (HM0.out).mono ?_); rintro _ _ ⟨rfl, rfl⟩)
        go_ret2
        exact ⟨rfl, Below.refl _ _⟩
      · rw [if_neg (by omega)]
        have ha1 : 0 ≤ at_ := by omega
        have ha3 : 0 ≤ n := by omega
        have hfi : (y.now.length : Int) ≤ 16777216 := by omega
        by_cases hb : (y.now.length : Int) ≤ at_
        · go_enter Try.func21, Try.ntmps21
          go_wp2_with (first
            | ((with_reducible refine (HM0.out).mono ?_); rintro _ _ ⟨rfl, rfl⟩)
            | ((with_reducible refine (HG.out).mono ?_); rintro e w1 ⟨rfl, hb1⟩; have HB := Lib.hid hb1; clear hb1))
          go_ret2
          refine ⟨congrArg (fun q => Ending.returned (.tuple #[.string q, .int .i64 0])) ?_, HB.out⟩
          rw [List.drop_of_length_le (by omega), List.take_nil]
        · have hb' : at_ < (y.now.length : Int) := by omega
          obtain ⟨m, hmm⟩ : ∃ m, (if (y.now.length : Int) - at_ < n then (y.now.length : Int) - at_ else n) = m := ⟨_, rfl⟩
          have hm1 : at_ ≤ at_ + m := by split at hmm <;> omega
          have hm2 : at_ + m ≤ (y.now.length : Int) := by split at hmm <;> omega
          go_enter Try.func21, Try.ntmps21
          go_wp2_with (first
            | ((with_reducible refine (HM0.out).mono ?_); rintro _ _ ⟨rfl, rfl⟩)
            | ((with_reducible refine (HG.out).mono ?_); rintro e w1 ⟨rfl, hb1⟩; have HB := Lib.hid hb1; clear hb1))
          go_ret2
          refine ⟨congrArg (fun q => Ending.returned (.tuple #[.string q, .int .i64 0])) ?_, HB.out⟩
          rw [extract_list, show (at_ + m).toNat - at_.toNat = m.toNat by omega]
          split at hmm
          · rw [List.take_of_length_le (i := n.toNat) (by rw [List.length_drop]; omega), List.take_of_length_le (by rw [List.length_drop]; omega)]
          · rw [hmm]
  · rw [if_pos hm]
    have h1 : (mayF r f == 0) = false := by simpa using hm
    have h2 : (mayF r f != 0) = true := by simpa using hm
    have HM1 := Lib.hid (HM.out _ rfl)
    clear hm hy
    unfold strV
    generalize mayF r f = m at *
    go_enter Try.func21, Try.ntmps21
    go_wp2_with ((with_reducible refine (HM1.out).mono ?_); rintro _ _ ⟨rfl, rfl⟩)
    go_ret2
    exact ⟨rfl, Below.refl _ _⟩
end
end Go.Proofs.Ythnechlnaacgfaa
