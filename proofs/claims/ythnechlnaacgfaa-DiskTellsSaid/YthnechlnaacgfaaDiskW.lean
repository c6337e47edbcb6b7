/- kerbsidelaw02: DiskReads, walked. -/
import Derived.Test.YthnechlnaacgfaaDiskS
import Derived.Test.YthnechlnaacgfaaDiskQ
namespace Go.Proofs.Ythnechlnaacgfaa
open Go.RowKit

section
variable {w0 w : World} {B : Nat} {d : DV}
theorem IntsAt.nil_ (w : World) : IntsAt w none [] := Sl.nil_ _ _ _
theorem Arm_nil (h : Has w0 w B d) (n : Int) (hn : inI n) : Calls Try.prog 27 #[.pointer (some ⟨B, 0, none⟩), .int .i64 n, .slice none 0 0] w fun e w' => e = .returned (.tuple #[]) ∧ Has w0 w' B (ArmF d n []) :=
  Arm_has h n hn [] none 0 (IntsAt.nil_ w0) (by simp)
theorem Crash_nil (h : Has w0 w B d) : Calls Try.prog 25 #[.pointer (some ⟨B, 0, none⟩), .slice none 0 0] w fun e w' => e = .returned (.tuple #[]) ∧ Has w0 w' B (crashF d []) :=
  Crash_has h [] none 0 (IntsAt.nil_ w0) (by simp)
theorem Trunc_str (h : Has w0 w B d) (f n : Int) (r : DV × Int) (hr : TruncF d f n = r) :
    Calls Try.prog 30 #[.pointer (some ⟨B, 0, none⟩), .int .i64 f, .int .i64 n] w fun e w' => e = .returned (.int .i64 r.2) ∧ Has w0 w' B r.1 := by
  subst hr
  exact Trunc_has h f n
theorem ActsAt.below {w w' : World} {l : List ActC} (h : ActsAt w l) (hb : Below w.heap.size w w') : ActsAt w' l := fun a ha => (h a ha).below hb
theorem few_all {l : List ActC} (h : fewB l = true) : (∀ a ∈ l, a.few) ∧ l.length ≤ 40 := by
  unfold fewB at h
  simpa using h
end
set_option maxRecDepth 100000 in
set_option maxHeartbeats 4000000 in
theorem reads_any (w : World) (A : Option Addr) (n c : Nat) (l : List ActC) (hs : Sl w 5 A n (l.map ActC.cells)) (hn : n ≤ maxLen) (ho : ∀ a ∈ l, a.ok) (hk : ActsAt w l) (f at_ size : Int) (hf : inI f) (hat : inI at_) (hsz : inI size) (s : List UInt8) (hsl : s.length ≤ maxLen) :
    Calls Try.prog 7 #[.slice A n c, .int .i64 f, .int .i64 at_, .string ⟨s.toArray⟩, .int .i64 size] w fun e w' => e = .returned (.bool true) ∧ Below w.heap.size w w' := by
  have hlen := strV_len s
  unfold maxLen at hsl
  unfold inI at hf hat hsz
  have HS := Lib.hid hs
  have HO := Lib.hid ho
  have HK := Lib.hid hk
  have HN := Lib.hid hn
  clear hs ho hk hn
  have HSM := Lib.hid (small_any w)
  by_cases hbad : fewB l = false ∨ 300 < (s.length : Int) ∨ at_ < 0 ∨ 3000 < at_ ∨ size < 0
  · obtain ⟨q, hq⟩ : ∃ q, fewB l = q := ⟨_, rfl⟩
    have HQ := Lib.hid hq
    have hfw := fun w1 hb => few_any w1 A n c l (HS.out.below hb) HN.out q HQ.out
    have HFW := Lib.hid hfw
    rw [hq] at hbad
    clear hq hfw
    rcases hbad with h | h | h | h | h
    · subst h
      go_enter Try.func7, Try.ntmps7
      go_wp2_with (first
        | ((with_reducible refine (HSM.out).mono ?_); rintro e w1 ⟨rfl, hb⟩; have HB := Lib.hid hb; clear hb)
        | ((with_reducible refine (HFW.out _ HB.out).mono ?_); rintro _ _ ⟨rfl, rfl⟩))
      go_ret
      exact ⟨rfl, HB.out⟩
    all_goals
      cases q <;>
      · go_enter Try.func7, Try.ntmps7
        go_wp2_with (first
          | ((with_reducible refine (HSM.out).mono ?_); rintro e w1 ⟨rfl, hb⟩; have HB := Lib.hid hb; clear hb)
          | ((with_reducible refine (HFW.out _ HB.out).mono ?_); rintro _ _ ⟨rfl, rfl⟩))
        all_goals
          go_ret
          exact ⟨rfl, HB.out⟩
  · simp only [not_or, Bool.not_eq_false] at hbad
    obtain ⟨b1, b2, b3, b4, b5⟩ := hbad
    obtain ⟨hfew, _⟩ := few_all b1
    have HFE := Lib.hid hfew
    have HFW := Lib.hid (fun w1 hb => few_any w1 A n c l (HS.out.below hb) HN.out true b1)
    obtain ⟨a, rfl⟩ : ∃ a : Nat, at_ = (a : Int) := ⟨at_.toNat, by omega⟩
    have c2 : (s.length : Int) ≤ 300 := by omega
    have hsl2 : s.length ≤ 140737488351232 := by omega
    have c4 : (a : Int) ≤ 3000 := by omega
    have c5 : 0 ≤ size := by omega
    obtain ⟨d0, hd0⟩ : ∃ d0, ArmF (playF l) 0 [] = d0 := ⟨_, rfl⟩
    have hok0 : DOk d0 := by rw [← hd0]; exact (play_ok HO.out hfew).Arm 0 (by omega) [] (by simp)
    have har0 : d0.armed = 0 := by rw [← hd0]; rfl
    have HD0 := Lib.hid hd0
    have HOK := Lib.hid hok0
    have HAR := Lib.hid har0
    clear hfew b1 b2 b3 b4 b5 hd0 hok0 har0
    by_cases hm : mayF d0 f = 0
    · obtain ⟨d1, X, fr, d2, g1, g2, g3, g4, g5, g6, g7, g8, g9⟩ := reads_law HOK.out HAR.out f hm a (by omega) s (by omega) size c5
      obtain ⟨m1, m2, m3⟩ := DOk.may hm
      have HD1 := Lib.hid g1
      have HD2 := Lib.hid g2
      have HD3 : Hid ((X.length : Int) = (d1.file f).now.length) := by show (X.length : Int) = _; rw [g3]
      have HD5 := Lib.hid g5
      have HD7 := Lib.hid g7
      have HD8 := Lib.hid g8
      have HD9 := Lib.hid g9
      have hXl := strV_len X
      have HG6 := Lib.hid g6
      have HM1 := Lib.hid m1
      have hf15 : f ≤ 15 := by omega
      obtain ⟨m, hmm⟩ : ∃ m, min size.toNat (X.length - fr) = m := ⟨_, rfl⟩
      rw [hmm] at HD7
      have q1 : (if X.length < a then (X.length : Int) else (a : Int)) = (fr : Int) := by split <;> omega
      have q2 : (if (X.length : Int) - (fr : Int) < size then (X.length : Int) - (fr : Int) else size) = (m : Int) := by split <;> omega
      have q3 : (fr : Int) ≤ (X.length : Int) := by omega
      have q4 : (fr : Int) + (m : Int) ≤ (X.length : Int) := by omega
      have q5 : ((fr : Int) + (m : Int)).toNat = fr + m := by omega
      have q6 : ByteArray.extract ⟨X.toArray⟩ fr (fr + m) = ⟨((X.drop fr).take m).toArray⟩ := by rw [extract_list]; congr 3; omega
      have q7 : ByteArray.extract ⟨X.toArray⟩ 0 fr = ⟨(X.take fr).toArray⟩ := by rw [extract_list]; simp
      have q8 : (X.length : Int) ≤ 16777216 := by omega
      clear hm g1 g2 g3 g5 g6 g7 g8 g9 m1 m3 hf hmm
      go_enter Try.func7, Try.ntmps7
      go_wp2_with (first
        | ((with_reducible refine (HSM.out).mono ?_); rintro e w1 ⟨rfl, hb⟩; have HB := Lib.hid hb; clear hb)
        | ((with_reducible refine (HFW.out _ HB.out).mono ?_); rintro _ _ ⟨rfl, rfl⟩)
        | ((with_reducible refine (played_any w1 A n c l (HS.out.below HB.out) HN.out HO.out HFE.out (HK.out.below HB.out)).mono ?_); rintro e w2 ⟨B, rfl, h2⟩; have H2 := Lib.hid h2; clear h2)
        | ((with_reducible refine (Arm_nil H2.out 0 (by unfold inI; omega)).mono ?_); rintro e w3 ⟨rfl, h3⟩; rw [HD0.out] at h3; have H3 := Lib.hid h3; clear h3)
        | ((with_reducible refine (Down_has H3.out false HM1.out).mono ?_); rintro _ _ ⟨rfl, rfl⟩)
        | ((with_reducible refine (Write_str H3.out f a s (by unfold inI; omega) hsl2 _ HD1.out).mono ?_); rintro e w4 ⟨rfl, h4⟩; have H4 := Lib.hid h4; clear h4)
        | ((with_reducible refine (Read_str H4.out f a s.length _ _ HD2.out).mono ?_); rintro _ _ ⟨rfl, rfl⟩)
        | ((with_reducible refine (Size_has H4.out f _ HD3.out).mono ?_); rintro _ _ ⟨rfl, rfl⟩)
        | ((with_reducible refine (Read_str H4.out f 0 X.length _ _ HD5.out).mono ?_); rintro _ _ ⟨rfl, rfl⟩)
        | ((with_reducible refine (Read_str H4.out f a size _ _ HD7.out).mono ?_); rintro _ _ ⟨rfl, rfl⟩)
        | ((with_reducible refine (Trunc_str H4.out f fr _ HD8.out).mono ?_); rintro e w5 ⟨rfl, h5⟩; have H5 := Lib.hid h5; clear h5)
        | ((with_reducible refine (Crash_nil H5.out).mono ?_); rintro e w6 ⟨rfl, h6⟩; have H6 := Lib.hid h6; clear h6)
        | ((with_reducible refine (Start_has H6.out).mono ?_); rintro e w7 ⟨rfl, h7⟩; have H7 := Lib.hid h7; clear h7)
        | ((with_reducible refine (Read_str H7.out f 0 16777216 _ _ HD9.out).mono ?_); rintro _ _ ⟨rfl, rfl⟩))
      go_ret
      exact ⟨rfl, HB.out.trans (H7.out.base.mono HB.out.size)⟩
    · have hw : WriteF d0 f a s = (d0, mayF d0 f) := by rw [WriteF_calm HAR.out, writeF, if_pos hm]
      have HW := Lib.hid hw
      have h2 : (mayF d0 f != 0) = true := by simpa using hm
      obtain ⟨q, hq⟩ : ∃ q, d0.down = q := ⟨_, rfl⟩
      have HQ := Lib.hid hq
      have hff : q = true ∨ f < 0 ∨ 15 < f := by
        rw [← hq]
        unfold mayF at hm
        cases hd : d0.down
        · rw [hd] at hm
          simp at hm
          omega
        · exact .inl rfl
      have HM : ∀ x, mayF d0 f = x → Hid (WriteF d0 f a s = (d0, x)) := fun x hx => by show WriteF d0 f a s = (d0, x); rw [hw, hx]
      have HWM := HM _ rfl
      clear hw hm hq HW HM
      generalize mayF d0 f = mm at *
      rcases hff with h | h | h
      · subst h
        go_enter Try.func7, Try.ntmps7
        go_wp2_with (first
          | ((with_reducible refine (HSM.out).mono ?_); rintro e w1 ⟨rfl, hb⟩; have HB := Lib.hid hb; clear hb)
          | ((with_reducible refine (HFW.out _ HB.out).mono ?_); rintro _ _ ⟨rfl, rfl⟩)
          | ((with_reducible refine (played_any w1 A n c l (HS.out.below HB.out) HN.out HO.out HFE.out (HK.out.below HB.out)).mono ?_); rintro e w2 ⟨B, rfl, h2⟩; have H2 := Lib.hid h2; clear h2)
          | ((with_reducible refine (Arm_nil H2.out 0 (by unfold inI; omega)).mono ?_); rintro e w3 ⟨rfl, h3⟩; rw [HD0.out] at h3; have H3 := Lib.hid h3; clear h3)
          | ((with_reducible refine (Down_has H3.out true HQ.out).mono ?_); rintro _ _ ⟨rfl, rfl⟩)
          | ((with_reducible refine (Write_str H3.out f a s (by unfold inI; omega) hsl2 _ HWM.out).mono ?_); rintro e w4 ⟨rfl, h4⟩; have H4 := Lib.hid h4; clear h4))
        go_ret
        exact ⟨rfl, HB.out.trans (H4.out.base.mono HB.out.size)⟩
      all_goals
        cases q <;>
        · go_enter Try.func7, Try.ntmps7
          go_wp2_with (first
            | ((with_reducible refine (HSM.out).mono ?_); rintro e w1 ⟨rfl, hb⟩; have HB := Lib.hid hb; clear hb)
            | ((with_reducible refine (HFW.out _ HB.out).mono ?_); rintro _ _ ⟨rfl, rfl⟩)
            | ((with_reducible refine (played_any w1 A n c l (HS.out.below HB.out) HN.out HO.out HFE.out (HK.out.below HB.out)).mono ?_); rintro e w2 ⟨B, rfl, h2⟩; have H2 := Lib.hid h2; clear h2)
            | ((with_reducible refine (Arm_nil H2.out 0 (by unfold inI; omega)).mono ?_); rintro e w3 ⟨rfl, h3⟩; rw [HD0.out] at h3; have H3 := Lib.hid h3; clear h3)
            | ((with_reducible refine (Down_has H3.out _ HQ.out).mono ?_); rintro _ _ ⟨rfl, rfl⟩)
            | ((with_reducible refine (Write_str H3.out f a s (by unfold inI; omega) hsl2 _ HWM.out).mono ?_); rintro e w4 ⟨rfl, h4⟩; have H4 := Lib.hid h4; clear h4))
          go_ret
          exact ⟨rfl, HB.out.trans (H4.out.base.mono HB.out.size)⟩
end Go.Proofs.Ythnechlnaacgfaa
