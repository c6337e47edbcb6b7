/- kerbsidelaw41: GroupTells, walked. -/
import Derived.Test.YtcgakhajmekjcaaGrpO
namespace Go.Proofs.Ytcgakhajmekjcaa
open Go.RowKit

theorem splitF_len {c first : Int} {ps l : List Int} {e : Int} (h : splitF c ps first = (l, e)) : l.length ≤ ps.length := by
  unfold splitF at h
  split at h
  · injection h with h _
    rw [← h, splitL_length]
    exact Nat.le_refl _
  · injection h with h _
    rw [← h]
    exact Nat.zero_le _
theorem turnsF_len {c k : Int} {ps l : List Int} {e : Int} (h : turnsF c ps k = (l, e)) : l.length ≤ ps.length := by
  unfold turnsF at h
  split at h
  · injection h with h _
    rw [← h]
    unfold turnsL
    simp
  · injection h with h _
    rw [← h]
    exact Nat.zero_le _
section
variable (w : World) (A : Option Addr) (n cc : Nat) (ps : List Int) (hs : Ints w A n ps) (hn : n ≤ maxLen) (c x : Int) (l : List Int) (r : Int) (m : Nat) (hm : l.length = m)
include hs hn hm
theorem Split_two (hr : splitF c ps x = (l, r)) :
    Calls Try.prog 9 #[.int .i64 c, .slice A n cc, .int .i64 x] w fun e w' => ∃ A' c', e = .returned (.tuple #[.slice A' m c', .int .i64 r]) ∧ Ints w' A' m l ∧ Below w.heap.size w w' := by
  subst hm
  exact (Split_any w A n cc ps hs hn c x _ hr).mono fun e w' ⟨A', c', h1, h2, h3⟩ => ⟨A', c', h1, h2.1, h3⟩
theorem RSplit_two (hr : splitF c ps x = (l, r)) :
    Calls Try.prog 10 #[.int .i64 c, .slice A n cc, .int .i64 x] w fun e w' => ∃ A' c', e = .returned (.tuple #[.slice A' m c', .int .i64 r]) ∧ Ints w' A' m l ∧ Below w.heap.size w w' := by
  subst hm
  exact (RSplit_any w A n cc ps hs hn c x _ hr).mono fun e w' ⟨A', c', h1, h2, h3⟩ => ⟨A', c', h1, h2.1, h3⟩
theorem Turns_two (hr : turnsF c ps x = (l, r)) :
    Calls Try.prog 11 #[.int .i64 c, .slice A n cc, .int .i64 x] w fun e w' => ∃ A' c', e = .returned (.tuple #[.slice A' m c', .int .i64 r]) ∧ Ints w' A' m l ∧ Below w.heap.size w w' := by
  subst hm
  exact (Turns_any w A n cc ps hs hn c x _ hr).mono fun e w' ⟨A', c', h1, h2, h3⟩ => ⟨A', c', h1, h2.1, h3⟩
theorem RTurns_two (hr : turnsF c ps x = (l, r)) :
    Calls Try.prog 12 #[.int .i64 c, .slice A n cc, .int .i64 x] w fun e w' => ∃ A' c', e = .returned (.tuple #[.slice A' m c', .int .i64 r]) ∧ Ints w' A' m l ∧ Below w.heap.size w w' := by
  subst hm
  exact (RTurns_any w A n cc ps hs hn c x _ hr).mono fun e w' ⟨A', c', h1, h2, h3⟩ => ⟨A', c', h1, h2.1, h3⟩
end
set_option maxRecDepth 100000 in
set_option maxHeartbeats 8000000 in
theorem gtells_any (w : World) (A : Option Addr) (n cc : Nat) (ps : List Int) (hs : Ints w A n ps) (hn : n ≤ maxLen) (c first x : Int) :
    Calls Try.prog 3 #[.int .i64 c, .slice A n cc, .int .i64 first, .int .i64 x] w fun e w' => e = .returned (.bool true) ∧ Below w.heap.size w w' := by
  have hl : ps.length = n := hs.length
  have HSA := Lib.hid (sane_any w)
  have HS := Lib.hid hs
  by_cases h110 : 110 < (n : Int)
  · have HFW := Lib.hid (fun W => few_any W A n cc false (decide_eq_false (by omega)))
    clear hs hl
    go_enter Try.func3, Try.ntmps3
    go_wp2_with (first
      | ((with_reducible refine (HSA.out).mono ?_); rintro _ w1 ⟨rfl, hb1⟩; have HB1 := Lib.hid hb1; clear hb1)
      | ((with_reducible refine (HFW.out _).mono ?_); rintro _ w9 ⟨rfl, hw9⟩; obtain rfl := hw9))
    go_ret
    exact ⟨rfl, HB1.out⟩
  have HFW := Lib.hid (fun W => few_any W A n cc true (decide_eq_true (by omega)))
  obtain ⟨q, hq⟩ : ∃ q, rightB ps = q := ⟨_, rfl⟩
  have HRT := Lib.hid (fun W (h : Ints W A n ps) => Right_any W A n cc ps h hn q hq)
  have HRR := Lib.hid (fun W (h : Ints W A n ps) => RRight_any W A n cc ps h hn q hq)
  obtain ⟨l1, e1, h1⟩ : ∃ l e, splitF c ps first = (l, e) := ⟨_, _, rfl⟩
  obtain ⟨l2, e2, h2⟩ : ∃ l e, turnsF c ps x = (l, e) := ⟨_, _, rfl⟩
  have hm1 := splitF_len h1
  have hm2 := turnsF_len h2
  obtain ⟨m1, hl1⟩ : ∃ m, l1.length = m := ⟨_, rfl⟩
  obtain ⟨m2, hl2⟩ : ∃ m, l2.length = m := ⟨_, rfl⟩
  have HC1 := Lib.hid (fun W (h : Ints W A n ps) => Split_two W A n cc ps h hn c first l1 e1 m1 hl1 h1)
  have HC2 := Lib.hid (fun W (h : Ints W A n ps) => RSplit_two W A n cc ps h hn c first l1 e1 m1 hl1 h1)
  have HC3 := Lib.hid (fun W (h : Ints W A n ps) => Turns_two W A n cc ps h hn c x l2 e2 m2 hl2 h2)
  have HC4 := Lib.hid (fun W (h : Ints W A n ps) => RTurns_two W A n cc ps h hn c x l2 e2 m2 hl2 h2)
  have HM1 := Lib.hid (fun W A1 c1 A2 c2 (ha : Ints W A1 m1 l1) (hb : Ints W A2 m1 l1) => Same_any W A1 A2 m1 c1 m1 c2 l1 l1 ha hb (by unfold maxLen; omega) true (decide_eq_true rfl))
  have HM2 := Lib.hid (fun W A1 c1 A2 c2 (ha : Ints W A1 m2 l2) (hb : Ints W A2 m2 l2) => Same_any W A1 A2 m2 c1 m2 c2 l2 l2 ha hb (by unfold maxLen; omega) true (decide_eq_true rfl))
  clear hs hl hq h1 h2 hm1 hm2 hl1 hl2 h110
  have hx : x ≤ 60 ∨ (60 < x ∧ x ≤ 400) ∨ (60 < x ∧ 400 < x) := by omega
  rcases hx with hx | ⟨hx, hx2⟩ | ⟨hx, hx2⟩
  case' inr.inl =>
    go_enter Try.func3, Try.ntmps3
    go_wp2_with (first
      | ((with_reducible refine (HSA.out).mono ?_); rintro _ w1 ⟨rfl, hb1⟩; have HB1 := Lib.hid hb1; clear hb1)
      | ((with_reducible refine (HFW.out _).mono ?_); rintro _ w9 ⟨rfl, hw9⟩; obtain rfl := hw9))
    go_ret
    exact ⟨rfl, HB1.out⟩
  case inl | inr.inr =>
    go_enter Try.func3, Try.ntmps3
    go_wp2_with (first
      | ((with_reducible refine (HSA.out).mono ?_); rintro _ w1 ⟨rfl, hb1⟩; have HB1 := Lib.hid hb1; have HS1 := Lib.hid (HS.out.below hb1); clear hb1)
      | ((with_reducible refine (HFW.out _).mono ?_); rintro _ w9 ⟨rfl, hw9⟩; obtain rfl := hw9)
      | ((with_reducible refine (HC1.out _ HS1.out).mono ?_); rintro _ w2 ⟨A2, c2, rfl, hi2, hb2⟩; have HI2 := Lib.hid hi2; have HS2 := Lib.hid (HS1.out.below hb2); have HB2 := Lib.hid (HB1.out.trans (hb2.mono HB1.out.size)); clear hi2 hb2)
      | ((with_reducible refine (HC2.out _ HS2.out).mono ?_); rintro _ w3 ⟨A3, c3, rfl, hi3, hb3⟩; have HI3 := Lib.hid hi3; have HJ3 := Lib.hid (Sl.below HI2.out hb3); have HS3 := Lib.hid (HS2.out.below hb3); have HB3 := Lib.hid (HB2.out.trans (hb3.mono HB2.out.size)); clear hi3 hb3)
      | ((with_reducible refine (HC3.out _ HS3.out).mono ?_); rintro _ w4 ⟨A4, c4, rfl, hi4, hb4⟩; have HI4 := Lib.hid hi4; have HJ4 := Lib.hid (Sl.below HJ3.out hb4); have HK4 := Lib.hid (Sl.below HI3.out hb4); have HS4 := Lib.hid (HS3.out.below hb4); have HB4 := Lib.hid (HB3.out.trans (hb4.mono HB3.out.size)); clear hi4 hb4)
      | ((with_reducible refine (HC4.out _ HS4.out).mono ?_); rintro _ w5 ⟨A5, c5, rfl, hi5, hb5⟩; have HI5 := Lib.hid hi5; have HL5 := Lib.hid (Sl.below HI4.out hb5); have HJ5 := Lib.hid (Sl.below HJ4.out hb5); have HK5 := Lib.hid (Sl.below HK4.out hb5); have HS5 := Lib.hid (HS4.out.below hb5); have HB5 := Lib.hid (HB4.out.trans (hb5.mono HB4.out.size)); clear hi5 hb5)
      | ((with_reducible refine (HM1.out _ _ _ _ _ HJ5.out HK5.out).mono ?_); rintro _ w6 ⟨rfl, hb6⟩; have HI6 := Lib.hid (Sl.below HI5.out hb6); have HL6 := Lib.hid (Sl.below HL5.out hb6); have HS6 := Lib.hid (HS5.out.below hb6); have HB6 := Lib.hid (HB5.out.trans (hb6.mono HB5.out.size)); clear hb6)
      | ((with_reducible refine (HM2.out _ _ _ _ _ HL6.out HI6.out).mono ?_); rintro _ w7 ⟨rfl, hb7⟩; have HS7 := Lib.hid (HS6.out.below hb7); have HB7 := Lib.hid (HB6.out.trans (hb7.mono HB6.out.size)); clear hb7)
      | ((with_reducible refine (HRT.out _ HS7.out).mono ?_); rintro _ w9 ⟨rfl, hw9⟩; obtain rfl := hw9)
      | ((with_reducible refine (HRR.out _ HS7.out).mono ?_); rintro _ w9 ⟨rfl, hw9⟩; obtain rfl := hw9))
    go_ret
    exact ⟨by simp, HB7.out⟩
end Go.Proofs.Ytcgakhajmekjcaa
