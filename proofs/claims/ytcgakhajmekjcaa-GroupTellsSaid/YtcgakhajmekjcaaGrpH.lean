/- kerbsidelaw41: is, sane, few, walked. -/
import Derived.Test.YtcgakhajmekjcaaGrpG
namespace Go.Proofs.Ytcgakhajmekjcaa
open Go.RowKit

theorem ints_new (w : World) (t : TypeId) (l : List Int) (xs : Array Value) (h : (l.map (Value.int .i64)).toArray = xs) (n : Nat) (hn : l.length = n) : Ints (w.alloc (.cells xs t)) (some ⟨w.heap.size, 0, none⟩) n l := by
  subst h hn
  refine ⟨by simp, fun i x hx => ⟨_, _, rfl, by simp, fun j v hv => ?_⟩⟩
  rw [List.getElem?_map] at hx
  obtain ⟨k, hk, rfl⟩ := Option.map_eq_some_iff.1 hx
  match j, hv with
  | 0, hv =>
    simp only [List.getElem?_cons_zero, Option.some.injEq] at hv
    subst hv
    rw [World.cell?_alloc_at _ _ _ _ rfl]
    simp [hk]
  | j + 1, hv => simp at hv
set_option maxHeartbeats 1000000 in
theorem is_true (w : World) (A A2 : Option Addr) (n cc n2 c2 : Nat) (ps want : List Int) (hs : Ints w A n ps) (hn : n ≤ maxLen) (hw : Ints w A2 n2 want) (c first : Int) (h : splitF c ps first = (want, 0)) :
    Calls Try.prog 17 #[.int .i64 c, .slice A n cc, .int .i64 first, .slice A2 n2 c2] w fun e w' => e = .returned (.bool true) ∧ Below w.heap.size w w' := by
  have hl : want.length = n2 := hw.length
  have h1 := Split_any w A n cc ps hs hn c first _ h
  simp only [hl] at h1
  have hlim : n2 ≤ maxLen := by
    unfold splitF at h
    split at h
    · injection h with h _
      have h3 := splitL_length c ps first
      rw [h] at h3
      have := hs.length
      omega
    · injection h with h _
      rw [← h] at hl
      simp at hl
      omega
  have HS := Lib.hid h1
  have HW := Lib.hid hw
  have HM := Lib.hid hlim
  clear hs h hl h1 hlim hw
  go_enter Try.func17, Try.ntmps17
  go_wp2_with (first
    | ((with_reducible refine (HS.out).mono ?_); rintro _ w1 ⟨A1, c1, rfl, hs1, hb1⟩; have HS1 := Lib.hid hs1.1; have HB1 := Lib.hid hb1; clear hs1 hb1)
    | ((with_reducible refine (Same_any w1 A1 A2 n2 c1 n2 c2 want want HS1.out (HW.out.below HB1.out) HM.out true (decide_eq_true rfl)).mono ?_); rintro _ w2 ⟨rfl, hb2⟩; have HB2 := Lib.hid (HB1.out.trans (hb2.mono HB1.out.size))))
  go_ret
  exact ⟨rfl, HB2.out⟩
set_option maxHeartbeats 1000000 in
theorem few_any (w : World) (A : Option Addr) (n cc : Nat) (r : Bool) (hr : decide ((n : Int) ≤ 110) = r) :
    Calls Try.prog 8 #[.slice A n cc] w fun e w' => e = .returned (.bool r) ∧ w = w' := by
  subst hr
  go_enter Try.func8, Try.ntmps8
  go_wp2_with (fail)
  go_ret
  exact ⟨rfl, rfl⟩
theorem sa1 : splitF 5 [0, 0] 0 = ([], 1) := by decide
theorem sa2 : turnsF 100 [1, 1, 1] 3 = ([100, 100, 100], 0) := by decide
theorem sa3 : splitF 100 [1, 1, 1] 0 = ([34, 33, 33], 0) := by decide
theorem sa4 : splitF 100 [1, 1, 1] 1 = ([33, 34, 33], 0) := by decide
theorem sa5 : splitF 10 [1, 0, 3] 0 = ([3, 0, 7], 0) := by decide
theorem sa6 : splitF 10 [1, 0, 3] 2 = ([2, 0, 8], 0) := by decide
set_option maxRecDepth 100000 in
set_option maxHeartbeats 4000000 in
theorem sane_any (w : World) : Calls Try.prog 7 #[] w fun e w' => e = .returned (.bool true) ∧ Below w.heap.size w w' := by
  have m2 : 2 ≤ maxLen := by decide
  have m3 : 3 ≤ maxLen := by decide
  go_enter Try.func7, Try.ntmps7
  go_wp2_with (fail)
  ((with_reducible refine (Split_any (w.alloc (.cells #[.int .i64 0, .int .i64 0] 3)) (some ⟨w.heap.size, 0, none⟩) 2 2 [0, 0] (ints_new _ _ _ _ rfl _ rfl) m2 5 0 _ sa1).mono ?_); rintro _ w1 ⟨A1, c1, rfl, _, hb1⟩)
  have HB1 := Lib.hid ((below_alloc w _).trans (hb1.mono (below_alloc w _).size))
  clear hb1
  go_wp2_with (fail)
  ((with_reducible refine (Turns_any (w1.alloc (.cells #[.int .i64 1, .int .i64 1, .int .i64 1] 3)) (some ⟨w1.heap.size, 0, none⟩) 3 3 [1, 1, 1] (ints_new _ _ _ _ rfl _ rfl) m3 100 3 _ sa2).mono ?_); rintro _ w2 ⟨A2, c2, rfl, hs2, hb2⟩)
  have HS2 := Lib.hid hs2.1
  have HB2 := Lib.hid (HB1.out.trans (((below_alloc w1 _).trans (hb2.mono (below_alloc w1 _).size)).mono HB1.out.size))
  clear hs2 hb2
  go_wp2_with (fail)
  have hi3 := is_true ((w2.alloc (.cells #[.int .i64 1, .int .i64 1, .int .i64 1] 3)).alloc (.cells #[.int .i64 34, .int .i64 33, .int .i64 33] 3)) (some ⟨w2.heap.size, 0, none⟩) (some ⟨w2.heap.size + 1, 0, none⟩) 3 3 3 3 [1, 1, 1] [34, 33, 33] (Sl.alloc (ints_new w2 3 _ _ rfl _ rfl) _) m3 (by have h := ints_new (w2.alloc (.cells #[.int .i64 1, .int .i64 1, .int .i64 1] 3)) 3 [34, 33, 33] _ rfl 3 rfl; rw [World.size_alloc] at h; exact h) 100 0 sa3
  ((with_reducible refine (hi3).mono ?_); rintro _ w3 ⟨rfl, hb3⟩)
  have HB3 := Lib.hid (HB2.out.trans ((((below_alloc w2 _).alloc (by simp) _).trans (hb3.mono (by simp; omega))).mono HB2.out.size))
  have HS3 := Lib.hid (HS2.out.below (((below_alloc w2 _).alloc (by simp) _).trans (hb3.mono (by simp; omega))))
  clear hb3 hi3
  go_wp2_with (fail)
  have hi4 := is_true ((w3.alloc (.cells #[.int .i64 1, .int .i64 1, .int .i64 1] 3)).alloc (.cells #[.int .i64 33, .int .i64 34, .int .i64 33] 3)) (some ⟨w3.heap.size, 0, none⟩) (some ⟨w3.heap.size + 1, 0, none⟩) 3 3 3 3 [1, 1, 1] [33, 34, 33] (Sl.alloc (ints_new w3 3 _ _ rfl _ rfl) _) m3 (by have h := ints_new (w3.alloc (.cells #[.int .i64 1, .int .i64 1, .int .i64 1] 3)) 3 [33, 34, 33] _ rfl 3 rfl; rw [World.size_alloc] at h; exact h) 100 1 sa4
  ((with_reducible refine (hi4).mono ?_); rintro _ w4 ⟨rfl, hb4⟩)
  have HB4 := Lib.hid (HB3.out.trans ((((below_alloc w3 _).alloc (by simp) _).trans (hb4.mono (by simp; omega))).mono HB3.out.size))
  have HS4 := Lib.hid (HS3.out.below (((below_alloc w3 _).alloc (by simp) _).trans (hb4.mono (by simp; omega))))
  clear hb4 hi4
  go_wp2_with (fail)
  have hi5 := is_true ((w4.alloc (.cells #[.int .i64 1, .int .i64 0, .int .i64 3] 3)).alloc (.cells #[.int .i64 3, .int .i64 0, .int .i64 7] 3)) (some ⟨w4.heap.size, 0, none⟩) (some ⟨w4.heap.size + 1, 0, none⟩) 3 3 3 3 [1, 0, 3] [3, 0, 7] (Sl.alloc (ints_new w4 3 _ _ rfl _ rfl) _) m3 (by have h := ints_new (w4.alloc (.cells #[.int .i64 1, .int .i64 0, .int .i64 3] 3)) 3 [3, 0, 7] _ rfl 3 rfl; rw [World.size_alloc] at h; exact h) 10 0 sa5
  ((with_reducible refine (hi5).mono ?_); rintro _ w5 ⟨rfl, hb5⟩)
  have HB5 := Lib.hid (HB4.out.trans ((((below_alloc w4 _).alloc (by simp) _).trans (hb5.mono (by simp; omega))).mono HB4.out.size))
  have HS5 := Lib.hid (HS4.out.below (((below_alloc w4 _).alloc (by simp) _).trans (hb5.mono (by simp; omega))))
  clear hb5 hi5
  go_wp2_with (fail)
  have hi6 := is_true ((w5.alloc (.cells #[.int .i64 1, .int .i64 0, .int .i64 3] 3)).alloc (.cells #[.int .i64 2, .int .i64 0, .int .i64 8] 3)) (some ⟨w5.heap.size, 0, none⟩) (some ⟨w5.heap.size + 1, 0, none⟩) 3 3 3 3 [1, 0, 3] [2, 0, 8] (Sl.alloc (ints_new w5 3 _ _ rfl _ rfl) _) m3 (by have h := ints_new (w5.alloc (.cells #[.int .i64 1, .int .i64 0, .int .i64 3] 3)) 3 [2, 0, 8] _ rfl 3 rfl; rw [World.size_alloc] at h; exact h) 10 2 sa6
  ((with_reducible refine (hi6).mono ?_); rintro _ w6 ⟨rfl, hb6⟩)
  have HB6 := Lib.hid (HB5.out.trans ((((below_alloc w5 _).alloc (by simp) _).trans (hb6.mono (by simp; omega))).mono HB5.out.size))
  have HS6 := Lib.hid (HS5.out.below (((below_alloc w5 _).alloc (by simp) _).trans (hb6.mono (by simp; omega))))
  clear hb6 hi6
  go_wp2_with (fail)
  have hsm := Same_any (w6.alloc (.cells #[.int .i64 100, .int .i64 100, .int .i64 100] 3)) A2 (some ⟨w6.heap.size, 0, none⟩) 3 c2 3 3 [100, 100, 100] [100, 100, 100] (HS6.out.below (below_alloc w6 _)) (ints_new w6 3 _ _ rfl _ rfl) m3 true (decide_eq_true rfl)
  ((with_reducible refine (hsm).mono ?_); rintro _ w7 ⟨rfl, hb7⟩)
  have HB7 := Lib.hid (HB6.out.trans (((below_alloc w6 _).trans (hb7.mono (below_alloc w6 _).size)).mono HB6.out.size))
  clear hb7 hsm
  go_wp2_with (fail)
  have hr1 := Right_any (w7.alloc (.cells #[.int .i64 0, .int .i64 1] 3)) (some ⟨w7.heap.size, 0, none⟩) 2 2 [0, 1] (ints_new w7 3 _ _ rfl _ rfl) m2 true (by decide)
  ((with_reducible refine (hr1).mono ?_); rintro _ w9 ⟨rfl, hw9⟩; obtain rfl := hw9)
  have HB8 := Lib.hid (HB7.out.alloc HB7.out.size (.cells #[.int .i64 0, .int .i64 1] 3))
  clear hr1
  go_wp2_with (fail)
  have hr2 := Right_any (w7.alloc (.cells #[.int .i64 0, .int .i64 1] 3)) none 0 0 [] (Sl.nil_ _ _ _) (by decide) false (by decide)
  ((with_reducible refine (hr2).mono ?_); rintro _ w9 ⟨rfl, hw9⟩; obtain rfl := hw9)
  clear hr2
  go_wp2_with (fail)
  go_ret
  exact ⟨rfl, HB8.out⟩
end Go.Proofs.Ytcgakhajmekjcaa
