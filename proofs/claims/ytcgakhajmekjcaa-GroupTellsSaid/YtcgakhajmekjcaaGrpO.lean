/- kerbsideref41: Split at whatever arguments, Turns, walked. -/
import Derived.Test.YtcgakhajmekjcaaGrpN
import Derived.Test.YtcgakhajmekjcaaGrpK
namespace Go.Proofs.Ytcgakhajmekjcaa
open Go.RowKit

set_option maxHeartbeats 2000000 in
theorem RSplit_any (w : World) (A : Option Addr) (n cc : Nat) (ps : List Int) (hs : Ints w A n ps) (hn : n ≤ maxLen) (c first : Int) (r : List Int × Int) (hr : splitF c ps first = r) :
    Calls Try.prog 10 #[.int .i64 c, .slice A n cc, .int .i64 first] w fun e w' => ∃ A' c', e = .returned (.tuple #[.slice A' r.1.length c', .int .i64 r.2]) ∧ SlF w w' 1 A' r.1.length (r.1.map fun k => [.int .i64 k]) ∧ Below w.heap.size w w' := by
  subst hr
  by_cases h : SplitOk c ps first
  · rw [splitF_ok h]
    refine (RSplit_ok w A n cc ps hs c first h).mono fun e w' ⟨A', c', h1, h2, h3⟩ => ?_
    have e1 : (splitL c ps first).length = n := by rw [splitL_length]; exact hs.length
    exact ⟨A', c', by rw [e1]; exact h1, by rw [e1]; exact h2, h3⟩
  · rw [splitF_bad h]
    have hl : ps.length = n := hs.length
    obtain ⟨q, hq⟩ : ∃ q, rightB ps = q := ⟨_, rfl⟩
    have HRT := Lib.hid (RRight_any w A n cc ps hs hn q hq)
    have hbad := split_bad hl hq h
    clear hs h hl hq
    rcases hbad with h1 | ⟨h1, h2⟩ | ⟨h1, h2, rfl⟩ | ⟨h1, h2, rfl, h3⟩ | ⟨h1, h2, rfl, h3, h4⟩
    all_goals
      go_enter Try.func10, Try.ntmps10
      go_wp2_with ((with_reducible refine (HRT.out).mono ?_); rintro _ w9 ⟨rfl, hw9⟩; obtain rfl := hw9)
      go_ret2
      exact ⟨none, 0, rfl, SlF.nil_ _ _ _, Below.refl _ _⟩
set_option maxRecDepth 100000 in
set_option maxHeartbeats 4000000 in
theorem RTurns_ok (w : World) (A : Option Addr) (n cc : Nat) (ps : List Int) (hs : Ints w A n ps) (c : Int) (h : ∀ first : Nat, first < ps.length → SplitOk c ps first) (hn0 : 0 < ps.length) (N : Nat) (hN : N ≤ 400) :
    Calls Try.prog 12 #[.int .i64 c, .slice A n cc, .int .i64 (N : Int)] w fun e w' => ∃ A' c', e = .returned (.tuple #[.slice A' n c', .int .i64 0]) ∧ SlF w w' 1 A' n ((turnsL c ps N).map fun k => [.int .i64 k]) ∧ Below w.heap.size w w' := by
  have hl : ps.length = n := hs.length
  have h0 := h 0 hn0
  obtain ⟨i1, hj0, hj1, hj2, hj3⟩ := info_parts infoInt
  have hrt : rightB ps = true := rightB_true.2 ⟨h0.len, h0.rng, h0.some⟩
  have hn100 : n ≤ 100 := by have := h0.len; omega
  have HRT := Lib.hid (RRight_any w A n cc ps hs (by unfold maxLen; omega) true hrt)
  have HS := Lib.hid hs
  have HL := Lib.hid hl
  have HO := Lib.hid h
  have k1 := h0.c0
  have k2 := h0.c1
  have HN0 := Lib.hid hn0
  have hn : 0 < n := by omega
  have hNI : (N : Int) ≤ 400 := by omega
  have hN0 : (0 : Int) ≤ (N : Int) := by omega
  have HK2 := Lib.hid k2
  clear hs h hl hrt h0 hn0
  go_enter Try.func12, Try.ntmps12
  go_wp2_with (first
    | ((with_reducible refine (HRT.out).mono ?_); rintro _ w9 ⟨rfl, hw9⟩; obtain rfl := hw9)
    | (at_make; refine wpList_make_own w rfl (.tmp 33) (.tmp 33) 22 rfl w.heap.size 3 i1 _ 1 8 Try.underlying22 hj0 hj1 hj2 hj3 rfl (by omega) n rfl rfl (by omega) (by simp only [maxLen]; omega) (Nat.le_refl _) ?_; intro w1 hown1 hb1 hz1; have HW1 := Lib.hid hown1; have HB1 := Lib.hid hb1; clear hown1 hb1))
  go_loopw [9] (fun iv wr => ∃ k : Nat, k ≤ N ∧ iv = .int .i64 (k : Int) ∧ Below w.heap.size w wr ∧ Own wr w.heap.size 3 1 (.slice (some ⟨w.heap.size, 0, none⟩) n n) n ((turnsL c ps k).map fun k => [.int .i64 k])) (fun i _ => N - (intOf i).toNat)
  case atStart => exact ⟨0, Nat.zero_le _, rfl, HB1.out, by rw [turnsL_zero c ps HL.out]; exact HW1.out⟩
  case round =>
    obtain ⟨k, hk, rfl, hb, ho⟩ := hrel
    obtain ⟨wo, rfl⟩ : ∃ wo : World, wo = wr := ⟨_, rfl⟩
    have HB := Lib.hid hb
    have HOW := Lib.hid ho
    clear hb ho HW1 HB1
    by_cases hlt : k < N
    · obtain ⟨f, hf⟩ : ∃ f : Nat, k % n = f := ⟨_, rfl⟩
      have hfn : f < n := by rw [← hf]; exact Nat.mod_lt _ hn
      have hok := HO.out f (by rw [HL.out]; exact hfn)
      have HOK := Lib.hid hok
      have HSP := Lib.hid (RSplit_ok wo A n cc ps (HS.out.below HB.out) c (f : Int) hok)
      have hki : (k : Int) < (N : Int) := by omega
      have hk0 : (0 : Int) ≤ (k : Int) := Int.natCast_nonneg _
      have htm : (k : Int).tmod (n : Int) = (f : Int) := by rw [Int.tmod_eq_emod_of_nonneg (by omega), ← hf]; simp
      have hem : (k : Int) % (n : Int) = (f : Int) := by rw [← hf]; simp
      have hnz : ¬ ((n : Int) = 0) := by omega
      have hnb : ((n : Int) == 0) = false := by simp; omega
      have hwf : IntKind.i64.wrap (f : Int) = (f : Int) := IntWalk.i64_in _ (by omega)
      have hzo : w.heap.size < wo.heap.size := (HOW.out.lt w.heap.size rfl).2
      have HZO := Lib.hid hzo
      have HF := Lib.hid hf
      have HLT := Lib.hid hlt
      clear hok hf hzo hlt
      go_wp2_with ((with_reducible refine (HSP.out).mono ?_); rintro _ w2 ⟨A2, c2, rfl, hs2, hb2⟩; have HS2 := Lib.hid hs2; have HB2 := Lib.hid (HB.out.trans (hb2.mono HB.out.size)); have HO2 := Lib.hid (HOW.out.below hb2); clear hs2 hb2)
      go_loopw [12] (fun iv wr => ∃ m : Nat, m ≤ n ∧ iv = .int .i64 (m : Int) ∧ Below w.heap.size w wr ∧ Own wr w.heap.size 3 1 (.slice (some ⟨w.heap.size, 0, none⟩) n n) n ((turnsMid c ps k m).map fun k => [.int .i64 k]) ∧ SlF wo wr 1 A2 n ((splitL c ps (f : Int)).map fun k => [.int .i64 k])) (fun i _ => n - (intOf i).toNat)
      case atStart => exact ⟨0, Nat.zero_le _, rfl, HB2.out, by rw [turnsMid_zero]; exact HO2.out, HS2.out⟩
      case round =>
        obtain ⟨m, hm, rfl, hb, ho, hsl⟩ := hrel
        obtain ⟨wp, rfl⟩ : ∃ wp : World, wp = wr := ⟨_, rfl⟩
        have HBp := Lib.hid hb
        have HOp := Lib.hid ho
        have HSp := Lib.hid hsl
        clear hb ho hsl HO2 HB2 HS2
        by_cases hlt : m < n
        · have hpy := splitL_at (c := c) (first := (f : Int)) HL.out hlt
          obtain ⟨b, o, rfl, hbl, c0⟩ := Ints.at_ HSp.out.1 hpy
          have htv := turnsMid_at (c := c) (k := k) HL.out hlt
          obtain ⟨g', c', he, _, hgz, hcell2, hfz⟩ := HOp.out.at_ (i := m) (x := [.int .i64 (turnsAt c ps k m)]) (by rw [List.getElem?_map, htv]; rfl)
          cases he
          have e0 := hcell2 0 _ rfl
          rw [Nat.add_zero, Nat.mul_one] at e0
          have hb1 := pay_bounds HOK.out m
          have hb2 := turnsAt_bounds HO.out HN0.out HK2.out m k (by have := HLT.out; omega)
          have hkk := HLT.out
          have hw1 : IntKind.i64.wrap (turnsAt c ps k m + payQ c ps (f : Int) m) = turnsAt c ps k m + payQ c ps (f : Int) m := IntWalk.i64_in _ (by omega)
          have hmi : (m : Int) < (n : Int) := by omega
          have hm0 : (0 : Int) ≤ (m : Int) := Int.natCast_nonneg _
          have HOZ : Hid (Own wp.drew w.heap.size 3 1 (.slice (some ⟨w.heap.size, 0, none⟩) n n) n ((turnsMid c ps k m).map fun k => [.int .i64 k])) := Lib.hid (HOp.out.below (Below.refl _ _).drew)
          have HBZ := Lib.hid HBp.out.drew
          have HSZ : Hid (SlF wo wp.drew 1 _ n ((splitL c ps (f : Int)).map fun k => [.int .i64 k])) := Lib.hid HSp.out
          have HLT2 := Lib.hid hlt
          clear hpy htv hcell2 hb1 hb2 hkk
          obtain ⟨t, htt⟩ : ∃ t, turnsAt c ps k m = t := ⟨_, rfl⟩
          obtain ⟨y, hyy⟩ : ∃ y, payQ c ps (f : Int) m = y := ⟨_, rfl⟩
          rw [htt] at e0 hw1
          rw [hyy] at c0 hw1
          have HTT := Lib.hid htt
          have HYY := Lib.hid hyy
          clear htt hyy hlt
          go_wp2_with (fail)
          go_still_tail 12, (by kernel_rfl)
          change wpList _ _ _ _ _ wp.drew
          have e0Z : wp.drew.cell? ⟨w.heap.size, m, none⟩ = _ := e0
          have hfzZ : wp.drew.frozen? ⟨w.heap.size, m, none⟩ = _ := hfz m
          generalize wp.drew = Z at *
          clear e0 hfz
          have hst := own_int HOZ.out HLT2.out (t + y)
          have hmn := turnsMid_next c ps k (m := m) (by rw [HL.out]; exact HLT2.out)
          rw [HL.out, HF.out, HTT.out, HYY.out] at hmn
          rw [hmn] at hst
          have HST := Lib.hid hst
          have HB7 := Lib.hid (HBZ.out.setCell (p := ⟨w.heap.size, m, none⟩) (Nat.le_refl _) (.int .i64 (t + y)))
          have HS7 := Lib.hid (SlF.far HSZ.out (p := ⟨w.heap.size, m, none⟩) HZO.out (.int .i64 (t + y)))
          clear hst hmn
          go_wp2_with (fail)
          go_roundw
          case rel => exact ⟨m + 1, HLT2.out, by go_num, HB7.out, HST.out, HS7.out⟩
          case measure => have := HLT2.out; simp [intOf]; omega
        · obtain rfl : m = n := by omega
          have hmi : (m : Int) ≤ (m : Int) := Int.le_refl _
          go_wp2_with (fail)
          go_roundw
          case rel => exact ⟨k + 1, HLT.out, by go_num, HBp.out, by have h := HOp.out; rw [← HL.out, turnsMid_all, HL.out] at h; exact h⟩
          case measure => have := HLT.out; simp [intOf]; omega
    · obtain rfl : k = N := by omega
      have hki : (k : Int) ≤ (k : Int) := Int.le_refl _
      go_wp2_with (fail)
      go_ret2
      exact ⟨_, _, rfl, ⟨Own.sl' HOW.out, fun ad e => by injection e with e; rw [← e]; exact Nat.le_refl _⟩, HB.out⟩
set_option maxHeartbeats 2000000 in
theorem RTurns_any (w : World) (A : Option Addr) (n cc : Nat) (ps : List Int) (hs : Ints w A n ps) (hn : n ≤ maxLen) (c k : Int) (r : List Int × Int) (hr : turnsF c ps k = r) :
    Calls Try.prog 12 #[.int .i64 c, .slice A n cc, .int .i64 k] w fun e w' => ∃ A' c', e = .returned (.tuple #[.slice A' r.1.length c', .int .i64 r.2]) ∧ SlF w w' 1 A' r.1.length (r.1.map fun k => [.int .i64 k]) ∧ Below w.heap.size w w' := by
  subst hr
  have hl : ps.length = n := hs.length
  obtain ⟨q, hq⟩ : ∃ q, rightB ps = q := ⟨_, rfl⟩
  by_cases h : 0 ≤ k ∧ k ≤ 400 ∧ 0 ≤ c ∧ c ≤ 1125899906842624 ∧ q = true
  · obtain ⟨h1, h2, h3, h4, rfl⟩ := h
    have hr := rightB_true.1 hq
    obtain ⟨N, rfl⟩ : ∃ N : Nat, k = (N : Int) := ⟨k.toNat, by omega⟩
    have e : turnsF c ps (N : Int) = (turnsL c ps N, 0) := by
      unfold turnsF
      rw [hq]
      simp [h1, h2, h3, h4]
    rw [e]
    have hok : ∀ first : Nat, first < ps.length → SplitOk c ps first := fun f hf => ⟨h3, h4, hr.1, hr.2.1, hr.2.2, by omega, by omega⟩
    obtain ⟨p, hp, _⟩ := hr.2.2
    refine (RTurns_ok w A n cc ps hs c hok (List.length_pos_of_mem hp) N (by omega)).mono fun e w' ⟨A', c', a1, a2, a3⟩ => ?_
    have e1 : (turnsL c ps N).length = n := by unfold turnsL; simpa using hl
    exact ⟨A', c', by rw [e1]; exact a1, by rw [e1]; exact a2, a3⟩
  · have e : turnsF c ps k = ([], 1) := by
      unfold turnsF
      rw [hq, if_neg]
      simp only [Bool.and_eq_true, decide_eq_true_eq]
      exact fun ⟨⟨⟨⟨a, b⟩, c'⟩, d⟩, f⟩ => h ⟨a, b, c', d, f⟩
    rw [e]
    have HRT := Lib.hid (RRight_any w A n cc ps hs hn q hq)
    have hbad : k < 0 ∨ (0 ≤ k ∧ 400 < k) ∨ (0 ≤ k ∧ k ≤ 400 ∧ c < 0) ∨ (0 ≤ k ∧ k ≤ 400 ∧ 0 ≤ c ∧ 1125899906842624 < c) ∨ (0 ≤ k ∧ k ≤ 400 ∧ 0 ≤ c ∧ c ≤ 1125899906842624 ∧ q = false) := by
      cases q
      · simp only [eq_self, Bool.false_eq_true, false_and, and_false, or_false, and_true]
        omega
      · simp only [and_true] at h
        omega
    clear hs h hl hq e
    rcases hbad with h1 | ⟨h0, h1⟩ | ⟨h0, h01, h1⟩ | ⟨h0, h01, h1, h2⟩ | ⟨h0, h01, h1, h2, rfl⟩
    all_goals
      go_enter Try.func12, Try.ntmps12
      go_wp2_with ((with_reducible refine (HRT.out).mono ?_); rintro _ w9 ⟨rfl, hw9⟩; obtain rfl := hw9)
      go_ret2
      exact ⟨none, 0, rfl, SlF.nil_ _ _ _, Below.refl _ _⟩
end Go.Proofs.Ytcgakhajmekjcaa
