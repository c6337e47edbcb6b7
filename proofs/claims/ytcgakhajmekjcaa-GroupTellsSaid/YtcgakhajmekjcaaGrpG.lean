/- group: Split and Turns at whatever arguments, walked. -/
import Derived.Test.YtcgakhajmekjcaaGrpF
namespace Go.Proofs.Ytcgakhajmekjcaa
open Go.RowKit

def splitOkB (c : Int) (ps : List Int) (first : Int) : Bool := decide (0 ≤ c) && decide (c ≤ 1125899906842624) && rightB ps && decide (0 ≤ first) && decide (first < ps.length)
def splitF (c : Int) (ps : List Int) (first : Int) : List Int × Int := if splitOkB c ps first = true then (splitL c ps first, 0) else ([], 1)
theorem splitOkB_true {c first : Int} {ps : List Int} : splitOkB c ps first = true ↔ SplitOk c ps first := by
  unfold splitOkB
  simp only [Bool.and_eq_true, decide_eq_true_eq, rightB_true]
  exact ⟨fun ⟨⟨⟨⟨a, b⟩, c1, c2, c3⟩, d⟩, e⟩ => ⟨a, b, c1, c2, c3, d, e⟩, fun h => ⟨⟨⟨⟨h.c0, h.c1⟩, h.len, h.rng, h.some⟩, h.f0⟩, h.f1⟩⟩
theorem splitF_ok {c first : Int} {ps : List Int} (h : SplitOk c ps first) : splitF c ps first = (splitL c ps first, 0) := by unfold splitF; rw [if_pos (splitOkB_true.2 h)]
theorem splitF_bad {c first : Int} {ps : List Int} (h : ¬ SplitOk c ps first) : splitF c ps first = ([], 1) := by unfold splitF; rw [if_neg (fun e => h (splitOkB_true.1 e))]
theorem splitL_length (c : Int) (ps : List Int) (first : Int) : (splitL c ps first).length = ps.length := by simp [splitL]
set_option maxHeartbeats 2000000 in
theorem Split_any (w : World) (A : Option Addr) (n cc : Nat) (ps : List Int) (hs : Ints w A n ps) (hn : n ≤ maxLen) (c first : Int) (r : List Int × Int) (hr : splitF c ps first = r) :
    Calls Try.prog 9 #[.int .i64 c, .slice A n cc, .int .i64 first] w fun e w' => ∃ A' c', e = .returned (.tuple #[.slice A' r.1.length c', .int .i64 r.2]) ∧ SlF w w' 1 A' r.1.length (r.1.map fun k => [.int .i64 k]) ∧ Below w.heap.size w w' := by
  subst hr
  by_cases h : SplitOk c ps first
  · rw [splitF_ok h]
    refine (Split_ok w A n cc ps hs c first h).mono fun e w' ⟨A', c', h1, h2, h3⟩ => ?_
    have e1 : (splitL c ps first).length = n := by rw [splitL_length]; exact hs.length
    exact ⟨A', c', by rw [e1]; exact h1, by rw [e1]; exact h2, h3⟩
  · rw [splitF_bad h]
    have hl := hs.length
    obtain ⟨q, hq⟩ : ∃ q, rightB ps = q := ⟨_, rfl⟩
    have HRT := Lib.hid (Right_any w A n cc ps hs hn q hq)
    have hbad : c < 0 ∨ (0 ≤ c ∧ 1125899906842624 < c) ∨ (0 ≤ c ∧ c ≤ 1125899906842624 ∧ q = false) ∨ (0 ≤ c ∧ c ≤ 1125899906842624 ∧ q = true ∧ first < 0) ∨ (0 ≤ c ∧ c ≤ 1125899906842624 ∧ q = true ∧ 0 ≤ first ∧ (n : Int) ≤ first) := by
      cases q
      · simp only [eq_self, Bool.false_eq_true, false_and, and_false, or_false, and_true]
        omega
      · have h1 := rightB_true.1 hq
        have : ¬ (0 ≤ c ∧ c ≤ 1125899906842624 ∧ 0 ≤ first ∧ first < ps.length) := fun ⟨a, b, c', d⟩ => h ⟨a, b, h1.1, h1.2.1, h1.2.2, c', d⟩
        rw [hl] at this
        simp only [Bool.true_eq_false, and_false, and_true, true_and]
        omega
    clear hs h hl hq
    rcases hbad with h1 | ⟨h1, h2⟩ | ⟨h1, h2, rfl⟩ | ⟨h1, h2, rfl, h3⟩ | ⟨h1, h2, rfl, h3, h4⟩
    all_goals
      go_enter Try.func9, Try.ntmps9
      go_wp2_with ((with_reducible refine (HRT.out).mono ?_); rintro _ w9 ⟨rfl, hw9⟩; obtain rfl := hw9)
      go_ret2
      exact ⟨none, 0, rfl, SlF.nil_ _ _ _, Below.refl _ _⟩
def turnsF (c : Int) (ps : List Int) (k : Int) : List Int × Int := if (decide (0 ≤ k) && decide (k ≤ 400) && decide (0 ≤ c) && decide (c ≤ 1125899906842624) && rightB ps) = true then (turnsL c ps k.toNat, 0) else ([], 1)
/-- in the midst of a period: the first m are served -/
def turnsMid (c : Int) (ps : List Int) (k m : Nat) : List Int := (List.range ps.length).map fun i => if i < m then turnsAt c ps (k + 1) i else turnsAt c ps k i
theorem turnsMid_zero (c : Int) (ps : List Int) (k : Nat) : turnsMid c ps k 0 = turnsL c ps k := by
  unfold turnsMid turnsL
  exact List.map_congr_left fun i _ => by rw [if_neg (by omega)]
theorem turnsMid_all (c : Int) (ps : List Int) (k : Nat) : turnsMid c ps k ps.length = turnsL c ps (k + 1) := by
  unfold turnsMid turnsL
  exact List.map_congr_left fun i hi => by rw [if_pos (List.mem_range.1 hi)]
theorem turnsMid_next (c : Int) (ps : List Int) (k : Nat) {m : Nat} (hm : m < ps.length) : (turnsMid c ps k m).set m (turnsAt c ps k m + payQ c ps ((k % ps.length : Nat) : Int) m) = turnsMid c ps k (m + 1) := by
  apply List.ext_getElem?
  intro i
  unfold turnsMid
  by_cases hi : i < ps.length
  · rw [List.getElem?_map, List.getElem?_range hi, List.getElem?_set]
    by_cases e : m = i
    · subst e
      simp [hm, turnsAt_succ]
    · rw [if_neg e, List.getElem?_map, List.getElem?_range hi]
      simp only [Option.map_some, Option.some.injEq]
      split <;> split <;> first | rfl | omega
  · rw [List.getElem?_eq_none (by simp; omega), List.getElem?_eq_none (by simp; omega)]
theorem pay_bounds {c first : Int} {ps : List Int} (h : SplitOk c ps first) (i : Nat) : 0 ≤ payQ c ps first i ∧ payQ c ps first i ≤ c + 1 := by
  have h1 := h.pay_rng i
  have h2 := (h.quot i).1
  have h3 := h.quot_le i
  omega
theorem turnsAt_bounds {c : Int} {ps : List Int} (h : ∀ first : Nat, first < ps.length → SplitOk c ps first) (hn : 0 < ps.length) (hc : c ≤ 1125899906842624) (i : Nat) : ∀ k, k ≤ 401 → 0 ≤ turnsAt c ps k i ∧ turnsAt c ps k i ≤ 1125899906842625 * k
  | 0, _ => by simp [turnsAt, sumL]
  | k + 1, hk => by
    have h1 := turnsAt_bounds h hn hc i k (by omega)
    have h2 := pay_bounds (h (k % ps.length) (Nat.mod_lt _ hn)) i
    rw [turnsAt_succ]
    have e : ((k + 1 : Nat) : Int) = (k : Int) + 1 := by simp
    rw [e, Int.mul_add]
    omega
set_option maxRecDepth 100000 in
set_option maxHeartbeats 4000000 in
theorem Turns_ok (w : World) (A : Option Addr) (n cc : Nat) (ps : List Int) (hs : Ints w A n ps) (c : Int) (h : ∀ first : Nat, first < ps.length → SplitOk c ps first) (hn0 : 0 < ps.length) (N : Nat) (hN : N ≤ 400) :
    Calls Try.prog 11 #[.int .i64 c, .slice A n cc, .int .i64 (N : Int)] w fun e w' => ∃ A' c', e = .returned (.tuple #[.slice A' n c', .int .i64 0]) ∧ SlF w w' 1 A' n ((turnsL c ps N).map fun k => [.int .i64 k]) ∧ Below w.heap.size w w' := by
  have hl := hs.length
  have h0 := h 0 hn0
  obtain ⟨i1, hj0, hj1, hj2, hj3⟩ := info_parts infoInt
  have hrt : rightB ps = true := rightB_true.2 ⟨h0.len, h0.rng, h0.some⟩
  have hn100 : n ≤ 100 := by have := h0.len; omega
  have HRT := Lib.hid (Right_any w A n cc ps hs (by unfold maxLen; omega) true hrt)
  have HS := Lib.hid hs
  have HL := Lib.hid hl
  have HO := Lib.hid h
  have k1 := h0.c0
  have k2 := h0.c1
  have HN0 := Lib.hid hn0
  have hn : 0 < n := by omega
  have hNI : (N : Int) ≤ 400 := by omega
  have hN0 : (0 : Int) ≤ (N : Int) := by omega
  have HK2 := Lib.hid k2
  clear hs h hl hrt h0 hn0
  go_enter Try.func11, Try.ntmps11
  go_wp2_with (first
    | ((with_reducible refine (HRT.out).mono ?_); rintro _ w9 ⟨rfl, hw9⟩; obtain rfl := hw9)
    | (at_make; refine wpList_make_own w rfl (.tmp 34) (.tmp 34) 22 rfl w.heap.size 3 i1 _ 1 8 Try.underlying22 hj0 hj1 hj2 hj3 rfl (by omega) n rfl rfl (by omega) (by simp only [maxLen]; omega) (Nat.le_refl _) ?_; intro w1 hown1 hb1 hz1; have HW1 := Lib.hid hown1; have HB1 := Lib.hid hb1; clear hown1 hb1))
  go_loopw [37] (fun iv wr => ∃ k : Nat, k ≤ N ∧ iv = .int .i64 (k : Int) ∧ Below w.heap.size w wr ∧ Own wr w.heap.size 3 1 (.slice (some ⟨w.heap.size, 0, none⟩) n n) n ((turnsL c ps k).map fun k => [.int .i64 k])) (fun i _ => N - (intOf i).toNat)
  case atStart =>
    refine ⟨0, Nat.zero_le _, rfl, HB1.out, ?_⟩
    have h := HW1.out
    have e : (turnsL c ps 0).map (fun k => [Value.int .i64 k]) = List.replicate n (Value.cells (.int .i64 0)).toList := by
      unfold turnsL
      rw [HL.out]
      apply List.ext_getElem?
      intro i
      by_cases hi : i < n
      · simp [hi, turnsAt, sumL, Value.cells]
      · rw [List.getElem?_eq_none (by simp; omega), List.getElem?_eq_none (by simp; omega)]
    rw [e]
    exact h
  case round =>
    obtain ⟨k, hk, rfl, hb, ho⟩ := hrel
    obtain ⟨wo, rfl⟩ : ∃ wo : World, wo = wr := ⟨_, rfl⟩
    have HB := Lib.hid hb
    have HOW := Lib.hid ho
    clear hb ho HW1 HB1
    by_cases hlt : k < N
    · obtain ⟨f, hf⟩ : ∃ f : Nat, k % n = f := ⟨_, rfl⟩
      have hfn : f < n := by rw [← hf]; exact Nat.mod_lt _ hn
      have hok := HO.out f (by rw [HL.out]; exact hfn)
      have HOK := Lib.hid hok
      have HSP := Lib.hid (Split_ok wo A n cc ps (HS.out.below HB.out) c (f : Int) hok)
      have hki : (k : Int) < (N : Int) := by omega
      have hk0 : (0 : Int) ≤ (k : Int) := Int.natCast_nonneg _
      have htm : (k : Int).tmod (n : Int) = (f : Int) := by rw [Int.tmod_eq_emod_of_nonneg (by omega), ← hf]; simp
      have hem : (k : Int) % (n : Int) = (f : Int) := by rw [← hf]; simp
      have hnz : ¬ ((n : Int) = 0) := by omega
      have hnb : ((n : Int) == 0) = false := by simp; omega
      have hwf : IntKind.i64.wrap (f : Int) = (f : Int) := IntWalk.i64_in _ (by omega)
      have hzo : w.heap.size < wo.heap.size := (HOW.out.lt w.heap.size rfl).2
      have HZO := Lib.hid hzo
      have HF := Lib.hid hf
      have HLT := Lib.hid hlt
      clear hok hf hzo hlt
      go_wp2_with ((with_reducible refine (HSP.out).mono ?_); rintro _ w2 ⟨A2, c2, rfl, hs2, hb2⟩; have HS2 := Lib.hid hs2; have HB2 := Lib.hid (HB.out.trans (hb2.mono HB.out.size)); have HO2 := Lib.hid (HOW.out.below hb2); clear hs2 hb2)
      go_loopw [55] (fun iv wr => ∃ m : Nat, m ≤ n ∧ iv = .int .i64 (m : Int) ∧ Below w.heap.size w wr ∧ Own wr w.heap.size 3 1 (.slice (some ⟨w.heap.size, 0, none⟩) n n) n ((turnsMid c ps k m).map fun k => [.int .i64 k]) ∧ SlF wo wr 1 A2 n ((splitL c ps (f : Int)).map fun k => [.int .i64 k])) (fun i _ => n - (intOf i).toNat)
      case atStart => exact ⟨0, Nat.zero_le _, rfl, HB2.out, by rw [turnsMid_zero]; exact HO2.out, HS2.out⟩
      case round =>
        obtain ⟨m, hm, rfl, hb, ho, hsl⟩ := hrel
        obtain ⟨wp, rfl⟩ : ∃ wp : World, wp = wr := ⟨_, rfl⟩
        have HBp := Lib.hid hb
        have HOp := Lib.hid ho
        have HSp := Lib.hid hsl
        clear hb ho hsl HO2 HB2 HS2
        by_cases hlt : m < n
        · have hpy : (splitL c ps (f : Int))[m]? = some (payQ c ps (f : Int) m) := by
            unfold splitL
            rw [List.getElem?_map, List.getElem?_range (by rw [HL.out]; exact hlt)]
            rfl
          obtain ⟨b, o, rfl, hbl, c0⟩ := Ints.at_ HSp.out.1 hpy
          have hfresh := HSp.out.2 _ rfl
          have htv : (turnsMid c ps k m)[m]? = some (turnsAt c ps k m) := by
            unfold turnsMid
            rw [List.getElem?_map, List.getElem?_range (by rw [HL.out]; exact hlt)]
            simp
          obtain ⟨g', c', he, _, hgz, hcell2, hfz⟩ := HOp.out.at_ (i := m) (x := [.int .i64 (turnsAt c ps k m)]) (by rw [List.getElem?_map, htv]; rfl)
          cases he
          have e0 := hcell2 0 _ rfl
          rw [Nat.add_zero, Nat.mul_one] at e0
          have hb1 := pay_bounds HOK.out m
          have hb2 := turnsAt_bounds HO.out HN0.out HK2.out m k (by have := HLT.out; omega)
          have hkk := HLT.out
          have hw1 : IntKind.i64.wrap (turnsAt c ps k m + payQ c ps (f : Int) m) = turnsAt c ps k m + payQ c ps (f : Int) m := IntWalk.i64_in _ (by omega)
          have hmi : (m : Int) < (n : Int) := by omega
          have hm0 : (0 : Int) ≤ (m : Int) := Int.natCast_nonneg _
          have hst := own_int HOp.out hlt (turnsAt c ps k m + payQ c ps (f : Int) m)
          have hmn := turnsMid_next c ps k (m := m) (by rw [HL.out]; exact hlt)
          rw [HL.out, HF.out] at hmn
          rw [hmn] at hst
          have HST := Lib.hid hst
          have HB7 := Lib.hid (HBp.out.setCell (p := ⟨w.heap.size, m, none⟩) (Nat.le_refl _) (.int .i64 (turnsAt c ps k m + payQ c ps (f : Int) m)))
          have HS7 := Lib.hid (SlF.far HSp.out (p := ⟨w.heap.size, m, none⟩) HZO.out (.int .i64 (turnsAt c ps k m + payQ c ps (f : Int) m)))
          have HLT2 := Lib.hid hlt
          clear hpy htv hcell2 hb1 hb2 hst hmn hlt hfresh hkk
          generalize turnsAt c ps k m = t at *
          generalize payQ c ps (f : Int) m = y at *
          go_wp2_with (fail)
          go_roundw
          case rel => exact ⟨m + 1, HLT2.out, by go_num, HB7.out, HST.out, HS7.out⟩
          case measure => have := HLT2.out; simp [intOf]; omega
        · obtain rfl : m = n := by omega
          have hmi : (m : Int) ≤ (m : Int) := Int.le_refl _
          go_wp2_with (fail)
          go_roundw
          case rel => exact ⟨k + 1, HLT.out, by go_num, HBp.out, by have h := HOp.out; rw [← HL.out, turnsMid_all, HL.out] at h; exact h⟩
          case measure => have := HLT.out; simp [intOf]; omega
    · obtain rfl : k = N := by omega
      have hki : (k : Int) ≤ (k : Int) := Int.le_refl _
      go_wp2_with (fail)
      go_ret2
      exact ⟨_, _, rfl, ⟨Own.sl' HOW.out, fun ad e => by injection e with e; rw [← e]; exact Nat.le_refl _⟩, HB.out⟩
set_option maxHeartbeats 2000000 in
theorem Turns_any (w : World) (A : Option Addr) (n cc : Nat) (ps : List Int) (hs : Ints w A n ps) (hn : n ≤ maxLen) (c k : Int) (r : List Int × Int) (hr : turnsF c ps k = r) :
    Calls Try.prog 11 #[.int .i64 c, .slice A n cc, .int .i64 k] w fun e w' => ∃ A' c', e = .returned (.tuple #[.slice A' r.1.length c', .int .i64 r.2]) ∧ SlF w w' 1 A' r.1.length (r.1.map fun k => [.int .i64 k]) ∧ Below w.heap.size w w' := by
  subst hr
  have hl := hs.length
  obtain ⟨q, hq⟩ : ∃ q, rightB ps = q := ⟨_, rfl⟩
  by_cases h : 0 ≤ k ∧ k ≤ 400 ∧ 0 ≤ c ∧ c ≤ 1125899906842624 ∧ q = true
  · obtain ⟨h1, h2, h3, h4, rfl⟩ := h
    have hr := rightB_true.1 hq
    obtain ⟨N, rfl⟩ : ∃ N : Nat, k = (N : Int) := ⟨k.toNat, by omega⟩
    have e : turnsF c ps (N : Int) = (turnsL c ps N, 0) := by
      unfold turnsF
      rw [hq]
      simp [h1, h2, h3, h4]
    rw [e]
    have hok : ∀ first : Nat, first < ps.length → SplitOk c ps first := fun f hf => ⟨h3, h4, hr.1, hr.2.1, hr.2.2, by omega, by omega⟩
    obtain ⟨p, hp, _⟩ := hr.2.2
    refine (Turns_ok w A n cc ps hs c hok (List.length_pos_of_mem hp) N (by omega)).mono fun e w' ⟨A', c', a1, a2, a3⟩ => ?_
    have e1 : (turnsL c ps N).length = n := by unfold turnsL; simpa using hl
    exact ⟨A', c', by rw [e1]; exact a1, by rw [e1]; exact a2, a3⟩
  · have e : turnsF c ps k = ([], 1) := by
      unfold turnsF
      rw [hq, if_neg]
      simp only [Bool.and_eq_true, decide_eq_true_eq]
      exact fun ⟨⟨⟨⟨a, b⟩, c'⟩, d⟩, f⟩ => h ⟨a, b, c', d, f⟩
    rw [e]
    have HRT := Lib.hid (Right_any w A n cc ps hs hn q hq)
    have hbad : k < 0 ∨ (0 ≤ k ∧ 400 < k) ∨ (0 ≤ k ∧ k ≤ 400 ∧ c < 0) ∨ (0 ≤ k ∧ k ≤ 400 ∧ 0 ≤ c ∧ 1125899906842624 < c) ∨ (0 ≤ k ∧ k ≤ 400 ∧ 0 ≤ c ∧ c ≤ 1125899906842624 ∧ q = false) := by
      cases q
      · simp only [eq_self, Bool.false_eq_true, false_and, and_false, or_false, and_true]
        omega
      · simp only [and_true] at h
        omega
    clear hs h hl hq e
    rcases hbad with h1 | ⟨h0, h1⟩ | ⟨h0, h01, h1⟩ | ⟨h0, h01, h1, h2⟩ | ⟨h0, h01, h1, h2, rfl⟩
    all_goals
      go_enter Try.func11, Try.ntmps11
      go_wp2_with ((with_reducible refine (HRT.out).mono ?_); rintro _ w9 ⟨rfl, hw9⟩; obtain rfl := hw9)
      go_ret2
      exact ⟨none, 0, rfl, SlF.nil_ _ _ _, Below.refl _ _⟩
end Go.Proofs.Ytcgakhajmekjcaa
