/- kerbsidelaw41: GroupTurns, walked. -/
import Derived.Test.YtcgakhajmekjcaaGrpI
import Derived.StillTailTactics
namespace Go.Proofs.Ytcgakhajmekjcaa
open Go.RowKit

theorem turnsL_zero (c : Int) (ps : List Int) {n : Nat} (hl : ps.length = n) : (turnsL c ps 0).map (fun k => [Value.int .i64 k]) = List.replicate n (Value.cells (.int .i64 0)).toList := by
  unfold turnsL
  rw [hl]
  apply List.ext_getElem?
  intro i
  by_cases hi : i < n
  · simp [hi, turnsAt, sumL, Value.cells]
  · rw [List.getElem?_eq_none (by simp; omega), List.getElem?_eq_none (by simp; omega)]
theorem turnsL_at {c : Int} {ps : List Int} {n k i : Nat} (hl : ps.length = n) (hi : i < n) : (turnsL c ps k)[i]? = some (turnsAt c ps k i) := by
  unfold turnsL
  rw [List.getElem?_map, List.getElem?_range (by rw [hl]; exact hi)]
  rfl
theorem turnsMid_at {c : Int} {ps : List Int} {n k m : Nat} (hl : ps.length = n) (hm : m < n) : (turnsMid c ps k m)[m]? = some (turnsAt c ps k m) := by
  unfold turnsMid
  rw [List.getElem?_map, List.getElem?_range (by rw [hl]; exact hm)]
  simp
theorem turnsL_bounds {c : Int} {ps : List Int} (h : ∀ first : Nat, first < ps.length → SplitOk c ps first) (hn : 0 < ps.length) (hc : c ≤ 1125899906842624) (k : Nat) (hk : k ≤ 401) : ∀ x ∈ turnsL c ps k, 0 ≤ x := by
  intro x hx
  obtain ⟨i, _, rfl⟩ := List.mem_map.1 hx
  exact (turnsAt_bounds h hn hc i k hk).1
/-- all parts so far are equal to the first -/
def eqTo (ps : List Int) (k : Nat) : Bool := (ps.take k).all fun p => decide (p = partAt ps 0)
theorem eqTo_next {ps : List Int} {k : Nat} {p p0 : Int} (hp : ps[k]? = some p) (h0 : ps[0]? = some p0) : eqTo ps (k + 1) = (eqTo ps k && decide (p = p0)) := by
  unfold eqTo
  rw [take_succ hp, List.all_append]
  have : partAt ps 0 = p0 := by unfold partAt; rw [h0]; rfl
  simp [this]
theorem eqTo_all {ps : List Int} (h : eqTo ps ps.length = true) : ∀ i, i < ps.length → partAt ps i = partAt ps 0 := by
  intro i hi
  unfold eqTo at h
  rw [List.take_length, List.all_eq_true] at h
  have h1 : ps[i]? = some ps[i] := List.getElem?_eq_getElem hi
  have h2 := h ps[i] (List.getElem_mem hi)
  simp only [decide_eq_true_eq] at h2
  rw [← h2]
  unfold partAt
  rw [h1]
  rfl
set_option maxRecDepth 100000 in
set_option maxHeartbeats 8000000 in
theorem gturns_any (w : World) (A : Option Addr) (n cc : Nat) (ps : List Int) (hs : Ints w A n ps) (hn : n ≤ maxLen) (c : Int) :
    Calls Try.prog 6 #[.int .i64 c, .slice A n cc] w fun e w' => e = .returned (.bool true) ∧ Below w.heap.size w w' := by
  have hl : ps.length = n := hs.length
  have HSA := Lib.hid (sane_any w)
  obtain ⟨q, hq⟩ : ∃ q, rightB ps = q := ⟨_, rfl⟩
  have HRT := Lib.hid (fun W (h : Ints W A n ps) => Right_any W A n cc ps h hn q hq)
  have HS := Lib.hid hs
  have hbad : 40 < (n : Int) ∨ ((n : Int) ≤ 40 ∧ c < 0) ∨ ((n : Int) ≤ 40 ∧ 0 ≤ c ∧ 1125899906842624 < c) ∨ ((n : Int) ≤ 40 ∧ 0 ≤ c ∧ c ≤ 1125899906842624 ∧ q = false) ∨ ((n : Int) ≤ 40 ∧ 0 ≤ c ∧ c ≤ 1125899906842624 ∧ q = true) := by
    cases q <;> simp <;> omega
  rcases hbad with h1 | ⟨h0, h1⟩ | ⟨h0, h1, h2⟩ | ⟨h0, h1, h2, rfl⟩ | ⟨h40, k1, k2, rfl⟩
  case' inr.inr.inr.inr => skip
  case inl | inr.inl | inr.inr.inl | inr.inr.inr.inl =>
    clear hs hl hq
    go_enter Try.func6, Try.ntmps6
    go_wp2_with (first
      | ((with_reducible refine (HSA.out).mono ?_); rintro _ w1 ⟨rfl, hb1⟩; have HB1 := Lib.hid hb1; have HS1 := Lib.hid (HS.out.below hb1); clear hb1)
      | ((with_reducible refine (HRT.out _ HS1.out).mono ?_); rintro _ w9 ⟨rfl, hw9⟩; obtain rfl := hw9))
    go_ret
    exact ⟨rfl, HB1.out⟩
  have hr := rightB_true.1 hq
  obtain ⟨i1, hj0, hj1, hj2, hj3⟩ := info_parts infoInt
  have hok : ∀ first : Nat, first < ps.length → SplitOk c ps first := fun f hf => ⟨k1, k2, hr.1, hr.2.1, hr.2.2, by omega, by omega⟩
  have hn0 : 0 < ps.length := by obtain ⟨p, hp, _⟩ := hr.2.2; exact List.length_pos_of_mem hp
  have hn' : 0 < n := by omega
  have HL := Lib.hid hl
  have HO := Lib.hid hok
  have HN0 := Lib.hid hn0
  have HK2 := Lib.hid k2
  have HTU := Lib.hid (fun W (hW : Ints W A n ps) => Turns_ok W A n cc ps hW c hok hn0 n (by omega))
  have hsum := turns_sum hok hn0 n
  have HSU := Lib.hid (fun W A2 c2 (hW : Ints W A2 n (turnsL c ps n)) => Sum_any W A2 n c2 (turnsL c ps n) hW hn (turnsL_bounds hok hn0 k2 n (by omega)) (by
    rw [hsum]
    have : c * (n : Int) ≤ 1125899906842624 * 40 := Int.mul_le_mul k2 h40 (by omega) (by omega)
    omega) (c * (n : Int)) hsum)
  have hcn : IntKind.i64.wrap (c * (n : Int)) = c * (n : Int) := by
    have h1 : c * (n : Int) ≤ 1125899906842624 * 40 := Int.mul_le_mul k2 h40 (by omega) (by omega)
    have h2 : 0 ≤ c * (n : Int) := Int.mul_nonneg k1 (by omega)
    exact IntWalk.i64_in _ (by omega)
  obtain ⟨p0, hp0⟩ : ∃ p, ps[0]? = some p := ⟨_, List.getElem?_eq_getElem hn0⟩
  have HP0 := Lib.hid hp0
  clear hs hl hq hr hok hn0 hsum hp0
  go_enter Try.func6, Try.ntmps6
  go_wp2_with (first
    | ((with_reducible refine (HSA.out).mono ?_); rintro _ w1 ⟨rfl, hb1⟩; have HB1 := Lib.hid hb1; have HS1 := Lib.hid (HS.out.below hb1); clear hb1)
    | ((with_reducible refine (HRT.out _ HS1.out).mono ?_); rintro _ w9 ⟨rfl, hw9⟩; obtain rfl := hw9)
    | ((with_reducible refine (HTU.out _ HS1.out).mono ?_); rintro _ w2 ⟨A2, c2, rfl, hs2, hb2⟩; have HL2 := Lib.hid hs2.1; have HS2 := Lib.hid (HS1.out.below hb2); have HB2 := Lib.hid (HB1.out.trans (hb2.mono HB1.out.size)); clear hs2 hb2)
    | ((with_reducible refine (HSU.out _ _ _ HL2.out).mono ?_); rintro _ w9 ⟨rfl, hw9⟩; obtain rfl := hw9)
    | (at_make; refine wpList_make_own w2 rfl (.tmp 59) (.tmp 59) 22 rfl w2.heap.size 3 i1 _ 1 8 Try.underlying22 hj0 hj1 hj2 hj3 rfl (by omega) n rfl rfl (by omega) (by simp only [maxLen]; omega) (Nat.le_refl _) ?_; intro w3 hown3 hb3 hz3; have HW3 := Lib.hid hown3; have HB3 := Lib.hid hb3; clear hown3 hb3))
  go_loopw [10, 11] (fun ev iv wr => ∃ k : Nat, k ≤ n ∧ iv = .int .i64 (k : Int) ∧ ev = .bool (eqTo ps k) ∧ Below w2.heap.size w2 wr ∧ Own wr w2.heap.size 3 1 (.slice (some ⟨w2.heap.size, 0, none⟩) n n) n ((turnsL c ps k).map fun k => [.int .i64 k])) (fun _ i _ => n - (intOf i).toNat)
  case atStart => exact ⟨0, Nat.zero_le _, rfl, rfl, HB3.out, by rw [turnsL_zero c ps HL.out]; exact HW3.out⟩
  case round =>
    obtain ⟨k, hk, rfl, rfl, hb, ho⟩ := hrel
    obtain ⟨wo, rfl⟩ : ∃ wo : World, wo = wr := ⟨_, rfl⟩
    have HB := Lib.hid hb
    have HOW := Lib.hid ho
    clear hb ho HW3 HB3
    by_cases hlt : k < n
    · have hok := HO.out k (by rw [HL.out]; exact hlt)
      have HOK := Lib.hid hok
      have HSP := Lib.hid (Split_ok wo A n cc ps (HS2.out.below HB.out) c (k : Int) hok)
      have hki : (k : Int) < (n : Int) := by omega
      have hk0 : (0 : Int) ≤ (k : Int) := Int.natCast_nonneg _
      have hkm : k % n = k := Nat.mod_eq_of_lt hlt
      have HKM := Lib.hid hkm
      have hzo : w2.heap.size < wo.heap.size := (HOW.out.lt w2.heap.size rfl).2
      have HZO := Lib.hid hzo
      obtain ⟨p, hp⟩ : ∃ p, ps[k]? = some p := ⟨_, List.getElem?_eq_getElem (by rw [HL.out]; exact hlt)⟩
      have HPK := Lib.hid hp
      have HEQ := Lib.hid (eqTo_next hp HP0.out)
      have HLT := Lib.hid hlt
      clear hok hkm hzo hlt hp
      generalize eqTo ps k = eb at *
      go_wp2_with ((with_reducible refine (HSP.out).mono ?_); rintro _ w4 ⟨A4, c4, rfl, hs4, hb4⟩; have HS4 := Lib.hid hs4; have HB4 := Lib.hid (HB.out.trans (hb4.mono HB.out.size)); have HO4 := Lib.hid (HOW.out.below hb4); clear hs4 hb4)
      go_loopw [14] (fun iv wr => ∃ m : Nat, m ≤ n ∧ iv = .int .i64 (m : Int) ∧ Below w2.heap.size w2 wr ∧ Own wr w2.heap.size 3 1 (.slice (some ⟨w2.heap.size, 0, none⟩) n n) n ((turnsMid c ps k m).map fun k => [.int .i64 k]) ∧ SlF wo wr 1 A4 n ((splitL c ps (k : Int)).map fun k => [.int .i64 k])) (fun i _ => n - (intOf i).toNat)
      case atStart => exact ⟨0, Nat.zero_le _, rfl, HB4.out, by rw [turnsMid_zero]; exact HO4.out, HS4.out⟩
      case round =>
        obtain ⟨m, hm, rfl, hb, ho, hsl⟩ := hrel
        obtain ⟨wp, rfl⟩ : ∃ wp : World, wp = wr := ⟨_, rfl⟩
        have HBp := Lib.hid hb
        have HOp := Lib.hid ho
        have HSp := Lib.hid hsl
        clear hb ho hsl HO4 HB4 HS4
        by_cases hlt : m < n
        · have hpy := splitL_at (c := c) (first := (k : Int)) HL.out hlt
          obtain ⟨b, o, rfl, hbl, c0⟩ := Ints.at_ HSp.out.1 hpy
          have htv := turnsMid_at (c := c) (k := k) HL.out hlt
          obtain ⟨g', c', he, _, hgz, hcell2, hfz⟩ := HOp.out.at_ (i := m) (x := [.int .i64 (turnsAt c ps k m)]) (by rw [List.getElem?_map, htv]; rfl)
          cases he
          have e0 := hcell2 0 _ rfl
          rw [Nat.add_zero, Nat.mul_one] at e0
          have hb1 := pay_bounds HOK.out m
          have hb2 := turnsAt_bounds HO.out HN0.out HK2.out m k (by have := HLT.out; omega)
          have hkk := HLT.out
          have hw1 : IntKind.i64.wrap (turnsAt c ps k m + payQ c ps (k : Int) m) = turnsAt c ps k m + payQ c ps (k : Int) m := IntWalk.i64_in _ (by omega)
          have hmi : (m : Int) < (n : Int) := by omega
          have hm0 : (0 : Int) ≤ (m : Int) := Int.natCast_nonneg _
          have HOZ : Hid (Own wp.drew w2.heap.size 3 1 (.slice (some ⟨w2.heap.size, 0, none⟩) n n) n ((turnsMid c ps k m).map fun k => [.int .i64 k])) := Lib.hid (HOp.out.below (Below.refl _ _).drew)
          have HBZ := Lib.hid HBp.out.drew
          have HSZ : Hid (SlF wo wp.drew 1 _ n ((splitL c ps (k : Int)).map fun k => [.int .i64 k])) := Lib.hid HSp.out
          have HLT2 := Lib.hid hlt
          clear hpy htv hcell2 hb1 hb2 hkk
          obtain ⟨t, htt⟩ : ∃ t, turnsAt c ps k m = t := ⟨_, rfl⟩
          obtain ⟨y, hyy⟩ : ∃ y, payQ c ps (k : Int) m = y := ⟨_, rfl⟩
          rw [htt] at e0 hw1
          rw [hyy] at c0 hw1
          have HTT := Lib.hid htt
          have HYY := Lib.hid hyy
          clear htt hyy hlt
          go_wp2_with (fail)
          go_still_tail 12, (by kernel_rfl)
          change wpList _ _ _ _ _ wp.drew
          have e0Z : wp.drew.cell? ⟨w2.heap.size, m, none⟩ = _ := e0
          have hfzZ : wp.drew.frozen? ⟨w2.heap.size, m, none⟩ = _ := hfz m
          generalize wp.drew = Z at *
          clear e0 hfz
          have hst := own_int HOZ.out HLT2.out (t + y)
          have hmn := turnsMid_next c ps k (m := m) (by rw [HL.out]; exact HLT2.out)
          rw [HL.out, HKM.out, HTT.out, HYY.out] at hmn
          rw [hmn] at hst
          have HST := Lib.hid hst
          have HB7 := Lib.hid (HBZ.out.setCell (p := ⟨w2.heap.size, m, none⟩) (Nat.le_refl _) (.int .i64 (t + y)))
          have HS7 := Lib.hid (SlF.far HSZ.out (p := ⟨w2.heap.size, m, none⟩) HZO.out (.int .i64 (t + y)))
          clear hst hmn
          go_wp2_with (fail)
          go_roundw
          case rel => exact ⟨m + 1, HLT2.out, by go_num, HB7.out, HST.out, HS7.out⟩
          case measure => have := HLT2.out; simp [intOf]; omega
        · obtain rfl : m = n := by omega
          have hmi : (m : Int) ≤ (m : Int) := Int.le_refl _
          obtain ⟨b, o, rfl, hbl3, c3⟩ := Ints.at_ (HS2.out.below HBp.out) HPK.out
          obtain ⟨b', o', hA, hbl0, c0⟩ := Ints.at_ (HS2.out.below HBp.out) HP0.out
          injection hA with hA
          injection hA with hA1 hA2
          subst hA1 hA2
          rw [Nat.add_zero] at c0
          have HNX : Own wp w2.heap.size 3 1 (.slice (some ⟨w2.heap.size, 0, none⟩) m m) m ((turnsL c ps (k + 1)).map fun k => [.int .i64 k]) := by
            have h := HOp.out
            have e := turnsMid_all c ps k
            rw [HL.out] at e
            rw [e] at h
            exact h
          have HNX := Lib.hid HNX
          clear hlt
          cases eb
          · go_wp2_with (fail)
            go_quiet (fail)
            go_wp2_with (fail)
            go_roundw
            case rel => exact ⟨k + 1, HLT.out, by go_num, by rw [HEQ.out]; rfl, bdrewN HBp.out _, HNX.out⟩
            case measure => have := HLT.out; simp [intOf]; omega
          · go_wp2_with (fail)
            go_quiet (fail)
            go_wp2_with (fail)
            go_roundw
            case rel => exact ⟨k + 1, HLT.out, by go_num, by rw [HEQ.out]; rfl, bdrewN HBp.out _, HNX.out⟩
            case measure => have := HLT.out; simp [intOf]; omega
    · obtain rfl : k = n := by omega
      have hki : (k : Int) ≤ (k : Int) := Int.le_refl _
      have hev : eqTo ps k = true → ∀ i, i < k → turnsAt c ps k i = c := fun h i hi => by
        have e := HL.out
        subst e
        exact turns_equal HO.out (eqTo_all h) hi
      have HEV := Lib.hid hev
      have HLo := Lib.hid (HL2.out.below HB.out)
      have HBo := Lib.hid (HB2.out.trans (HB.out.mono HB2.out.size))
      clear hev hlt
      generalize eqTo ps k = eb at *
      go_wp2_with (fail)
      go_loopw [15] (fun iv wr => ∃ m : Nat, m ≤ k ∧ iv = .int .i64 (m : Int) ∧ Below wo.heap.size wo wr) (fun i _ => k - (intOf i).toNat)
      case atStart => exact ⟨0, Nat.zero_le _, rfl, Below.refl _ _⟩
      case round =>
        obtain ⟨m, hm, rfl, hb⟩ := hrel
        obtain ⟨wp, rfl⟩ : ∃ wp : World, wp = wr := ⟨_, rfl⟩
        have HBp := Lib.hid hb
        clear hb
        by_cases hlt : m < k
        · obtain ⟨b, o, rfl, hbl, c0⟩ := Ints.at_ (HLo.out.below HBp.out) (turnsL_at (c := c) (k := k) HL.out hlt)
          obtain ⟨g', c', he, _, hgz, hcell2, hfz⟩ := (HOW.out.below HBp.out).at_ (i := m) (x := [.int .i64 (turnsAt c ps k m)]) (by rw [List.getElem?_map, turnsL_at (c := c) (k := k) HL.out hlt]; rfl)
          cases he
          have e0 := hcell2 0 _ rfl
          rw [Nat.add_zero, Nat.mul_one] at e0
          have hmi : (m : Int) < (k : Int) := by omega
          have hm0 : (0 : Int) ≤ (m : Int) := Int.natCast_nonneg _
          have hevm := fun h => HEV.out h m hlt
          have HLT2 := Lib.hid hlt
          clear hlt hcell2
          cases eb
          · clear hevm
            generalize turnsAt c ps k m = t at *
            go_wp2_with (fail)
            go_quiet (fail)
            go_wp2_with (fail)
            go_roundw
            case rel => exact ⟨m + 1, HLT2.out, by go_num, bdrewN HBp.out _⟩
            case measure => have := HLT2.out; simp [intOf]; omega
          · have ht := hevm rfl
            clear hevm
            rw [ht] at c0 e0
            go_wp2_with (fail)
            go_quiet (fail)
            go_wp2_with (fail)
            go_roundw
            case rel => exact ⟨m + 1, HLT2.out, by go_num, bdrewN HBp.out _⟩
            case measure => have := HLT2.out; simp [intOf]; omega
        · obtain rfl : m = k := by omega
          have hmi : (m : Int) ≤ (m : Int) := Int.le_refl _
          go_wp2_with (fail)
          go_ret
          exact ⟨rfl, HBo.out.trans (HBp.out.mono HBo.out.size)⟩
end Go.Proofs.Ytcgakhajmekjcaa
