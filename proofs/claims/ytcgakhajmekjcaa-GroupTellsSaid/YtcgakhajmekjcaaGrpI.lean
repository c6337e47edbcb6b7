/- kerbsidelaw41: GroupWhole, walked. -/
import Derived.Test.YtcgakhajmekjcaaGrpH
namespace Go.Proofs.Ytcgakhajmekjcaa
open Go.RowKit

theorem splitL_at {c first : Int} {ps : List Int} {n : Nat} (hl : ps.length = n) {k : Nat} (hk : k < n) : (splitL c ps first)[k]? = some (payQ c ps first k) := by
  unfold splitL
  rw [List.getElem?_map, List.getElem?_range (by omega)]
  rfl
/-- what is wrong with arguments that are not right -/
theorem split_bad {c first : Int} {ps : List Int} {n : Nat} {q : Bool} (hl : ps.length = n) (hq : rightB ps = q) (h : ¬ SplitOk c ps first) :
    c < 0 ∨ (0 ≤ c ∧ 1125899906842624 < c) ∨ (0 ≤ c ∧ c ≤ 1125899906842624 ∧ q = false) ∨ (0 ≤ c ∧ c ≤ 1125899906842624 ∧ q = true ∧ first < 0) ∨ (0 ≤ c ∧ c ≤ 1125899906842624 ∧ q = true ∧ 0 ≤ first ∧ (n : Int) ≤ first) := by
  cases q
  · simp only [eq_self, Bool.false_eq_true, false_and, and_false, or_false, and_true]
    omega
  · have h1 := rightB_true.1 hq
    have : ¬ (0 ≤ c ∧ c ≤ 1125899906842624 ∧ 0 ≤ first ∧ first < ps.length) := fun ⟨a, b, c', d⟩ => h ⟨a, b, h1.1, h1.2.1, h1.2.2, c', d⟩
    rw [hl] at this
    simp only [Bool.true_eq_false, and_false, and_true, true_and]
    omega
set_option maxRecDepth 100000 in
set_option maxHeartbeats 8000000 in
theorem whole_any (w : World) (A : Option Addr) (n cc : Nat) (ps : List Int) (hs : Ints w A n ps) (hn : n ≤ maxLen) (c first : Int) :
    Calls Try.prog 4 #[.int .i64 c, .slice A n cc, .int .i64 first] w fun e w' => e = .returned (.bool true) ∧ Below w.heap.size w w' := by
  have hl := hs.length
  have HSA := Lib.hid (sane_any w)
  obtain ⟨q, hq⟩ : ∃ q, rightB ps = q := ⟨_, rfl⟩
  have HRT := Lib.hid (fun W (h : Ints W A n ps) => Right_any W A n cc ps h hn q hq)
  have HS := Lib.hid hs
  by_cases h110 : 110 < (n : Int)
  · have HFW := Lib.hid (fun W => few_any W A n cc false (decide_eq_false (by omega)))
    clear hs hl hq
    go_enter Try.func4, Try.ntmps4
    go_wp2_with (first
      | ((with_reducible refine (HSA.out).mono ?_); rintro _ w1 ⟨rfl, hb1⟩; have HB1 := Lib.hid hb1; clear hb1)
      | ((with_reducible refine (HFW.out _).mono ?_); rintro _ w9 ⟨rfl, hw9⟩; obtain rfl := hw9))
    go_ret
    exact ⟨rfl, HB1.out⟩
  have HFW := Lib.hid (fun W => few_any W A n cc true (decide_eq_true (by omega)))
  by_cases h : SplitOk c ps first
  · have hrt : q = true := by rw [← hq]; exact rightB_true.2 ⟨h.len, h.rng, h.some⟩
    subst hrt
    have hn100 : n ≤ 100 := by have := h.len; omega
    have HL := Lib.hid hl
    have HO := Lib.hid h
    have HSP := Lib.hid (fun W (hW : Ints W A n ps) => Split_ok W A n cc ps hW c first h)
    have hsr := h.sum
    have HSU := Lib.hid (fun W (hW : Ints W A n ps) => Sum_any W A n cc ps hW hn (fun p hp => (h.rng p hp).1) (by omega) _ rfl)
    have k1 := h.c0
    have k2 := h.c1
    have k3 := h.f0
    have k4 : first < (n : Int) := by have := h.f1; omega
    have HWH := Lib.hid h.whole
    have HSR := Lib.hid hsr
    obtain ⟨S, hS⟩ : ∃ S, sumL ps = S := ⟨_, rfl⟩
    rw [hS] at HSU
    have HSS := Lib.hid hS
    have HPT := Lib.hid (fun k => sumL_take_le (ps := splitL c ps first) (fun p hp => by
      obtain ⟨i, _, rfl⟩ := List.mem_map.1 hp
      exact (pay_bounds h i).1) k)
    clear hs hl hq h h110 hsr hS
    go_enter Try.func4, Try.ntmps4
    go_wp2_with (first
      | ((with_reducible refine (HSA.out).mono ?_); rintro _ w1 ⟨rfl, hb1⟩; have HB1 := Lib.hid hb1; have HS1 := Lib.hid (HS.out.below hb1); clear hb1)
      | ((with_reducible refine (HFW.out _).mono ?_); rintro _ w9 ⟨rfl, hw9⟩; obtain rfl := hw9)
      | ((with_reducible refine (HRT.out _ HS1.out).mono ?_); rintro _ w9 ⟨rfl, hw9⟩; obtain rfl := hw9)
      | ((with_reducible refine (HSP.out _ HS1.out).mono ?_); rintro _ w2 ⟨A2, c2, rfl, hs2, hb2⟩; have HL2 := Lib.hid hs2.1; have HS2 := Lib.hid (HS1.out.below hb2); have HB2 := Lib.hid (HB1.out.trans (hb2.mono HB1.out.size)); clear hs2 hb2)
      | ((with_reducible refine (HSU.out _ HS2.out).mono ?_); rintro _ w9 ⟨rfl, hw9⟩; obtain rfl := hw9))
    go_loopw [11, 12] (fun tv iv wr => ∃ k : Nat, k ≤ n ∧ iv = .int .i64 (k : Int) ∧ tv = .int .i64 (sumL ((splitL c ps first).take k)) ∧ Below w2.heap.size w2 wr) (fun _ i _ => n - (intOf i).toNat)
    case atStart => exact ⟨0, Nat.zero_le _, rfl, rfl, Below.refl _ _⟩
    case round =>
      obtain ⟨k, hk, rfl, rfl, hb⟩ := hrel
      obtain ⟨wo, rfl⟩ : ∃ wo : World, wo = wr := ⟨_, rfl⟩
      have HB := Lib.hid hb
      clear hb
      by_cases hlt : k < n
      · obtain ⟨p, hp⟩ : ∃ p, ps[k]? = some p := ⟨_, List.getElem?_eq_getElem (by rw [HL.out]; exact hlt)⟩
        have hy := splitL_at (c := c) (first := first) HL.out hlt
        obtain ⟨b, o, rfl, hbl, c0⟩ := Ints.at_ (HS2.out.below HB.out) hp
        obtain ⟨b2, o2, rfl, hbl2, c0'⟩ := Ints.at_ (HL2.out.below HB.out) hy
        have hki : (k : Int) < (n : Int) := by omega
        have hk0 : (0 : Int) ≤ (k : Int) := Int.natCast_nonneg _
        have hpa : partAt ps k = p := by unfold partAt; rw [hp]; rfl
        have hpr := HO.out.rng p (List.mem_of_getElem? hp)
        have hSr := HSR.out
        have hST := sumL_take hy
        have hb1 := HPT.out (k + 1)
        rw [hST, HWH.out] at hb1
        have hyb := pay_bounds HO.out k
        have hyr := HO.out.pay_rng (first := first) k
        have hye := fun h => HO.out.pay_even (i := k) h
        have hyn := fun h => HO.out.pay_none (i := k) h
        have hqr := HO.out.quot k
        have hql := HO.out.quot_le k
        have hrr := HO.out.rest k
        have hlo := low_q c (sumL ps) p hSr.1
        have hev := even_r c (sumL ps) p
        have hQ : splitQ c ps k = c * p / sumL ps := by unfold splitQ; rw [hpa]
        have hR : restQ c ps k = c * p % sumL ps := by unfold restQ; rw [hpa]
        have HRQ := Lib.hid hR
        rw [hpa] at hyn
        rw [← hQ] at hlo
        rw [← hR] at hev
        rw [HSS.out] at hlo hev hrr hSr
        generalize hyk : payQ c ps first k = y at *
        have HYK := Lib.hid hyk
        clear hyk
        generalize splitQ c ps k = Q at *
        generalize restQ c ps k = R at *
        obtain ⟨a, ha⟩ : ∃ a, c / S = a := ⟨_, rfl⟩
        obtain ⟨bb, hbb⟩ : ∃ b, c % S = b := ⟨_, rfl⟩
        have hb0 := Int.emod_nonneg c (show S ≠ 0 by omega)
        have hbS := Int.emod_lt_of_pos c (show 0 < S by omega)
        have ha0 : 0 ≤ c / S := Int.ediv_nonneg (by omega) (by omega)
        have hac : c / S ≤ c := Int.ediv_le_self _ (by omega)
        have e1 : c.tdiv S = a := by rw [Int.tdiv_eq_ediv_of_nonneg (by omega)]; exact ha
        have e2 : c.tmod S = bb := by rw [Int.tmod_eq_emod_of_nonneg (by omega)]; exact hbb
        rw [ha, hbb] at hlo
        rw [hbb] at hev hb0 hbS
        rw [ha] at ha0 hac
        have hbp0 : 0 ≤ bb * p := Int.mul_nonneg hb0 hpr.1
        have hbp1 : bb * p ≤ 100000000 * 1000000 := Int.mul_le_mul (by omega) hpr.2 hpr.1 (by omega)
        have hq20 : 0 ≤ bb * p / S := Int.ediv_nonneg hbp0 (by omega)
        have hap0 : 0 ≤ a * p := Int.mul_nonneg ha0 hpr.1
        have wa : IntKind.i64.wrap a = a := IntWalk.i64_in _ (by omega)
        obtain ⟨ap, hap⟩ : ∃ x, IntKind.i64.wrap (a * p) = x := ⟨_, rfl⟩
        have hap' : a * p = ap := by rw [← hap]; exact (IntWalk.i64_in _ (by omega)).symm
        obtain ⟨bp, hbp⟩ : ∃ x, IntKind.i64.wrap (bb * p) = x := ⟨_, rfl⟩
        have hbp' : bb * p = bp := by rw [← hbp]; exact (IntWalk.i64_in _ (by omega)).symm
        rw [hap'] at hlo hap0
        rw [hbp'] at hlo hev hbp0 hbp1 hq20
        obtain ⟨q2, hq2⟩ : ∃ x, bp / S = x := ⟨_, rfl⟩
        rw [hq2] at hlo hq20
        have e3 : bp.tdiv S = q2 := by rw [Int.tdiv_eq_ediv_of_nonneg hbp0]; exact hq2
        have e4 : bp.tmod S = R := by rw [Int.tmod_eq_emod_of_nonneg hbp0]; exact hev
        have wq2 : IntKind.i64.wrap q2 = q2 := IntWalk.i64_in _ (by omega)
        have wlo : IntKind.i64.wrap (ap + q2) = Q := by rw [hlo]; exact IntWalk.i64_in _ (by omega)
        have wQ1 : IntKind.i64.wrap (Q + 1) = Q + 1 := IntWalk.i64_in _ (by omega)
        have hS0 : ¬ (S = 0) := by omega
        have hSb : (S == 0) = false := by simp; omega
        have hSm : ¬ (S = -1) := by omega
        have g1 : Q ≤ y := hyr.1
        have g2 : y ≤ Q + 1 := hyr.2
        obtain ⟨t, ht⟩ : ∃ t, sumL ((splitL c ps first).take k) = t := ⟨_, rfl⟩
        rw [ht] at hST hb1
        have wt : IntKind.i64.wrap (t + y) = t + y := IntWalk.i64_in _ (by omega)
        have HST := Lib.hid hST
        have HPA := Lib.hid hpa
        have HPK := Lib.hid hp
        have HYL := Lib.hid hy
        have HLT := Lib.hid hlt
        have HYE := Lib.hid hye
        have HYN := Lib.hid hyn
        rw [ht]
        clear hp hlo hQ hR hap' hbp' hb0 hbS ha0 hac hbp0 hbp1 hq20 hap0 hyb hyr hqr hql hrr hSr hpr hb1 hST hy hpa hlt ht hye hyn
        have hcases : (R ≠ 0 ∧ p ≠ 0) ∨ (R = 0 ∧ y = Q ∧ p ≠ 0) ∨ (R = 0 ∧ y = Q ∧ p = 0 ∧ y = 0) := by
          by_cases hR0 : R = 0
          · have h1 := HYE.out hR0
            by_cases hp0 : p = 0
            · exact .inr (.inr ⟨hR0, h1, hp0, HYN.out hp0⟩)
            · exact .inr (.inl ⟨hR0, h1, hp0⟩)
          · refine .inl ⟨hR0, fun hp0 => hR0 ?_⟩
            rw [HRQ.out, hp0]
            simp
        have HCA := Lib.hid hcases
        clear hcases
        go_wp2_with (fail)
        go_quiet (fail)
        go_wp2_with (fail)
        go_quiet (fail)
        rcases HCA.out with ⟨q1, q3⟩ | ⟨q1, q2', q3⟩ | ⟨q1, q2', q3, q4⟩
        · have r1 : (R == 0) = false := by simpa using q1
          have r3 : (p == 0) = false := by simpa using q3
          clear q1 q3
          go_wp2_with (fail)
          go_loopw [15] (fun iv wr => ∃ m : Nat, m ≤ n ∧ iv = .int .i64 (m : Int) ∧ Below w2.heap.size w2 wr) (fun i _ => n - (intOf i).toNat)
          case atStart => exact ⟨0, Nat.zero_le _, rfl, bdrewN HB.out _⟩
          case round =>
            obtain ⟨m, hm, rfl, hb⟩ := hrel
            obtain ⟨wp, rfl⟩ : ∃ wp : World, wp = wr := ⟨_, rfl⟩
            have HBp := Lib.hid hb
            clear hb
            by_cases hlt : m < n
            · obtain ⟨pm, hpm⟩ : ∃ p, ps[m]? = some p := ⟨_, List.getElem?_eq_getElem (by rw [HL.out]; exact hlt)⟩
              obtain ⟨bx, ox, hA, hbl3, c1⟩ := Ints.at_ (HS2.out.below HBp.out) hpm
              injection hA with hA
              injection hA with hA1 hA2
              subst hA1 hA2
              obtain ⟨bx, ox, hA, hbl4, c1'⟩ := Ints.at_ (HL2.out.below HBp.out) (splitL_at (c := c) (first := first) HL.out hlt)
              injection hA with hA
              injection hA with hA1 hA2
              subst hA1 hA2
              obtain ⟨bx, ox, hA, hbl5, c3⟩ := Ints.at_ (HS2.out.below HBp.out) HPK.out
              injection hA with hA
              injection hA with hA1 hA2
              subst hA1 hA2
              obtain ⟨bx, ox, hA, hbl6, c3'⟩ := Ints.at_ (HL2.out.below HBp.out) HYL.out
              injection hA with hA
              injection hA with hA1 hA2
              subst hA1 hA2
              have hmi : (m : Int) < (n : Int) := by omega
              have hm0 : (0 : Int) ≤ (m : Int) := Int.natCast_nonneg _
              have hmono : pm < p → payQ c ps first m ≤ y := fun hlt2 => by
                have hpam : partAt ps m = pm := by unfold partAt; rw [hpm]; rfl
                rw [← HYK.out]
                exact HO.out.pay_mono (by rw [HL.out]; exact HLT.out) (by rw [hpam, HPA.out]; exact hlt2)
              have HMO := Lib.hid hmono
              have HLM := Lib.hid hlt
              clear hpm hmono hlt
              generalize payQ c ps first m = ym at *
              by_cases hgt : pm < p
              · have hle := HMO.out hgt
                go_wp2_with (fail)
                go_quiet (fail)
                go_wp2_with (fail)
                go_roundw
                case rel => exact ⟨m + 1, HLM.out, by go_num, bdrewN HBp.out _⟩
                case measure => have := HLM.out; simp [intOf]; omega
              · have hgd : decide (pm < p) = false := decide_eq_false hgt
                go_wp2_with (fail)
                go_quiet (fail)
                go_wp2_with (fail)
                go_roundw
                case rel => exact ⟨m + 1, HLM.out, by go_num, bdrewN HBp.out _⟩
                case measure => have := HLM.out; simp [intOf]; omega
            · obtain rfl : m = n := by omega
              have hmi : (m : Int) ≤ (m : Int) := Int.le_refl _
              go_wp2_with (fail)
              go_roundw
              case rel => exact ⟨k + 1, HLT.out, by go_num, by rw [HST.out], HBp.out⟩
              case measure => have := HLT.out; simp [intOf]; omega
        · have r1 : (R == 0) = true := by simpa using q1
          have r2 : (y != Q) = false := by simpa using q2'
          have r3 : (p == 0) = false := by simpa using q3
          clear q1 q2' q3
          go_wp2_with (fail)
          go_loopw [15] (fun iv wr => ∃ m : Nat, m ≤ n ∧ iv = .int .i64 (m : Int) ∧ Below w2.heap.size w2 wr) (fun i _ => n - (intOf i).toNat)
          case atStart => exact ⟨0, Nat.zero_le _, rfl, bdrewN HB.out _⟩
          case round =>
            obtain ⟨m, hm, rfl, hb⟩ := hrel
            obtain ⟨wp, rfl⟩ : ∃ wp : World, wp = wr := ⟨_, rfl⟩
            have HBp := Lib.hid hb
            clear hb
            by_cases hlt : m < n
            · obtain ⟨pm, hpm⟩ : ∃ p, ps[m]? = some p := ⟨_, List.getElem?_eq_getElem (by rw [HL.out]; exact hlt)⟩
              obtain ⟨bx, ox, hA, hbl3, c1⟩ := Ints.at_ (HS2.out.below HBp.out) hpm
              injection hA with hA
              injection hA with hA1 hA2
              subst hA1 hA2
              obtain ⟨bx, ox, hA, hbl4, c1'⟩ := Ints.at_ (HL2.out.below HBp.out) (splitL_at (c := c) (first := first) HL.out hlt)
              injection hA with hA
              injection hA with hA1 hA2
              subst hA1 hA2
              obtain ⟨bx, ox, hA, hbl5, c3⟩ := Ints.at_ (HS2.out.below HBp.out) HPK.out
              injection hA with hA
              injection hA with hA1 hA2
              subst hA1 hA2
              obtain ⟨bx, ox, hA, hbl6, c3'⟩ := Ints.at_ (HL2.out.below HBp.out) HYL.out
              injection hA with hA
              injection hA with hA1 hA2
              subst hA1 hA2
              have hmi : (m : Int) < (n : Int) := by omega
              have hm0 : (0 : Int) ≤ (m : Int) := Int.natCast_nonneg _
              have hmono : pm < p → payQ c ps first m ≤ y := fun hlt2 => by
                have hpam : partAt ps m = pm := by unfold partAt; rw [hpm]; rfl
                rw [← HYK.out]
                exact HO.out.pay_mono (by rw [HL.out]; exact HLT.out) (by rw [hpam, HPA.out]; exact hlt2)
              have HMO := Lib.hid hmono
              have HLM := Lib.hid hlt
              clear hpm hmono hlt
              generalize payQ c ps first m = ym at *
              by_cases hgt : pm < p
              · have hle := HMO.out hgt
                go_wp2_with (fail)
                go_quiet (fail)
                go_wp2_with (fail)
                go_roundw
                case rel => exact ⟨m + 1, HLM.out, by go_num, bdrewN HBp.out _⟩
                case measure => have := HLM.out; simp [intOf]; omega
              · have hgd : decide (pm < p) = false := decide_eq_false hgt
                go_wp2_with (fail)
                go_quiet (fail)
                go_wp2_with (fail)
                go_roundw
                case rel => exact ⟨m + 1, HLM.out, by go_num, bdrewN HBp.out _⟩
                case measure => have := HLM.out; simp [intOf]; omega
            · obtain rfl : m = n := by omega
              have hmi : (m : Int) ≤ (m : Int) := Int.le_refl _
              go_wp2_with (fail)
              go_roundw
              case rel => exact ⟨k + 1, HLT.out, by go_num, by rw [HST.out], HBp.out⟩
              case measure => have := HLT.out; simp [intOf]; omega
        · have r1 : (R == 0) = true := by simpa using q1
          have r2 : (y != Q) = false := by simpa using q2'
          have r3 : (p == 0) = true := by simpa using q3
          have r4 : (y != 0) = false := by simpa using q4
          clear q1 q2' q3 q4
          go_wp2_with (fail)
          go_loopw [15] (fun iv wr => ∃ m : Nat, m ≤ n ∧ iv = .int .i64 (m : Int) ∧ Below w2.heap.size w2 wr) (fun i _ => n - (intOf i).toNat)
          case atStart => exact ⟨0, Nat.zero_le _, rfl, bdrewN HB.out _⟩
          case round =>
            obtain ⟨m, hm, rfl, hb⟩ := hrel
            obtain ⟨wp, rfl⟩ : ∃ wp : World, wp = wr := ⟨_, rfl⟩
            have HBp := Lib.hid hb
            clear hb
            by_cases hlt : m < n
            · obtain ⟨pm, hpm⟩ : ∃ p, ps[m]? = some p := ⟨_, List.getElem?_eq_getElem (by rw [HL.out]; exact hlt)⟩
              obtain ⟨bx, ox, hA, hbl3, c1⟩ := Ints.at_ (HS2.out.below HBp.out) hpm
              injection hA with hA
              injection hA with hA1 hA2
              subst hA1 hA2
              obtain ⟨bx, ox, hA, hbl4, c1'⟩ := Ints.at_ (HL2.out.below HBp.out) (splitL_at (c := c) (first := first) HL.out hlt)
              injection hA with hA
              injection hA with hA1 hA2
              subst hA1 hA2
              obtain ⟨bx, ox, hA, hbl5, c3⟩ := Ints.at_ (HS2.out.below HBp.out) HPK.out
              injection hA with hA
              injection hA with hA1 hA2
              subst hA1 hA2
              obtain ⟨bx, ox, hA, hbl6, c3'⟩ := Ints.at_ (HL2.out.below HBp.out) HYL.out
              injection hA with hA
              injection hA with hA1 hA2
              subst hA1 hA2
              have hmi : (m : Int) < (n : Int) := by omega
              have hm0 : (0 : Int) ≤ (m : Int) := Int.natCast_nonneg _
              have hmono : pm < p → payQ c ps first m ≤ y := fun hlt2 => by
                have hpam : partAt ps m = pm := by unfold partAt; rw [hpm]; rfl
                rw [← HYK.out]
                exact HO.out.pay_mono (by rw [HL.out]; exact HLT.out) (by rw [hpam, HPA.out]; exact hlt2)
              have HMO := Lib.hid hmono
              have HLM := Lib.hid hlt
              clear hpm hmono hlt
              generalize payQ c ps first m = ym at *
              by_cases hgt : pm < p
              · have hle := HMO.out hgt
                go_wp2_with (fail)
                go_quiet (fail)
                go_wp2_with (fail)
                go_roundw
                case rel => exact ⟨m + 1, HLM.out, by go_num, bdrewN HBp.out _⟩
                case measure => have := HLM.out; simp [intOf]; omega
              · have hgd : decide (pm < p) = false := decide_eq_false hgt
                go_wp2_with (fail)
                go_quiet (fail)
                go_wp2_with (fail)
                go_roundw
                case rel => exact ⟨m + 1, HLM.out, by go_num, bdrewN HBp.out _⟩
                case measure => have := HLM.out; simp [intOf]; omega
            · obtain rfl : m = n := by omega
              have hmi : (m : Int) ≤ (m : Int) := Int.le_refl _
              go_wp2_with (fail)
              go_roundw
              case rel => exact ⟨k + 1, HLT.out, by go_num, by rw [HST.out], HBp.out⟩
              case measure => have := HLT.out; simp [intOf]; omega
      · obtain rfl : k = n := by omega
        have hki : (k : Int) ≤ (k : Int) := Int.le_refl _
        have htot : sumL ((splitL c ps first).take k) = c := by
          rw [List.take_of_length_le (by rw [splitL_length, HL.out]; exact Nat.le_refl _)]
          exact HWH.out
        rw [htot]
        clear hlt htot
        go_wp2_with (fail)
        go_ret
        exact ⟨rfl, HB2.out.trans (HB.out.mono HB2.out.size)⟩
  · have hl' : ps.length = n := hl
    have hbad := split_bad hl' hq h
    have h110' : (n : Int) ≤ 110 := by omega
    clear hs h hl hl' hq h110
    rcases hbad with h1 | ⟨h1, h2⟩ | ⟨h1, h2, rfl⟩ | ⟨h1, h2, rfl, h3⟩ | ⟨h1, h2, rfl, h3, h4⟩
    all_goals
      go_enter Try.func4, Try.ntmps4
      go_wp2_with (first
        | ((with_reducible refine (HSA.out).mono ?_); rintro _ w1 ⟨rfl, hb1⟩; have HB1 := Lib.hid hb1; have HS1 := Lib.hid (HS.out.below hb1); clear hb1)
        | ((with_reducible refine (HFW.out _).mono ?_); rintro _ w9 ⟨rfl, hw9⟩; obtain rfl := hw9)
        | ((with_reducible refine (HRT.out _ HS1.out).mono ?_); rintro _ w9 ⟨rfl, hw9⟩; obtain rfl := hw9))
      go_ret
      exact ⟨rfl, HB1.out⟩
end Go.Proofs.Ytcgakhajmekjcaa
