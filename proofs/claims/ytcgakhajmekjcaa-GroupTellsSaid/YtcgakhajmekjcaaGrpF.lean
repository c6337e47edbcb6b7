/- group: Split at right arguments, walked. -/
import Derived.Test.YtcgakhajmekjcaaGrpE
namespace Go.Proofs.Ytcgakhajmekjcaa
open Go.RowKit

theorem infoShare : (Try.prog.info? 40).map (fun i => (i.zero, i.size, i.bytes)) = some (some (.agg #[.int .i64 0, .int .i64 0, .int .u64 0, .int .u64 0]), 4, 32) := by kernel_rfl
theorem infoInt : (Try.prog.info? 3).map (fun i => (i.zero, i.size, i.bytes)) = some (some (.int .i64 0), 1, 8) := by kernel_rfl
def sharesAt (c : Int) (ps : List Int) (first : Int) (n k : Nat) : List Share := (List.range k).map (shareOf c ps first) ++ List.replicate (n - k) (0, 0, 0, 0)
theorem sharesAt_next (c : Int) (ps : List Int) (first : Int) {n k : Nat} (hk : k < n) : (sharesAt c ps first n k).set k (shareOf c ps first k) = sharesAt c ps first n (k + 1) := by
  unfold sharesAt
  rw [List.set_append, if_neg (by simp), List.range_succ, List.map_append, List.length_map, List.length_range, Nat.sub_self, show n - k = (n - (k + 1)) + 1 by omega, List.replicate_succ, List.set_cons_zero]
  simp
theorem sharesAt_all (c : Int) (ps : List Int) (first : Int) (n : Nat) : sharesAt c ps first n n = (List.range n).map (shareOf c ps first) := by unfold sharesAt; simp
theorem sharesAt_zero (c : Int) (ps : List Int) (first : Int) (n : Nat) : (sharesAt c ps first n 0).map encSh = List.replicate n (Value.cells (.agg #[.int .i64 0, .int .i64 0, .int .u64 0, .int .u64 0])).toList := by
  unfold sharesAt
  simp [encSh, Value.cells]
/-- what is left behind k shares -/
def leftAt (c : Int) (ps : List Int) (k : Nat) : Int := c - sumL ((List.range k).map (splitQ c ps))
theorem leftAt_next (c : Int) (ps : List Int) (k : Nat) : leftAt c ps (k + 1) = leftAt c ps k - splitQ c ps k := by
  unfold leftAt
  rw [List.range_succ, List.map_append, sumL_append]
  simp only [List.map_cons, List.map_nil, sumL]
  omega
theorem leftAt_rng {c : Int} {ps : List Int} {first : Int} (h : SplitOk c ps first) : ∀ k, k ≤ ps.length → 0 ≤ leftAt c ps k ∧ leftAt c ps k ≤ c := by
  have h0 : ∀ d k, k + d = ps.length → 0 ≤ leftAt c ps k := by
    intro d
    induction d with
    | zero =>
      intro k hk
      have := h.left_rng.1
      rw [Nat.add_zero] at hk
      subst hk
      exact this
    | succ d ih =>
      intro k hk
      have h1 := ih (k + 1) (by omega)
      rw [leftAt_next] at h1
      have := (h.quot k).1
      omega
  have h1 : ∀ k, leftAt c ps k ≤ c := by
    intro k
    unfold leftAt
    have := sumL_nonneg ((List.range k).map (splitQ c ps)) fun p hp => by
      obtain ⟨i, _, rfl⟩ := List.mem_map.1 hp
      exact (h.quot i).1
    omega
  exact fun k hk => ⟨h0 (ps.length - k) k (by omega), h1 k⟩
theorem intV_map (ps : List Int) : (ps.map fun k => [Value.int .i64 k]) = (ps.map (Value.int .i64)).map fun v => [v] := by
  rw [List.map_map]
  rfl
theorem own_int {w : World} {base g c n i : Nat} {e : TypeId} {xs : List Int} (h : Own w base e 1 (.slice (some ⟨g, 0, none⟩) n c) n (xs.map fun k => [.int .i64 k])) (hi : i < n) (x : Int) :
    Own (w.setCell ⟨g, i, none⟩ (.int .i64 x)) base e 1 (.slice (some ⟨g, 0, none⟩) n c) n ((xs.set i x).map fun k => [.int .i64 k]) := by
  have hl : xs.length = n := by simpa using h.2.2
  rw [intV_map] at h
  have := h.stored1 (i := i) (by rw [List.length_map]; omega) (.int .i64 x)
  rw [intV_map, List.map_set]
  exact this
/-- the division of a product, as Split does it -/
theorem muldiv (c p S : Nat) (hc : c < 18446744073709551616) (hp : p < 18446744073709551616) (hS : 0 < S) (hS2 : S < 4294967296) (hpS : p ≤ S) (Q R : Int) (hQ : (c : Int) * (p : Int) / (S : Int) = Q) (hR : (c : Int) * (p : Int) % (S : Int) = R) :
    ∃ hi lo : Nat, (∀ w, Calls Try.prog 18 #[.int .u64 c, .int .u64 p] w fun e w' => e = .returned (.tuple #[.int .u64 hi, .int .u64 lo]) ∧ w = w') ∧
      (∀ w, Calls Try.prog 19 #[.int .u64 hi, .int .u64 lo, .int .u64 S] w fun e w' => e = .returned (.tuple #[.int .u64 Q, .int .u64 R]) ∧ Below w.heap.size w w') := by
  have hu : c * p < S * 18446744073709551616 := by
    rw [Nat.mul_comm S]
    exact Nat.lt_of_le_of_lt (Nat.mul_le_mul_left c hpS) (Nat.mul_lt_mul_of_pos_right hc hS)
  have hQ' : ((c * p / S : Nat) : Int) = Q := by rw [← hQ]; simp
  have hR' : ((c * p % S : Nat) : Int) = R := by rw [← hR]; simp
  refine ⟨c * p / 18446744073709551616, c * p % 18446744073709551616, fun w => mul64_any w c p hc hp, fun w => ?_⟩
  have := div_any w (c * p) S hS hS2 hu
  rw [hQ', hR'] at this
  exact this
theorem layOut_step {L : Int} {ys : List Share} {m i : Nat} {s : Share} {T Q R : Int} (hT : ys.take (m + 1) = ys.take m ++ [s]) (hl : (ys.take m).length = m) (hs : s = ((i : Int), T, Q, R)) (acc : List Int) (x : Int) (hx : (Q + if (m : Int) < L then 1 else 0) = x) :
    layOut L 0 (ys.take (m + 1)) acc = (layOut L 0 (ys.take m) acc).set i x := by
  rw [hT, layOut_snoc, hl, Nat.zero_add, hs]
  simp only [Int.toNat_natCast]
  rw [hx]
set_option maxRecDepth 100000 in
set_option maxHeartbeats 8000000 in
theorem Split_ok (w : World) (A : Option Addr) (n cc : Nat) (ps : List Int) (hs : Ints w A n ps) (c first : Int) (h : SplitOk c ps first) :
    Calls Try.prog 9 #[.int .i64 c, .slice A n cc, .int .i64 first] w fun e w' => ∃ A' c', e = .returned (.tuple #[.slice A' n c', .int .i64 0]) ∧ SlF w w' 1 A' n ((splitL c ps first).map fun k => [.int .i64 k]) ∧ Below w.heap.size w w' := by
  have hl := hs.length
  obtain ⟨i0, hi0, hi1, hi2, hi3⟩ := info_parts infoShare
  obtain ⟨i1, hj0, hj1, hj2, hj3⟩ := info_parts infoInt
  have hrt : rightB ps = true := rightB_true.2 ⟨h.len, h.rng, h.some⟩
  have hn100 : n ≤ 100 := by have := h.len; omega
  have HRT := Lib.hid (Right_any w A n cc ps hs (by unfold maxLen; omega) true hrt)
  have HS := Lib.hid hs
  have HL := Lib.hid hl
  have HO := Lib.hid h
  have k1 := h.c0
  have k2 := h.c1
  have k3 := h.f0
  have k4 : first < (n : Int) := by have := h.f1; omega
  have hsum := h.sum
  obtain ⟨S, hS⟩ : ∃ S : Nat, sumL ps = (S : Int) := ⟨(sumL ps).toNat, by omega⟩
  obtain ⟨cN, hcN⟩ : ∃ cN : Nat, c = (cN : Int) := ⟨c.toNat, by omega⟩
  have hwc : IntKind.u64.wrap c = c := IntWalk.u64_in _ (by omega)
  have HSN := Lib.hid hS
  have HSB : Hid (0 < S ∧ S ≤ 100000000) := Lib.hid (by omega)
  have HCN := Lib.hid hcN
  have HCB : Hid (cN ≤ 1125899906842624) := Lib.hid (by omega)
  have HPT := Lib.hid (fun k => sumL_take_le (fun p hp => (h.rng p hp).1) k)
  clear hs h hl hrt hsum hcN hS
  go_enter Try.func9, Try.ntmps9
  go_wp2_with ((with_reducible refine (HRT.out).mono ?_); rintro _ w9 ⟨rfl, hw9⟩; obtain rfl := hw9)
  go_loopw [8, 45] (fun sv iv wr => ∃ k : Nat, k ≤ n ∧ iv = .int .i64 (k : Int) ∧ sv = .int .u64 (sumL (ps.take k)) ∧ wr = w) (fun _ i _ => n - (intOf i).toNat)
  case atStart => exact ⟨0, Nat.zero_le _, rfl, rfl, rfl⟩
  case round =>
    obtain ⟨k, hk, rfl, rfl, hwr⟩ := hrel
    obtain rfl := hwr.symm
    by_cases hlt : k < n
    · obtain ⟨p, hp⟩ : ∃ p, ps[k]? = some p := ⟨_, List.getElem?_eq_getElem (by rw [HL.out]; exact hlt)⟩
      obtain ⟨b, o, rfl, hbl, c0⟩ := HS.out.at_ hp
      have hki : (k : Int) < (n : Int) := by omega
      have hk0 : (0 : Int) ≤ (k : Int) := Int.natCast_nonneg _
      have hpr := HO.out.rng p (List.mem_of_getElem? hp)
      have HST := Lib.hid (sumL_take hp)
      have hb1 := HPT.out (k + 1)
      have hu := HO.out.sum.2
      rw [HST.out] at hb1
      have hw0 : IntKind.u64.wrap p = p := IntWalk.u64_in _ (by omega)
      have hw : IntKind.u64.wrap (sumL (ps.take k) + p) = sumL (ps.take k) + p := IntWalk.u64_in _ (by omega)
      have HLT := Lib.hid hlt
      clear hp hlt hpr hb1 hu
      generalize sumL (ps.take k) = s at *
      go_wp2_with (fail)
      go_roundw
      case rel => exact ⟨k + 1, HLT.out, by go_num, by rw [HST.out], trivial⟩
      case measure => have := HLT.out; simp [intOf]; omega
    · obtain rfl : k = n := by omega
      have hki : (k : Int) ≤ (k : Int) := Int.le_refl _
      have hall : sumL (ps.take k) = (S : Int) := by rw [List.take_of_length_le (by rw [HL.out]; exact Nat.le_refl _)]; exact HSN.out
      rw [hall]
      clear hlt hall
      go_wp2_with (at_make; refine wpList_make_own w rfl (.tmp 56) (.tmp 56) 35 rfl w.heap.size 40 i0 _ 4 32 Try.underlying35 hi0 hi1 hi2 hi3 rfl (by omega) k rfl rfl (by omega) (by simp only [maxLen]; omega) (Nat.le_refl _) ?_; intro w1 hown1 hb1 hz1)
      rw [← sharesAt_zero c ps first] at hown1
      have HB1 := Lib.hid hb1
      have HW1 := Lib.hid hown1
      clear hb1 hown1 hz1
      go_loopw [11, 60] (fun lv iv wr => ∃ j : Nat, j ≤ k ∧ iv = .int .i64 (j : Int) ∧ lv = .int .i64 (leftAt c ps j) ∧ Below w.heap.size w wr ∧ Own wr w.heap.size 40 4 (.slice (some ⟨w.heap.size, 0, none⟩) k k) k ((sharesAt c ps first k j).map encSh)) (fun _ i _ => k - (intOf i).toNat)
      case atStart => exact ⟨0, Nat.zero_le _, rfl, by simp [leftAt, sumL], HB1.out, HW1.out⟩
      case round =>
        obtain ⟨j, hj, rfl, rfl, hb, ho⟩ := hrel
        obtain ⟨wo, rfl⟩ : ∃ wo : World, wo = wr := ⟨_, rfl⟩
        have HB := Lib.hid hb
        have HOW := Lib.hid ho
        clear hb ho HB1 HW1
        by_cases hlt : j < k
        · obtain ⟨p, hp⟩ : ∃ p, ps[j]? = some p := ⟨_, List.getElem?_eq_getElem (by rw [HL.out]; exact hlt)⟩
          obtain ⟨b, o, rfl, hbl, c0⟩ := Ints.at_ (HS.out.below HB.out) hp
          have hji : (j : Int) < (k : Int) := by omega
          have hj0 : (0 : Int) ≤ (j : Int) := Int.natCast_nonneg _
          have hpr := HO.out.rng p (List.mem_of_getElem? hp)
          have hpS := sumL_ge ps (fun q hq => (HO.out.rng q hq).1) p (List.mem_of_getElem? hp)
          rw [HSN.out] at hpS
          obtain ⟨pN, rfl⟩ : ∃ pN : Nat, p = (pN : Int) := ⟨p.toNat, by omega⟩
          have hpa : partAt ps j = (pN : Int) := by unfold partAt; rw [hp]; rfl
          obtain ⟨Q, hQ⟩ : ∃ Q, splitQ c ps j = Q := ⟨_, rfl⟩
          obtain ⟨R, hR⟩ : ∃ R, restQ c ps j = R := ⟨_, rfl⟩
          obtain ⟨T, hT⟩ : ∃ T, turnI ps.length first j = T := ⟨_, rfl⟩
          have hq1 := (HO.out.quot j).1
          have hq2 := HO.out.quot_le j
          have hr1 := HO.out.rest j
          have hlr := leftAt_rng HO.out j (by rw [HL.out]; omega)
          have hlr2 := leftAt_rng HO.out (j + 1) (by rw [HL.out]; omega)
          have hln := leftAt_next c ps j
          rw [hQ] at hq1 hq2 hln
          rw [hR] at hr1
          rw [hln] at hlr2
          have HLN := Lib.hid hln
          have HSH : Hid (shareOf c ps first j = ((j : Int), T, Q, R)) := by
            refine Lib.hid ?_
            unfold shareOf
            rw [hT, hQ, hR]
          have hQ' : (cN : Int) * (pN : Int) / (S : Int) = Q := by rw [← hQ, splitQ, hpa, HSN.out, HCN.out]
          have hR' : (cN : Int) * (pN : Int) % (S : Int) = R := by rw [← hR, restQ, hpa, HSN.out, HCN.out]
          obtain ⟨hi, lo, hmul, hdiv⟩ := muldiv cN pN S (by have := HCB.out; omega) (by omega) HSB.out.1 (by have := HSB.out.2; omega) (by omega) Q R hQ' hR'
          rw [← HCN.out] at hmul
          have HMU := Lib.hid hmul
          have HDV := Lib.hid hdiv
          unfold turnI at hT
          rw [HL.out] at hT
          have hwp : IntKind.u64.wrap (pN : Int) = (pN : Int) := IntWalk.u64_in _ (by omega)
          have hw1 : IntKind.i64.wrap ((j : Int) - first) = (j : Int) - first := IntWalk.i64_in _ (by omega)
          have hw2 : IntKind.i64.wrap ((j : Int) - first + (k : Int)) = (j : Int) - first + (k : Int) := IntWalk.i64_in _ (by omega)
          have hT2 : ((j : Int) - first + (k : Int)).tmod (k : Int) = T := by rw [Int.tmod_eq_emod_of_nonneg (by omega)]; exact hT
          have hkz : ¬ ((k : Int) = 0) := by omega
          have hkb : ((k : Int) == 0) = false := by simp; omega
          have hw3 : IntKind.i64.wrap Q = Q := IntWalk.i64_in _ (by omega)
          have hw4 : IntKind.i64.wrap (leftAt c ps j - Q) = leftAt c ps j - Q := IntWalk.i64_in _ (by omega)
          have hTr : 0 ≤ T ∧ T < (k : Int) := ⟨by rw [← hT]; exact Int.emod_nonneg _ hkz, by rw [← hT]; exact Int.emod_lt_of_pos _ (by omega)⟩
          have hw5 : IntKind.i64.wrap T = T := IntWalk.i64_in _ (by omega)
          obtain ⟨sh, hsh⟩ : ∃ sh, (sharesAt c ps first k j)[j]? = some sh := ⟨_, List.getElem?_eq_getElem (by unfold sharesAt; simp; omega)⟩
          have HSHY : Hid (((sharesAt c ps first k j).map encSh)[j]? = some (encSh sh)) := Lib.hid (by rw [List.getElem?_map, hsh]; rfl)
          have HLT := Lib.hid hlt
          clear hsh hp hpr hpS hpa hQ hR hq1 hq2 hr1 hlr hlr2 hln hQ' hR' hmul hdiv hTr
          generalize leftAt c ps j = L at *
          go_wp2_with (first
            | ((with_reducible refine (HMU.out _).mono ?_); rintro _ w9 ⟨rfl, hw9⟩; obtain rfl := hw9)
            | ((with_reducible refine (HDV.out _).mono ?_); rintro _ w2 ⟨rfl, hb2⟩; have HB2 := Lib.hid (HB.out.trans (hb2.mono HB.out.size)); have HO2 := Lib.hid (HOW.out.below hb2); obtain ⟨g', c', he, _, hgz, hcell, hfz⟩ := (HOW.out.below hb2).at_ (i := j) (x := encSh sh) HSHY.out; cases he; have d0 := hcell 0 _ rfl; rw [Nat.add_zero] at d0; have d1 := hcell 1 _ rfl; have d2 := hcell 2 _ rfl; have d3 := hcell 3 _ rfl; clear hcell hb2))
          have hst := own_share HO2.out (i := j) HLT.out ((j : Int), T, Q, R)
          rw [← HSH.out, sharesAt_next c ps first HLT.out] at hst
          have HST := Lib.hid hst
          clear hst
          have HB3 : Hid (Below w.heap.size w ((((w2.setCell ⟨w.heap.size, j * 4, none⟩ (.int .i64 (j : Int))).setCell ⟨w.heap.size, j * 4 + 1, none⟩ (.int .i64 T)).setCell ⟨w.heap.size, j * 4 + 2, none⟩ (.int .u64 Q)).setCell ⟨w.heap.size, j * 4 + 3, none⟩ (.int .u64 R))) :=
            (((HB2.out.setCell (p := ⟨w.heap.size, j * 4, none⟩) (Nat.le_refl _) _).setCell (p := ⟨w.heap.size, j * 4 + 1, none⟩) (Nat.le_refl _) _).setCell (p := ⟨w.heap.size, j * 4 + 2, none⟩) (Nat.le_refl _) _).setCell (p := ⟨w.heap.size, j * 4 + 3, none⟩) (Nat.le_refl _) _
          go_roundw
          case rel => exact ⟨j + 1, HLT.out, by go_num, by rw [HLN.out], HB3.out, by have h := HST.out; rw [HSH.out] at h; exact h⟩
          case measure => have := HLT.out; simp [intOf]; omega
        · obtain rfl : j = k := by omega
          have hji : (j : Int) ≤ (j : Int) := Int.le_refl _
          have ho := HOW.out
          rw [sharesAt_all] at ho
          have hso := sort_any wo w.heap.size w.heap.size j j _ ho (by omega)
          have HSO := Lib.hid hso
          have hle : leftAt c ps j = leftQ c ps := by unfold leftAt leftQ; rw [HL.out]
          have HLE := Lib.hid hle
          have HOO := Lib.hid ho
          have hzo : w.heap.size < wo.heap.size := (ho.lt w.heap.size rfl).2
          have HZO := Lib.hid hzo
          have hgl : ∀ x, (some w.heap.size : Option Nat) = some x → w.heap.size ≤ x := fun x e => by injection e with e; omega
          have HGL := Lib.hid hgl
          have hlr := HO.out.left_rng
          clear hso ho hlt hle hzo hgl
          generalize hlq : leftAt c ps j = L at *
          have HLQ := Lib.hid hlq
          clear hlq
          go_wp2_with (first
            | ((with_reducible refine (HSO.out).mono ?_); rintro _ w5 ⟨rfl, ys, hyp, hys, hsl, hg5⟩; have HYP := Lib.hid hyp; have HYS := Lib.hid hys; have HSL := Lib.hid hsl; have HZ5 := Lib.hid (Nat.lt_of_lt_of_le HZO.out hg5.size); have HB5 := Lib.hid (HB.out.grown hg5 (Nat.le_of_lt HZO.out) HGL.out); clear hyp hys hsl hg5)
            | (at_make; refine wpList_make_own w5 rfl (.tmp 104) (.tmp 104) 22 rfl w.heap.size 3 i1 _ 1 8 Try.underlying22 hj0 hj1 hj2 hj3 rfl (by omega) j rfl rfl (by omega) (by simp only [maxLen]; omega) HB5.out.size ?_; intro w6 hown6 hb6 hz6; have HW6 := Lib.hid hown6; have HB6 := Lib.hid (HB5.out.trans (hb6.mono HB5.out.size)); have HS6 := Lib.hid (HSL.out.below hb6); clear hown6 hb6 hz6))
          generalize w5.heap.size = g2 at *
          go_loopw [108] (fun iv wr => ∃ m : Nat, m ≤ j ∧ iv = .int .i64 (m : Int) ∧ Below w.heap.size w wr ∧ Own wr w.heap.size 3 1 (.slice (some ⟨g2, 0, none⟩) j j) j ((layOut L 0 (ys.take m) (List.replicate j 0)).map fun k => [.int .i64 k]) ∧ Sl wr 4 (some ⟨w.heap.size, 0, none⟩) j (ys.map encSh)) (fun i _ => j - (intOf i).toNat)
          case atStart => exact ⟨0, Nat.zero_le _, rfl, HB6.out, by have h := HW6.out; simpa [layOut, Value.cells] using h, HS6.out⟩
          case round =>
            obtain ⟨m, hm, rfl, hb, ho, hsl⟩ := hrel
            obtain ⟨wp, rfl⟩ : ∃ wp : World, wp = wr := ⟨_, rfl⟩
            have HBp := Lib.hid hb
            have HOp := Lib.hid ho
            have HSp := Lib.hid hsl
            clear hb ho hsl HW6 HB6 HS6
            have hyl : ys.length = j := by rw [HYP.out.length_eq]; simp
            by_cases hlt : m < j
            · obtain ⟨s, hs⟩ : ∃ s, ys[m]? = some s := ⟨_, List.getElem?_eq_getElem (by rw [hyl]; exact hlt)⟩
              obtain ⟨i, hi, hsi⟩ := List.mem_map.1 (HYP.out.mem_iff.1 (List.mem_of_getElem? hs))
              have hi := List.mem_range.1 hi
              obtain ⟨bs, os, hA, hbl, hcell⟩ := HSp.out.2 m (encSh s) (by rw [List.getElem?_map, hs]; rfl)
              injection hA with hA
              injection hA with hA1 hA2
              subst hA1 hA2
              obtain ⟨Q, hQ⟩ : ∃ Q, splitQ c ps i = Q := ⟨_, rfl⟩
              obtain ⟨R, hR⟩ : ∃ R, restQ c ps i = R := ⟨_, rfl⟩
              obtain ⟨T, hT⟩ : ∃ T, turnI ps.length first i = T := ⟨_, rfl⟩
              have hq1 := (HO.out.quot i).1
              have hq2 := HO.out.quot_le i
              rw [hQ] at hq1 hq2
              have hse : s = ((i : Int), T, Q, R) := by rw [← hsi, shareOf, hQ, hR, hT]
              have d0 := hcell 0 _ rfl
              rw [Nat.add_zero, Nat.zero_add] at d0
              have d1 := hcell 1 _ rfl
              have d2 := hcell 2 _ rfl
              have d3 := hcell 3 _ rfl
              rw [Nat.zero_add] at d1 d2 d3
              rw [hse] at d0 d1 d2 d3
              simp only at d0 d1 d2 d3
              have HTK := Lib.hid (take_succ hs)
              have HSE := Lib.hid hse
              have HML : Hid ((ys.take m).length = m) := Lib.hid (by rw [List.length_take, hyl]; omega)
              have hw1 : IntKind.i64.wrap Q = Q := IntWalk.i64_in _ (by omega)
              have hw2 : IntKind.i64.wrap (Q + 1) = Q + 1 := IntWalk.i64_in _ (by omega)
              have hmj : (m : Int) < (j : Int) := by omega
              have hm0 : (0 : Int) ≤ (m : Int) := Int.natCast_nonneg _
              have hij : (i : Int) < (j : Int) := by omega
              have hi0 : (0 : Int) ≤ (i : Int) := Int.natCast_nonneg _
              obtain ⟨v, hv⟩ : ∃ v, (layOut L 0 (ys.take m) (List.replicate j 0))[i]? = some v := ⟨_, List.getElem?_eq_getElem (by rw [layOut_length]; simpa using hi)⟩
              obtain ⟨g', c', he, _, hgz, hcell2, hfz⟩ := HOp.out.at_ (i := i) (x := [.int .i64 v]) (by rw [List.getElem?_map, hv]; rfl)
              cases he
              have e0 := hcell2 0 _ rfl
              rw [Nat.add_zero, Nat.mul_one] at e0
              have HLT := Lib.hid hlt
              have HI := Lib.hid hi
              clear hs hsi hcell hcell2 hQ hR hT hse hv hlt hi hyl hq1 hq2
              by_cases hmL : (m : Int) < L
              · have HM := Lib.hid hmL
                have hst := own_int (own_int HOp.out HI.out Q) HI.out (Q + 1)
                rw [List.set_set, ← layOut_step HTK.out HML.out HSE.out (List.replicate j 0) (Q + 1) (by rw [if_pos HM.out])] at hst
                have HST := Lib.hid hst
                have hle : w.heap.size ≤ g2 := Nat.le_of_lt HZ5.out
                have HB7 := Lib.hid ((HBp.out.setCell (p := ⟨g2, i, none⟩) hle (.int .i64 Q)).setCell (p := ⟨g2, i, none⟩) hle (.int .i64 (Q + 1)))
                have HS7 := Lib.hid ((HSp.out.grown (grownBy_setCell wp ⟨g2, i, none⟩ (.int .i64 Q)) (.inr fun ad e e' => by injection e with e; injection e' with e'; rw [← e] at e'; have := HZ5.out; simp at e'; omega)).grown (grownBy_setCell _ ⟨g2, i, none⟩ (.int .i64 (Q + 1))) (.inr fun ad e e' => by injection e with e; injection e' with e'; rw [← e] at e'; have := HZ5.out; simp at e'; omega))
                clear hst hle
                go_wp2_with (fail)
                go_roundw
                case rel => exact ⟨m + 1, HLT.out, by go_num, HB7.out.alloc HB7.out.size _, HST.out.alloc _, HS7.out.alloc _⟩
                case measure => have := HLT.out; simp [intOf]; omega
              · have hmL' : L ≤ (m : Int) := by omega
                have HM := Lib.hid hmL
                clear hmL
                have hst := own_int HOp.out HI.out Q
                rw [← layOut_step HTK.out HML.out HSE.out (List.replicate j 0) Q (by rw [if_neg HM.out]; omega)] at hst
                have HST := Lib.hid hst
                have hle : w.heap.size ≤ g2 := Nat.le_of_lt HZ5.out
                have HB7 := Lib.hid (HBp.out.setCell (p := ⟨g2, i, none⟩) hle (.int .i64 Q))
                have HS7 := Lib.hid (HSp.out.grown (grownBy_setCell wp ⟨g2, i, none⟩ (.int .i64 Q)) (.inr fun ad e e' => by injection e with e; injection e' with e'; rw [← e] at e'; have := HZ5.out; simp at e'; omega))
                clear hst hle
                go_wp2_with (fail)
                go_roundw
                case rel => exact ⟨m + 1, HLT.out, by go_num, HB7.out.alloc HB7.out.size _, HST.out.alloc _, HS7.out.alloc _⟩
                case measure => have := HLT.out; simp [intOf]; omega
            · obtain rfl : m = j := by omega
              have hmj : (m : Int) ≤ (m : Int) := Int.le_refl _
              have hout : layOut L 0 (ys.take m) (List.replicate m 0) = splitL c ps first := by
                have h1 := layOut_split HO.out (by rw [HL.out]; exact HYP.out) HYS.out
                rw [HL.out] at h1
                rw [List.take_of_length_le (by omega), HLE.out]
                exact h1
              have HOUT := Lib.hid hout
              clear hout hyl
              go_wp2_with (fail)
              go_ret2
              have ho := HOp.out
              rw [HOUT.out] at ho
              exact ⟨_, _, rfl, ⟨ho.sl', fun ad e => by injection e with e; rw [← e]; exact Nat.le_of_lt HZ5.out⟩, HBp.out⟩
end Go.Proofs.Ytcgakhajmekjcaa
