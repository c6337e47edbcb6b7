/- kerbsideref41: Split, walked. -/
import Derived.Test.YtcgakhajmekjcaaGrpM
namespace Go.Proofs.Ytcgakhajmekjcaa
open Go.RowKit

/-- a list that is being filled: the first k are there -/
def midL (f : Nat → Int) (n k : Nat) : List Int := (List.range n).map fun i => if i < k then f i else 0
theorem midL_zero (f : Nat → Int) (n : Nat) : (midL f n 0).map (fun k => [Value.int .i64 k]) = List.replicate n (Value.cells (.int .i64 0)).toList := by
  unfold midL
  apply List.ext_getElem?
  intro i
  by_cases hi : i < n
  · simp [hi, Value.cells]
  · rw [List.getElem?_eq_none (by simp; omega), List.getElem?_eq_none (by simp; omega)]
theorem midL_all (f : Nat → Int) (n : Nat) : midL f n n = (List.range n).map f := by
  unfold midL
  exact List.map_congr_left fun i hi => by rw [if_pos (List.mem_range.1 hi)]
theorem midL_next (f : Nat → Int) {n k : Nat} (hk : k < n) : (midL f n k).set k (f k) = midL f n (k + 1) := by
  apply List.ext_getElem?
  intro i
  unfold midL
  by_cases hi : i < n
  · rw [List.getElem?_map, List.getElem?_range hi, List.getElem?_set]
    by_cases e : k = i
    · subst e
      simp [hk]
    · rw [if_neg e, List.getElem?_map, List.getElem?_range hi]
      simp only [Option.map_some, Option.some.injEq]
      split <;> split <;> first | rfl | omega
  · rw [List.getElem?_eq_none (by simp; omega), List.getElem?_eq_none (by simp; omega)]
theorem restT_at {c first : Int} {ps : List Int} {n t i : Nat} (hl : ps.length = n) (hi : i < n) : (restTL c ps first t)[i]? = some (restT c ps first t i) := by
  unfold restTL
  rw [List.getElem?_map, List.getElem?_range (by rw [hl]; exact hi)]
  rfl
theorem payT_at {c first : Int} {ps : List Int} {n t i : Nat} (hl : ps.length = n) (hi : i < n) : (payTL c ps first t)[i]? = some (payT c ps first t i) := by
  unfold payTL
  rw [List.getElem?_map, List.getElem?_range (by rw [hl]; exact hi)]
  rfl
theorem payT_rng {c first : Int} {ps : List Int} (h : SplitOk c ps first) (t i : Nat) : 0 ≤ payT c ps first t i ∧ payT c ps first t i ≤ 1125899906842625 := by
  have h1 := h.quot i
  have h2 := h.quot_le i
  have h3 := h.c1
  unfold payT
  split <;> omega
section
variable {c first : Int} {ps : List Int} {n t k : Nat} {R : Nat → Int}
theorem bt_first (h : SplitOk c ps first) (hl : ps.length = n) {i : Nat} (hi : i < n) (h1 : turnI n first i = 0) : BestTo n (turnI n first) R 1 i := by
  subst hl
  exact best_first h.turn_inj (fun j hj => by
    rw [h.turn hj]
    have := h.f0
    have := h.f1
    split <;> omega) hi h1
theorem bt_next (h : SplitOk c ps first) (hl : ps.length = n) {b i : Nat} (hb : BestTo n (turnI n first) R k b) (hi : i < n) (h1 : turnI n first i = k) : BestTo n (turnI n first) R (k + 1) (if R b < R i then i else b) := by
  subst hl
  exact best_next h.turn_inj hb hi h1
theorem bt_rest (h : SplitOk c ps first) (hl : ps.length = n) {b : Nat} (ht : t < n) (hb : BestTo n (turnI n first) (restT c ps first t) n b) : (restTL c ps first t).set b (-1) = restTL c ps first (t + 1) ∧ (payTL c ps first t).set b (payT c ps first t b + 1) = payTL c ps first (t + 1) := by
  subst hl
  have hr := pick h ht hb
  exact ⟨restT_next h hb.1 hr, payT_next h hb.1 hr⟩
end
set_option maxRecDepth 100000 in
set_option maxHeartbeats 8000000 in
theorem RSplit_ok (w : World) (A : Option Addr) (n cc : Nat) (ps : List Int) (hs : Ints w A n ps) (c first : Int) (h : SplitOk c ps first) :
    Calls Try.prog 10 #[.int .i64 c, .slice A n cc, .int .i64 first] w fun e w' => ∃ A' c', e = .returned (.tuple #[.slice A' n c', .int .i64 0]) ∧ SlF w w' 1 A' n ((splitL c ps first).map fun k => [.int .i64 k]) ∧ Below w.heap.size w w' := by
  have hl : ps.length = n := hs.length
  obtain ⟨i1, hj0, hj1, hj2, hj3⟩ := info_parts infoInt
  have hrt : rightB ps = true := rightB_true.2 ⟨h.len, h.rng, h.some⟩
  have hn100 : n ≤ 100 := by have := h.len; omega
  have hnm : n ≤ maxLen := by unfold maxLen; omega
  have HRT := Lib.hid (RRight_any w A n cc ps hs hnm true hrt)
  have hsr := h.sum
  have HSU := Lib.hid (Sum_any w A n cc ps hs hnm (fun p hp => (h.rng p hp).1) (by omega) _ rfl)
  have HS := Lib.hid hs
  have HL := Lib.hid hl
  have HO := Lib.hid h
  have k1 := h.c0
  have k2 := h.c1
  have k3 := h.f0
  have k4 : first < (n : Int) := by have := h.f1; omega
  have hlr := h.left_rng
  rw [hl] at hlr
  have HLR := Lib.hid hlr
  have hn0 : 0 < n := by omega
  obtain ⟨S, hS⟩ : ∃ S, sumL ps = S := ⟨_, rfl⟩
  rw [hS] at HSU hsr
  have HSS := Lib.hid hS
  have HSR := Lib.hid hsr
  have HK := Lib.hid (And.intro k1 k2)
  have HSO := Lib.hid (fun W g (hW : Ints W (some ⟨g, 0, none⟩) n ((List.range n).map (splitQ c ps))) => Sum_any W (some ⟨g, 0, none⟩) n n ((List.range n).map (splitQ c ps)) hW hnm (fun p hp => by
    obtain ⟨i, _, rfl⟩ := List.mem_map.1 hp
    exact (h.quot i).1) (by
      unfold leftQ at hlr
      rw [hl] at hlr
      omega) (c - leftQ c ps) (by unfold leftQ; rw [hl]; omega))
  clear hs h hl hrt hsr hS hlr
  go_enter Try.func10, Try.ntmps10
  go_wp2_with (first
    | ((with_reducible refine (HRT.out).mono ?_); rintro _ w9 ⟨rfl, hw9⟩; obtain rfl := hw9)
    | ((with_reducible refine (HSU.out).mono ?_); rintro _ w9 ⟨rfl, hw9⟩; obtain rfl := hw9)
    | (at_make; refine wpList_make_own w rfl (.tmp 40) (.tmp 40) 22 rfl w.heap.size 3 i1 _ 1 8 Try.underlying22 hj0 hj1 hj2 hj3 rfl (by omega) n rfl rfl (by omega) (by simp only [maxLen]; omega) (Nat.le_refl _) ?_; intro w1 hown1 hb1 hz1; have HW1 := Lib.hid hown1; have HB1 := Lib.hid hb1; have HZ1 := Lib.hid hz1; clear hown1 hb1 hz1)
    | (at_make; refine wpList_make_own w1 rfl (.tmp 43) (.tmp 43) 22 rfl w.heap.size 3 i1 _ 1 8 Try.underlying22 hj0 hj1 hj2 hj3 rfl (by omega) n rfl rfl (by omega) (by simp only [maxLen]; omega) (Nat.le_of_lt HZ1.out) ?_; intro w2 hown2 hb2 hz2; have HX2 := Lib.hid (HW1.out.below hb2); have HW2 := Lib.hid hown2; have HB2 := Lib.hid (HB1.out.trans (hb2.mono HB1.out.size)); clear hown2 hb2 hz2))
  obtain ⟨g, hg⟩ : ∃ g, w1.heap.size = g := ⟨_, rfl⟩
  have hgne : w.heap.size ≠ g := by have := HZ1.out; omega
  rw [hg] at HW2
  rw [hg]
  have HGN := Lib.hid hgne
  clear hg hgne HW1 HB1 HZ1
  go_loopw [11] (fun iv wr => ∃ k : Nat, k ≤ n ∧ iv = .int .i64 (k : Int) ∧ Below w.heap.size w wr ∧ Own wr w.heap.size 3 1 (.slice (some ⟨w.heap.size, 0, none⟩) n n) n ((midL (splitQ c ps) n k).map fun k => [.int .i64 k]) ∧ Own wr w.heap.size 3 1 (.slice (some ⟨g, 0, none⟩) n n) n ((midL (restQ c ps) n k).map fun k => [.int .i64 k])) (fun i _ => n - (intOf i).toNat)
  case atStart => exact ⟨0, Nat.zero_le _, rfl, HB2.out, by rw [midL_zero]; exact HX2.out, by rw [midL_zero]; exact HW2.out⟩
  case round =>
    obtain ⟨k, hk, rfl, hb, hox, hor⟩ := hrel
    obtain ⟨wo, rfl⟩ : ∃ wo : World, wo = wr := ⟨_, rfl⟩
    have HB := Lib.hid hb
    have HOX := Lib.hid hox
    have HOR := Lib.hid hor
    clear hb hox hor HX2 HW2 HB2
    by_cases hlt : k < n
    · obtain ⟨p, hp⟩ : ∃ p, ps[k]? = some p := ⟨_, List.getElem?_eq_getElem (by rw [HL.out]; exact hlt)⟩
      obtain ⟨b, o, rfl, hbl, c0⟩ := Ints.at_ (HS.out.below HB.out) hp
      have hpr := HO.out.rng p (List.mem_of_getElem? hp)
      have hpa : partAt ps k = p := by unfold partAt; rw [hp]; rfl
      have hQ : c * p / S = splitQ c ps k := by unfold splitQ; rw [hpa, HSS.out]
      have hR : c * p % S = restQ c ps k := by unfold restQ; rw [hpa, HSS.out]
      have hqb := HO.out.quot_le k
      have HOV := Lib.hid (over_any wo c p S HK.out.1 HK.out.2 hpr.1 hpr.2 HSR.out.1 HSR.out.2 (splitQ c ps k) (restQ c ps k) hQ hR (Int.le_trans hqb HK.out.2))
      have hki : (k : Int) < (n : Int) := by omega
      have hk0 : (0 : Int) ≤ (k : Int) := Int.natCast_nonneg _
      have HLT := Lib.hid hlt
      clear hp hpr hpa hQ hR hqb hlt
      have hnx := midL_next (splitQ c ps) HLT.out
      have hny := midL_next (restQ c ps) HLT.out
      generalize splitQ c ps k = Q at *
      generalize restQ c ps k = R at *
      have HNX := Lib.hid hnx
      have HNY := Lib.hid hny
      clear hnx hny
      go_wp2_with ((with_reducible refine (HOV.out).mono ?_); rintro _ w3 ⟨rfl, hb3⟩; have HB3 := Lib.hid (HB.out.trans (hb3.mono HB.out.size)); have HX3 := Lib.hid (HOX.out.below hb3); have HR3 := Lib.hid (HOR.out.below hb3); obtain ⟨x3, hx3⟩ : ∃ x, (midL (splitQ c ps) n k)[k]? = some x := ⟨_, List.getElem?_eq_getElem (by unfold midL; rw [List.length_map, List.length_range]; exact HLT.out)⟩; obtain ⟨y3, hy3⟩ : ∃ x, (midL (restQ c ps) n k)[k]? = some x := ⟨_, List.getElem?_eq_getElem (by unfold midL; rw [List.length_map, List.length_range]; exact HLT.out)⟩; obtain ⟨g', c', he, _, hgz, hcell2, hfz⟩ := HX3.out.at_ (i := k) (x := [.int .i64 x3]) (by rw [List.getElem?_map, hx3]; rfl); cases he; have e0 := hcell2 0 _ rfl; rw [Nat.add_zero, Nat.mul_one] at e0; obtain ⟨g', c', he, _, hgz2, hcell3, hfz2⟩ := HR3.out.at_ (i := k) (x := [.int .i64 y3]) (by rw [List.getElem?_map, hy3]; rfl); cases he; have e1 := hcell3 0 _ rfl; rw [Nat.add_zero, Nat.mul_one] at e1; have hst := own_int (HX3.out) HLT.out Q; rw [HNX.out] at hst; have hsr := (HR3.out.other (p := ⟨w.heap.size, k, none⟩) (by simp only [Value.ownBlock]; exact fun h => HGN.out (by injection h with h; exact h.symm)) (.int .i64 Q)); have hst2 := hst.other (p := ⟨g, k, none⟩) (by simp only [Value.ownBlock]; exact fun h => HGN.out (by injection h)) (.int .i64 R); have hsr2 := own_int hsr HLT.out R; rw [HNY.out] at hsr2; have HXF := Lib.hid hst2; have HRF := Lib.hid hsr2; have HBF := Lib.hid ((HB3.out.setCell (p := ⟨w.heap.size, k, none⟩) (Nat.le_refl _) (.int .i64 Q)).setCell (p := ⟨g, k, none⟩) (HR3.out.lt g rfl).1 (.int .i64 R)); have hgne := HGN.out; have hgne2 := HGN.out.symm; clear hst hsr hst2 hsr2 hcell2 hcell3 hx3 hy3 hb3)
      go_roundw
      case rel => exact ⟨k + 1, HLT.out, by go_num, HBF.out, HXF.out, HRF.out⟩
      case measure => have := HLT.out; simp [intOf]; omega
    · obtain rfl : k = n := by omega
      have hki : (k : Int) ≤ (k : Int) := Int.le_refl _
      have hox := HOX.out
      have hor := HOR.out
      rw [midL_all] at hox hor
      have HXS := Lib.hid (HSO.out wo w.heap.size (Own.sl' hox))
      have hx0 : (List.range k).map (splitQ c ps) = payTL c ps first 0 := by rw [payT_zero, HL.out]
      have hr0 : (List.range k).map (restQ c ps) = restTL c ps first 0 := by rw [restT_zero, HL.out]
      rw [hx0] at hox
      rw [hr0] at hor
      have HX0 := Lib.hid hox
      have HR0 := Lib.hid hor
      have hlr := HLR.out
      obtain ⟨L, hL⟩ : ∃ L, leftQ c ps = L := ⟨_, rfl⟩
      rw [hL] at hlr HXS
      have HLL := Lib.hid hL
      have HLR2 := Lib.hid hlr
      have hw1 : IntKind.i64.wrap (c - (c - L)) = L := by rw [show c - (c - L) = L by omega]; exact IntWalk.i64_in _ (by omega)
      clear hox hor hx0 hr0 hlr hL hlt HOX HOR
      go_wp2_with ((with_reducible refine (HXS.out).mono ?_); rintro _ w9 ⟨rfl, hw9⟩; obtain rfl := hw9)
      go_loopw [12] (fun lv wr => ∃ t : Nat, (t : Int) ≤ L ∧ lv = .int .i64 (L - (t : Int)) ∧ Below w.heap.size w wr ∧ Own wr w.heap.size 3 1 (.slice (some ⟨w.heap.size, 0, none⟩) k k) k ((payTL c ps first t).map fun k => [.int .i64 k]) ∧ Own wr w.heap.size 3 1 (.slice (some ⟨g, 0, none⟩) k k) k ((restTL c ps first t).map fun k => [.int .i64 k])) (fun lv _ => (intOf lv).toNat)
      case atStart => exact ⟨0, HLR2.out.1, by simp, HB.out, HX0.out, HR0.out⟩
      case round =>
        obtain ⟨t, ht, rfl, hb, hox, hor⟩ := hrel
        obtain ⟨wp, rfl⟩ : ∃ wp : World, wp = wr := ⟨_, rfl⟩
        have HBp := Lib.hid hb
        have HXp := Lib.hid hox
        have HRp := Lib.hid hor
        clear hb hox hor HX0 HR0 HB HXS
        by_cases hlt : (t : Int) < L
        · have hpos : 0 < L - (t : Int) := by omega
          have htn : t < k := by have := HLR2.out.2; omega
          have HTL := Lib.hid hlt
          have HTN := Lib.hid htn
          clear hlt htn hw1
          go_wp2_with (fail)
          go_loopw [13, 14] (fun bv iv wr => ∃ m : Nat, m ≤ k ∧ iv = .int .i64 (m : Int) ∧ Below wp.heap.size wp wr ∧ ((m = 0 ∧ bv = .int .i64 (-1)) ∨ ∃ j : Nat, bv = .int .i64 (j : Int) ∧ 0 < m ∧ BestTo k (turnI k first) (restT c ps first t) m j)) (fun _ i _ => k - (intOf i).toNat)
          case atStart => exact ⟨0, Nat.zero_le _, rfl, Below.refl _ _, .inl ⟨rfl, rfl⟩⟩
          case round =>
            obtain ⟨m, hm, rfl, hb, hbest⟩ := hrel
            obtain ⟨wq, rfl⟩ : ∃ wq : World, wq = wr := ⟨_, rfl⟩
            have HBq := Lib.hid hb
            rename (t : Int) < L => hx72
            clear hb hpos hx72
            by_cases hlt : m < k
            · obtain ⟨i, hi, hem, hti⟩ := turn_index k3 k4 hlt
              have htm : (first + (m : Int)).tmod (k : Int) = (i : Int) := by rw [Int.tmod_eq_emod_of_nonneg (by omega)]; exact hem
              have hwf : IntKind.i64.wrap (first + (m : Int)) = first + (m : Int) := IntWalk.i64_in _ (by omega)
              have hwi : IntKind.i64.wrap (i : Int) = (i : Int) := IntWalk.i64_in _ (by omega)
              have hnz : ¬ ((k : Int) = 0) := by omega
              have hnb : ((k : Int) == 0) = false := by simp; omega
              have hmi : (m : Int) < (k : Int) := by omega
              have hm0 : (0 : Int) ≤ (m : Int) := Int.natCast_nonneg _
              have hii : (i : Int) < (k : Int) := by omega
              have hi0 : (0 : Int) ≤ (i : Int) := Int.natCast_nonneg _
              have HLM := Lib.hid hlt
              have HII := Lib.hid hi
              have HTI := Lib.hid hti
              clear hlt hti
              rcases hbest with ⟨rfl, rfl⟩ | ⟨j, rfl, hmp, hbt⟩
              · have HBT := Lib.hid (bt_first (R := restT c ps first t) HO.out HL.out HII.out HTI.out)
                have hem0 : first % (k : Int) = (i : Int) := by simpa using hem
                have htm0 : first.tmod (k : Int) = (i : Int) := by simpa using htm
                have hwf0 : IntKind.i64.wrap first = first := by simpa using hwf
                go_wp2_with (fail)
                go_quiet (fail)
                go_wp2_with (fail)
                go_roundw
                case rel => exact ⟨1, HLM.out, by go_num, bdrewN HBq.out _, .inr ⟨i, rfl, by omega, HBT.out⟩⟩
                case measure => have := HLM.out; simp [intOf]; omega
              · have hjk := hbt.1
                have hji : (j : Int) < (k : Int) := by omega
                have hj0' : (0 : Int) ≤ (j : Int) := Int.natCast_nonneg _
                have hjn : ¬ ((j : Int) < 0) := by omega
                have HNXT := Lib.hid (bt_next HO.out HL.out hbt HII.out HTI.out)
                obtain ⟨g', c', he, _, hgz, hcell2, hfz⟩ := (HRp.out.below HBq.out).at_ (i := i) (x := [.int .i64 (restT c ps first t i)]) (by rw [List.getElem?_map, restT_at HL.out HII.out]; rfl)
                cases he
                have e0 := hcell2 0 _ rfl
                obtain ⟨g', c', he, _, hgz3, hcell3, hfz3⟩ := (HRp.out.below HBq.out).at_ (i := j) (x := [.int .i64 (restT c ps first t j)]) (by rw [List.getElem?_map, restT_at HL.out hjk]; rfl)
                cases he
                have e1 := hcell3 0 _ rfl
                rw [Nat.add_zero, Nat.mul_one] at e0 e1
                clear hcell2 hcell3 hbt
                generalize restT c ps first t i = xi at *
                generalize restT c ps first t j = xj at *
                by_cases hgt : xj < xi
                · have HBT := HNXT.out
                  rw [if_pos hgt] at HBT
                  have HBT := Lib.hid HBT
                  go_wp2_with (fail)
                  go_quiet (fail)
                  go_wp2_with (fail)
                  go_roundw
                  case rel => exact ⟨m + 1, HLM.out, by go_num, bdrewN HBq.out _, .inr ⟨i, rfl, by omega, HBT.out⟩⟩
                  case measure => have := HLM.out; simp [intOf]; omega
                · have HBT := HNXT.out
                  rw [if_neg hgt] at HBT
                  have HBT := Lib.hid HBT
                  have hle : xi ≤ xj := by omega
                  go_wp2_with (fail)
                  go_quiet (fail)
                  go_wp2_with (fail)
                  go_roundw
                  case rel => exact ⟨m + 1, HLM.out, by go_num, bdrewN HBq.out _, .inr ⟨j, rfl, by omega, HBT.out⟩⟩
                  case measure => have := HLM.out; simp [intOf]; omega
            · obtain rfl : m = k := by omega
              rcases hbest with ⟨rfl, rfl⟩ | ⟨j, rfl, hmp, hbt⟩
              · exact absurd hn0 (Nat.lt_irrefl 0)
              have hmi : (m : Int) ≤ (m : Int) := Int.le_refl _
              have hjk := hbt.1
              have hji : (j : Int) < (m : Int) := by omega
              have hj0' : (0 : Int) ≤ (j : Int) := Int.natCast_nonneg _
              have HJK := Lib.hid hjk
              have hnx := bt_rest HO.out HL.out HTN.out hbt
              have hpr := payT_rng (first := first) HO.out t j
              have hXq := HXp.out.below HBq.out
              have hRq := HRp.out.below HBq.out
              obtain ⟨g', c', he, _, hgz, hcell2, hfz⟩ := hXq.at_ (i := j) (x := [.int .i64 (payT c ps first t j)]) (by rw [List.getElem?_map, payT_at HL.out hjk]; rfl)
              cases he
              have e0 := hcell2 0 _ rfl
              obtain ⟨g', c', he, _, hgz3, hcell3, hfz3⟩ := hRq.at_ (i := j) (x := [.int .i64 (restT c ps first t j)]) (by rw [List.getElem?_map, restT_at HL.out hjk]; rfl)
              cases he
              have e1 := hcell3 0 _ rfl
              rw [Nat.add_zero, Nat.mul_one] at e0 e1
              have hx2 := own_int hXq hjk (payT c ps first t j + 1)
              rw [hnx.2] at hx2
              have hr2 := hRq.other (p := ⟨w.heap.size, j, none⟩) (by simp only [Value.ownBlock]; exact fun h => HGN.out (by injection h with h; exact h.symm)) (.int .i64 (payT c ps first t j + 1))
              have hx3 := hx2.other (p := ⟨g, j, none⟩) (by simp only [Value.ownBlock]; exact fun h => HGN.out (by injection h)) (.int .i64 (-1))
              have hr3 := own_int hr2 hjk (-1)
              rw [hnx.1] at hr3
              have HXF := Lib.hid hx3
              have HRF := Lib.hid hr3
              have hb0 := HBp.out.trans (HBq.out.mono HBp.out.size)
              have HBF := Lib.hid ((hb0.setCell (p := ⟨w.heap.size, j, none⟩) (Nat.le_refl _) (.int .i64 (payT c ps first t j + 1))).setCell (p := ⟨g, j, none⟩) (hRq.lt g rfl).1 (.int .i64 (-1)))
              have hw5 : IntKind.i64.wrap (payT c ps first t j + 1) = payT c ps first t j + 1 := IntWalk.i64_in _ (by omega)
              have hw6 : IntKind.i64.wrap (L - (t : Int) - 1) = L - (t : Int) - 1 := IntWalk.i64_in _ (by have := HLR2.out; have := HTL.out; omega)
              have hgne := HGN.out
              have hgne2 := HGN.out.symm
              clear hnx hpr hXq hRq hcell2 hcell3 hx2 hr2 hx3 hr3 hb0 hbt hlt hjk
              generalize payT c ps first t j = pj at *
              generalize restT c ps first t j = rj at *
              go_wp2_with (fail)
              go_roundw
              case rel => exact ⟨t + 1, HTL.out, by congr 1; simp; omega, HBF.out, HXF.out, HRF.out⟩
              case measure => have := HTL.out; simp [intOf]; omega
        · have htl : (t : Int) = L := by omega
          have hle : L - (t : Int) ≤ 0 := by omega
          have hfin := HXp.out
          rw [payT_all (htl.trans HLL.out.symm)] at hfin
          have HFI := Lib.hid (Own.sl' hfin)
          clear hfin hlt hw1
          go_wp2_with (fail)
          go_ret2
          exact ⟨_, _, rfl, ⟨HFI.out, fun ad e => by injection e with e; rw [← e]; exact Nat.le_refl _⟩, HBp.out⟩
end Go.Proofs.Ytcgakhajmekjcaa
