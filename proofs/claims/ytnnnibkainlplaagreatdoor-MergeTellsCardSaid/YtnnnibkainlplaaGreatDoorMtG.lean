/- merge: the reference's Heads and Missing, walked. -/
import Derived.Test.YtnnnibkainlplaaGreatDoorMtF
import Derived.Test.YtnnnibkainlplaaGreatDoorMrgN0
namespace Go.Proofs.YtnnnibkainlplaaGreatDoor
open Go.RowKit Go.Sort Go.Lib

theorem heads_ext {t u : List Nat} (ht : t.length = 8) (hu : u.length = 8) (h : ∀ d : Nat, d < 8 → t.getD d 0 = u.getD d 0) : t = u := by
  apply List.ext_getElem?
  intro d
  rcases Nat.lt_or_ge d 8 with h1 | h1
  · have h2 := h d h1
    rw [List.getD_eq_getElem?_getD, List.getD_eq_getElem?_getD, List.getElem?_eq_getElem (by omega), List.getElem?_eq_getElem (by omega)] at h2
    rw [List.getElem?_eq_getElem (by omega), List.getElem?_eq_getElem (by omega)]
    exact congrArg some h2
  · rw [List.getElem?_eq_none (by omega), List.getElem?_eq_none (by omega)]
set_option maxRecDepth 100000 in
set_option maxHeartbeats 4000000 in
theorem RHeads_any (w : World) (A : Option Addr) (n c : Nat) (l : List EntC) (hs : ChAt w A n l) (hn : n ≤ 400) :
    Calls Tryz.prog 17 #[.slice A n c] w fun e w' => ∃ g, e = .returned (.slice (some ⟨g, 0, none⟩) 8 8) ∧ Sl w' 1 (some ⟨g, 0, none⟩) 8 ((ordF (vsOf l)).1.map natC) ∧ Below w.heap.size w w' := by
  have HRO := Lib.hid (fun W (hb : Below w.heap.size w W) => ROrder_any W A n c l (hs.below hb) hn)
  have HS0 := Lib.hid ((Sep.start w).ownNew (below_alloc _ _) (own8 w))
  have HMK : ∀ W, Sem.run Tryz.prog (Instr.makeSlice 28 (.int .i64 8) (.int .i64 8)) W = .ok (.slice (some ⟨W.heap.size, 0, none⟩) 8 8) (W.alloc (.cells row8 3)) := run_make8
  clear hs
  go_enter Tryz.func17, Tryz.ntmps17
  go_wp2_with (fail)
  clear HMK
  ((with_reducible refine (HRO.out _ HS0.out.base).mono ?_); rintro _ w2 ⟨AO, cO, lO, N, rfl, hO, hvO, hbO, hfO⟩)
  obtain ⟨V, hV⟩ : ∃ V, vsOf l = V := ⟨_, rfl⟩
  rw [hV] at hvO
  have HS2 := Lib.hid ((HS0.out.seesNew (φ := fun _ => True) fun _ => trivial).seesAdd hbO (Sl.rests (A := AO) ⟨hO.sl, hfO.2⟩))
  have HLO := Lib.hid hO
  have HVO := Lib.hid hvO
  have HV := Lib.hid hV
  have hN : N ≤ 3200 := by have h1 := ord_len V; rw [← hvO, vsOf_len, hO.lenEq] at h1; exact h1
  clear hO hvO hbO hV HS0 hfO
  go_wp2_with (fail)
  generalize hgT : w.heap.size = gT at HS2 ⊢
  have HGT := Lib.hid hgT
  clear hgT
  go_loopw [5] (fun iv wr => ∃ (i : Nat) (t : List Nat), i ≤ N ∧ iv = .int .i64 (i : Int) ∧ t.length = 8 ∧ (∀ d : Nat, d < 8 → t.getD d 0 = countF ((ordF V).2.take i) d) ∧ Sep w wr (seesR (fun W => True ∧ Sl W 5 AO N (lO.map EntC.cells)) :: ownR 3 1 (.slice (some ⟨gT, 0, none⟩) 8 8) 8 (t.map natC) :: [])) (fun iv _ => N - (intOf iv).toNat)
  case atStart => exact ⟨0, zero8, Nat.zero_le _, rfl, rfl, by simp only [List.take_zero]; decide, HS2.out⟩
  case round =>
    obtain ⟨i, t, hi, rfl, htl, ht, hS⟩ := hrel
    obtain ⟨wo, rfl⟩ : ∃ wo : World, wo = wr := ⟨_, rfl⟩
    have HSO := Lib.hid hS
    have HT := Lib.hid ht
    have HTL := Lib.hid htl
    clear hS htl ht HS2
    by_cases hlt : i < N
    · obtain ⟨x, hx⟩ : ∃ v, lO[i]? = some v := ⟨_, List.getElem?_eq_getElem (by rw [HLO.out.lenEq]; exact hlt)⟩
      have hxv : (ordF V).2[i]? = some x.v := by rw [← HVO.out]; exact vsOf_at hx
      obtain ⟨hx0, hx7⟩ := (run_ends V).1.dev x.v (List.mem_of_getElem? hxv)
      obtain ⟨b, o, rfl, hbl, d0, d1, d2, d3, d4⟩ := ent_at HSO.out.sees.2 hx
      obtain ⟨e, he⟩ : ∃ e : Nat, x.v.dev = (e : Int) := ⟨x.v.dev.toNat, by omega⟩
      rw [he] at d0
      have he8 : e < 8 := by omega
      obtain ⟨te, hte⟩ : ∃ te, t[e]? = some te := ⟨_, List.getElem?_eq_getElem (by rw [HTL.out]; exact he8)⟩
      obtain ⟨zT, kT, fT⟩ := HSO.out.sw.cellN hte
      have hcnt := HT.out e he8
      rw [List.getD_eq_getElem?_getD, hte, Option.getD_some] at hcnt
      have hc4 : te ≤ 3200 := by
        rw [hcnt]
        unfold countF ownF
        refine Nat.le_trans (List.length_filter_le _ _) (Nat.le_trans (List.length_take_le _ _) ?_)
        omega
      have hii : (i : Int) < (N : Int) := by omega
      have hi0 : (0 : Int) ≤ (i : Int) := by omega
      have hwi : IntKind.i64.wrap ((i : Int) + 1) = (i : Int) + 1 := IntWalk.i64_in _ (by omega)
      have hei0 : (0 : Int) ≤ (e : Int) := by omega
      have hei8 : (e : Int) < 8 := by omega
      have hwt : IntKind.i64.wrap ((te : Int) + 1) = (te : Int) + 1 := IntWalk.i64_in _ (by omega)
      have HSB := Lib.hid (HSO.out.sw.bumpN hte).sw
      have HXV := Lib.hid hxv
      have HDE := Lib.hid he
      have HLT := Lib.hid hlt
      clear hx hxv hx0 hx7 he hte hcnt hlt hi
      go_wp2_with (fail)
      go_roundw
      case rel => exact ⟨i + 1, bump t e, HLT.out, by go_num, by unfold bump; rw [List.length_set]; exact HTL.out, fun d hd => by
        rw [bump_at HTL.out hd, countF_snoc HXV.out, HT.out d hd]
        by_cases hed : e = d
        · rw [if_pos hed, if_pos (by rw [HDE.out]; omega)]
        · rw [if_neg hed, if_neg (by rw [HDE.out]; omega)], HSB.out⟩
      case measure => have := HLT.out; simp [intOf]; omega
    · obtain rfl : i = N := by omega
      have hii : ¬ ((i : Nat) : Int) < (i : Int) := by omega
      have htk : (ordF V).2.take i = (ordF V).2 := List.take_of_length_le (by rw [← HVO.out, vsOf_len, HLO.out.lenEq]; exact Nat.le_refl _)
      have hte : t = (ordF V).1 := heads_ext HTL.out (heads_len V) fun d hd => by rw [HT.out d hd, htk, ord_heads hd]
      have HTE := Lib.hid hte
      clear htk hte hlt hi
      go_wp2_with (fail)
      go_ret
      exact ⟨gT, rfl, by rw [HV.out, ← HTE.out]; exact HSO.out.sw.own.sl', HSO.out.base⟩
/-- what the reference asks of the entries so far -/
def AskI (J : List EntV) (d : Nat) (no : Nat) (i : Nat) (b : Bool) : Prop := b = true ↔ ∃ x ∈ J.take i, (x.dev = (d : Int) ∧ (no : Int) < x.no) ∨ (no : Int) < x.seen.getD d 0
theorem askI_step {J : List EntV} {d no i : Nat} {b b' : Bool} {x : EntV} (h : AskI J d no i b) (hx : J[i]? = some x) (hb : b' = true ↔ (b = true ∨ (x.dev = (d : Int) ∧ (no : Int) < x.no) ∨ (no : Int) < x.seen.getD d 0)) : AskI J d no (i + 1) b' := by
  unfold AskI at *
  rw [hb, h, List.take_add_one, hx, Option.toList_some]
  constructor
  · rintro (⟨y, hy, h⟩ | h)
    · exact ⟨y, List.mem_append_left _ hy, h⟩
    · exact ⟨x, List.mem_append_right _ (by simp), h⟩
  · rintro ⟨y, hy, h⟩
    rcases List.mem_append.1 hy with h1 | h1
    · exact .inl ⟨y, h1, h⟩
    · rw [List.mem_singleton.1 h1] at h; exact .inr h
set_option maxRecDepth 100000 in
set_option maxHeartbeats 8000000 in
theorem RMissing_any (w : World) (A : Option Addr) (n c : Nat) (l : List EntC) (hs : ChAt w A n l) (hn : n ≤ 400) (v : List (Nat × Nat)) (hv : missF (joinF (vsOf l)) = v) :
    Calls Tryz.prog 20 #[.slice A n c] w fun e w' => ∃ A' c', e = .returned (.slice A' v.length c') ∧ Sl w' 2 A' v.length (v.map refC) ∧ Below w.heap.size w w' := by
  obtain ⟨ir, hr0, hr1, hr2, hr3⟩ := info_parts infoRef
  have HJ := Lib.hid (RJoin_any w A none n 0 c 0 l [] hs (chAt_nil w) hn (by omega))
  have HLL : Hid (l.length = n) := Lib.hid (by simpa using hs.sl.1)
  have HV := Lib.hid hv
  clear hs hv
  go_enter Tryz.func20, Tryz.ntmps20
  go_wp2_with (fail)
  ((with_reducible refine HJ.out.mono ?_); rintro e w1 ⟨A1, c1, l1, N, rfl, h1, hv1, hb1, _⟩)
  have e0 : vsOf l ++ vsOf [] = vsOf l := by simp [vsOf]
  rw [e0] at hv1
  obtain ⟨J, hJ⟩ : ∃ J, joinF (vsOf l) = J := ⟨_, rfl⟩
  have HV2 : Hid (missF J = v) := Lib.hid (by rw [← hJ]; exact HV.out)
  rw [hJ] at hv1
  have hjl : J.length = N := by rw [← hv1, vsOf_len, h1.lenEq]
  have hN : N ≤ 400 := by rw [← hjl, ← hJ]; exact Nat.le_trans (joinF_len _) (by rw [vsOf_len, HLL.out]; exact hn)
  have hJR : AllR J := by rw [← hJ]; exact joinF_right _
  have HJR := Lib.hid hJR
  have HJN := Lib.hid hjl
  have HCH := Lib.hid h1
  have HVJ := Lib.hid hv1
  have HB1 := Lib.hid hb1
  have HSN := Lib.hid ((Sep.start w1).ownNil 40 2)
  clear h1 hb1 HJ hJ hjl hJR hv1 e0 HV
  go_wp2_with (fail)
  go_loopw [3, 5] (fun sv jv wr => ∃ (i q : Nat) (Ao : Option Addr) (co : Nat), i ≤ 8 ∧ q ≤ i ∧ jv = .int .i64 (i : Int) ∧ sv = .slice Ao q co ∧ q = (missTo J i).length ∧ Sep w1 wr (ownR 40 2 (.slice Ao q co) q ((missTo J i).map refC) :: [])) (fun _ jv _ => 8 - (intOf jv).toNat)
  case atStart => exact ⟨0, 0, none, 0, by omega, by omega, rfl, rfl, rfl, HSN.out⟩
  case round =>
    obtain ⟨d, q, Ao, co, hd, hqi, rfl, rfl, hq, hS⟩ := hrel
    obtain ⟨wo, rfl⟩ : ∃ wo : World, wo = wr := ⟨_, rfl⟩
    have HSO := Lib.hid hS
    have HQ := Lib.hid hq
    clear hS hq HSN
    by_cases hltd : d < 8
    case neg =>
      obtain rfl : d = 8 := by omega
      have hdi : ¬ ((8 : Nat) : Int) < 8 := by omega
      have HQ2 : Hid (q = v.length) := Lib.hid (by rw [HQ.out, ← HV2.out, missTo_all])
      have HSL : Hid (Sl wo 2 Ao q (v.map refC)) := Lib.hid (by rw [← HV2.out, ← missTo_all]; exact HSO.out.own.sl')
      go_wp2_with (fail)
      go_ret
      exact ⟨Ao, ⟨co, by rw [← HQ2.out]; rfl⟩, HQ2.out ▸ HSL.out, HB1.out.trans (HSO.out.base.mono HB1.out.size)⟩
    have hdi : (d : Int) < 8 := by omega
    have hd0 : (0 : Int) ≤ (d : Int) := by omega
    have hwd : IntKind.i64.wrap ((d : Int) + 1) = (d : Int) + 1 := IntWalk.i64_in _ (by omega)
    have HLD := Lib.hid hltd
    have HMS := Lib.hid (missTo_succ J d)
    clear hltd
    go_wp2_with (fail)
    go_loopw [6, 7] (fun nv iv wr => ∃ (i no : Nat), nv = .int .i64 (no : Int) ∧ iv = .int .i64 (i : Int) ∧ i ≤ N ∧ no ≤ i ∧ nextGo (d : Int) (J.take i) 0 = no ∧ Below wo.heap.size wo wr) (fun _ iv _ => N - (intOf iv).toNat)
    case atStart => exact ⟨0, 0, rfl, rfl, Nat.zero_le _, Nat.le_refl _, rfl, Below.refl _ _⟩
    case round =>
      obtain ⟨i, no, rfl, rfl, hi, hni, hno, hb⟩ := hrel
      obtain ⟨wi, rfl⟩ : ∃ wi : World, wi = wr := ⟨_, rfl⟩
      have HBI := Lib.hid hb
      have HNO := Lib.hid hno
      have HBW := Lib.hid (HSO.out.base.trans (hb.mono HSO.out.base.size))
      clear hb hno
      by_cases hlt : i < N
      · obtain ⟨x, hx⟩ : ∃ v, l1[i]? = some v := ⟨_, List.getElem?_eq_getElem (by rw [HCH.out.lenEq]; exact hlt)⟩
        have hxv : J[i]? = some x.v := by rw [← HVJ.out]; exact vsOf_at hx
        obtain ⟨b, o, rfl, hbl, d0, d1, d2, d3, d4⟩ := ent_at (HCH.out.below HBW.out).sl hx
        have hii : (i : Int) < (N : Int) := by omega
        have hi0 : (0 : Int) ≤ (i : Int) := by omega
        have hwi : IntKind.i64.wrap ((i : Int) + 1) = (i : Int) + 1 := IntWalk.i64_in _ (by omega)
        have hwn : IntKind.i64.wrap ((no : Int) + 1) = (no : Int) + 1 := IntWalk.i64_in _ (by omega)
        have hst : nextGo (d : Int) (J.take (i + 1)) 0 = if x.v.dev = (d : Int) ∧ x.v.no = (no : Int) then no + 1 else no := by
          rw [List.take_add_one, hxv, Option.toList_some, nextGo_snoc, HNO.out]
        have HST := Lib.hid hst
        have HLT := Lib.hid hlt
        clear hx hxv hst hlt hi
        by_cases hxd : x.v.dev = (d : Int)
        · have hdb : (x.v.dev == (d : Int)) = true := by simp [hxd]
          by_cases hxn : x.v.no = (no : Int)
          · have hnb : (x.v.no == (no : Int)) = true := by simp [hxn]
            have HN := Lib.hid (HST.out.trans (if_pos ⟨hxd, hxn⟩))
            clear hxd hxn
            go_wp2_with (fail)
            go_roundw
            case rel => exact ⟨i + 1, no + 1, by go_num, by go_num, HLT.out, by omega, HN.out, HBI.out⟩
            case measure => have := HLT.out; simp [intOf]; omega
          · have hnb : (x.v.no == (no : Int)) = false := beq_eq_false_iff_ne.2 hxn
            have HN := Lib.hid (HST.out.trans (if_neg fun h => hxn h.2))
            clear hxd
            go_wp2_with (fail)
            go_roundw
            case rel => exact ⟨i + 1, no, rfl, by go_num, HLT.out, by omega, HN.out, HBI.out⟩
            case measure => have := HLT.out; simp [intOf]; omega
        · have hdb : (x.v.dev == (d : Int)) = false := beq_eq_false_iff_ne.2 hxd
          have HN := Lib.hid (HST.out.trans (if_neg fun h => hxd h.1))
          go_wp2_with (fail)
          go_roundw
          case rel => exact ⟨i + 1, no, rfl, by go_num, HLT.out, by omega, HN.out, HBI.out⟩
          case measure => have := HLT.out; simp [intOf]; omega
      · obtain rfl : i = N := by omega
        have hii : ¬ ((i : Nat) : Int) < (i : Int) := by omega
        have hno2 : nextGo (d : Int) J 0 = no := by rw [← HNO.out, List.take_of_length_le (by rw [HJN.out]; exact Nat.le_refl _)]
        have HNO2 := Lib.hid hno2
        have HSI := Lib.hid (HSO.out.below HBI.out)
        clear hno2 hlt hi HNO HSO
        go_wp2_with (fail)
        go_loopw [8, 9] (fun bv iv wr => ∃ (j : Nat) (bb : Bool), bv = .bool bb ∧ iv = .int .i64 (j : Int) ∧ j ≤ i ∧ AskI J d no j bb ∧ Below wi.heap.size wi wr) (fun _ iv _ => i - (intOf iv).toNat)
        case atStart => exact ⟨0, false, rfl, rfl, Nat.zero_le _, (by unfold AskI; simp), Below.refl _ _⟩
        case round =>
          obtain ⟨j, bb, rfl, rfl, hj, hask, hb⟩ := hrel
          obtain ⟨wj, rfl⟩ : ∃ wj : World, wj = wr := ⟨_, rfl⟩
          have HBJ := Lib.hid hb
          have HASK := Lib.hid hask
          have HBW2 := Lib.hid (HSI.out.base.trans (hb.mono HSI.out.base.size))
          clear hb hask
          by_cases hltj : j < i
          · obtain ⟨x, hx⟩ : ∃ v, l1[j]? = some v := ⟨_, List.getElem?_eq_getElem (by rw [HCH.out.lenEq]; exact hltj)⟩
            have hxv : J[j]? = some x.v := by rw [← HVJ.out]; exact vsOf_at hx
            have hxr := HJR.out x.v (List.mem_of_getElem? hxv)
            obtain ⟨s, hs⟩ : ∃ s, x.v.seen[d]? = some s := ⟨_, List.getElem?_eq_getElem (by rw [hxr.len]; exact HLD.out)⟩
            have hsg : x.v.seen.getD d 0 = s := by rw [List.getD_eq_getElem?_getD, hs]; rfl
            have IX := (HCH.out.below HBW2.out).at_ x (List.mem_of_getElem? hx)
            obtain ⟨b2, o2, hsA, hb2, cs⟩ := Sl.at1 IX (k := d) (v := .int .i64 s) (by rw [List.getElem?_map, hs]; rfl)
            obtain ⟨b, o, rfl, hbl, d0, d1, d2, d3, d4⟩ := ent_at (HCH.out.below HBW2.out).sl hx
            rw [hsA] at d3
            have hji : (j : Int) < (i : Int) := by omega
            have hj0 : (0 : Int) ≤ (j : Int) := by omega
            have hsl : (x.v.seen.length : Int) = 8 := by rw [hxr.len]; rfl
            have hwj : IntKind.i64.wrap ((j : Int) + 1) = (j : Int) + 1 := IntWalk.i64_in _ (by omega)
            have HST : Hid (∀ b' : Bool, (b' = true ↔ (bb = true ∨ (x.v.dev = (d : Int) ∧ (no : Int) < x.v.no) ∨ (no : Int) < s)) → AskI J d no (j + 1) b') := Lib.hid fun b' hb' => askI_step HASK.out hxv (by rw [hsg]; exact hb')
            have HLT := Lib.hid hltj
            clear hx hxv hs hsg IX hxr hltj hj
            cases bb
            case true =>
              go_wp2_with (fail)
              go_roundw
              case rel => exact ⟨j + 1, true, rfl, by go_num, HLT.out, HST.out true (by simp), HBJ.out⟩
              case measure => have := HLT.out; simp [intOf]; omega
            by_cases hxd : x.v.dev = (d : Int)
            · have hdb : (x.v.dev == (d : Int)) = true := by simp [hxd]
              by_cases hxn : (no : Int) < x.v.no
              · have HN := Lib.hid (HST.out true (by simp [hxd, hxn]))
                clear hxd
                go_wp2_with (fail)
                go_roundw
                case rel => exact ⟨j + 1, true, rfl, by go_num, HLT.out, HN.out, HBJ.out⟩
                case measure => have := HLT.out; simp [intOf]; omega
              · by_cases hsn : (no : Int) < s
                · have HN := Lib.hid (HST.out true (by simp [hsn]))
                  clear hxd
                  go_wp2_with (fail)
                  go_roundw
                  case rel => exact ⟨j + 1, true, rfl, by go_num, HLT.out, HN.out, HBJ.out⟩
                  case measure => have := HLT.out; simp [intOf]; omega
                · have HN := Lib.hid (HST.out false (by simp only [Bool.false_eq_true, false_or, false_iff, not_or, not_and]; exact ⟨fun _ => hxn, hsn⟩))
                  clear hxd
                  go_wp2_with (fail)
                  go_roundw
                  case rel => exact ⟨j + 1, false, rfl, by go_num, HLT.out, HN.out, HBJ.out⟩
                  case measure => have := HLT.out; simp [intOf]; omega
            · have hdb : (x.v.dev == (d : Int)) = false := beq_eq_false_iff_ne.2 hxd
              by_cases hsn : (no : Int) < s
              · have HN := Lib.hid (HST.out true (by simp [hsn]))
                go_wp2_with (fail)
                go_roundw
                case rel => exact ⟨j + 1, true, rfl, by go_num, HLT.out, HN.out, HBJ.out⟩
                case measure => have := HLT.out; simp [intOf]; omega
              · have HN := Lib.hid (HST.out false (by simp only [Bool.false_eq_true, false_or, false_iff, not_or, not_and]; exact ⟨fun h => absurd h hxd, hsn⟩))
                go_wp2_with (fail)
                go_roundw
                case rel => exact ⟨j + 1, false, rfl, by go_num, HLT.out, HN.out, HBJ.out⟩
                case measure => have := HLT.out; simp [intOf]; omega
          · obtain rfl : j = i := by omega
            have hji : ¬ ((j : Nat) : Int) < (j : Int) := by omega
            have hask2 : bb = true ↔ ((nextGo (d : Int) J 0 : Nat) : Int) < needGo d J 0 := by
              rw [need_iff, HNO2.out]
              have := HASK.out
              unfold AskI at this
              rwa [List.take_of_length_le (by rw [HJN.out]; exact Nat.le_refl _)] at this
            have HA2 := Lib.hid hask2
            have HSJ := Lib.hid (HSI.out.below HBJ.out)
            clear hask2 hltj hj HASK HSI
            cases bb
            · have hms := HMS.out
              rw [if_neg (fun h => by have := HA2.out.2 h; cases this), List.append_nil] at hms
              have HM2 := Lib.hid hms
              clear hms
              go_wp2_with (fail)
              go_roundw
              case rel => exact ⟨d + 1, q, Ao, co, HLD.out, by omega, by go_num, rfl, by rw [HM2.out]; exact HQ.out, by rw [HM2.out]; exact HSJ.out⟩
              case measure => have := HLD.out; simp [intOf]; omega
            · have hms := HMS.out
              rw [if_pos (HA2.out.1 rfl), HNO2.out] at hms
              have HM2 := Lib.hid hms
              have HSA := Lib.hid (HSJ.out.alloc (.cells (refC (d, no)).toArray 40))
              have HN1 := Lib.hid (Sl.new_ wj 40 (refC (d, no)))
              simp only [refC] at HSA HN1
              clear hms
              go_wp2_with (at_builtin; (refine wpList_append_sl _ rfl (.tmp 78) (.tmp 82) _ rfl w1.heap.size 40 ir _ 2 16 Tryz.underlying33 hr0 hr1 hr2 hr3 rfl (by omega) _ q ((missTo J d).map refC) rfl HSA.out.own (some ⟨wj.heap.size, 0, none⟩) 1 1 ([(d, no)].map refC) rfl HN1.out (by simp [refC]) (by simp [refC, Value.oneCell']) (by simp only [maxLen]; omega) (by omega) HSA.out.base.size ?_); intro A9 c9 w9 hown9 hg9 hat9
                           have HS9 := Lib.hid (HSA.out.grown hown9 hg9 hat9)
                           clear hown9 hg9 hat9)
              go_roundw
              case rel =>
                refine ⟨d + 1, q + 1, A9, c9, HLD.out, by omega, by go_num, rfl, by rw [HM2.out, List.length_append, ← HQ.out]; rfl, ?_⟩
                rw [HM2.out, List.map_append]
                exact HS9.out
              case measure => have := HLD.out; simp [intOf]; omega
end Go.Proofs.YtnnnibkainlplaaGreatDoor
