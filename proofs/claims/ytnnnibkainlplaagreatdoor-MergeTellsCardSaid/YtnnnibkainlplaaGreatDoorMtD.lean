/- merge: the reference's Past, walked. -/
import Derived.Test.YtnnnibkainlplaaGreatDoorMtC
namespace Go.Proofs.YtnnnibkainlplaaGreatDoor
open Go.RowKit Go.Sort Go.Lib

def sliceLen : Value → Nat
  | .slice _ n _ => n
  | _ => 0
/-- where the reference's inner loop stands: so many entries have the number, and the list with the last of them -/
structure NextI (J : List EntV) (d : Int) (m i q : Nat) (O L : List EntV) : Prop where
  len : (atNo (J.take i) d m).length = q
  nil : q = 0 → L = O
  last : ∀ pre x, atNo (J.take i) d m = pre ++ [x] → L = O ++ [x]
/-- a fresh list of some of these entries -/
def FreshOf (w : World) (src : List EntC) (A : Option Addr) (os : List EntC) : Prop := (∀ u ∈ os, u ∈ src) ∧ ∀ ad, A = some ad → w.heap.size ≤ ad.block
/-- what Past hands back -/
def GivesP (w : World) (src : List EntC) (v : List EntV) (e : Ending) (w' : World) : Prop := ∃ A c l m, e = .returned (.slice A m c) ∧ ChAt w' A m l ∧ vsOf l = v ∧ Below w.heap.size w w' ∧ FreshOf w src A l
theorem nextI_start (J : List EntV) (d : Int) (m : Nat) (O : List EntV) : NextI J d m 0 0 O O := ⟨by simp [atNo], fun _ => rfl, fun pre x h => by simp [atNo] at h⟩
theorem atNo_take {J : List EntV} {d : Int} {m i : Nat} {x : EntV} (hx : J[i]? = some x) : atNo (J.take (i + 1)) d m = if x.dev = d ∧ x.no = (m : Int) then atNo (J.take i) d m ++ [x] else atNo (J.take i) d m := by
  rw [List.take_add_one, hx, Option.toList_some]
  unfold atNo
  rw [List.filter_append]
  by_cases h : x.dev = d ∧ x.no = (m : Int)
  · rw [if_pos h, show ([x] : List EntV).filter (fun x => decide (x.dev = d) && decide (x.no = (m : Int))) = [x] by simp [h.1, h.2]]
  · rw [if_neg h]
    have : (decide (x.dev = d) && decide (x.no = (m : Int))) = false := by
      rw [Bool.and_eq_false_iff, decide_eq_false_iff_not, decide_eq_false_iff_not]
      by_cases h1 : x.dev = d
      · exact .inr fun h2 => h ⟨h1, h2⟩
      · exact .inl h1
    simp [this]
theorem NextI.no {J : List EntV} {d : Int} {m i q : Nat} {O L : List EntV} {x : EntV} (h : NextI J d m i q O L) (hx : J[i]? = some x) (hn : ¬ (x.dev = d ∧ x.no = (m : Int))) : NextI J d m (i + 1) q O L := by
  have e := atNo_take (d := d) (m := m) hx
  rw [if_neg hn] at e
  exact ⟨by rw [e]; exact h.len, h.nil, fun pre y hy => h.last pre y (by rw [← e]; exact hy)⟩
theorem NextI.yes {J : List EntV} {d : Int} {m i q : Nat} {O L : List EntV} {x : EntV} (h : NextI J d m i q O L) (hx : J[i]? = some x) (hn : x.dev = d ∧ x.no = (m : Int)) : NextI J d m (i + 1) (q + 1) O (O ++ [x]) := by
  have e := atNo_take (d := d) (m := m) hx
  rw [if_pos hn] at e
  refine ⟨by rw [e, List.length_append, h.len]; rfl, fun hq => by omega, fun pre y hy => ?_⟩
  rw [e] at hy
  have := List.append_inj_right' hy rfl
  rw [this]
theorem NextI.one {J : List EntV} {d : Int} {m q : Nat} {O L : List EntV} (h : NextI J d m J.length q O L) (hq : q = 1) : ∃ x, atNo J d m = [x] ∧ L = O ++ [x] := by
  have hl := h.len
  have hs := h.last
  rw [List.take_length, hq] at hl
  rw [List.take_length] at hs
  match ha : atNo J d m, hl with
  | [x], _ => exact ⟨x, rfl, hs [] x ha⟩
theorem past_stop {J O : List EntV} {d : Int} {k : Nat} {L : List EntV} {q : Nat} (h : NextI J d O.length J.length q O L) (hq : q ≠ 1 ∨ checkF L ≠ 0) : refPastGo J d (k + 1) O = O := by
  have hl := h.len
  have hs := h.last
  rw [List.take_length] at hl hs
  simp only [refPastGo]
  match ha : atNo J d O.length with
  | [] => rfl
  | x :: y :: r => rfl
  | [x] =>
    rw [ha] at hl
    have hL := hs [] x ha
    simp only [List.length_singleton] at hl
    show (if checkF (O ++ [x]) = 0 then refPastGo J d k (O ++ [x]) else O) = O
    rw [if_neg]
    intro hc
    rcases hq with h1 | h1
    · exact h1 hl.symm
    · exact h1 (by rw [hL]; exact hc)
theorem past_go {J O : List EntV} {d : Int} {k : Nat} {L : List EntV} (h : NextI J d O.length J.length 1 O L) (hc : checkF L = 0) : refPastGo J d (k + 1) O = refPastGo J d k L ∧ L.length = O.length + 1 := by
  obtain ⟨x, ha, hL⟩ := h.one rfl
  simp only [refPastGo]
  rw [ha]
  simp only
  rw [← hL, if_pos hc]
  exact ⟨rfl, by rw [hL]; simp⟩
set_option maxRecDepth 100000 in
set_option maxHeartbeats 8000000 in
theorem RPast_any (w : World) (A : Option Addr) (n c : Nat) (l : List EntC) (hs : ChAt w A n l) (hn : n ≤ 400) (d : Int) :
    Calls Tryz.prog 13 #[.slice A n c, .int .i64 d] w (GivesP w l (pastF (joinF (vsOf l)) d)) := by
  obtain ⟨ie, he0, he1, he2, he3⟩ := info_parts infoEnt
  have HJ := Lib.hid (RJoin_any w A none n 0 c 0 l [] hs (chAt_nil w) hn (by omega))
  have HLL : Hid (l.length = n) := Lib.hid (by simpa using hs.sl.1)
  clear hs
  go_enter Tryz.func13, Tryz.ntmps13
  go_wp2_with (fail)
  ((with_reducible refine HJ.out.mono ?_); rintro e w1 ⟨A1, c1, l1, N, rfl, h1, hv1, hb1, hsrc⟩)
  have e0 : vsOf l ++ vsOf [] = vsOf l := by simp [vsOf]
  rw [e0] at hv1
  obtain ⟨J, hJ⟩ : ∃ J, joinF (vsOf l) = J := ⟨_, rfl⟩
  rw [hJ] at hv1 ⊢
  have hjl : J.length = N := by rw [← hv1, vsOf_len, h1.lenEq]
  have hN : N ≤ 400 := by rw [← hjl, ← hJ]; exact Nat.le_trans (joinF_len _) (by rw [vsOf_len, HLL.out]; exact hn)
  have hown : (ownF J d).length ≤ J.length := by unfold ownF; exact List.length_filter_le ..
  have hst : refPastGo J d 402 [] = pastF J d := by
    have := refPast_is (l := J) (by rw [← hJ]; exact joinF_asc _) (by rw [← hJ]; exact joinF_right _) d (k := 402) (m := 0) (Nat.zero_le _) (by have := pastN_le (ownF J d); omega)
    rwa [List.take_zero] at this
  have HSRC : Hid (∀ u ∈ l1, u ∈ l) := Lib.hid fun u hu => (hsrc u hu).elim id fun h => by simp at h
  clear hsrc
  have HST := Lib.hid hst
  have HJE := Lib.hid hJ
  have HJL := Lib.hid hjl
  have HCH := Lib.hid h1
  have HV1 := Lib.hid hv1
  have HB1 := Lib.hid hb1
  have HLN := Lib.hid h1.lenEq
  clear h1 hb1 HJ hJ hjl hst hv1 e0 hown
  go_wp2_with (fail)
  go_loopw [5] (fun ov wr => ∃ (m : Nat) (Ao : Option Addr) (co : Nat) (os : List EntC), ov = .slice Ao m co ∧ ChAt wr Ao m os ∧ checkF (vsOf os) = 0 ∧ refPastGo J d (402 - m) (vsOf os) = pastF J d ∧ Below w1.heap.size w1 wr ∧ FreshOf w1 l1 Ao os) (fun ov _ => 402 - sliceLen ov)
  case atStart => exact ⟨0, none, 0, [], rfl, chAt_nil _, check_nil, HST.out, Below.refl _ _, fun u hu => by simp at hu, fun ad h => by cases h⟩
  case round =>
    obtain ⟨m, Ao, co, os, rfl, hch, hck, hgo, hb, hff⟩ := hrel
    obtain ⟨wo, rfl⟩ : ∃ wo : World, wo = wr := ⟨_, rfl⟩
    have hlo : (vsOf os).length = m := by rw [vsOf_len, hch.lenEq]
    have hm : m ≤ 400 := by have := (checkF_zero.1 hck).1; omega
    have HCO := Lib.hid hch
    have HGO := Lib.hid hgo
    have HLO := Lib.hid hlo
    have HB := Lib.hid hb
    have HFF := Lib.hid hff
    clear hch hck hgo hb HST hlo hff
    go_wp2_with (fail)
    go_loopw [7, 8, 9] (fun nv xv iv wr => ∃ (q mx i : Nat) (Ax : Option Addr) (cx : Nat) (ls : List EntC), nv = .int .i64 (q : Int) ∧ xv = .slice Ax mx cx ∧ iv = .int .i64 (i : Int) ∧ i ≤ N ∧ q ≤ i ∧ ChAt wr Ax mx ls ∧ Below wo.heap.size wo wr ∧ NextI J d m i q (vsOf os) (vsOf ls) ∧ FreshOf w1 l1 Ax ls) (fun _ _ iv _ => N - (intOf iv).toNat)
    case atStart => exact ⟨0, m, 0, Ao, co, os, rfl, rfl, rfl, Nat.zero_le _, Nat.le_refl _, HCO.out, Below.refl _ _, nextI_start _ _ _ _, HFF.out⟩
    case round =>
      obtain ⟨q, mx, i, Ax, cx, ls, rfl, rfl, rfl, hi, hqi, hch, hb, hne, hfx⟩ := hrel
      obtain ⟨wi, rfl⟩ : ∃ wi : World, wi = wr := ⟨_, rfl⟩
      have HCX := Lib.hid hch
      have HBI := Lib.hid hb
      have HNE := Lib.hid hne
      have HFX := Lib.hid hfx
      have HBW := Lib.hid (HB.out.trans (hb.mono HB.out.size))
      clear hch hb hne hfx
      by_cases hlt : i < N
      · obtain ⟨x, hx⟩ : ∃ v, l1[i]? = some v := ⟨_, List.getElem?_eq_getElem (by rw [HLN.out]; exact hlt)⟩
        have hxv : J[i]? = some x.v := by rw [← HV1.out]; exact vsOf_at hx
        obtain ⟨b, o, rfl, hbl, d0, d1, d2, d3, d4⟩ := ent_at (HCH.out.below HBW.out).sl hx
        have hii : (i : Int) < (N : Int) := by omega
        have hi0 : (0 : Int) ≤ (i : Int) := by omega
        have hwi : IntKind.i64.wrap ((i : Int) + 1) = (i : Int) + 1 := IntWalk.i64_in _ (by omega)
        have hwq : IntKind.i64.wrap ((q : Int) + 1) = (q : Int) + 1 := IntWalk.i64_in _ (by omega)
        have HX := Lib.hid hx
        have HXV := Lib.hid hxv
        have HLT := Lib.hid hlt
        clear hx hxv hlt hi
        by_cases hd : x.v.dev = d
        · by_cases hno : x.v.no = (m : Int)
          · have hdb : (x.v.dev == d) = true := by simp [hd]
            have hnb : (x.v.no == (m : Int)) = true := by simp [hno]
            have HYE := Lib.hid (HNE.out.yes HXV.out ⟨hd, hno⟩)
            have HAL := Lib.hid (HCH.out.below HBW.out)
            have HCI := Lib.hid (HCO.out.below HBI.out)
            have HXA := Lib.hid (HAL.out.at_ x (List.mem_of_getElem? HX.out))
            have HXL := Lib.hid (HAL.out.len x (List.mem_of_getElem? HX.out))
            clear hd hno
            go_upto_region 10 with (fail)
            clear hdb hnb
            go_region_law (first
              | (refine step_append_sl _ (by rfl) (.tmp 38) (.tmp 39) _ (by rfl) wi.heap.size 37 ie _ 5 64 Tryz.underlying22 he0 he1 he2 he3 rfl (by omega) (.slice (some ⟨_, 0, none⟩) 0 0) 0 [] (by rfl) (by first | exact Own.empty (by simp) (by first | exact Nat.le_refl _ | simp) | exact (Own.empty (by simp) (by first | exact Nat.le_refl _ | simp)).alloc _) Ao m co (os.map EntC.cells) (by rfl) (by first | exact Sl.alloc (Sl.drew HCI.out.sl) _ | exact Sl.alloc (Sl.alloc (Sl.drew HCI.out.sl) _) _) (ents_len _) (ents_one _) (by simp only [maxLen]; omega) (by omega) (by simp <;> omega) ?_
                 intro A1' c1' wA hown1 hg1 hat1
                 rw [Nat.zero_add, List.nil_append] at hown1
                 have hbA : Below wi.heap.size wi wA := by
                   first
                     | exact (((((Below.refl wi.heap.size wi).alloc (Nat.le_refl _) _).drew).grown hg1 (by simp) (fun k hk => by simp [Value.ownBlock] at hk; omega)))
                     | exact ((((((Below.refl wi.heap.size wi).alloc (Nat.le_refl _) _).alloc (by simp) _).drew).grown hg1 (by simp; omega) (fun k hk => by simp [Value.ownBlock] at hk; omega)))
                 obtain ⟨e0, e1, e2, e3, e4⟩ := (ent_is HAL.out.sl HX.out rfl hbA).2)
              | (refine step_append_sl _ (by rfl) (.tmp 40) (.tmp 45) _ (by rfl) wi.heap.size 37 ie _ 5 64 Tryz.underlying22 he0 he1 he2 he3 rfl (by omega) (.slice A1' m c1') m (os.map EntC.cells) (by rfl) (by first | exact hown1 | exact hown1.alloc _) _ 1 _ [[.int .i64 x.v.dev, .int .i64 x.v.no, .int .i64 x.v.day, .slice x.A x.v.seen.length x.c, .string ⟨x.v.text.toArray⟩]] (by rfl) (by first | exact Sl.new_ _ _ _ | exact Sl.grown (by first | exact Sl.drew (Sl.alloc (Sl.new_ wi _ [.int .i64 x.v.dev, .int .i64 x.v.no, .int .i64 x.v.day, .slice x.A x.v.seen.length x.c, .string ⟨x.v.text.toArray⟩]) _) | (have h := Sl.drew (Sl.new_ (wi.alloc (.cells #[] 37)) 37 [.int .i64 x.v.dev, .int .i64 x.v.no, .int .i64 x.v.day, .slice x.A x.v.seen.length x.c, .string ⟨x.v.text.toArray⟩]); simp only [World.size_alloc] at h; exact h)) hg1 (.inr (fun ad e => by injection e with e; subst e; simp [Value.ownBlock]))) (by simp) (by simp [Value.oneCell']) (by simp only [maxLen]; omega) (by omega) (by first | exact hbA.size | exact Nat.le_trans hbA.size (by simp)) ?_
                 intro A2 c2 wB hown2 hg2 hat2
                 have hbB : Below wi.heap.size wi wB := by
                   first
                     | exact hown1.below_grown (Nat.le_refl _) hbA.size hbA hg2
                     | exact (hown1.alloc _).below_grown (Nat.le_refl _) (by have := hbA.size; simp; omega) (hbA.alloc hbA.size _) hg2))
            all_goals
              have HC3 := Lib.hid (HCI.out.snoc (x := x) HXA.out HXL.out (by simp only [EntC.cells]; exact hown2) hbB)
              have HB3 := Lib.hid (HBI.out.trans (hbB.mono HBI.out.size))
              have HFN : Hid (FreshOf w1 l1 A2 (os ++ [x])) := Lib.hid ⟨fun u hu => by
                rcases List.mem_append.1 hu with h | h
                · exact HFF.out.1 u h
                · rw [List.mem_singleton.1 h]; exact List.mem_of_getElem? HX.out, fun ad he => Nat.le_trans HBW.out.size (hown2.lt ad.block (by rw [he]; rfl)).1⟩
              clear hown2 hg2 hat2 hown1 hg1 hat1 hbA hbB
              go_wp2_with (fail)
              go_roundw
              case rel => exact ⟨q + 1, m + 1, i + 1, _, _, os ++ [x], by go_num, rfl, by go_num, HLT.out, by omega, HC3.out, HB3.out, by rw [show vsOf (os ++ [x]) = vsOf os ++ [x.v] by simp [vsOf]]; exact HYE.out, HFN.out⟩
              case measure => have := HLT.out; simp [intOf]; omega
          · have hdb : (x.v.dev == d) = true := by simp [hd]
            have hnb : (x.v.no == (m : Int)) = false := beq_eq_false_iff_ne.2 hno
            have HNN := Lib.hid (HNE.out.no HXV.out fun h => hno h.2)
            clear hd hno
            go_wp2_with (fail)
            go_roundw
            case rel => exact ⟨q, mx, i + 1, Ax, cx, ls, rfl, rfl, by go_num, HLT.out, by omega, HCX.out, HBI.out, HNN.out, HFX.out⟩
            case measure => have := HLT.out; simp [intOf]; omega
        · have hdb : (x.v.dev == d) = false := beq_eq_false_iff_ne.2 hd
          have HNN := Lib.hid (HNE.out.no HXV.out fun h => hd h.1)
          clear hd
          go_wp2_with (fail)
          go_roundw
          case rel => exact ⟨q, mx, i + 1, Ax, cx, ls, rfl, rfl, by go_num, HLT.out, by omega, HCX.out, HBI.out, HNN.out, HFX.out⟩
          case measure => have := HLT.out; simp [intOf]; omega
      · obtain rfl : i = N := by omega
        have hii : ¬ ((i : Int) < (i : Int)) := by omega
        have hne2 : NextI J d (vsOf os).length J.length q (vsOf os) (vsOf ls) := by rw [HLO.out, HJL.out]; exact HNE.out
        have HN2 := Lib.hid hne2
        have HRET : Hid (∀ W, Below wi.heap.size wi W → refPastGo J d (402 - m) (vsOf os) = vsOf os → ChAt W Ao m os ∧ vsOf os = pastF J d ∧ Below w.heap.size w W) := Lib.hid fun W hb hst => ⟨(HCO.out.below HBI.out).below hb, by rw [← hst, HGO.out], (HB1.out.trans (HBW.out.mono HB1.out.size)).trans (hb.mono (Nat.le_trans HB1.out.size HBW.out.size))⟩
        have HKM : Hid (402 - m = (401 - m) + 1) := Lib.hid (by omega)
        clear hne2 hlt hi HNE
        by_cases hq : q = 1
        · subst hq
          obtain ⟨r, hr⟩ : ∃ r, checkF (vsOf ls) = r := ⟨_, rfl⟩
          have HCK := Lib.hid (RCheck_any wi Ax mx cx ls HCX.out r hr)
          have HR := Lib.hid hr
          clear hr
          by_cases hr0 : r = 0
          · subst hr0
            go_wp2_with (fail)
            ((with_reducible refine HCK.out.mono ?_); rintro _ w4 ⟨rfl, hb4⟩)
            obtain ⟨hg1, hg2⟩ := past_go (k := 401 - m) HN2.out HR.out
            have hmx : mx = m + 1 := by
              have h1 := HCX.out.lenEq
              rw [vsOf_len, h1, HLO.out] at hg2
              exact hg2
            subst hmx
            have HG1 := Lib.hid hg1
            have HC4 := Lib.hid (HCX.out.below hb4)
            have HB4 := Lib.hid (HBW.out.trans (hb4.mono HBW.out.size))
            clear hb4 hg1 hg2 HCK
            go_wp2_with (fail)
            go_roundw
            case rel => exact ⟨m + 1, Ax, cx, ls, rfl, HC4.out, HR.out, by
              rw [show 402 - (m + 1) = 401 - m by omega, ← HG1.out, ← HKM.out]
              exact HGO.out, HB4.out, HFX.out⟩
            case measure => simp [sliceLen]; omega
          · have hrb : (r == 0) = false := beq_eq_false_iff_ne.2 hr0
            have hrn : (r != 0) = true := by rw [bne_iff_ne]; exact hr0
            have HR0 := Lib.hid hr0
            go_wp2_with (fail)
            ((with_reducible refine HCK.out.mono ?_); rintro _ w4 ⟨rfl, hb4⟩)
            have HB4 := Lib.hid hb4
            clear hb4 HCK
            go_wp2_with (fail)
            go_ret
            obtain ⟨r1, r2, r3⟩ := HRET.out _ HB4.out (by rw [HKM.out]; exact past_stop HN2.out (.inr (by rw [HR.out]; exact HR0.out)))
            exact ⟨Ao, co, os, m, rfl, r1, by rw [HJE.out]; exact r2, r3, fun u hu => HSRC.out u (HFF.out.1 u hu), fun ad he => Nat.le_trans HB1.out.size (HFF.out.2 ad he)⟩
        · have hqb : ((q : Int) == 1) = false := beq_eq_false_iff_ne.2 (by omega)
          have hqn : ((q : Int) != 1) = true := by rw [bne_iff_ne]; omega
          have hqi2 : ¬ ((q : Int) = 1) := by omega
          have HQ := Lib.hid hq
          clear hq
          go_wp2_with (fail)
          go_ret
          obtain ⟨r1, r2, r3⟩ := HRET.out _ (Below.refl _ _) (by rw [HKM.out]; exact past_stop HN2.out (.inl HQ.out))
          exact ⟨Ao, co, os, m, rfl, r1, by rw [HJE.out]; exact r2, r3, fun u hu => HSRC.out u (HFF.out.1 u hu), fun ad he => Nat.le_trans HB1.out.size (HFF.out.2 ad he)⟩
end Go.Proofs.YtnnnibkainlplaaGreatDoor
