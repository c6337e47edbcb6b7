/- merge: the reference's put, walked. -/
import Derived.Test.YtnnnibkainlplaaGreatDoorMtA
import Derived.Test.YtnnnibkainlplaaGreatDoorMrgE
namespace Go.Proofs.YtnnnibkainlplaaGreatDoor
open Go.RowKit Go.Sort Go.Lib

/-- what hands a list of entries back that it made of others -/
def GivesR (w : World) (src : EntC → Prop) (v : List EntV) (e : Ending) (w' : World) : Prop := ∃ A c l m, e = .returned (.slice A m c) ∧ ChAt w' A m l ∧ vsOf l = v ∧ Below w.heap.size w w' ∧ ∀ u ∈ l, src u
/-- of such entries the list out is made -/
def FromP (l : List EntC) (x : EntC) (os : List EntC) : Prop := ∀ u ∈ os, u ∈ l ∨ u = x
def PutIs (l : List EntC) (x : EntC) (k : Nat) (done : Bool) (os : List EntC) : Prop := PutI (vsOf l) x.v k done (vsOf os)
set_option maxRecDepth 100000 in
set_option maxHeartbeats 8000000 in
theorem put_any (w : World) (A : Option Addr) (n c : Nat) (l : List EntC) (hs : ChAt w A n l) (hn : n ≤ 1000) (ha : Asc (vsOf l)) (har : AllR (vsOf l)) (x : EntC) (hx : EntAt w x) (hxl : x.v.seen.length ≤ 1099511627776 ∧ x.v.text.length ≤ 140737488351232) :
    Calls Tryz.prog 28 #[.slice A n c, .agg x.cells.toArray] w (GivesR w (fun u => u ∈ l ∨ u = x) (putR (vsOf l) x.v)) := by
  obtain ⟨ie, he0, he1, he2, he3⟩ := info_parts infoEnt
  have HCH := Lib.hid hs
  have HLL : Hid (l.length = n) := Lib.hid (by simpa using hs.sl.1)
  have HASC := Lib.hid ha
  have HAR := Lib.hid har
  have HX := Lib.hid hx
  have HXL := Lib.hid hxl
  have HS0 := Lib.hid (((Sep.start w).box (EntC.cells x).toArray 37).ownNil 37 5)
  obtain ⟨rb, hrb⟩ : ∃ rb, rightB x.v = rb := ⟨_, rfl⟩
  have HRB := Lib.hid hrb
  have HRR := Lib.hid (fun W (hb : Below w.heap.size w W) => RRight_any W x (hx.below hb) rb hrb)
  simp only [EntC.cells] at HS0 HRR ⊢
  clear hs ha har hx hxl hrb
  go_enter Tryz.func28, Tryz.ntmps28
  obtain ⟨zX, kX, fX⟩ := HS0.out.sw.loc
  go_wp2_with (fail)
  ((with_reducible refine (HRR.out _ HS0.out.base).mono ?_); rintro _ w1 ⟨rfl, hb1⟩)
  have HS1 := Lib.hid (HS0.out.below hb1)
  clear hb1 HS0 HRR zX kX fX
  cases rb
  · go_wp2_with (fail)
    go_ret
    have e : putR (vsOf l) x.v = vsOf l := by unfold putR; rw [HRB.out, if_neg (by simp)]
    exact ⟨A, c, l, n, rfl, HCH.out.below HS1.out.base, e.symm, HS1.out.base, fun u hu => .inl hu⟩
  have HPE : Hid (putR (vsOf l) x.v = putE x.v (vsOf l)) := Lib.hid (by unfold putR; rw [HRB.out, if_pos rfl])
  have HXR := Lib.hid (rightB_true.1 HRB.out)
  clear HRB
  generalize hg : w.heap.size = gX at HS1
  have HG := Lib.hid hg
  clear hg
  go_wp2_with (fail)
  go_loopw [5, 6, 7] (fun ov dv iv wr => ∃ (k m : Nat) (Ao : Option Addr) (co : Nat) (os : List EntC) (done : Bool), ov = .slice Ao m co ∧ dv = .bool done ∧ iv = .int .i64 (k : Int) ∧ k ≤ n ∧ m ≤ k + done.toNat ∧ Sep w wr (ownR 37 5 (.slice Ao m co) m (os.map EntC.cells) :: boxR gX #[.int .i64 x.v.dev, .int .i64 x.v.no, .int .i64 x.v.day, .slice x.A x.v.seen.length x.c, .string ⟨x.v.text.toArray⟩] :: []) ∧ FromP l x os ∧ PutIs l x k done os) (fun _ _ iv _ => n - (intOf iv).toNat)
  case atStart => exact ⟨0, 0, none, 0, [], false, rfl, rfl, rfl, Nat.zero_le _, Nat.zero_le _, HS1.out, fun u hu => by simp at hu, putI_start _ _⟩
  case round =>
    obtain ⟨k, m, Ao, co, os, done, rfl, rfl, rfl, hk, hmk, hS, hfr, hpu⟩ := hrel
    obtain ⟨wo, rfl⟩ : ∃ wo : World, wo = wr := ⟨_, rfl⟩
    have HSO := Lib.hid hS
    have HFR := Lib.hid hfr
    have HPU := Lib.hid hpu
    have HMK := Lib.hid hmk
    clear hS hfr hpu HS1
    by_cases hlt : k < n
    · obtain ⟨y, hy⟩ : ∃ x, l[k]? = some x := ⟨_, List.getElem?_eq_getElem (by rw [HLL.out]; exact hlt)⟩
      have C1 := HCH.out.below HSO.out.base
      obtain ⟨b, o, rfl, _⟩ := ent_at C1.sl hy
      obtain ⟨q, hq⟩ : ∃ q, sameB y.v x.v = q := ⟨_, rfl⟩
      have IY := C1.at_ y (List.mem_of_getElem? hy)
      have IX := Sl.below HX.out HSO.out.base
      have LY := C1.len y (List.mem_of_getElem? hy)
      have HC := Lib.hid (fun W (hb : Below wo.heap.size wo W) => RSame_any W y x (IY.below hb) (Sl.below IX hb) LY.1 q hq)
      have hyr : RightE y.v := HAR.out y.v (List.mem_map.2 ⟨y, List.mem_of_getElem? hy, rfl⟩)
      obtain ⟨r, hr⟩ : ∃ r : Bool, r = true ↔ ltE x.v y.v := by
        by_cases h : ltE x.v y.v
        · exact ⟨true, fun _ => h, fun _ => rfl⟩
        · exact ⟨false, fun e => Bool.noConfusion e, fun e => absurd e h⟩
      have HBF := Lib.hid (fun W (hb : Below wo.heap.size wo W) => before_any W x y (Sl.below IX hb) (IY.below hb) HXR.out hyr r hr)
      have LW := HSO.out.sw.loc
      have hS : ∀ w', Below wo.heap.size wo w' → _ := fun w' hb => And.intro (ent_is C1.sl hy rfl hb).2 (And.intro ((LW.below hb).cell 0) (And.intro ((LW.below hb).cell 1) (And.intro ((LW.below hb).cell 2) (And.intro ((LW.below hb).cell 3) (And.intro ((LW.below hb).cell 4) hb)))))
      simp only [and_assoc] at hS
      have HSS := Lib.hid hS
      simp only [EntC.cells] at HC HBF
      have hki : (k : Int) < (n : Int) := by omega
      have hk0 : (0 : Int) ≤ (k : Int) := by omega
      have hwk : IntKind.i64.wrap ((k : Int) + 1) = (k : Int) + 1 := IntWalk.i64_in _ (by omega)
      have HY := Lib.hid hy
      have HYV := Lib.hid (vsOf_at hy)
      have HQ := Lib.hid hq
      have HR := Lib.hid hr
      have HLT := Lib.hid hlt
      clear hS hy hq C1 IX IY LY hlt hk LW hyr hr
      go_upto_region 8 with (fail)
      have hB7 := Below.refl wo.heap.size wo
      go_region_held3 (fun w' => w'.cell? ⟨b, o + k * 5, none⟩ = some (.int .i64 y.v.dev) ∧ w'.cell? ⟨b, o + k * 5 + 1, none⟩ = some (.int .i64 y.v.no) ∧ w'.cell? ⟨b, o + k * 5 + 2, none⟩ = some (.int .i64 y.v.day) ∧ w'.cell? ⟨b, o + k * 5 + 3, none⟩ = some (.slice y.A y.v.seen.length y.c) ∧ w'.cell? ⟨b, o + k * 5 + 4, none⟩ = some (.string ⟨y.v.text.toArray⟩) ∧ w'.cell? ⟨gX, 0, none⟩ = some (.int .i64 x.v.dev) ∧ w'.cell? ⟨gX, 0 + 1, none⟩ = some (.int .i64 x.v.no) ∧ w'.cell? ⟨gX, 0 + 2, none⟩ = some (.int .i64 x.v.day) ∧ w'.cell? ⟨gX, 0 + 3, none⟩ = some (.slice x.A x.v.seen.length x.c) ∧ w'.cell? ⟨gX, 0 + 4, none⟩ = some (.string ⟨x.v.text.toArray⟩) ∧ Below wo.heap.size wo w')
        (first | exact HSS.out _ hB7 | (refine HSS.out _ ?_; repeat (first | exact hB7 | exact Below.refl _ _ | refine Below.drew ?_ | refine Below.alloc ?_ (by first | exact Nat.le_refl _ | exact hB7.size | (simp <;> omega)) _ | refine Below.setCell ?_ (by first | exact Nat.le_refl _ | exact hB7.size | (simp <;> omega)) _)))
        (((with_reducible refine (HC.out _ ?hs1).mono ?_)
          (case hs1 => go_split_ands; assumption)
          rintro e w3 ⟨rfl, hbF⟩
          have hB7 : Below wo.heap.size wo w3 := by go_split_ands; exact Below.trans (by assumption) (hbF.mono (Below.size (by assumption)))))
      have HB7 := Lib.hid hB7
      have HS3 := Lib.hid (HSO.out.below hB7)
      clear hB7 hbF HC
      cases q
      case true =>
        have he := sameB_true.1 HQ.out
        have hE := putI_same HPU.out HYV.out he
        have HEE := Lib.hid hE
        clear he hE
        go_wp2_with (fail)
        go_ret
        exact ⟨_, c, l, n, rfl, HCH.out.below HS3.out.base, by rw [HPE.out, HEE.out], HS3.out.base, fun u hu => .inl hu⟩
      have hne : ¬ (y.v = x.v) := fun h => by have e := HQ.out; rw [h, sameB_true.2 rfl] at e; cases e
      have HNE := Lib.hid hne
      clear hne
      have hm2 : m ≤ 1001 := by have := HMK.out; have := HLT.out; cases done <;> simp only [Bool.toNat_true, Bool.toNat_false] at * <;> omega
      cases done
      case true =>
        go_upto_region 10 with (fail)
        go_quiet (fail)
        generalize hWW : w3.drewN nq = w4 at *
        have HS4 : Hid (Sep w w4 _) := Lib.hid (by rw [← hWW]; exact HS3.out.drewN nq)
        clear hWW
        obtain ⟨b5, o5, eb, hbl, d0, d1, d2, d3, d4⟩ := ent_at (HCH.out.below HS4.out.base).sl HY.out
        injection eb with eb
        injection eb with eb1 eb2
        subst eb1 eb2
        have HAL9 := Lib.hid (HS4.out.alloc (.cells #[.int .i64 y.v.dev, .int .i64 y.v.no, .int .i64 y.v.day, .slice y.A y.v.seen.length y.c, .string ⟨y.v.text.toArray⟩] 37))
        have HN9 := Lib.hid (Sl.new_ w4 37 (EntC.cells y))
        simp only [EntC.cells] at HN9
        go_wp2_with (at_builtin; (refine wpList_append_sl _ rfl (.tmp 39) (.tmp 44) _ rfl w.heap.size 37 ie _ 5 64 Tryz.underlying22 he0 he1 he2 he3 rfl (by omega) _ (m) (os.map EntC.cells) rfl HAL9.out.own (some ⟨w4.heap.size, 0, none⟩) 1 1 ([y].map EntC.cells) rfl HN9.out (ents_len _) (ents_one _) (by simp only [maxLen]; omega) (by omega) HAL9.out.base.size ?_); intro A9 c9 w9 hown hg hat
                     have HS9 := Lib.hid (HAL9.out.grown hown hg hat)
                     clear hown hg hat)
        go_roundw
        case rel => exact ⟨k + 1, m + 1, A9, c9, os ++ [y], true, rfl, rfl, by go_num, HLT.out, by have := HMK.out; simp only [Bool.toNat_true, Bool.toNat_false] at this ⊢; omega, by have := HS9.out; simpa using this, fun u hu => by
          simp only [List.mem_append, List.mem_singleton] at hu
          rcases hu with hu | hu
          · exact HFR.out u hu
          · rw [hu]; exact .inl (List.mem_of_getElem? HY.out), by have := putI_done HPU.out HYV.out; unfold PutIs; simpa [vsOf] using this⟩
        case measure => have := HLT.out; simp [intOf]; omega
      have hmf : m ≤ k := by have := HMK.out; simp only [Bool.toNat_false] at this; omega
      have hkl : k ≤ 1000 := by have := HLT.out; omega
      go_upto_region 10 with (fail)
      have hB8 := Below.refl wo.heap.size wo
      replace hB8 := hB8.trans HB7.out
      go_region_held3 (fun w' => w'.cell? ⟨b, o + k * 5, none⟩ = some (.int .i64 y.v.dev) ∧ w'.cell? ⟨b, o + k * 5 + 1, none⟩ = some (.int .i64 y.v.no) ∧ w'.cell? ⟨b, o + k * 5 + 2, none⟩ = some (.int .i64 y.v.day) ∧ w'.cell? ⟨b, o + k * 5 + 3, none⟩ = some (.slice y.A y.v.seen.length y.c) ∧ w'.cell? ⟨b, o + k * 5 + 4, none⟩ = some (.string ⟨y.v.text.toArray⟩) ∧ w'.cell? ⟨gX, 0, none⟩ = some (.int .i64 x.v.dev) ∧ w'.cell? ⟨gX, 0 + 1, none⟩ = some (.int .i64 x.v.no) ∧ w'.cell? ⟨gX, 0 + 2, none⟩ = some (.int .i64 x.v.day) ∧ w'.cell? ⟨gX, 0 + 3, none⟩ = some (.slice x.A x.v.seen.length x.c) ∧ w'.cell? ⟨gX, 0 + 4, none⟩ = some (.string ⟨x.v.text.toArray⟩) ∧ Below wo.heap.size wo w')
        (first | exact HSS.out _ hB8 | (refine HSS.out _ ?_; repeat (first | exact hB8 | exact Below.refl _ _ | refine Below.drew ?_ | refine Below.alloc ?_ (by first | exact Nat.le_refl _ | exact hB8.size | (simp <;> omega)) _ | refine Below.setCell ?_ (by first | exact Nat.le_refl _ | exact hB8.size | (simp <;> omega)) _)))
        (((with_reducible refine (HBF.out _ ?hs1).mono ?_)
          (case hs1 => go_split_ands; assumption)
          rintro e w4 ⟨rfl, hbF⟩
          have hB8 : Below wo.heap.size wo w4 := by go_split_ands; exact Below.trans (by assumption) (hbF.mono (Below.size (by assumption)))))
      have HS4 := Lib.hid (HSO.out.below hB8)
      clear hB8 hbF
      cases r
      case false =>
        obtain ⟨b5, o5, eb, hbl, d0, d1, d2, d3, d4⟩ := ent_at (HCH.out.below HS4.out.base).sl HY.out
        injection eb with eb
        injection eb with eb1 eb2
        subst eb1 eb2
        have HAL9 := Lib.hid (HS4.out.alloc (.cells #[.int .i64 y.v.dev, .int .i64 y.v.no, .int .i64 y.v.day, .slice y.A y.v.seen.length y.c, .string ⟨y.v.text.toArray⟩] 37))
        have HN9 := Lib.hid (Sl.new_ w4 37 (EntC.cells y))
        simp only [EntC.cells] at HN9
        go_wp2_with (at_builtin; (refine wpList_append_sl _ rfl (.tmp 39) (.tmp 44) _ rfl w.heap.size 37 ie _ 5 64 Tryz.underlying22 he0 he1 he2 he3 rfl (by omega) _ (m) (os.map EntC.cells) rfl HAL9.out.own (some ⟨w4.heap.size, 0, none⟩) 1 1 ([y].map EntC.cells) rfl HN9.out (ents_len _) (ents_one _) (by simp only [maxLen]; omega) (by omega) HAL9.out.base.size ?_); intro A9 c9 w9 hown hg hat
                     have HS9 := Lib.hid (HAL9.out.grown hown hg hat)
                     clear hown hg hat)
        have hnl : ¬ ltE x.v y.v := fun h => by have := HR.out.2 h; cases this
        have HNL := Lib.hid hnl
        go_roundw
        case rel => exact ⟨k + 1, m + 1, A9, c9, os ++ [y], false, rfl, rfl, by go_num, HLT.out, by have := HMK.out; simp only [Bool.toNat_true, Bool.toNat_false] at this ⊢; omega, by have := HS9.out; simpa using this, fun u hu => by
          simp only [List.mem_append, List.mem_singleton] at hu
          rcases hu with hu | hu
          · exact HFR.out u hu
          · rw [hu]; exact .inl (List.mem_of_getElem? HY.out), by have := putI_past HPU.out HYV.out HNE.out HNL.out; unfold PutIs; simpa [vsOf] using this⟩
        case measure => have := HLT.out; simp [intOf]; omega
      obtain ⟨zX, kX, fX⟩ := HS4.out.sw.loc
      have HAL7 := Lib.hid (HS4.out.alloc (.cells #[.int .i64 x.v.dev, .int .i64 x.v.no, .int .i64 x.v.day, .slice x.A x.v.seen.length x.c, .string ⟨x.v.text.toArray⟩] 37))
      have HN7 := Lib.hid (Sl.new_ w4 37 (EntC.cells x))
      simp only [EntC.cells] at HN7
      go_upto_region 13 with (at_builtin; (refine wpList_append_sl _ rfl (.tmp 35) (.tmp 37) _ rfl w.heap.size 37 ie _ 5 64 Tryz.underlying22 he0 he1 he2 he3 rfl (by omega) _ (m) (os.map EntC.cells) rfl HAL7.out.own (some ⟨w4.heap.size, 0, none⟩) 1 1 ([x].map EntC.cells) rfl HN7.out (ents_len _) (ents_one _) (by simp only [maxLen]; omega) (by omega) HAL7.out.base.size ?_); intro A7 c7 w7 hown hg hat
                              have HS7 := Lib.hid (HAL7.out.grown hown hg hat)
                              clear hown hg hat)
      clear zX kX fX
      obtain ⟨b5, o5, eb, hbl, d0, d1, d2, d3, d4⟩ := ent_at (HCH.out.below HS7.out.base).sl HY.out
      injection eb with eb
      injection eb with eb1 eb2
      subst eb1 eb2
      have HAL9 := Lib.hid (HS7.out.alloc (.cells #[.int .i64 y.v.dev, .int .i64 y.v.no, .int .i64 y.v.day, .slice y.A y.v.seen.length y.c, .string ⟨y.v.text.toArray⟩] 37))
      have HN9 := Lib.hid (Sl.new_ w7 37 (EntC.cells y))
      simp only [EntC.cells] at HN9
      go_wp2_with (at_builtin; (refine wpList_append_sl _ rfl (.tmp 39) (.tmp 44) _ rfl w.heap.size 37 ie _ 5 64 Tryz.underlying22 he0 he1 he2 he3 rfl (by omega) _ (m + 1) (os.map EntC.cells ++ [x].map EntC.cells) rfl HAL9.out.own (some ⟨w7.heap.size, 0, none⟩) 1 1 ([y].map EntC.cells) rfl HN9.out (ents_len _) (ents_one _) (by simp only [maxLen]; omega) (by omega) HAL9.out.base.size ?_); intro A9 c9 w9 hown hg hat
                   have HS9 := Lib.hid (HAL9.out.grown hown hg hat)
                   clear hown hg hat)
      go_roundw
      case rel => exact ⟨k + 1, m + 1 + 1, A9, c9, os ++ [x] ++ [y], true, rfl, rfl, by go_num, HLT.out, by have := HMK.out; simp only [Bool.toNat_true, Bool.toNat_false] at this ⊢; omega, by have := HS9.out; simpa using this, fun u hu => by
        simp only [List.mem_append, List.mem_singleton] at hu
        rcases hu with (hu | hu) | hu
        · exact HFR.out u hu
        · exact .inr hu
        · rw [hu]; exact .inl (List.mem_of_getElem? HY.out), by have := putI_here HASC.out HPU.out HYV.out HNE.out (HR.out.1 rfl); unfold PutIs; simpa [vsOf] using this⟩
      case measure => have := HLT.out; simp [intOf]; omega
    · obtain rfl : k = n := by omega
      have hki : ¬ ((k : Int) < (k : Int)) := by omega
      have hend : putE x.v (vsOf l) = if done = true then vsOf os else vsOf os ++ [x.v] := putI_end (by have := HPU.out; unfold PutIs at this; rwa [show (vsOf l).length = k by rw [vsOf_len, HLL.out]])
      have HEND := Lib.hid hend
      have HOL : Hid (os.length = m) := Lib.hid (by have := HSO.out.own.2.2; simpa using this)
      have hm2 : m ≤ 1001 := by cases done <;> simp only [Bool.toNat_true, Bool.toNat_false] at hmk <;> omega
      have HAT : ∀ W, Below w.heap.size w W → ∀ u ∈ os ++ [x], EntAt W u ∧ u.v.seen.length ≤ 1099511627776 ∧ u.v.text.length ≤ 140737488351232 := fun W hb u hu => by
        have h1 : u ∈ l ∨ u = x := by
          rcases List.mem_append.1 hu with h | h
          · exact HFR.out u h
          · exact .inr (List.mem_singleton.1 h)
        rcases h1 with h | rfl
        · exact ⟨(HCH.out.at_ u h).below hb, HCH.out.len u h⟩
        · exact ⟨Sl.below HX.out hb, HXL.out⟩
      replace HAT := Lib.hid HAT
      clear hend hlt hk
      cases done
      case true =>
        go_wp2_with (fail)
        go_ret
        have e : putR (vsOf l) x.v = vsOf os := by rw [HPE.out, HEND.out]; simp
        exact ⟨Ao, co, os, m, rfl, ⟨HSO.out.own.sl', fun u hu => (HAT.out wo HSO.out.base u (List.mem_append_left _ hu)).1, fun u hu => (HAT.out wo HSO.out.base u (List.mem_append_left _ hu)).2⟩, e.symm, HSO.out.base, HFR.out⟩
      obtain ⟨zX, kX, fX⟩ := HSO.out.sw.loc
      have HAL7 := Lib.hid (HSO.out.alloc (.cells #[.int .i64 x.v.dev, .int .i64 x.v.no, .int .i64 x.v.day, .slice x.A x.v.seen.length x.c, .string ⟨x.v.text.toArray⟩] 37))
      have HN7 := Lib.hid (Sl.new_ wo 37 (EntC.cells x))
      simp only [EntC.cells] at HN7
      go_wp2_with (at_builtin; (refine wpList_append_sl _ rfl (.tmp 48) (.tmp 50) _ rfl w.heap.size 37 ie _ 5 64 Tryz.underlying22 he0 he1 he2 he3 rfl (by omega) _ (m) (os.map EntC.cells) rfl HAL7.out.own (some ⟨wo.heap.size, 0, none⟩) 1 1 ([x].map EntC.cells) rfl HN7.out (ents_len _) (ents_one _) (by simp only [maxLen]; omega) (by omega) HAL7.out.base.size ?_); intro A7 c7 w7 hown hg hat
                   have HS7 := Lib.hid (HAL7.out.grown hown hg hat)
                   clear hown hg hat)
      go_ret
      have e : putR (vsOf l) x.v = vsOf (os ++ [x]) := by rw [HPE.out, HEND.out]; simp [vsOf]
      exact ⟨A7, c7, os ++ [x], m + 1, rfl, ⟨by rw [List.map_append]; exact HS7.out.own.sl', fun u hu => (HAT.out _ HS7.out.base u hu).1, fun u hu => (HAT.out _ HS7.out.base u hu).2⟩, e.symm, HS7.out.base, fun u hu => by simp only [List.mem_append, List.mem_singleton] at hu; exact hu.elim (HFR.out u) .inr⟩
end Go.Proofs.YtnnnibkainlplaaGreatDoor
