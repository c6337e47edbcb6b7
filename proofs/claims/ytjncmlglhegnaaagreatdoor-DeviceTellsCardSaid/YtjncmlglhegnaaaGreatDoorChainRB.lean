/- chain: the reference's Check, walked. -/
import Derived.Test.YtjncmlglhegnaaaGreatDoorChainRA
import Derived.Test.YtjncmlglhegnaaaGreatDoorChainF
import Derived.Test.YtjncmlglhegnaaaGreatDoorOrdL
import Derived.Deep.RegionHeld3
import Derived.Deep.DeepCutAuto
namespace Go.Proofs.YtjncmlglhegnaaaGreatDoor
open Go.RowKit Go.Sort Go.Lib

set_option maxRecDepth 100000 in
set_option maxHeartbeats 8000000 in
theorem RCheck_any (w : World) (A : Option Addr) (n c : Nat) (l : List EntC) (hs : ChAt w A n l) (r : Int) (hr : checkF (vsOf l) = r) :
    Calls Tryz.prog 71 #[.slice A n c] w fun x w' => x = .returned (.int .i64 r) ∧ Below w.heap.size w w' := by
  have hll : l.length = n := by simpa using hs.sl.1
  have hr2 := hr
  unfold checkF at hr2
  rw [vsOf_len, hll] at hr2
  by_cases hn : 400 < n
  · rw [if_pos hn] at hr2
    have hni : 400 < (n : Int) := by omega
    clear hs hr hn
    have HR := Lib.hid hr2
    clear hr2
    go_enter Tryz.func71, Tryz.ntmps71
    go_wp2_with (fail)
    go_ret
    exact ⟨by rw [← HR.out]; rfl, Below.refl _ _⟩
  rw [if_neg hn] at hr2
  have hni : (n : Int) ≤ 400 := by omega
  have HN := Lib.hid hni
  have HL := Lib.hid hll
  have HS := Lib.hid hs
  have HR := Lib.hid hr2
  clear hll hr hr2 hs hn
  go_enter Tryz.func71, Tryz.ntmps71
  go_wp2_with (fail)
  go_loopw [3] (fun iv wr => ∃ k : Nat, k ≤ n ∧ iv = .int .i64 (k : Int) ∧ Below w.heap.size w wr ∧ FirstOk (vsOf l) k ∧ scanE (errAt (vsOf l)) (n - k) k = r) (fun i _ => n - (Go.RowKit.intOf i).toNat)
  case atStart => exact ⟨0, Nat.zero_le _, rfl, Below.refl _ _, fun j hj => absurd hj (Nat.not_lt_zero _), HR.out⟩
  case round =>
    obtain ⟨k, hk, rfl, hb, hz, hf⟩ := hrel
    obtain ⟨wo, rfl⟩ : ∃ wo : World, wo = wr := ⟨_, rfl⟩
    have HB := Lib.hid hb
    have HZ := Lib.hid hz
    have HF := Lib.hid hf
    clear hb hf hz
    by_cases hlt : k < n
    case neg =>
      obtain rfl : k = n := by omega
      have hki : (k : Int) ≤ (k : Int) := Int.le_refl _
      have hf := HF.out
      rw [Nat.sub_self] at hf
      have HF2 : Hid (0 = r) := Lib.hid hf
      clear hlt hk hf
      go_wp2_with (fail)
      go_ret
      exact ⟨by rw [← HF2.out]; rfl, HB.out⟩
    obtain ⟨x, hx⟩ : ∃ v, l[k]? = some v := ⟨_, List.getElem?_eq_getElem (by rw [HL.out]; exact hlt)⟩
    obtain ⟨e0, h0⟩ : ∃ v, l[0]? = some v := ⟨_, List.getElem?_eq_getElem (by rw [HL.out]; omega)⟩
    have HO := Lib.hid (HS.out.below HB.out)
    obtain ⟨b, o, rfl, hbl, c0, c1, c2, c3, c4⟩ := ent_at HO.out.sl hx
    have hki : (k : Int) < (n : Int) := by omega
    have hk0 : (0 : Int) ≤ (k : Int) := by omega
    have hn0 : 0 < n := by omega
    have HX := Lib.hid hx
    have H0 := Lib.hid h0
    have HLT := Lib.hid hlt
    have hf := HF.out
    rw [show n - k = (n - (k + 1)) + 1 by omega] at hf
    have HW := Lib.hid (scanE_step hf)
    obtain ⟨br, hbr⟩ : ∃ br, rightB x.v = br := ⟨_, rfl⟩
    have HC := Lib.hid (fun W (hb : Below wo.heap.size wo W) => RRight_any W x ((HO.out.at_ x (List.mem_of_getElem? HX.out)).below hb) br hbr)
    have HXA := Lib.hid (HO.out.at_ x (List.mem_of_getElem? HX.out))
    have HBR := Lib.hid hbr
    simp only [EntC.cells] at HC
    clear h0 hf hlt hk HF
    go_wp2_with (fail)
    ((with_reducible refine (HC.out _ (Below.refl _ _)).mono ?_); rintro _ w1 ⟨rfl, hb1⟩)
    have HB1 := Lib.hid hb1
    replace HB := Lib.hid (HB.out.trans (hb1.mono HB.out.size))
    clear c0 c1 c2 c3 c4 hbl hb1 HC
    cases br
    · have e1 := errAt_arg (vsOf_at hx) hbr
      have HF2 : Hid (1 = r) := Lib.hid (by rcases HW.out with ⟨h, _⟩ | ⟨_, h⟩ <;> omega)
      clear hx hbr e1
      go_wp2_with (fail)
      go_ret
      exact ⟨by rw [← HF2.out]; rfl, HB.out⟩
    obtain ⟨hbl, d0, d1, d2, d3, d4⟩ := ent_is HO.out.sl H0.out rfl HB1.out
    obtain ⟨_, c0, c1, c2, c3, c4⟩ := ent_is HO.out.sl HX.out rfl HB1.out
    rw [Nat.zero_mul, Nat.add_zero] at d0
    by_cases hd : e0.v.dev = x.v.dev
    case neg =>
      have e1 := errAt_owner (vsOf_at hx) hbr (vsOf_at H0.out) hd
      have HF2 : Hid (21 = r) := Lib.hid (by rcases HW.out with ⟨h, _⟩ | ⟨_, h⟩ <;> omega)
      have hdb : (x.v.dev == e0.v.dev) = false := by rw [beq_eq_false_iff_ne]; exact fun h => hd h.symm
      have hdn : ¬ x.v.dev = e0.v.dev := fun h => hd h.symm
      clear hx hbr e1 hd d1 d2 d3 d4 c1 c2 c3 c4
      go_wp2_with (fail)
      go_quiet (fail)
      go_wp2_with (fail)
      go_ret
      exact ⟨by rw [← HF2.out]; rfl, bdrewN HB.out _⟩
    have HD := Lib.hid hd
    rw [hd] at d0
    clear d1 d2 d3 d4 c2 c3 c4
    go_upto_region 8 with (fail)
    go_quiet (fail)
    have HBq := Lib.hid (bdrewN HB1.out nq)
    replace HB := Lib.hid (bdrewN HB.out nq)
    clear d0 c0 c1 hbl HB1
    generalize w1.drewN nq = W at *
    obtain ⟨hbl, c0, c1, c2, c3, c4⟩ := ent_is HO.out.sl HX.out rfl HBq.out
    clear c0 c2 c3 c4
    have hd := HD.out
    obtain ⟨no, hno⟩ : ∃ no, x.v.no = no := ⟨_, rfl⟩
    rw [hno] at c1
    by_cases hg : (k : Int) < no
    · have e1 := errAt_gap (vsOf_at hx) hbr (vsOf_at H0.out) hd (by rw [hno]; exact hg)
      have HF2 : Hid (23 = r) := Lib.hid (by rcases HW.out with ⟨h, _⟩ | ⟨_, h⟩ <;> omega)
      clear hx hbr e1 hd hno
      go_wp2_with (fail)
      go_ret
      exact ⟨by rw [← HF2.out]; rfl, HB.out⟩
    have hg1 : no ≤ (k : Int) := by omega
    by_cases ht : no < (k : Int)
    · have e1 := errAt_twice (vsOf_at hx) hbr (vsOf_at H0.out) hd (by rw [hno]; exact ht)
      have HF2 : Hid (5 = r) := Lib.hid (by rcases HW.out with ⟨h, _⟩ | ⟨_, h⟩ <;> omega)
      clear hx hbr e1 hd hg hno
      go_wp2_with (fail)
      go_ret
      exact ⟨by rw [← HF2.out]; rfl, HB.out⟩
    obtain rfl : no = (k : Int) := by omega
    have hwk : IntKind.i64.wrap ((k : Int) + 1) = (k : Int) + 1 := IntWalk.i64_in _ (by have := HN.out; omega)
    by_cases hz : k = 0
    · have e1 : errAt (vsOf l) k = 0 := by subst hz; exact errAt_first (vsOf_at hx) hbr (vsOf_at H0.out) hd (by rw [hno]; rfl)
      have HF2 : Hid (scanE (errAt (vsOf l)) (n - (k + 1)) (k + 1) = r) := Lib.hid (by rcases HW.out with ⟨_, h⟩ | ⟨h, _⟩ <;> first | exact h | exact absurd e1 h)
      have HE1 := Lib.hid e1
      have hz2 : (k : Int) ≤ 0 := by omega
      clear hx hbr e1 hd hg hz ht hno
      go_wp2_with (fail)
      go_roundw
      case rel => exact ⟨k + 1, HLT.out, by go_num, HB.out, HZ.out.next HE1.out, HF2.out⟩
      case measure => have := HLT.out; simp [Go.RowKit.intOf]; omega
    obtain ⟨m, hm⟩ : ∃ m, k = m + 1 := ⟨k - 1, by omega⟩
    obtain ⟨p, hp⟩ : ∃ v, l[m]? = some v := ⟨_, List.getElem?_eq_getElem (by have := HLT.out; rw [HL.out]; omega)⟩
    have hpr : RightE p.v := errAt_right (vsOf_at hp) (HZ.out m (by omega))
    have hxr : RightE x.v := rightB_true.1 hbr
    have e1 : errAt (vsOf l) k = followsF p.v x.v := by
      subst hm
      exact errAt_next (vsOf_at hx) hbr (vsOf_at H0.out) hd hno (vsOf_at hp)
    obtain ⟨ff, hff⟩ : ∃ ff, followsF p.v x.v = ff := ⟨_, rfl⟩
    rw [hff] at e1
    have HFO := Lib.hid (fun V (hb : Below wo.heap.size wo V) => after_any V p x ((HO.out.at_ p (List.mem_of_getElem? hp)).below hb) ((HO.out.at_ _ (List.mem_of_getElem? hx)).below hb) hpr.len hxr.len ff hff)
    simp only [EntC.cells] at HFO
    have hS : ∀ w', Below W.heap.size W w' → _ := fun w' hb => And.intro (ent_is HO.out.sl hp rfl (HBq.out.trans (hb.mono HBq.out.size))).2 (And.intro (ent_is HO.out.sl hx rfl (HBq.out.trans (hb.mono HBq.out.size))).2 hb)
    simp only [and_assoc] at hS
    have HSS := Lib.hid hS
    have hwm : IntKind.i64.wrap ((k : Int) - 1) = (m : Int) := by rw [IntWalk.i64_in _ (by have := HN.out; have := HLT.out; omega)]; omega
    have hkz : 0 < (k : Int) := by omega
    have hmn : (m : Int) < (n : Int) := by have := HLT.out; omega
    have hm0 : (0 : Int) ≤ (m : Int) := by omega
    have HM := Lib.hid hm
    have HE1 := Lib.hid e1
    clear hx hbr e1 hd hg hz ht hm hp hpr hxr hff hno hS
    go_upto_region 15 with (fail)
    clear c1 hbl
    have hB7 := Below.refl W.heap.size W
    go_region_held3 (fun w' => w'.cell? ⟨b, o + m * 5, none⟩ = some (.int .i64 p.v.dev) ∧ w'.cell? ⟨b, o + m * 5 + 1, none⟩ = some (.int .i64 p.v.no) ∧ w'.cell? ⟨b, o + m * 5 + 2, none⟩ = some (.int .i64 p.v.day) ∧ w'.cell? ⟨b, o + m * 5 + 3, none⟩ = some (.slice p.A p.v.seen.length p.c) ∧ w'.cell? ⟨b, o + m * 5 + 4, none⟩ = some (.string ⟨p.v.text.toArray⟩) ∧ w'.cell? ⟨b, o + k * 5, none⟩ = some (.int .i64 x.v.dev) ∧ w'.cell? ⟨b, o + k * 5 + 1, none⟩ = some (.int .i64 x.v.no) ∧ w'.cell? ⟨b, o + k * 5 + 2, none⟩ = some (.int .i64 x.v.day) ∧ w'.cell? ⟨b, o + k * 5 + 3, none⟩ = some (.slice x.A x.v.seen.length x.c) ∧ w'.cell? ⟨b, o + k * 5 + 4, none⟩ = some (.string ⟨x.v.text.toArray⟩) ∧ Below W.heap.size W w')
      (first | exact HSS.out _ hB7 | (refine HSS.out _ ?_; repeat (first | exact hB7 | exact Below.refl _ _ | refine Below.drew ?_ | refine Below.alloc ?_ (by first | exact Nat.le_refl _ | exact hB7.size | (simp <;> omega)) _ | refine Below.setCell ?_ (by first | exact Nat.le_refl _ | exact hB7.size | (simp <;> omega)) _)))
      ((go_at_call 121
        ((with_reducible refine (HFO.out _ ?hs1).mono ?_)
         (case hs1 => exact HBq.out.trans (Below.mono (by go_split_ands; assumption) HBq.out.size))
         rintro e w3 ⟨rfl, hbF⟩
         have hB7 : Below W.heap.size W w3 := by go_split_ands; exact Below.trans (by assumption) (hbF.mono (Below.size (by assumption))))))
    have HB2 := Lib.hid (HB.out.trans (hB7.mono HB.out.size))
    clear hB7 hbF
    by_cases hf0 : ff = 0
    · have e1 := HE1.out
      rw [hf0] at e1
      have HF2 : Hid (scanE (errAt (vsOf l)) (n - (k + 1)) (k + 1) = r) := Lib.hid (by rcases HW.out with ⟨_, h⟩ | ⟨h, _⟩ <;> first | exact h | exact absurd e1 h)
      have HE2 := Lib.hid e1
      subst hf0
      clear e1
      go_wp2_with (fail)
      go_roundw
      case rel => exact ⟨k + 1, HLT.out, by go_num, HB2.out, HZ.out.next HE2.out, HF2.out⟩
      case measure => have := HLT.out; simp [Go.RowKit.intOf]; omega
    · have HF2 : Hid (ff = r) := Lib.hid (by rcases HW.out with ⟨h, _⟩ | ⟨_, h⟩; · exact absurd (HE1.out.symm.trans h) hf0
                                             · exact HE1.out.symm.trans h)
      have hfb : (ff == 0) = false := by simpa using hf0
      go_wp2_with (fail)
      go_ret
      exact ⟨by rw [← HF2.out]; rfl, HB2.out⟩
end Go.Proofs.YtjncmlglhegnaaaGreatDoor
