/- kerbsidelaw46: ChainSeen, walked. -/
import Derived.Test.YtindfkekinpchaaDoorChainLP
import Derived.Test.YtindfkekinpchaaDoorChainS2
namespace Go.Proofs.YtindfkekinpchaaDoor
open Go.RowKit Go.Sort Go.Lib

theorem plain_len {x : EntV} (h : plainB x = true) : x.seen.length ≤ 12 ∧ x.text.length ≤ 4010 := by
  unfold plainB at h
  simp only [Bool.and_eq_true, Bool.or_eq_true, decide_eq_true_eq] at h
  omega
theorem ChAt.of {w : World} {A : Option Addr} {n : Nat} {l : List EntC} (hs : Sl w 5 A n (l.map EntC.cells)) (ha : ∀ e ∈ l, EntAt w e) (hp : ∀ x ∈ l, plainB x.v = true) : ChAt w A n l :=
  ⟨hs, ha, fun e he => by have := plain_len (hp e he); omega⟩
theorem seen_is {w w' : World} {e : EntC} {b o : Nat} (h : EntAt w e) (hA : e.A = some ⟨b, o, none⟩) (hb : Below w.heap.size w w') {j : Nat} {x : Int} (hx : e.v.seen[j]? = some x) : b < w'.heap.size ∧ w'.cell? ⟨b, o + j, none⟩ = some (.int .i64 x) := by
  obtain ⟨b2, o2, hA2, hb2, hc⟩ := (h.below hb).at1 (k := j) (v := .int .i64 x) (by rw [List.getElem?_map, hx]; rfl)
  rw [hA] at hA2
  injection hA2 with hA2
  injection hA2 with h1 h2
  subst h1 h2
  exact ⟨hb2, hc⟩
theorem seen_some {w : World} {e : EntC} (h : EntAt w e) (hl : e.v.seen.length = 8) : ∃ b o, e.A = some ⟨b, o, none⟩ := by
  obtain ⟨x, hx⟩ : ∃ x, e.v.seen[0]? = some x := ⟨_, List.getElem?_eq_getElem (by omega)⟩
  obtain ⟨b2, o2, hA2, _⟩ := h.at1 (k := 0) (v := .int .i64 x) (by rw [List.getElem?_map, hx]; rfl)
  exact ⟨b2, o2, hA2⟩
theorem few30 (w : World) (A : Option Addr) (n c : Nat) (l : List EntC) (hs : Sl w 5 A n (l.map EntC.cells)) : Calls Tryd.prog 14 #[.slice A n c, .int .i64 30] w (FewPost w l 30) := Few_any w A n c l hs 30 (by omega)
theorem few20 (w : World) (A : Option Addr) (n c : Nat) (l : List EntC) (hs : Sl w 5 A n (l.map EntC.cells)) : Calls Tryd.prog 14 #[.slice A n c, .int .i64 20] w (FewPost w l 20) := Few_any w A n c l hs 20 (by omega)

set_option maxRecDepth 100000 in
set_option maxHeartbeats 16000000 in
theorem chainSeen_any (w : World) (hE : Env w.heap.size w) (A : Option Addr) (n c : Nat) (l : List EntC) (hs : Sl w 5 A n (l.map EntC.cells)) (ha : ∀ e ∈ l, EntAt w e) :
    Calls Tryd.prog 6 #[.slice A n c] w fun x w' => x = .returned (.bool true) ∧ Below w.heap.size w w' := by
  have HSA := Lib.hid (fun W (hb : Below w.heap.size w W) => sane_any W ((hE.below hb).up hb.size))
  have HFW := Lib.hid (fun W (hb : Below w.heap.size w W) => few30 W A n c l (hs.below hb))
  have HS := Lib.hid hs
  have HA := Lib.hid ha
  have hll : l.length = n := by simpa using hs.1
  have HL := Lib.hid hll
  have HB := Lib.hid (Below.refl w.heap.size w)
  clear hE hs ha hll
  go_enter Tryd.func6, Tryd.ntmps6
  go_wp2_with (fail)
  ((with_reducible refine (HSA.out _ HB.out).mono ?_); rintro _ w1 ⟨rfl, hb1⟩)
  have hbT := hb1
  replace HB := Lib.hid (HB.out.trans (hbT.mono HB.out.size))
  clear hbT hb1 
  go_wp2_with (fail)
  ((with_reducible refine (HFW.out _ HB.out).mono ?_); rintro _ w2 ⟨few, rfl, hfew, hb2⟩; have HFE := Lib.hid hfew; clear hfew)
  have hbT := hb2
  replace HB := Lib.hid (HB.out.trans (hbT.mono HB.out.size))
  clear hbT hb2 
  cases few
  · go_wp2_with (fail)
    go_ret
    exact ⟨rfl, HB.out⟩
  obtain ⟨hpl, hln⟩ := HFE.out rfl
  have HCH := Lib.hid (ChAt.of HS.out HA.out hpl)
  have HLN := Lib.hid hln
  clear HFE hpl hln HS HA
  obtain ⟨r, hr⟩ : ∃ r, checkF (vsOf l) = r := ⟨_, rfl⟩
  have HCK := Lib.hid (fun W (hb : Below w.heap.size w W) => Check_any W A n c l (HCH.out.below hb) r hr)
  have HR := Lib.hid hr
  clear hr
  go_wp2_with (fail)
  ((with_reducible refine (HCK.out _ HB.out).mono ?_); rintro _ w3 ⟨rfl, hb3⟩)
  have hbT := hb3
  replace HB := Lib.hid (HB.out.trans (hbT.mono HB.out.size))
  clear hbT hb3 
  by_cases h0 : r = 0
  case neg =>
    have hb0 : (r == 0) = false := by simpa using h0
    have hb1 : (r != 0) = true := by simpa using h0
    clear h0
    go_wp2_with (fail)
    go_ret
    exact ⟨rfl, HB.out⟩
  subst h0
  have HN : Hid ((n : Int) ≤ 30) := Lib.hid (by
    have h1 := (checkF_zero.1 HR.out).1
    rw [vsOf_len] at h1
    have h2 := HL.out
    have h3 := HLN.out
    omega)
  clear HLN
  go_wp2_with (fail)
  go_loopw [4] (fun iv wr => ∃ k : Nat, k ≤ n ∧ iv = .int .i64 (k : Int) ∧ Below w.heap.size w wr) (fun i _ => n - (Go.RowKit.intOf i).toNat)
  case atStart => exact ⟨0, Nat.zero_le _, rfl, HB.out⟩
  case round =>
    obtain ⟨k, hk, rfl, hb⟩ := hrel
    obtain ⟨wo, rfl⟩ : ∃ wo : World, wo = wr := ⟨_, rfl⟩
    replace HB := Lib.hid hb
    clear hb
    by_cases hlt : k < n
    case neg =>
      obtain rfl : k = n := by omega
      have hki : (k : Int) ≤ (k : Int) := Int.le_refl _
      clear hlt hk
      go_wp2_with (fail)
      go_ret
      exact ⟨rfl, HB.out⟩
    obtain ⟨x, hx⟩ : ∃ v, l[k]? = some v := ⟨_, List.getElem?_eq_getElem (by rw [HL.out]; exact hlt)⟩
    obtain ⟨e0, h0⟩ : ∃ v, l[0]? = some v := ⟨_, List.getElem?_eq_getElem (by rw [HL.out]; omega)⟩
    have HO := Lib.hid (HCH.out.below HB.out)
    obtain ⟨b, o, rfl, hbl, c0, c1, c2, c3, c4⟩ := ent_at HO.out.sl hx
    have hki : (k : Int) < (n : Int) := by omega
    have hk0 : (0 : Int) ≤ (k : Int) := by omega
    have hok := check_at HR.out (vsOf_at hx)
    have hxr := hok.right
    have hdv := head_dev HR.out (vsOf_at h0) (vsOf_at hx)
    have hsa := seen_at HR.out (vsOf_at hx)
    have hno := hok.no
    have HX := Lib.hid hx
    have H0 := Lib.hid h0
    have HLT := Lib.hid hlt
    have HC := Lib.hid (fun W (hb : Below wo.heap.size wo W) => Right_any W x ((HO.out.at_ x (List.mem_of_getElem? HX.out)).below hb) (HO.out.len x (List.mem_of_getElem? HX.out)).1 (HO.out.len x (List.mem_of_getElem? HX.out)).2 true (rightB_true.2 hxr))
    have HXR := Lib.hid hxr
    have HXA := Lib.hid (HO.out.at_ x (List.mem_of_getElem? hx))
    obtain ⟨bx, ox, hAx⟩ := seen_some HXA.out hxr.len
    have hlen8 := hxr.len
    have hdd : 0 ≤ x.v.dev ∧ x.v.dev ≤ 7 := ⟨hxr.d0, hxr.d1⟩
    have HAx := Lib.hid hAx
    obtain ⟨d, hd⟩ : ∃ d : Nat, x.v.dev = (d : Int) := ⟨x.v.dev.toNat, by omega⟩
    have hd8 : (d : Int) < 8 := by omega
    have hd0 : (0 : Int) ≤ (d : Int) := by omega
    have hd1 : decide ((d : Int) < 0) = false := decide_eq_false (by omega)
    have hd9 : decide ((8 : Int) ≤ (d : Int)) = false := decide_eq_false (by omega)
    have hn0 : 0 < n := by omega
    rw [hd, Int.toNat_natCast] at hsa
    have HSA2 := Lib.hid hsa
    obtain ⟨⟨dev, no, day, seen, text⟩, Ax, cx⟩ := x
    simp only at hd hno hlen8 hdv hAx
    subst hAx hd
    subst hno
    simp only [EntC.cells, hlen8] at HC c0 c1 c2 c3 c4
    clear hx h0 hlt hk hok hxr hsa hdd
    have HDV := Lib.hid hdv
    clear hdv
    go_upto_region 8 with (fail)
    have HW1 := Lib.hid (below_alloc wo (.cells #[.int .i64 (d : Int), .int .i64 (k : Int), .int .i64 day, .slice (some ⟨bx, ox, none⟩) 8 cx, .string ⟨text.toArray⟩] 24))
    have Y := Lib.hid (Loc.new_ wo #[.int .i64 (d : Int), .int .i64 (k : Int), .int .i64 day, .slice (some ⟨bx, ox, none⟩) 8 cx, .string ⟨text.toArray⟩] 24)
    replace HB := Lib.hid (HB.out.trans (HW1.out.mono HB.out.size))
    clear c0 c1 c2 c3 c4 hbl
    have HW2 := Lib.hid HW1.out.size
    generalize hWd : wo.alloc (.cells #[.int .i64 (d : Int), .int .i64 (k : Int), .int .i64 day, .slice (some ⟨bx, ox, none⟩) 8 cx, .string ⟨text.toArray⟩] 24) = W at *
    clear hWd
    have hS : ∀ w', Below W.heap.size W w' → _ := fun w' hb => And.intro ((Y.out.below hb).cell 0) (And.intro ((Y.out.below hb).cell 1) (And.intro ((Y.out.below hb).cell 2) (And.intro ((Y.out.below hb).cell 3) (And.intro ((Y.out.below hb).cell 4) (And.intro (ent_is HO.out.sl H0.out rfl (HW1.out.trans (hb.mono HW1.out.size))).2.1 hb)))))
    rw [← HDV.out] at hS
    simp only [Nat.zero_mul, Nat.add_zero] at hS
    have HSS := Lib.hid hS
    clear hS
    obtain ⟨zY, kY, fY⟩ := Y.out
    go_region_held3 (fun w' => w'.cell? ⟨wo.heap.size, 0, none⟩ = some (.int .i64 (d : Int)) ∧ w'.cell? ⟨wo.heap.size, 1, none⟩ = some (.int .i64 (k : Int)) ∧ w'.cell? ⟨wo.heap.size, 2, none⟩ = some (.int .i64 day) ∧ w'.cell? ⟨wo.heap.size, 3, none⟩ = some (.slice (some ⟨bx, ox, none⟩) 8 cx) ∧ w'.cell? ⟨wo.heap.size, 4, none⟩ = some (.string ⟨text.toArray⟩) ∧ w'.cell? ⟨b, o, none⟩ = some (.int .i64 (d : Int)) ∧ Below W.heap.size W w')
      (first | exact HSS.out _ hB7 | (refine HSS.out _ ?_; repeat (first | exact hB7 | exact Below.refl _ _ | refine Below.drew ?_ | refine Below.alloc ?_ (by first | exact Nat.le_refl _ | exact hB7.size | (simp <;> omega)) _ | refine Below.setCell ?_ (by first | exact Nat.le_refl _ | exact hB7.size | (simp <;> omega)) _)))
      ((go_at_call 12
        ((with_reducible refine (HC.out _ ?hs1).mono ?_)
         (case hs1 => exact HW1.out.trans (Below.mono (by go_split_ands; assumption) HW1.out.size))
         rintro e w3 ⟨rfl, hbF⟩
         have hB7 : Below W.heap.size W w3 := by go_split_ands; exact Below.trans (by assumption) (hbF.mono (Below.size (by assumption))))))
    have HB8 := Lib.hid (HB.out.trans (hB7.mono HB.out.size))
    have Y8 := Lib.hid (Y.out.below hB7)
    have HW3 := Lib.hid (HW1.out.trans (hB7.mono HW1.out.size))
    clear hbF hB7 zY kY fY hd1 hd9 hn0 HB Y HC HSS
    obtain ⟨hbx, hxd⟩ := seen_is HXA.out rfl HW3.out HSA2.out
    have hwk : IntKind.i64.wrap ((k : Int) + 1) = (k : Int) + 1 := IntWalk.i64_in _ (by have := HN.out; omega)
    obtain ⟨zY8, kY8, fY8⟩ := Y8.out
    by_cases hz : k = 0
    · have hkb : ((k : Int) == 0) = true := by rw [beq_iff_eq]; omega
      clear hz
      go_wp2_with (fail)
      go_roundw
      case rel => exact ⟨k + 1, HLT.out, by go_num, HB8.out⟩
      case measure => have := HLT.out; simp [Go.RowKit.intOf]; omega
    have hkb : ((k : Int) == 0) = false := by rw [beq_eq_false_iff_ne]; omega
    obtain ⟨m, hm⟩ : ∃ m, k = m + 1 := ⟨k - 1, by omega⟩
    obtain ⟨p, hp⟩ : ∃ v, l[m]? = some v := ⟨_, List.getElem?_eq_getElem (by have := HLT.out; rw [HL.out]; omega)⟩
    have hpk := check_at HR.out (vsOf_at hp)
    have hxk := check_at HR.out (vsOf_at HX.out)
    have hpa := HO.out.at_ p (List.mem_of_getElem? hp)
    obtain ⟨bp, op, hAp⟩ := seen_some hpa hpk.right.len
    have hdy : decide (day < p.v.day) = false := decide_eq_false (by have := hxk.day m p.v hm (vsOf_at hp); simp only at this; omega)
    have HUP : Hid (∀ (j : Nat) (u v : Int), p.v.seen[j]? = some u → seen[j]? = some v → u ≤ v) := Lib.hid (fun j u v hu hv => by subst hm; exact seen_up HR.out (vsOf_at HX.out) (vsOf_at hp) hu hv)
    obtain ⟨hbl, p0, p1, p2, p3, p4⟩ := ent_is HO.out.sl hp rfl HW3.out
    rw [hpk.right.len, hAp] at p3
    have hwm : IntKind.i64.wrap ((k : Int) - 1) = (m : Int) := by rw [IntWalk.i64_in _ (by have := HN.out; have := HLT.out; omega)]; omega
    have hmn : (m : Int) < (n : Int) := by have := HLT.out; omega
    have hm0 : (0 : Int) ≤ (m : Int) := by omega
    have HPL := Lib.hid hpk.right.len
    have HPA := Lib.hid hpa
    have HAP := Lib.hid hAp
    have HP := Lib.hid hp
    clear hz hm hp hpk hxk hpa hAp p0 p1 p4
    go_wp2_with (fail)
    go_quiet (fail)
    have HB9 := Lib.hid (bdrewN HB8.out nq)
    have Y9 := Lib.hid (Y8.out.drewN nq)
    have HW4 := Lib.hid (bdrewN HW3.out nq)
    clear hxd p2 p3 zY8 kY8 fY8 HB8 Y8 HW3 hbl hbx hdy
    generalize w3.drewN nq = w4 at *
    have HWK := Lib.hid hwk
    have HWM := Lib.hid hwm
    clear hwk hwm
    obtain ⟨zY9, kY9, fY9⟩ := Y9.out
    go_wp2_with (fail)
    clear zY9 kY9 fY9
    go_loopw [6] (fun jv wr => ∃ j : Nat, j ≤ 8 ∧ jv = .int .i64 (j : Int) ∧ Below w4.heap.size w4 wr) (fun i _ => 8 - (Go.RowKit.intOf i).toNat)
    case atStart => exact ⟨0, by omega, rfl, Below.refl _ _⟩
    case round =>
      obtain ⟨j, hj, rfl, hb⟩ := hrel
      obtain ⟨wi, rfl⟩ : ∃ wi : World, wi = wr := ⟨_, rfl⟩
      have Yi := Lib.hid (Y9.out.below hb)
      have HBi := Lib.hid hb
      clear hb
      obtain ⟨zYi, kYi, fYi⟩ := Yi.out
      by_cases hlt : j < 8
      case neg =>
        obtain rfl : j = 8 := by omega
        have hwk := HWK.out
        clear hlt hj
        go_wp2_with (fail)
        go_roundw
        case rel => exact ⟨k + 1, HLT.out, by go_num, HB9.out.trans (HBi.out.mono HB9.out.size)⟩
        case measure => have := HLT.out; simp [Go.RowKit.intOf]; omega
      have hji : (j : Int) < 8 := by omega
      have hj0 : (0 : Int) ≤ (j : Int) := by omega
      obtain ⟨u, hu⟩ : ∃ u, p.v.seen[j]? = some u := ⟨_, List.getElem?_eq_getElem (by rw [HPL.out]; omega)⟩
      obtain ⟨v, hv⟩ : ∃ v, seen[j]? = some v := ⟨_, List.getElem?_eq_getElem (by omega)⟩
      have huv := HUP.out j u v hu hv
      have HW5 := Lib.hid (HW4.out.trans (HBi.out.mono HW4.out.size))
      obtain ⟨hbx, hxd⟩ := seen_is HXA.out rfl HW5.out hv
      obtain ⟨hbp, hpd⟩ := seen_is HPA.out HAP.out HW5.out hu
      obtain ⟨hbl, p0, p1, p2, p3, p4⟩ := ent_is HO.out.sl HP.out rfl HW5.out
      rw [HPL.out, HAP.out] at p3
      have hdc : decide (v < u) = false := decide_eq_false (by omega)
      have HJ := Lib.hid hlt
      have hwj : IntKind.i64.wrap ((j : Int) + 1) = (j : Int) + 1 := IntWalk.i64_in _ (by omega)
      have hwm := HWM.out
      clear hlt hj hu hv huv p0 p1 p2 p4
      go_wp2_with (fail)
      go_quiet (fail)
      go_wp2_with (fail)
      go_roundw
      case rel => exact ⟨j + 1, HJ.out, by go_num, bdrewN HBi.out _⟩
      case measure => have := HJ.out; simp [Go.RowKit.intOf]; omega
end Go.Proofs.YtindfkekinpchaaDoor
