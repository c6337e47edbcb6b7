/- kerbsidelaw46: ChainConvicts, walked. -/
import Derived.Test.YtindfkekinpchaaDoorChainLC
namespace Go.Proofs.YtindfkekinpchaaDoor
open Go.RowKit Go.Sort Go.Lib

set_option maxRecDepth 100000 in
set_option maxHeartbeats 32000000 in
theorem chainConvicts_any (w : World) (hE : Env w.heap.size w) (A : Option Addr) (n c : Nat) (l : List EntC) (hs : Sl w 5 A n (l.map EntC.cells)) (ha : ∀ e ∈ l, EntAt w e) (A' : Option Addr) (n' c' : Nat) (l' : List EntC) (hs' : Sl w 5 A' n' (l'.map EntC.cells)) (ha' : ∀ e ∈ l', EntAt w e) (i k : Int) (hi : 0 ≤ i ∧ i ≤ 255) (hk : 0 ≤ k ∧ k ≤ 255) :
    Calls Tryd.prog 4 #[.slice A n c, .slice A' n' c', .int .u8 i, .int .u8 k] w fun x w' => x = .returned (.bool true) ∧ Below w.heap.size w w' := by
  have HSA := Lib.hid (fun W (hb : Below w.heap.size w W) => sane_any W ((hE.below hb).up hb.size))
  have HFW := Lib.hid (fun W (hb : Below w.heap.size w W) => few30 W A n c l (hs.below hb))
  have HFW' := Lib.hid (fun W (hb : Below w.heap.size w W) => few30 W A' n' c' l' (hs'.below hb))
  have HS := Lib.hid hs
  have HA := Lib.hid ha
  have HS' := Lib.hid hs'
  have HA' := Lib.hid ha'
  have hll : l.length = n := by simpa using hs.1
  have hll' : l'.length = n' := by simpa using hs'.1
  have HL := Lib.hid hll
  have HL' := Lib.hid hll'
  have HB := Lib.hid (Below.refl w.heap.size w)
  have HI := Lib.hid hi
  have HK := Lib.hid hk
  clear hE hs ha hll hs' ha' hll' hi hk
  go_enter Tryd.func4, Tryd.ntmps4
  go_wp2_with (fail)
  ((with_reducible refine (HSA.out _ HB.out).mono ?_); rintro _ w1 ⟨rfl, hb1⟩)
  have hbT := hb1
  replace HB := Lib.hid (HB.out.trans (hbT.mono HB.out.size))
  clear hbT hb1 
  go_wp2_with (fail)
  ((with_reducible refine (HFW.out _ HB.out).mono ?_); rintro _ w2 ⟨few, rfl, hfew, hb2⟩; have HFE := Lib.hid hfew; clear hfew)
  have hbT := hb2
  replace HB := Lib.hid (HB.out.trans (hbT.mono HB.out.size))
  clear hbT hb2 
  cases few
  · go_wp2_with (fail)
    go_ret
    exact ⟨rfl, HB.out⟩
  obtain ⟨hpl, hln⟩ := HFE.out rfl
  have HCH := Lib.hid (ChAt.of HS.out HA.out hpl)
  have HLN := Lib.hid hln
  clear HFE hpl hln HS HA
  go_wp2_with (fail)
  ((with_reducible refine (HFW'.out _ HB.out).mono ?_); rintro _ w3 ⟨few, rfl, hfew, hb3⟩; have HFE := Lib.hid hfew; clear hfew)
  have hbT := hb3
  replace HB := Lib.hid (HB.out.trans (hbT.mono HB.out.size))
  clear hbT hb3 
  cases few
  · go_wp2_with (fail)
    go_ret
    exact ⟨rfl, HB.out⟩
  obtain ⟨hpl, hln⟩ := HFE.out rfl
  have HCH' := Lib.hid (ChAt.of HS'.out HA'.out hpl)
  have HLN' := Lib.hid hln
  clear HFE hpl hln HS' HA'
  obtain ⟨r, hr⟩ : ∃ r, checkF (vsOf l) = r := ⟨_, rfl⟩
  have HCK := Lib.hid (fun W (hb : Below w.heap.size w W) => Check_any W A n c l (HCH.out.below hb) r hr)
  have HR := Lib.hid hr
  clear hr
  go_wp2_with (fail)
  ((with_reducible refine (HCK.out _ HB.out).mono ?_); rintro _ w4 ⟨rfl, hb4⟩)
  have hbT := hb4
  replace HB := Lib.hid (HB.out.trans (hbT.mono HB.out.size))
  clear hbT hb4 
  by_cases h0 : r = 0
  case neg =>
    have hb0 : (r == 0) = false := by simpa using h0
    have hb1 : (r != 0) = true := by simpa using h0
    clear h0
    go_wp2_with (fail)
    go_ret
    exact ⟨rfl, HB.out⟩
  subst h0
  obtain ⟨r, hr⟩ : ∃ r, checkF (vsOf l') = r := ⟨_, rfl⟩
  have HCK' := Lib.hid (fun W (hb : Below w.heap.size w W) => Check_any W A' n' c' l' (HCH'.out.below hb) r hr)
  have HR' := Lib.hid hr
  clear hr
  go_wp2_with (fail)
  ((with_reducible refine (HCK'.out _ HB.out).mono ?_); rintro _ w5 ⟨rfl, hb5⟩)
  have hbT := hb5
  replace HB := Lib.hid (HB.out.trans (hbT.mono HB.out.size))
  clear hbT hb5 
  by_cases h0 : r = 0
  case neg =>
    have hb0 : (r == 0) = false := by simpa using h0
    have hb1 : (r != 0) = true := by simpa using h0
    clear h0
    go_wp2_with (fail)
    go_ret
    exact ⟨rfl, HB.out⟩
  subst h0
  have HN : Hid (n ≤ 30) := Lib.hid (by
    have h1 := (checkF_zero.1 HR.out).1
    rw [vsOf_len] at h1
    have h2 := HL.out
    have h3 := HLN.out
    omega)
  have HN' : Hid (n' ≤ 30) := Lib.hid (by
    have h1 := (checkF_zero.1 HR'.out).1
    rw [vsOf_len] at h1
    have h2 := HL'.out
    have h3 := HLN'.out
    omega)
  clear HLN HLN' HCK HCK' HFW HFW' HSA
  by_cases hz : n = 0
  · have hzb : ((n : Int) == 0) = true := by rw [beq_iff_eq]; omega
    clear hz
    go_wp2_with (fail)
    go_ret
    exact ⟨rfl, HB.out⟩
  by_cases hz' : n' = 0
  · have hzb : ((n : Int) == 0) = false := by rw [beq_eq_false_iff_ne]; omega
    have hzb' : ((n' : Int) == 0) = true := by rw [beq_iff_eq]; omega
    clear hz hz'
    go_wp2_with (fail)
    go_ret
    exact ⟨rfl, HB.out⟩
  have hzb : ((n : Int) == 0) = false := by rw [beq_eq_false_iff_ne]; omega
  have hzb' : ((n' : Int) == 0) = false := by rw [beq_eq_false_iff_ne]; omega
  have HZ : Hid (0 < n) := Lib.hid (by omega)
  have HZ' : Hid (0 < n') := Lib.hid (by omega)
  clear hz hz'
  go_upto_region 4 with (fail)
  clear hzb hzb'
  -- the first entries
  obtain ⟨e0, h0⟩ : ∃ v, l[0]? = some v := ⟨_, List.getElem?_eq_getElem (by rw [HL.out]; exact HZ.out)⟩
  obtain ⟨e0', h0'⟩ : ∃ v, l'[0]? = some v := ⟨_, List.getElem?_eq_getElem (by rw [HL'.out]; exact HZ'.out)⟩
  have HO := Lib.hid (HCH.out.below HB.out)
  have HO' := Lib.hid (HCH'.out.below HB.out)
  obtain ⟨b, o, rfl, hbl, d0, d1, d2, d3, d4⟩ := ent_at HO.out.sl h0
  obtain ⟨b', o', rfl, hbl', d0', d1', d2', d3', d4'⟩ := ent_at HO'.out.sl h0'
  have H0 := Lib.hid h0
  have H0' := Lib.hid h0'
  -- the two entries of the first chain
  obtain ⟨p, hp⟩ : ∃ p : Nat, i % (n : Int) = (p : Int) := ⟨(i % (n : Int)).toNat, by have := Int.emod_nonneg i (b := (n : Int)) (by have := HZ.out; omega); omega⟩
  obtain ⟨q, hq⟩ : ∃ q : Nat, k % (n : Int) = (q : Int) := ⟨(k % (n : Int)).toNat, by have := Int.emod_nonneg k (b := (n : Int)) (by have := HZ.out; omega); omega⟩
  have hpn : (p : Int) < (n : Int) := by rw [← hp]; exact Int.emod_lt_of_pos i (by have := HZ.out; omega)
  have hqn : (q : Int) < (n : Int) := by rw [← hq]; exact Int.emod_lt_of_pos k (by have := HZ.out; omega)
  obtain ⟨x, hx⟩ : ∃ v, l[p]? = some v := ⟨_, List.getElem?_eq_getElem (by rw [HL.out]; omega)⟩
  obtain ⟨y, hy⟩ : ∃ v, l[q]? = some v := ⟨_, List.getElem?_eq_getElem (by rw [HL.out]; omega)⟩
  have hcv := convicts_own HR.out (vsOf_at hx) (vsOf_at hy)
  have HCV := Lib.hid (fun W (hb : Below w5.heap.size w5 W) => Convicts_any W x y ((HO.out.at_ x (List.mem_of_getElem? hx)).below hb) ((HO.out.at_ y (List.mem_of_getElem? hy)).below hb) (HO.out.len x (List.mem_of_getElem? hx)) (HO.out.len y (List.mem_of_getElem? hy)) false hcv)
  have hS : ∀ w', Below w5.heap.size w5 w' → _ := fun w' hb => And.intro (ent_is HO.out.sl hx rfl hb).2 (And.intro (ent_is HO.out.sl hy rfl hb).2 (And.intro (ent_is HO.out.sl h0 rfl hb).2.1 (And.intro (ent_is HO'.out.sl h0' rfl hb).2.1 hb)))
  simp only [Nat.zero_mul, Nat.add_zero, and_assoc] at hS
  have HSS := Lib.hid hS
  clear hS hx hy hcv h0 h0' d0 d1 d2 d3 d4 d0' d1' d2' d3' d4' hbl hbl'
  have hnz : ¬ ((n : Int) = 0) := by have := HZ.out; omega
  have hnzN : ¬ (n = 0) := by have := HZ.out; omega
  have hnzb : ((n : Int) == 0) = false := by rw [beq_eq_false_iff_ne]; exact hnz
  have hn0 : 0 < n := HZ.out
  have hn0' : 0 < n' := HZ'.out
  have hp0 : (0 : Int) ≤ (p : Int) := by omega
  have hq0 : (0 : Int) ≤ (q : Int) := by omega
  have hi0 : 0 ≤ i := HI.out.1
  have hi1 : i ≤ 255 := HI.out.2
  have hk0 : 0 ≤ k := HK.out.1
  have hk1 : k ≤ 255 := HK.out.2
  have hpt : i.tmod (n : Int) = (p : Int) := by rw [Int.tmod_eq_emod_of_nonneg hi0]; exact hp
  have hqt : k.tmod (n : Int) = (q : Int) := by rw [Int.tmod_eq_emod_of_nonneg hk0]; exact hq
  have hwp : IntKind.i64.wrap (p : Int) = (p : Int) := IntWalk.i64_in _ (by have := HN.out; omega)
  have hwq : IntKind.i64.wrap (q : Int) = (q : Int) := IntWalk.i64_in _ (by have := HN.out; omega)
  have hwi : IntKind.i64.wrap i = i := IntWalk.i64_in _ (by omega)
  have hwk : IntKind.i64.wrap k = k := IntWalk.i64_in _ (by omega)
  simp only [EntC.cells] at HCV
  by_cases hd : e0.v.dev = e0'.v.dev
  case neg =>
    have hdb : (e0.v.dev == e0'.v.dev) = false := by simpa using hd
    have hdn : (e0.v.dev != e0'.v.dev) = true := by simpa using hd
    clear hd
    go_region_held3 (fun w' => w'.cell? ⟨b, o + p * 5, none⟩ = some (.int .i64 x.v.dev) ∧ w'.cell? ⟨b, o + p * 5 + 1, none⟩ = some (.int .i64 x.v.no) ∧ w'.cell? ⟨b, o + p * 5 + 2, none⟩ = some (.int .i64 x.v.day) ∧ w'.cell? ⟨b, o + p * 5 + 3, none⟩ = some (.slice x.A x.v.seen.length x.c) ∧ w'.cell? ⟨b, o + p * 5 + 4, none⟩ = some (.string ⟨x.v.text.toArray⟩) ∧ w'.cell? ⟨b, o + q * 5, none⟩ = some (.int .i64 y.v.dev) ∧ w'.cell? ⟨b, o + q * 5 + 1, none⟩ = some (.int .i64 y.v.no) ∧ w'.cell? ⟨b, o + q * 5 + 2, none⟩ = some (.int .i64 y.v.day) ∧ w'.cell? ⟨b, o + q * 5 + 3, none⟩ = some (.slice y.A y.v.seen.length y.c) ∧ w'.cell? ⟨b, o + q * 5 + 4, none⟩ = some (.string ⟨y.v.text.toArray⟩) ∧ w'.cell? ⟨b, o, none⟩ = some (.int .i64 e0.v.dev) ∧ w'.cell? ⟨b', o', none⟩ = some (.int .i64 e0'.v.dev) ∧ Below w5.heap.size w5 w')
      (first | exact HSS.out _ hB7 | (refine HSS.out _ ?_; repeat (first | exact hB7 | exact Below.refl _ _ | refine Below.drew ?_ | refine Below.alloc ?_ (by first | exact Nat.le_refl _ | exact hB7.size | (simp <;> omega)) _ | refine Below.setCell ?_ (by first | exact Nat.le_refl _ | exact hB7.size | (simp <;> omega)) _)))
      ((go_at_call 16
        ((with_reducible refine (HCV.out _ ?hs1).mono ?_)
         (case hs1 => go_split_ands; assumption)
         rintro e w3 ⟨rfl, hbF⟩
         have hB7 : Below w5.heap.size w5 w3 := by go_split_ands; exact Below.trans (by assumption) (hbF.mono (Below.size (by assumption))))))
    clear hbF
    go_upto_region 5 with (fail)
    go_region_held3 (fun w' => w'.cell? ⟨b, o + p * 5, none⟩ = some (.int .i64 x.v.dev) ∧ w'.cell? ⟨b, o + p * 5 + 1, none⟩ = some (.int .i64 x.v.no) ∧ w'.cell? ⟨b, o + p * 5 + 2, none⟩ = some (.int .i64 x.v.day) ∧ w'.cell? ⟨b, o + p * 5 + 3, none⟩ = some (.slice x.A x.v.seen.length x.c) ∧ w'.cell? ⟨b, o + p * 5 + 4, none⟩ = some (.string ⟨x.v.text.toArray⟩) ∧ w'.cell? ⟨b, o + q * 5, none⟩ = some (.int .i64 y.v.dev) ∧ w'.cell? ⟨b, o + q * 5 + 1, none⟩ = some (.int .i64 y.v.no) ∧ w'.cell? ⟨b, o + q * 5 + 2, none⟩ = some (.int .i64 y.v.day) ∧ w'.cell? ⟨b, o + q * 5 + 3, none⟩ = some (.slice y.A y.v.seen.length y.c) ∧ w'.cell? ⟨b, o + q * 5 + 4, none⟩ = some (.string ⟨y.v.text.toArray⟩) ∧ w'.cell? ⟨b, o, none⟩ = some (.int .i64 e0.v.dev) ∧ w'.cell? ⟨b', o', none⟩ = some (.int .i64 e0'.v.dev) ∧ Below w5.heap.size w5 w')
      (first | exact HSS.out _ hB7 | (refine HSS.out _ ?_; repeat (first | exact hB7 | exact Below.refl _ _ | refine Below.drew ?_ | refine Below.alloc ?_ (by first | exact Nat.le_refl _ | exact hB7.size | (simp <;> omega)) _ | refine Below.setCell ?_ (by first | exact Nat.le_refl _ | exact hB7.size | (simp <;> omega)) _)))
      ((go_at_call 16
        ((with_reducible refine (HCV.out _ ?hs1).mono ?_)
         (case hs1 => go_split_ands; assumption)
         rintro e w3 ⟨rfl, hbF⟩
         have hB7 : Below w5.heap.size w5 w3 := by go_split_ands; exact Below.trans (by assumption) (hbF.mono (Below.size (by assumption))))))
    go_wp2_with (fail)
    go_ret
    exact ⟨rfl, HB.out.trans (hB7.mono HB.out.size)⟩
  rw [hd] at HSS
  go_region_held3 (fun w' => w'.cell? ⟨b, o + p * 5, none⟩ = some (.int .i64 x.v.dev) ∧ w'.cell? ⟨b, o + p * 5 + 1, none⟩ = some (.int .i64 x.v.no) ∧ w'.cell? ⟨b, o + p * 5 + 2, none⟩ = some (.int .i64 x.v.day) ∧ w'.cell? ⟨b, o + p * 5 + 3, none⟩ = some (.slice x.A x.v.seen.length x.c) ∧ w'.cell? ⟨b, o + p * 5 + 4, none⟩ = some (.string ⟨x.v.text.toArray⟩) ∧ w'.cell? ⟨b, o + q * 5, none⟩ = some (.int .i64 y.v.dev) ∧ w'.cell? ⟨b, o + q * 5 + 1, none⟩ = some (.int .i64 y.v.no) ∧ w'.cell? ⟨b, o + q * 5 + 2, none⟩ = some (.int .i64 y.v.day) ∧ w'.cell? ⟨b, o + q * 5 + 3, none⟩ = some (.slice y.A y.v.seen.length y.c) ∧ w'.cell? ⟨b, o + q * 5 + 4, none⟩ = some (.string ⟨y.v.text.toArray⟩) ∧ w'.cell? ⟨b, o, none⟩ = some (.int .i64 e0'.v.dev) ∧ w'.cell? ⟨b', o', none⟩ = some (.int .i64 e0'.v.dev) ∧ Below w5.heap.size w5 w')
      (first | exact HSS.out _ hB7 | (refine HSS.out _ ?_; repeat (first | exact hB7 | exact Below.refl _ _ | refine Below.drew ?_ | refine Below.alloc ?_ (by first | exact Nat.le_refl _ | exact hB7.size | (simp <;> omega)) _ | refine Below.setCell ?_ (by first | exact Nat.le_refl _ | exact hB7.size | (simp <;> omega)) _)))
      ((go_at_call 16
        ((with_reducible refine (HCV.out _ ?hs1).mono ?_)
         (case hs1 => go_split_ands; assumption)
         rintro e w3 ⟨rfl, hbF⟩
         have hB7 : Below w5.heap.size w5 w3 := by go_split_ands; exact Below.trans (by assumption) (hbF.mono (Below.size (by assumption))))))
  have HB6 := Lib.hid (HB.out.trans (hB7.mono HB.out.size))
  have HD := Lib.hid hd
  clear hbF hB7 HSS HCV hd hp hq hpn hqn hnz hnzN hnzb hn0 hn0' hp0 hq0 hi0 hi1 hk0 hk1 hpt hqt hwp hwq hwi hwk HO HO' HB
  go_wp2_with (fail)
  go_loopw [10] (fun iv wr => ∃ m : Nat, m ≤ n ∧ iv = .int .i64 (m : Int) ∧ Below w.heap.size w wr) (fun i _ => n - (Go.RowKit.intOf i).toNat)
  case atStart => exact ⟨0, Nat.zero_le _, rfl, HB6.out⟩
  case round =>
    obtain ⟨m, hm, rfl, hb⟩ := hrel
    obtain ⟨wo, rfl⟩ : ∃ wo : World, wo = wr := ⟨_, rfl⟩
    have HB := Lib.hid hb
    clear hb
    by_cases h1 : m < n
    case neg =>
      have h1i : (n : Int) ≤ (m : Int) := by omega
      clear hm h1
      go_wp2_with (fail)
      go_ret
      exact ⟨rfl, HB.out⟩
    have h1i : (m : Int) < (n : Int) := by omega
    by_cases h2 : m < n'
    case neg =>
      have h2i : (n' : Int) ≤ (m : Int) := by omega
      have h2d : decide ((m : Int) < (n' : Int)) = false := decide_eq_false (by omega)
      clear hm h1 h2
      go_wp2_with (fail)
      go_ret
      exact ⟨rfl, HB.out⟩
    have h2i : (m : Int) < (n' : Int) := by omega
    have hm0 : (0 : Int) ≤ (m : Int) := by omega
    have HO := Lib.hid (HCH.out.below HB.out)
    have HO' := Lib.hid (HCH'.out.below HB.out)
    obtain ⟨x, hx⟩ : ∃ v, l[m]? = some v := ⟨_, List.getElem?_eq_getElem (by rw [HL.out]; exact h1)⟩
    obtain ⟨y, hy⟩ : ∃ v, l'[m]? = some v := ⟨_, List.getElem?_eq_getElem (by rw [HL'.out]; exact h2)⟩
    have hcv := convicts_two HR.out HR'.out (vsOf_at H0.out) (vsOf_at H0'.out) HD.out (vsOf_at hx) (vsOf_at hy)
    obtain ⟨r, hr⟩ : ∃ r, sameB x.v y.v = r := ⟨_, rfl⟩
    rw [hr] at hcv
    have HX := HO.out.at_ x (List.mem_of_getElem? hx)
    have HXL := HO.out.len x (List.mem_of_getElem? hx)
    have HY := HO'.out.at_ y (List.mem_of_getElem? hy)
    have HYL := HO'.out.len y (List.mem_of_getElem? hy)
    have HCV := Lib.hid (fun W (hb : Below wo.heap.size wo W) => Convicts_any W x y (HX.below hb) (HY.below hb) HXL HYL (!r) hcv)
    have HSM := Lib.hid (fun W (hb : Below wo.heap.size wo W) => Same_any W x y (HX.below hb) (HY.below hb) HXL.1 HYL.1 r hr)
    have HRS := Lib.hid (fun W (hb : Below wo.heap.size wo W) => RSame_any W x y (HX.below hb) (HY.below hb) HXL.1 r hr)
    have hS : ∀ w', Below wo.heap.size wo w' → _ := fun w' hb => And.intro (ent_is HO.out.sl hx rfl hb).2 (And.intro (ent_is HO'.out.sl hy rfl hb).2 hb)
    simp only [and_assoc] at hS
    have HSS := Lib.hid hS
    simp only [EntC.cells] at HCV HSM HRS
    have HLT := Lib.hid h1
    have hwm : IntKind.i64.wrap ((m : Int) + 1) = (m : Int) + 1 := IntWalk.i64_in _ (by have := HN.out; omega)
    have HWM := Lib.hid hwm
    clear hS HX HXL HY HYL hcv hr hx hy h1 h2 hm hwm
    go_upto_region 9 with (fail)
    have hB7 := Below.refl wo.heap.size wo
    go_region_held3 (fun w' => w'.cell? ⟨b, o + m * 5, none⟩ = some (.int .i64 x.v.dev) ∧ w'.cell? ⟨b, o + m * 5 + 1, none⟩ = some (.int .i64 x.v.no) ∧ w'.cell? ⟨b, o + m * 5 + 2, none⟩ = some (.int .i64 x.v.day) ∧ w'.cell? ⟨b, o + m * 5 + 3, none⟩ = some (.slice x.A x.v.seen.length x.c) ∧ w'.cell? ⟨b, o + m * 5 + 4, none⟩ = some (.string ⟨x.v.text.toArray⟩) ∧ w'.cell? ⟨b', o' + m * 5, none⟩ = some (.int .i64 y.v.dev) ∧ w'.cell? ⟨b', o' + m * 5 + 1, none⟩ = some (.int .i64 y.v.no) ∧ w'.cell? ⟨b', o' + m * 5 + 2, none⟩ = some (.int .i64 y.v.day) ∧ w'.cell? ⟨b', o' + m * 5 + 3, none⟩ = some (.slice y.A y.v.seen.length y.c) ∧ w'.cell? ⟨b', o' + m * 5 + 4, none⟩ = some (.string ⟨y.v.text.toArray⟩) ∧ Below wo.heap.size wo w')
        (first | exact HSS.out _ hB7 | (refine HSS.out _ ?_; repeat (first | exact hB7 | exact Below.refl _ _ | refine Below.drew ?_ | refine Below.alloc ?_ (by first | exact Nat.le_refl _ | exact hB7.size | (simp <;> omega)) _ | refine Below.setCell ?_ (by first | exact Nat.le_refl _ | exact hB7.size | (simp <;> omega)) _)))
        ((go_at_call 13
          ((with_reducible refine (HRS.out _ ?hs1).mono ?_)
           (case hs1 => go_split_ands; assumption)
           rintro e w3 ⟨rfl, hbF⟩
           have hB7 : Below wo.heap.size wo w3 := by go_split_ands; exact Below.trans (by assumption) (hbF.mono (Below.size (by assumption))))))
    cases r
    · go_upto_region 10 with (fail)
      clear hbF
      go_region_held3 (fun w' => w'.cell? ⟨b, o + m * 5, none⟩ = some (.int .i64 x.v.dev) ∧ w'.cell? ⟨b, o + m * 5 + 1, none⟩ = some (.int .i64 x.v.no) ∧ w'.cell? ⟨b, o + m * 5 + 2, none⟩ = some (.int .i64 x.v.day) ∧ w'.cell? ⟨b, o + m * 5 + 3, none⟩ = some (.slice x.A x.v.seen.length x.c) ∧ w'.cell? ⟨b, o + m * 5 + 4, none⟩ = some (.string ⟨x.v.text.toArray⟩) ∧ w'.cell? ⟨b', o' + m * 5, none⟩ = some (.int .i64 y.v.dev) ∧ w'.cell? ⟨b', o' + m * 5 + 1, none⟩ = some (.int .i64 y.v.no) ∧ w'.cell? ⟨b', o' + m * 5 + 2, none⟩ = some (.int .i64 y.v.day) ∧ w'.cell? ⟨b', o' + m * 5 + 3, none⟩ = some (.slice y.A y.v.seen.length y.c) ∧ w'.cell? ⟨b', o' + m * 5 + 4, none⟩ = some (.string ⟨y.v.text.toArray⟩) ∧ Below wo.heap.size wo w')
          (first | exact HSS.out _ hB7 | (refine HSS.out _ ?_; repeat (first | exact hB7 | exact Below.refl _ _ | refine Below.drew ?_ | refine Below.alloc ?_ (by first | exact Nat.le_refl _ | exact hB7.size | (simp <;> omega)) _ | refine Below.setCell ?_ (by first | exact Nat.le_refl _ | exact hB7.size | (simp <;> omega)) _)))
          (first
            | (go_at_call 16
               ((with_reducible refine (HCV.out _ ?hs1).mono ?_)
                (case hs1 => go_split_ands; assumption)
                rintro e w3 ⟨rfl, hbF⟩
                have hB7 : Below wo.heap.size wo w3 := by go_split_ands; exact Below.trans (by assumption) (hbF.mono (Below.size (by assumption)))))
            | (go_at_call 17
               ((with_reducible refine (HSM.out _ ?hs1).mono ?_)
                (case hs1 => go_split_ands; assumption)
                rintro e w3 ⟨rfl, hbF⟩
                have hB7 : Below wo.heap.size wo w3 := by go_split_ands; exact Below.trans (by assumption) (hbF.mono (Below.size (by assumption))))))
      go_wp2_with (fail)
      go_ret
      exact ⟨rfl, HB.out.trans (hB7.mono HB.out.size)⟩
    · go_upto_region 11 with (fail)
      clear hbF
      go_region_held3 (fun w' => w'.cell? ⟨b, o + m * 5, none⟩ = some (.int .i64 x.v.dev) ∧ w'.cell? ⟨b, o + m * 5 + 1, none⟩ = some (.int .i64 x.v.no) ∧ w'.cell? ⟨b, o + m * 5 + 2, none⟩ = some (.int .i64 x.v.day) ∧ w'.cell? ⟨b, o + m * 5 + 3, none⟩ = some (.slice x.A x.v.seen.length x.c) ∧ w'.cell? ⟨b, o + m * 5 + 4, none⟩ = some (.string ⟨x.v.text.toArray⟩) ∧ w'.cell? ⟨b', o' + m * 5, none⟩ = some (.int .i64 y.v.dev) ∧ w'.cell? ⟨b', o' + m * 5 + 1, none⟩ = some (.int .i64 y.v.no) ∧ w'.cell? ⟨b', o' + m * 5 + 2, none⟩ = some (.int .i64 y.v.day) ∧ w'.cell? ⟨b', o' + m * 5 + 3, none⟩ = some (.slice y.A y.v.seen.length y.c) ∧ w'.cell? ⟨b', o' + m * 5 + 4, none⟩ = some (.string ⟨y.v.text.toArray⟩) ∧ Below wo.heap.size wo w')
          (first | exact HSS.out _ hB7 | (refine HSS.out _ ?_; repeat (first | exact hB7 | exact Below.refl _ _ | refine Below.drew ?_ | refine Below.alloc ?_ (by first | exact Nat.le_refl _ | exact hB7.size | (simp <;> omega)) _ | refine Below.setCell ?_ (by first | exact Nat.le_refl _ | exact hB7.size | (simp <;> omega)) _)))
          (first
            | (go_at_call 16
               ((with_reducible refine (HCV.out _ ?hs1).mono ?_)
                (case hs1 => go_split_ands; assumption)
                rintro e w3 ⟨rfl, hbF⟩
                have hB7 : Below wo.heap.size wo w3 := by go_split_ands; exact Below.trans (by assumption) (hbF.mono (Below.size (by assumption)))))
            | (go_at_call 17
               ((with_reducible refine (HSM.out _ ?hs1).mono ?_)
                (case hs1 => go_split_ands; assumption)
                rintro e w3 ⟨rfl, hbF⟩
                have hB7 : Below wo.heap.size wo w3 := by go_split_ands; exact Below.trans (by assumption) (hbF.mono (Below.size (by assumption))))))
      have HB8 := Lib.hid (HB.out.trans (hB7.mono HB.out.size))
      have hwm := HWM.out
      clear hB7 hbF
      go_wp2_with (fail)
      go_roundw
      case rel => exact ⟨m + 1, HLT.out, by go_num, HB8.out⟩
      case measure => have := HLT.out; simp [Go.RowKit.intOf]; omega
end Go.Proofs.YtindfkekinpchaaDoor
