/- kerbsidelaw46: ChainNext, walked (written by wip/gen_chainnext.py). -/
import Derived.Test.YtindfkekinpchaaDoorChainLQ
import Derived.Test.YtindfkekinpchaaDoorChainLE
namespace Go.Proofs.YtindfkekinpchaaDoor
open Go.RowKit Go.Sort Go.Lib

def MayUpto (l : List EntV) (device day : Int) (known : List Int) (k : Nat) : Prop := May0 l device day known ∧ ∀ i : Nat, i < k → mayStep l device day known i = true
/-- may, behind k rounds -/
def MayIs (l : List EntV) (device day : Int) (known : List Int) (k : Nat) (b : Bool) : Prop := b = true ↔ MayUpto l device day known k
theorem MayIs.no {l : List EntV} {device day : Int} {known : List Int} (h : ¬ May0 l device day known) : MayIs l device day known 0 false := ⟨(fun h => by cases h), fun h2 => absurd h2.1 h⟩
theorem MayIs.yes {l : List EntV} {device day : Int} {known : List Int} (h : May0 l device day known) : MayIs l device day known 0 true := ⟨fun _ => ⟨h, fun i hi => absurd hi (Nat.not_lt_zero _)⟩, fun _ => rfl⟩
theorem MayIs.may0 {l : List EntV} {device day : Int} {known : List Int} {k : Nat} (h : MayIs l device day known k true) : May0 l device day known := (h.1 rfl).1
theorem MayIs.next {l : List EntV} {device day : Int} {known : List Int} {k : Nat} {b : Bool} (h : MayIs l device day known k true) (hs : mayStep l device day known k = b) : MayIs l device day known (k + 1) b := by
  have h1 := h.1 rfl
  constructor
  · intro e
    refine ⟨h1.1, fun i hi => ?_⟩
    rcases Nat.lt_or_ge i k with h2 | h2
    · exact h1.2 i h2
    · obtain rfl : i = k := by omega
      rw [hs]; exact e
  · intro h2
    rw [← hs]; exact h2.2 k (by omega)
theorem MayIs.final {l : List EntV} {device day : Int} {known : List Int} {text : List UInt8} {k : Nat} {b : Bool} (ht : text.length ≤ 4000) (h : MayIs l device day known k b) (hk : k ≤ known.length) (hx : k = known.length ∨ b = false) : (nextF l device day known text).2 = 0 ↔ b = true := by
  rw [next_may ht]
  rcases hx with rfl | rfl
  · exact h.symm
  · refine ⟨fun h2 => h.2 ⟨h2.1, fun i hi => h2.2 i (by omega)⟩, fun h2 => by cases h2⟩
theorem step_dev {l : List EntV} {device day : Int} {known : List Int} {k : Nat} (h : (k : Int) = device) : mayStep l device day known k = (match l.getLast? with | none => true | some p => (decide (p.dev = device) && decide (p.day ≤ day))) := by
  unfold mayStep
  rw [decide_eq_true h]
  cases l.getLast? <;> simp
theorem step_in {l : List EntV} {device day : Int} {known : List Int} {k : Nat} {x : Int} (hx : known[k]? = some x) (h : (k : Int) ≠ device) (h0 : 0 ≤ x) (h1 : x ≤ 400) : mayStep l device day known k = (match l.getLast? with | none => true | some p => (decide (p.dev = device) && decide (p.day ≤ day)) && decide (p.seen.getD k 0 ≤ x)) := by
  unfold mayStep
  rw [getD_of hx, decide_eq_false h, decide_eq_true h0, decide_eq_true h1]
  cases l.getLast? <;> simp
theorem step_out {l : List EntV} {device day : Int} {known : List Int} {k : Nat} {x : Int} (hx : known[k]? = some x) (h : (k : Int) ≠ device) (h0 : x < 0 ∨ 400 < x) : mayStep l device day known k = false := by
  unfold mayStep
  rw [getD_of hx, decide_eq_false h]
  rcases h0 with h0 | h0
  · rw [decide_eq_false (show ¬ 0 ≤ x by omega)]; simp
  · rw [decide_eq_false (show ¬ x ≤ 400 by omega)]; simp
theorem last_at {l : List EntC} {q : Nat} {p : EntC} (hq : l.length = q + 1) (hp : l[q]? = some p) : (vsOf l).getLast? = some p.v := by
  rw [List.getLast?_eq_getElem?, vsOf_len, hq]
  exact vsOf_at hp
theorem last_none {l : List EntC} (hq : l.length = 0) : (vsOf l).getLast? = none := by
  rw [List.length_eq_zero_iff.1 hq]; rfl

set_option maxRecDepth 100000 in
set_option maxHeartbeats 64000000 in
theorem chainNext_no (w : World) (hE : Env w.heap.size w) (A : Option Addr) (n c : Nat) (l : List EntC) (hs : Sl w 5 A n (l.map EntC.cells)) (ha : ∀ e ∈ l, EntAt w e) (device day : Int) (B : Option Addr) (m d : Nat) (known : List Int) (hk : Sl w 1 B m (known.map intC)) (text : List UInt8) (ht : text.length ≤ maxLen) (hv2 : (nextF (vsOf l) device day known text).2 ≠ 0) :
    Calls Tryd.prog 7 #[.slice A n c, .int .i64 device, .int .i64 day, .slice B m d, .string ⟨text.toArray⟩] w fun x w' => x = .returned (.bool true) ∧ Below w.heap.size w w' := by
  have HSA := Lib.hid (fun W (hb : Below w.heap.size w W) => sane_any W ((hE.below hb).up hb.size))
  have HFW := Lib.hid (fun W (hb : Below w.heap.size w W) => few20 W A n c l (hs.below hb))
  have HS := Lib.hid hs
  have HA := Lib.hid ha
  have hll : l.length = n := by simpa using hs.1
  have HL := Lib.hid hll
  have HKN := Lib.hid hk
  have hkl : known.length = m := by simpa using hk.1
  have HKL := Lib.hid hkl
  have HB := Lib.hid (Below.refl w.heap.size w)
  have hsz := str_size text
  have HTX := Lib.hid ht
  clear hE hs ha hll hk hkl ht
  go_enter Tryd.func7, Tryd.ntmps7
  go_wp2_with (fail)
  ((with_reducible refine (HSA.out _ HB.out).mono ?_); rintro _ w1 ⟨rfl, hb1⟩)
  have hbT := hb1
  replace HB := Lib.hid (HB.out.trans (hbT.mono HB.out.size))
  clear hbT hb1 
  go_wp2_with (fail)
  ((with_reducible refine (HFW.out _ HB.out).mono ?_); rintro _ w2 ⟨few, rfl, hfew, hb2⟩; have HFE := Lib.hid hfew; clear hfew)
  have hbT := hb2
  replace HB := Lib.hid (HB.out.trans (hbT.mono HB.out.size))
  clear hbT hb2 
  cases few
  · go_wp2_with (fail)
    go_ret
    exact ⟨rfl, HB.out⟩
  obtain ⟨hpl, hln⟩ := HFE.out rfl
  have HCH := Lib.hid (ChAt.of HS.out HA.out hpl)
  have HLN := Lib.hid hln
  clear HFE hpl hln HS HA
  by_cases h12 : 12 < (m : Int)
  · go_wp2_with (fail)
    go_ret
    exact ⟨rfl, HB.out⟩
  have h12' : (m : Int) ≤ 12 := by omega
  by_cases h200 : 200 < (text.length : Int)
  · clear h12
    go_wp2_with (fail)
    go_ret
    exact ⟨rfl, HB.out⟩
  have h200' : (text.length : Int) ≤ 200 := by omega
  have HM : Hid (m ≤ 12) := Lib.hid (by omega)
  have HT : Hid (text.length ≤ 200) := Lib.hid (by omega)
  have HN : Hid (n ≤ 420) := Lib.hid (by have := HLN.out; have := HL.out; omega)
  clear h12 h200
  obtain ⟨v, hv⟩ : ∃ v, nextF (vsOf l) device day known text = v := ⟨_, rfl⟩
  obtain ⟨r, hr⟩ : ∃ r, checkF (vsOf l) = r := ⟨_, rfl⟩
  have HNX := Lib.hid (fun W (hb : Below w.heap.size w W) => Next_any W A n c l (HCH.out.below hb) (by have := HN.out; omega) device day B m d known (HKN.out.below hb) text (by have := HT.out; omega) v hv)
  have HCK := Lib.hid (fun W (hb : Below w.heap.size w W) => Check_any W A n c l (HCH.out.below hb) r hr)
  have HR := Lib.hid hr
  have HV := Lib.hid hv
  rw [hv] at hv2
  have HVN := Lib.hid hv2
  clear hv2
  clear hr hv HTX
  go_wp2_with (fail)
  ((with_reducible refine (HNX.out _ HB.out).mono ?_); rintro _ w3 ⟨⟨⟨xd, xn, xy, xs, xt⟩, xA, xc⟩, hxv, rfl, hxf, hb3⟩; simp only [EntC.cells]; have HXV := Lib.hid hxv; have S3 := Lib.hid hxf.1; clear hxv hxf)
  have hbT := hb3
  replace HB := Lib.hid (HB.out.trans (hbT.mono HB.out.size))
  clear hbT hb3 
  obtain ⟨nx, hnx⟩ : ∃ nx, xs.length = nx := ⟨_, rfl⟩
  simp only [hnx] at S3 ⊢
  have HNL := Lib.hid hnx
  clear hnx
  go_upto_region 5 with (fail)
  have HW4 := Lib.hid (below_alloc w3 (.cells #[.int .i64 xd, .int .i64 xn, .int .i64 xy, .slice xA nx xc, .string ⟨xt.toArray⟩] 24))
  have Y := Lib.hid (Loc.new_ w3 #[.int .i64 xd, .int .i64 xn, .int .i64 xy, .slice xA nx xc, .string ⟨xt.toArray⟩] 24)
  replace HB := Lib.hid (HB.out.trans (HW4.out.mono HB.out.size))
  replace S3 := Lib.hid (S3.out.below HW4.out)
  clear HW4
  generalize hWd : w3.alloc (.cells #[.int .i64 xd, .int .i64 xn, .int .i64 xy, .slice xA nx xc, .string ⟨xt.toArray⟩] 24) = W at *
  clear hWd
  generalize w3.heap.size = y at *
  go_cut [14] (fun s14 wx => ∃ b14 : Bool, s14 = .bool b14 ∧ MayIs (vsOf l) device day known 0 b14 ∧ Below W.heap.size W wx)
  case first =>
    have HBW := Lib.hid (Below.refl W.heap.size W)

    by_cases hc : 0 ≤ device
    case neg =>
      have hd : decide (0 ≤ device) = false := decide_eq_false hc
      have hdi : device < 0 := by omega
      skip
      have HNO := Lib.hid (MayIs.no (l := vsOf l) (device := device) (day := day) (known := known) (fun h => hc h.d0))
      clear hc
      go_wp2_with (fail)
      go_meet
      exact ⟨_, rfl, HNO.out, HBW.out⟩
    have hd0 := hc
    clear hc
    by_cases hc : device < 8
    case neg =>
      have hd : decide (device < 8) = false := decide_eq_false hc
      have hdi : 8 ≤ device := by omega
      skip
      have HNO := Lib.hid (MayIs.no (l := vsOf l) (device := device) (day := day) (known := known) (fun h => hc h.d1))
      clear hc
      go_wp2_with (fail)
      go_meet
      exact ⟨_, rfl, HNO.out, HBW.out⟩
    have hd1 := hc
    clear hc
    by_cases hc : m = 8
    case neg =>
      have hd : ((m : Int) == 8) = false := by rw [beq_eq_false_iff_ne]; omega
      have hdi : ¬ ((m : Int) = 8) := by omega
      skip
      have HNO := Lib.hid (MayIs.no (l := vsOf l) (device := device) (day := day) (known := known) (fun h => hc (HKL.out.symm.trans h.len)))
      clear hc
      go_wp2_with (fail)
      go_meet
      exact ⟨_, rfl, HNO.out, HBW.out⟩
    have HM8 := Lib.hid hc
    have hmb : ((m : Int) == 8) = true := by rw [beq_iff_eq]; omega
    have hmi : (m : Int) = 8 := by omega
    clear hc
    go_wp2_with (fail)
    ((with_reducible refine (HCK.out _ HB.out).mono ?_); rintro _ w5 ⟨rfl, hb5⟩)
    have hbT := hb5
    replace HB := Lib.hid (HB.out.trans (hbT.mono HB.out.size))
    replace HBW := Lib.hid (HBW.out.trans (hbT.mono HBW.out.size))
    clear hbT hb5 
    by_cases hc : r = 0
    case neg =>
      have hd : (r == 0) = false := by rw [beq_eq_false_iff_ne]; exact hc
      have hdi : ¬ (r = 0) := hc
      skip
      have HNO := Lib.hid (MayIs.no (l := vsOf l) (device := device) (day := day) (known := known) (fun h => hc (HR.out.symm.trans h.chk)))
      clear hc
      go_wp2_with (fail)
      go_meet
      exact ⟨_, rfl, HNO.out, HBW.out⟩
    have HR0 := Lib.hid hc
    have hrb : (r == 0) = true := by rw [beq_iff_eq]; exact hc
    clear hc
    by_cases hc : n < 400
    case neg =>
      have hd : decide ((n : Int) < 400) = false := decide_eq_false (by omega)
      have hdi : 400 ≤ (n : Int) := by omega
      skip
      have HNO := Lib.hid (MayIs.no (l := vsOf l) (device := device) (day := day) (known := known) (fun h => hc (by have h1 := h.room; rw [vsOf_len, HL.out] at h1; exact h1)))
      clear hc
      go_wp2_with (fail)
      go_meet
      exact ⟨_, rfl, HNO.out, HBW.out⟩
    have HN4 := Lib.hid hc
    have hni : (n : Int) < 400 := by omega
    clear hc
    by_cases hc : 0 ≤ day
    case neg =>
      have hd : decide (0 ≤ day) = false := decide_eq_false hc
      have hdi : day < 0 := by omega
      skip
      have HNO := Lib.hid (MayIs.no (l := vsOf l) (device := device) (day := day) (known := known) (fun h => hc h.y0))
      clear hc
      go_wp2_with (fail)
      go_meet
      exact ⟨_, rfl, HNO.out, HBW.out⟩
    have hy0 := hc
    clear hc
    by_cases hc : day ≤ 100000
    case neg =>
      have hd : decide (day ≤ 100000) = false := decide_eq_false hc
      have hdi : 100000 < day := by omega
      skip
      have HNO := Lib.hid (MayIs.no (l := vsOf l) (device := device) (day := day) (known := known) (fun h => hc h.y1))
      clear hc
      go_wp2_with (fail)
      go_meet
      exact ⟨_, rfl, HNO.out, HBW.out⟩
    have HYES := Lib.hid (MayIs.yes (l := vsOf l) (device := device) (day := day) (known := known) ⟨hd0, hd1, HKL.out.trans HM8.out, HR.out.trans HR0.out, by rw [vsOf_len, HL.out]; exact HN4.out, hy0, hc⟩)
    go_wp2_with (fail)
    go_meet
    exact ⟨_, rfl, HYES.out, HBW.out⟩
  case rest =>
    obtain ⟨b14, rfl, hm14, hbx⟩ := hcut
    have HM0 := Lib.hid hm14
    replace HB := Lib.hid (HB.out.trans (hbx.mono HB.out.size))
    replace Y := Lib.hid (Y.out.below hbx)
    replace S3 := Lib.hid (S3.out.below hbx)
    clear hm14 hbx HNX HCK
    go_wp2_with (fail)
    go_loopw [14, 15] (fun mv iv wr => ∃ (k : Nat) (b : Bool), k ≤ m ∧ iv = .int .i64 (k : Int) ∧ mv = .bool b ∧ MayIs (vsOf l) device day known k b ∧ Below wc.heap.size wc wr) (fun _ i _ => m - (Go.RowKit.intOf i).toNat)
    case atStart => exact ⟨0, b14, Nat.zero_le _, rfl, rfl, HM0.out, Below.refl _ _⟩
    case round =>
      obtain ⟨k, bm, hk, rfl, rfl, hm, hb⟩ := hrel
      obtain ⟨wo, rfl⟩ : ∃ wo : World, wo = wr := ⟨_, rfl⟩
      have HMI := Lib.hid hm
      have HBO := Lib.hid hb
      have HKM := Lib.hid hk
      clear hm hb hk
      by_cases hlt : k < m
      case neg =>
        obtain rfl : k = m := by have := HKM.out; omega
        have hki : (k : Int) ≤ (k : Int) := Int.le_refl _
        have HFI := Lib.hid (HMI.out.final (text := text) (by have := HT.out; omega) (by rw [HKL.out]; exact Nat.le_refl _) (.inl HKL.out.symm))
        clear hlt
        cases bm
        · have HV2 : Hid (v.2 ≠ 0) := Lib.hid (by rw [← HV.out]; intro h; cases HFI.out.1 h)
          have hvz : v.1 = .zero := by have h := nextF_no (l := vsOf l) (device := device) (day := day) (known := known) (text := text) (by rw [HV.out]; exact HV2.out); rwa [HV.out] at h
          have hzv := HXV.out.trans hvz
          simp only [EntV.zero, EntV.mk.injEq] at hzv
          obtain ⟨rfl, rfl, rfl, rfl, rfl⟩ := hzv
          obtain rfl : 0 = nx := HNL.out
          have HSZ : Hid (∀ W : World, Sl W 1 xA 0 [] → Calls Tryd.prog 13 #[.agg #[.int .i64 0, .int .i64 0, .int .i64 0, .slice xA 0 xc, .string ⟨#[]⟩], .agg #[.int .i64 0, .int .i64 0, .int .i64 0, .slice none 0 0, .string ⟨#[]⟩]] W fun x w' => x = .returned (.bool true) ∧ Below W.heap.size W w') := Lib.hid (fun W hz => RSame_any W ⟨⟨0, 0, 0, [], []⟩, xA, xc⟩ ⟨⟨0, 0, 0, [], []⟩, none, 0⟩ hz (Sl.nil_ W 1 none) (by show 0 ≤ _; omega) true (sameB_true.2 rfl))
          have hvb : (v.2 == 0) = false := by rw [beq_eq_false_iff_ne]; exact HV2.out
          have hvn : (v.2 != 0) = true := by rw [bne_iff_ne]; exact HV2.out
          replace HB := Lib.hid (HB.out.trans (HBO.out.mono HB.out.size))
          replace Y := Lib.hid (Y.out.below HBO.out)
          replace S3 := Lib.hid (S3.out.below HBO.out)
          clear hvz
          obtain ⟨zY, kY, fY⟩ := Y.out
          go_wp2_with (fail)
          ((with_reducible refine (HSZ.out _ S3.out).mono ?_); rintro _ w6 ⟨rfl, hb6⟩)
          have hbT := hb6
          replace HB := Lib.hid (HB.out.trans (hbT.mono HB.out.size))
          replace Y := Lib.hid (Y.out.below hbT)
          replace S3 := Lib.hid (S3.out.below hbT)
          clear hbT hb6 zY kY fY
          go_wp2_with (fail)
          go_ret
          exact ⟨rfl, HB.out⟩
        have HV2 : Hid (v.2 = 0) := Lib.hid (by rw [← HV.out]; exact HFI.out.2 rfl)
        exact absurd HV2.out HVN.out
      have hki : (k : Int) < (m : Int) := by omega
      have hk0 : (0 : Int) ≤ (k : Int) := by omega
      cases bm
      · have HFI := Lib.hid (HMI.out.final (text := text) (by have := HT.out; omega) (by rw [HKL.out]; omega) (.inr rfl))
        have HV2 : Hid (v.2 ≠ 0) := Lib.hid (by rw [← HV.out]; intro h; cases HFI.out.1 h)
        clear hlt
        have hvz : v.1 = .zero := by have h := nextF_no (l := vsOf l) (device := device) (day := day) (known := known) (text := text) (by rw [HV.out]; exact HV2.out); rwa [HV.out] at h
        have hzv := HXV.out.trans hvz
        simp only [EntV.zero, EntV.mk.injEq] at hzv
        obtain ⟨rfl, rfl, rfl, rfl, rfl⟩ := hzv
        obtain rfl : 0 = nx := HNL.out
        have HSZ : Hid (∀ W : World, Sl W 1 xA 0 [] → Calls Tryd.prog 13 #[.agg #[.int .i64 0, .int .i64 0, .int .i64 0, .slice xA 0 xc, .string ⟨#[]⟩], .agg #[.int .i64 0, .int .i64 0, .int .i64 0, .slice none 0 0, .string ⟨#[]⟩]] W fun x w' => x = .returned (.bool true) ∧ Below W.heap.size W w') := Lib.hid (fun W hz => RSame_any W ⟨⟨0, 0, 0, [], []⟩, xA, xc⟩ ⟨⟨0, 0, 0, [], []⟩, none, 0⟩ hz (Sl.nil_ W 1 none) (by show 0 ≤ _; omega) true (sameB_true.2 rfl))
        have hvb : (v.2 == 0) = false := by rw [beq_eq_false_iff_ne]; exact HV2.out
        have hvn : (v.2 != 0) = true := by rw [bne_iff_ne]; exact HV2.out
        replace HB := Lib.hid (HB.out.trans (HBO.out.mono HB.out.size))
        replace Y := Lib.hid (Y.out.below HBO.out)
        replace S3 := Lib.hid (S3.out.below HBO.out)
        clear hvz
        obtain ⟨zY, kY, fY⟩ := Y.out
        go_wp2_with (fail)
        ((with_reducible refine (HSZ.out _ S3.out).mono ?_); rintro _ w6 ⟨rfl, hb6⟩)
        have hbT := hb6
        replace HB := Lib.hid (HB.out.trans (hbT.mono HB.out.size))
        replace Y := Lib.hid (Y.out.below hbT)
        replace S3 := Lib.hid (S3.out.below hbT)
        clear hbT hb6 zY kY fY
        go_wp2_with (fail)
        go_ret
        exact ⟨rfl, HB.out⟩
      have HMY := Lib.hid HMI.out.may0
      have HLT := Lib.hid hlt
      obtain ⟨x, hx⟩ : ∃ x, known[k]? = some x := ⟨_, List.getElem?_eq_getElem (by rw [HKL.out]; exact hlt)⟩
      have HX := Lib.hid hx
      obtain ⟨bk, ok, rfl, hbl, c0⟩ := (HKN.out.below (HB.out.trans (HBO.out.mono HB.out.size))).at1 (k := k) (v := .int .i64 x) (by rw [List.getElem?_map, HX.out]; rfl)
      have hwk : IntKind.i64.wrap ((k : Int) + 1) = (k : Int) + 1 := IntWalk.i64_in _ (by have := HM.out; omega)
      have HNX4 : Hid (n ≤ 400) := Lib.hid (by have h := HMY.out.room; rw [vsOf_len, HL.out] at h; omega)
      clear hx hlt
      have HOUT := Lib.hid (fun (b : Bool) (W : World) (h : mayStep (vsOf l) device day known k = b) (hb : Below wo.heap.size wo W) => (show ∃ (k1 : Nat) (b1 : Bool), k1 ≤ m ∧ Value.int .i64 ((k : Int) + 1) = .int .i64 (k1 : Int) ∧ Value.bool b = .bool b1 ∧ MayIs (vsOf l) device day known k1 b1 ∧ Below wc.heap.size wc W from ⟨k + 1, b, HLT.out, by go_num, rfl, HMI.out.next h, HBO.out.trans (hb.mono HBO.out.size)⟩))

      by_cases hkd : (k : Int) = device
      · have hkb : ((k : Int) == device) = true := by rw [beq_iff_eq]; exact hkd
        have HKD := Lib.hid hkd
        clear hkd
        by_cases hn : n = 0
        · have hnb : (n : Int) ≤ 0 := by omega
          have HST : Hid (mayStep (vsOf l) device day known k = true) := Lib.hid (by rw [step_dev HKD.out, last_none (HL.out.trans hn)])
          clear hn
          go_wp2_with (fail)
          go_roundw
          case rel => exact HOUT.out true _ (HST.out) (Below.refl _ _)
          case measure => have := HLT.out; simp [Go.RowKit.intOf]; omega
        obtain ⟨q, hq⟩ : ∃ q, n = q + 1 := ⟨n - 1, by omega⟩
        obtain ⟨p, hp⟩ : ∃ p, l[q]? = some p := ⟨_, List.getElem?_eq_getElem (by rw [HL.out]; omega)⟩
        have hgl := last_at (HL.out.trans hq) hp
        have HST := Lib.hid ((step_dev (l := vsOf l) (day := day) (known := known) HKD.out))
        rw [hgl] at HST
        have hn0 : 0 < (n : Int) := by omega
        have hqn : (q : Int) < (n : Int) := by omega
        have hq0 : (0 : Int) ≤ (q : Int) := by omega
        have hwn : IntKind.i64.wrap ((n : Int) - 1) = (q : Int) := by rw [IntWalk.i64_in _ (by have := HNX4.out; omega)]; omega
        have hpk := check_at HMY.out.chk (vsOf_at hp)
        have hO := HCH.out.below (HB.out.trans (HBO.out.mono HB.out.size))
        obtain ⟨b, o, rfl, hbl2, e0, e1, e2, e3, e4⟩ := ent_at hO.sl hp
        have HPA := Lib.hid (hO.at_ p (List.mem_of_getElem? hp))
        rw [hpk.right.len] at e3
        have HP8 := Lib.hid hpk.right.len
        have hk8 : (k : Int) < 8 := by have h := HMY.out.len; rw [HKL.out] at h; omega
        clear hn hq hp hgl hpk hO
        by_cases hpd : p.v.dev = device
        case neg =>
          have hpb : (p.v.dev == device) = false := by rw [beq_eq_false_iff_ne]; exact hpd
          have HS2 : Hid (mayStep (vsOf l) device day known k = false) := Lib.hid (by rw [HST.out]; simp [hpd])
          clear hpd
          go_wp2_with (fail)
          go_roundw
          case rel => exact HOUT.out false _ (HS2.out) (below_alloc _ _)
          case measure => have := HLT.out; simp [Go.RowKit.intOf]; omega
        have hpb : (p.v.dev == device) = true := by rw [beq_iff_eq]; exact hpd
        have HPD := Lib.hid hpd
        clear hpd
        by_cases hpy : p.v.day ≤ day
        case neg =>
          have hyb : decide (p.v.day ≤ day) = false := decide_eq_false hpy
          have hyb2 : day < p.v.day := by omega
          have HS2 : Hid (mayStep (vsOf l) device day known k = false) := Lib.hid (by rw [HST.out]; simp [hpy])
          clear hpy
          go_wp2_with (fail)
          go_roundw
          case rel => exact HOUT.out false _ (HS2.out) (below_alloc _ _)
          case measure => have := HLT.out; simp [Go.RowKit.intOf]; omega
        have HPY := Lib.hid hpy
        have HS2 : Hid (mayStep (vsOf l) device day known k = true) := Lib.hid (by rw [HST.out]; simp [HPD.out, HPY.out])
        go_wp2_with (fail)
        go_quiet (fail)
        go_wp2_with (fail)
        go_roundw
        case rel => exact HOUT.out true _ (HS2.out) (bdrewN (below_alloc _ _) _)
        case measure => have := HLT.out; simp [Go.RowKit.intOf]; omega
      have hkb : ((k : Int) == device) = false := by rw [beq_eq_false_iff_ne]; exact hkd
      have HKD := Lib.hid hkd
      clear hkd
      by_cases hx0 : 0 ≤ x
      case neg =>
        have hxb : decide (0 ≤ x) = false := decide_eq_false hx0
        have hxi : x < 0 := by omega
        have HST : Hid (mayStep (vsOf l) device day known k = false) := Lib.hid (step_out HX.out HKD.out (.inl hxi))
        clear hx0
        go_wp2_with (fail)
        all_goals
          go_roundw
          case rel => exact HOUT.out false _ (HST.out) (Below.refl _ _)
          case measure => have := HLT.out; simp [Go.RowKit.intOf]; omega
      by_cases hx4 : x ≤ 400
      case neg =>
        have hxb : decide (x ≤ 400) = false := decide_eq_false hx4
        have hxi : 400 < x := by omega
        have HST : Hid (mayStep (vsOf l) device day known k = false) := Lib.hid (step_out HX.out HKD.out (.inr hxi))
        clear hx4
        go_wp2_with (fail)
        all_goals
          go_roundw
          case rel => exact HOUT.out false _ (HST.out) (Below.refl _ _)
          case measure => have := HLT.out; simp [Go.RowKit.intOf]; omega
      have HX0 := Lib.hid hx0
      have HX4 := Lib.hid hx4
      by_cases hn : n = 0
      · have hnb : (n : Int) ≤ 0 := by omega
        have HST : Hid (mayStep (vsOf l) device day known k = true) := Lib.hid (by rw [step_in HX.out HKD.out HX0.out HX4.out, last_none (HL.out.trans hn)])
        clear hn
        go_wp2_with (fail)
        go_roundw
        case rel => exact HOUT.out true _ (HST.out) (Below.refl _ _)
        case measure => have := HLT.out; simp [Go.RowKit.intOf]; omega
      obtain ⟨q, hq⟩ : ∃ q, n = q + 1 := ⟨n - 1, by omega⟩
      obtain ⟨p, hp⟩ : ∃ p, l[q]? = some p := ⟨_, List.getElem?_eq_getElem (by rw [HL.out]; omega)⟩
      have hgl := last_at (HL.out.trans hq) hp
      have HST := Lib.hid ((step_in (l := vsOf l) (day := day) HX.out HKD.out HX0.out HX4.out))
      rw [hgl] at HST
      have hn0 : 0 < (n : Int) := by omega
      have hqn : (q : Int) < (n : Int) := by omega
      have hq0 : (0 : Int) ≤ (q : Int) := by omega
      have hwn : IntKind.i64.wrap ((n : Int) - 1) = (q : Int) := by rw [IntWalk.i64_in _ (by have := HNX4.out; omega)]; omega
      have hpk := check_at HMY.out.chk (vsOf_at hp)
      have hO := HCH.out.below (HB.out.trans (HBO.out.mono HB.out.size))
      obtain ⟨b, o, rfl, hbl2, e0, e1, e2, e3, e4⟩ := ent_at hO.sl hp
      have HPA := Lib.hid (hO.at_ p (List.mem_of_getElem? hp))
      rw [hpk.right.len] at e3
      have HP8 := Lib.hid hpk.right.len
      have hk8 : (k : Int) < 8 := by have h := HMY.out.len; rw [HKL.out] at h; omega
      clear hn hq hp hgl hpk hO
      by_cases hpd : p.v.dev = device
      case neg =>
        have hpb : (p.v.dev == device) = false := by rw [beq_eq_false_iff_ne]; exact hpd
        have HS2 : Hid (mayStep (vsOf l) device day known k = false) := Lib.hid (by rw [HST.out]; simp [hpd])
        clear hpd
        go_wp2_with (fail)
        go_roundw
        case rel => exact HOUT.out false _ (HS2.out) (below_alloc _ _)
        case measure => have := HLT.out; simp [Go.RowKit.intOf]; omega
      have hpb : (p.v.dev == device) = true := by rw [beq_iff_eq]; exact hpd
      have HPD := Lib.hid hpd
      clear hpd
      by_cases hpy : p.v.day ≤ day
      case neg =>
        have hyb : decide (p.v.day ≤ day) = false := decide_eq_false hpy
        have hyb2 : day < p.v.day := by omega
        have HS2 : Hid (mayStep (vsOf l) device day known k = false) := Lib.hid (by rw [HST.out]; simp [hpy])
        clear hpy
        go_wp2_with (fail)
        go_roundw
        case rel => exact HOUT.out false _ (HS2.out) (below_alloc _ _)
        case measure => have := HLT.out; simp [Go.RowKit.intOf]; omega
      have HPY := Lib.hid hpy
      obtain ⟨z, hz⟩ : ∃ z, p.v.seen[k]? = some z := ⟨_, List.getElem?_eq_getElem (by rw [HP8.out]; omega)⟩
      obtain ⟨b2, o2, hA2, hbl3, f0⟩ := HPA.out.at1 (k := k) (v := .int .i64 z) (by rw [List.getElem?_map, hz]; rfl)
      rw [hA2] at e3
      have HZD := Lib.hid (getD_of hz)
      clear hA2 hz
      by_cases hzx : z ≤ x
      · have HS2 : Hid (mayStep (vsOf l) device day known k = true) := Lib.hid (by have h := HZD.out; rw [HST.out]; simp only [h]; simp [HPD.out, HPY.out, hzx])
        go_wp2_with (fail)
        go_quiet (fail)
        go_wp2_with (fail)
        go_roundw
        case rel => exact HOUT.out true _ (HS2.out) (bdrewN (below_alloc _ _) _)
        case measure => have := HLT.out; simp [Go.RowKit.intOf]; omega
      · have hzb : decide (z ≤ x) = false := decide_eq_false hzx
        have hzb2 : x < z := by omega
        have HS2 : Hid (mayStep (vsOf l) device day known k = false) := Lib.hid (by have h := HZD.out; rw [HST.out]; simp only [h]; simp [HPD.out, HPY.out, hzx])
        clear hzx
        go_wp2_with (fail)
        go_quiet (fail)
        go_wp2_with (fail)
        go_roundw
        case rel => exact HOUT.out false _ (HS2.out) (bdrewN (below_alloc _ _) _)
        case measure => have := HLT.out; simp [Go.RowKit.intOf]; omega
end Go.Proofs.YtindfkekinpchaaDoor
