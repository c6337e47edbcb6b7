/- kerbsidelaw01: WireReads, walked (written by wip/gen_wirelg.py). -/
import Derived.Test.YtmceahmngifcgaaDoorWireLF
namespace Go.Proofs.YtmceahmngifcgaaDoor
open Go.RowKit Go.Sort Go.Lib

theorem step_ok {α : Type} {one : RdV → α × RdV} (hs : Steps one) {r : RdV} (h : r.ok) : (one r).2.ok ∧ (one r).2.rest.length ≤ r.rest.length := by
  obtain ⟨h1, h2⟩ := hs r h
  refine ⟨h1, ?_⟩
  rcases h2 with h2 | h2
  · exact Nat.le_of_lt h2
  · rw [h2]; exact Nat.zero_le _
set_option maxRecDepth 100000 in
set_option maxHeartbeats 64000000 in
theorem reads_any (w : World) (hE : Env w.heap.size w) (s : List UInt8) (hsm : s.length ≤ maxLen) (A : Option Addr) (n c : Nat) (l : List Int) (hs : Sl w 1 A n (l.map intC)) (hl : ∀ u ∈ l, inI u) (hn : n ≤ maxLen) :
    Calls Tryd.prog 7 #[.string ⟨s.toArray⟩, .slice A n c] w fun e w' => e = .returned (.bool true) ∧ Below w.heap.size w w' := by
  have hll : l.length = n := by simpa using hs.1
  have HSM := Lib.hid (small_any w hE (Nat.le_refl _))
  have HE := Lib.hid (fun W (hb : Below w.heap.size w W) => hE.below hb)
  have HSL := Lib.hid (fun W (hb : Below w.heap.size w W) => hs.below hb)
  have HO := Lib.hid hl
  have HL := Lib.hid hll
  have hsz := str_size s
  have HB := Lib.hid (Below.refl w.heap.size w)
  unfold maxLen at hsm hn
  clear hE hs hl hll
  by_cases h400 : 400 < (s.length : Int)
  · clear hsm hn
    go_enter Tryd.func7, Tryd.ntmps7
    go_wp2_with (fail)
    ((with_reducible refine (HSM.out).mono ?_); rintro _ w1 ⟨rfl, hb1⟩)
    have hbT := hb1
    replace HB := Lib.hid (HB.out.trans (hbT.mono HB.out.size))
    clear hbT hb1 
    go_wp2_with (fail)
    go_ret
    exact ⟨rfl, HB.out⟩
  have h4 : (s.length : Int) ≤ 400 := by omega
  by_cases h20 : 20 < (n : Int)
  · clear hsm hn h400
    go_enter Tryd.func7, Tryd.ntmps7
    go_wp2_with (fail)
    ((with_reducible refine (HSM.out).mono ?_); rintro _ w1 ⟨rfl, hb1⟩)
    have hbT := hb1
    replace HB := Lib.hid (HB.out.trans (hbT.mono HB.out.size))
    clear hbT hb1 
    go_wp2_with (fail)
    go_ret
    exact ⟨rfl, HB.out⟩
  have h2 : (n : Int) ≤ 20 := by omega
  have HS4 : Hid (s.length ≤ 400) := Lib.hid (by omega)
  have HN20 : Hid (n ≤ 20) := Lib.hid (by omega)
  have HOP := Lib.hid (fun W => Open_any W s)
  have HOQ := Lib.hid (fun W => ROpen_any W s)
  clear hsm hn h400 h20
  go_enter Tryd.func7, Tryd.ntmps7
  go_wp2_with (fail)
  ((with_reducible refine (HSM.out).mono ?_); rintro _ w1 ⟨rfl, hb1⟩)
  have hbT := hb1
  replace HB := Lib.hid (HB.out.trans (hbT.mono HB.out.size))
  clear hbT hb1 
  go_wp2_with (fail)
  ((with_reducible refine (HOP.out _).mono ?_); rintro _ w2 ⟨rfl, h2r, hb2⟩)
  have HB2 := Lib.hid (HB.out.trans (hb2.mono HB.out.size))
  have HBB1 := Lib.hid HB.out.size
  obtain ⟨b1, hb1⟩ : ∃ b, w1.heap.size = b := ⟨_, rfl⟩
  rw [hb1] at h2r HBB1
  rw [hb1]
  have H2 := Lib.hid h2r
  clear hb2 h2r hb1
  go_wp2_with (fail)
  ((with_reducible refine (HOQ.out _).mono ?_); rintro _ w3 ⟨rfl, h3r, hb3⟩)
  have HB3 := Lib.hid (HB2.out.trans (hb3.mono HB2.out.size))
  have H13 := Lib.hid (H2.out.below hb3)
  have HBB2 := Lib.hid HB2.out.size
  have HNE : Hid ((some b1 : Option Nat) ≠ some w2.heap.size) := Lib.hid (fun e => by have := Loc.lt H2.out; injection e with e; omega)
  obtain ⟨b2, hb2⟩ : ∃ b, w2.heap.size = b := ⟨_, rfl⟩
  rw [hb2] at h3r HNE HBB2
  rw [hb2]
  have H23 := Lib.hid h3r
  have HNE2 : Hid ((some b2 : Option Nat) ≠ some b1) := Lib.hid (fun e => HNE.out e.symm)
  clear hb3 h3r hb2 H2
  go_wp2_with (fail)
  go_loopw [8] (fun iv wr => ∃ (j : Nat) (r : RdV), j ≤ n ∧ iv = .int .i64 (j : Int) ∧ Below w.heap.size w wr ∧ RdAt wr b1 r ∧ RdAt wr b2 r ∧ r.ok ∧ r.rest.length ≤ 400) (fun i _ => n - (Go.RowKit.intOf i).toNat)
  case atStart => exact ⟨0, ⟨s, false⟩, Nat.zero_le _, rfl, HB3.out, H13.out, H23.out, ok_of rfl, HS4.out⟩
  case round =>
    obtain ⟨j, r, hj, rfl, hb, hr1, hr2, hok, hrl⟩ := hrel
    obtain ⟨wp, rfl⟩ : ∃ wp : World, wp = wr := ⟨_, rfl⟩
    have HBP := Lib.hid hb
    have HR1 := Lib.hid hr1
    have HR2 := Lib.hid hr2
    have HOK := Lib.hid hok
    have HRL := Lib.hid hrl
    clear hb hr1 hr2 hok hrl H13 H23 HB3
    by_cases hlt : j < n
    · obtain ⟨u, hx⟩ : ∃ u, l[j]? = some u := ⟨_, List.getElem?_eq_getElem (by rw [HL.out]; exact hlt)⟩
      have hum := HO.out u (List.mem_of_getElem? hx)
      obtain ⟨b, o, rfl, hbl, c0⟩ := (HSL.out wp HBP.out).at1 (k := j) (v := .int .i64 u) (by rw [List.getElem?_map, hx]; rfl)
      have hki : (j : Int) < (n : Int) := by omega
      have hk0 : (0 : Int) ≤ (j : Int) := by omega
      have hwk : IntKind.i64.wrap ((j : Int) + 1) = (j : Int) + 1 := IntWalk.i64_in _ (by have := HN20.out; omega)
      have HLT := Lib.hid hlt
      have hkc := kindF_rng u
      clear hx hlt hj
      rcases hkc with hk | hk | hk | hk | hk
      · have HK := Lib.hid (fun W => kind_any W u 0 ⟨#[]⟩ (.slice none 0 0) (.slice none 0 0) hum 0 hk)
        have hkeep := numF_keeps (e := 59) (least := 0) HOK.out
        obtain ⟨⟨m, r2⟩, hm⟩ : ∃ y, natF r = y := ⟨_, rfl⟩
        have hkeep2 : r2.ok ∧ r2.rest.length ≤ 400 := by
          have h := hkeep
          have e : natF r = (m, r2) := hm
          unfold natF at e
          rw [e] at h
          exact ⟨h.1, Nat.le_trans h.2 HRL.out⟩
        have HOK2 := Lib.hid hkeep2
        have C1 := Lib.hid (fun W (hb : Below w.heap.size w W) (h : RdAt W b1 r) => NumM_any h (HE.out W hb) HBB1.out (by have := HRL.out; omega) _ hm)
        have C2 := Lib.hid (fun W (h : RdAt W b2 r) => RNumM_any h (by have := HRL.out; omega) _ hm)
        clear hkeep hkeep2 hm hk hum
        go_wp2_with (fail)
        ((with_reducible refine (HK.out _).mono ?_); rintro _ w4 ⟨rfl, hb4⟩)
        have HB4 := Lib.hid (HBP.out.trans (hb4.mono HBP.out.size))
        have P1 := Lib.hid (HR1.out.below hb4)
        have P2 := Lib.hid (HR2.out.below hb4)
        clear hb4
        go_wp2_with (fail)
        ((with_reducible refine (C1.out _ HB4.out P1.out).mono ?_); rintro _ w5 ⟨rfl, h5, g5⟩)
        have HB5 := Lib.hid (HB4.out.trans (below_row HBB1.out HB4.out.size g5))
        have Q1 := Lib.hid h5
        have Q2 := Lib.hid (P2.out.grown g5 HNE.out)
        clear h5 g5
        go_wp2_with (fail)
        ((with_reducible refine (C2.out _ Q2.out).mono ?_); rintro _ w6 ⟨rfl, h6, g6⟩)
        have HBZ := Lib.hid (HB5.out.trans (below_row HBB2.out HB5.out.size g6))
        have K1 := Lib.hid (Q1.out.grown g6 HNE2.out)
        have K2 := Lib.hid h6
        clear h6 g6
        have HL1 := Lib.hid (Left_any K1.out _ rfl)
        have HL2 := Lib.hid (RLeft_any K2.out _ rfl)
        obtain ⟨d, hd⟩ : ∃ d, doneB r2 = d := ⟨_, rfl⟩
        have HD1 := Lib.hid (Done_any K1.out d hd)
        have HD2 := Lib.hid (RDone_any K2.out d hd)
        clear hd
        generalize (r2.rest.length : Int) = ln at *
        go_wp2_with (first | ((with_reducible refine (HL1.out).mono ?_); rintro _ w9 ⟨rfl, hw9⟩; obtain rfl := hw9) | ((with_reducible refine (HL2.out).mono ?_); rintro _ w9 ⟨rfl, hw9⟩; obtain rfl := hw9) | ((with_reducible refine (HD1.out).mono ?_); rintro _ w9 ⟨rfl, hw9⟩; obtain rfl := hw9) | ((with_reducible refine (HD2.out).mono ?_); rintro _ w9 ⟨rfl, hw9⟩; obtain rfl := hw9))
        go_roundw
        case rel => exact ⟨j + 1, r2, HLT.out, by go_num, HBZ.out, K1.out, K2.out, HOK2.out.1, HOK2.out.2⟩
        case measure => have := HLT.out; simp [Go.RowKit.intOf]; omega
      · have HK := Lib.hid (fun W => kind_any W u 0 ⟨#[]⟩ (.slice none 0 0) (.slice none 0 0) hum 1 hk)
        have hkeep := numF_keeps (e := 59) (least := -9223372036854775808) HOK.out
        obtain ⟨⟨m, r2⟩, hm⟩ : ∃ y, intF r = y := ⟨_, rfl⟩
        have hkeep2 : r2.ok ∧ r2.rest.length ≤ 400 := by
          have h := hkeep
          have e : intF r = (m, r2) := hm
          unfold intF at e
          rw [e] at h
          exact ⟨h.1, Nat.le_trans h.2 HRL.out⟩
        have HOK2 := Lib.hid hkeep2
        have C1 := Lib.hid (fun W (hb : Below w.heap.size w W) (h : RdAt W b1 r) => IntM_any h (HE.out W hb) HBB1.out (by have := HRL.out; omega) _ hm)
        have C2 := Lib.hid (fun W (h : RdAt W b2 r) => RIntM_any h (by have := HRL.out; omega) _ hm)
        clear hkeep hkeep2 hm hk hum
        go_wp2_with (fail)
        ((with_reducible refine (HK.out _).mono ?_); rintro _ w4 ⟨rfl, hb4⟩)
        have HB4 := Lib.hid (HBP.out.trans (hb4.mono HBP.out.size))
        have P1 := Lib.hid (HR1.out.below hb4)
        have P2 := Lib.hid (HR2.out.below hb4)
        clear hb4
        go_wp2_with (fail)
        ((with_reducible refine (C1.out _ HB4.out P1.out).mono ?_); rintro _ w5 ⟨rfl, h5, g5⟩)
        have HB5 := Lib.hid (HB4.out.trans (below_row HBB1.out HB4.out.size g5))
        have Q1 := Lib.hid h5
        have Q2 := Lib.hid (P2.out.grown g5 HNE.out)
        clear h5 g5
        go_wp2_with (fail)
        ((with_reducible refine (C2.out _ Q2.out).mono ?_); rintro _ w6 ⟨rfl, h6, g6⟩)
        have HBZ := Lib.hid (HB5.out.trans (below_row HBB2.out HB5.out.size g6))
        have K1 := Lib.hid (Q1.out.grown g6 HNE2.out)
        have K2 := Lib.hid h6
        clear h6 g6
        have HL1 := Lib.hid (Left_any K1.out _ rfl)
        have HL2 := Lib.hid (RLeft_any K2.out _ rfl)
        obtain ⟨d, hd⟩ : ∃ d, doneB r2 = d := ⟨_, rfl⟩
        have HD1 := Lib.hid (Done_any K1.out d hd)
        have HD2 := Lib.hid (RDone_any K2.out d hd)
        clear hd
        generalize (r2.rest.length : Int) = ln at *
        go_wp2_with (first | ((with_reducible refine (HL1.out).mono ?_); rintro _ w9 ⟨rfl, hw9⟩; obtain rfl := hw9) | ((with_reducible refine (HL2.out).mono ?_); rintro _ w9 ⟨rfl, hw9⟩; obtain rfl := hw9) | ((with_reducible refine (HD1.out).mono ?_); rintro _ w9 ⟨rfl, hw9⟩; obtain rfl := hw9) | ((with_reducible refine (HD2.out).mono ?_); rintro _ w9 ⟨rfl, hw9⟩; obtain rfl := hw9))
        go_roundw
        case rel => exact ⟨j + 1, r2, HLT.out, by go_num, HBZ.out, K1.out, K2.out, HOK2.out.1, HOK2.out.2⟩
        case measure => have := HLT.out; simp [Go.RowKit.intOf]; omega
      · have HK := Lib.hid (fun W => kind_any W u 0 ⟨#[]⟩ (.slice none 0 0) (.slice none 0 0) hum 2 hk)
        have hkeep := step_ok textF_steps HOK.out
        obtain ⟨⟨m, r2⟩, hm⟩ : ∃ y, textF r = y := ⟨_, rfl⟩
        have hkeep2 : r2.ok ∧ r2.rest.length ≤ 400 := by
          have h := hkeep
          have e : textF r = (m, r2) := hm
          skip
          rw [e] at h
          exact ⟨h.1, Nat.le_trans h.2 HRL.out⟩
        have HOK2 := Lib.hid hkeep2
        have C1 := Lib.hid (fun W (hb : Below w.heap.size w W) (h : RdAt W b1 r) => Text_M h (HE.out W hb) HBB1.out HOK.out (by have := HRL.out; omega) _ hm)
        have C2 := Lib.hid (fun W (h : RdAt W b2 r) => RText_M h HOK.out (by have := HRL.out; omega) _ hm)
        clear hkeep hkeep2 hm hk hum
        go_wp2_with (fail)
        ((with_reducible refine (HK.out _).mono ?_); rintro _ w4 ⟨rfl, hb4⟩)
        have HB4 := Lib.hid (HBP.out.trans (hb4.mono HBP.out.size))
        have P1 := Lib.hid (HR1.out.below hb4)
        have P2 := Lib.hid (HR2.out.below hb4)
        clear hb4
        go_wp2_with (fail)
        ((with_reducible refine (C1.out _ HB4.out P1.out).mono ?_); rintro _ w5 ⟨rfl, h5, g5⟩)
        have HB5 := Lib.hid (HB4.out.trans (below_row HBB1.out HB4.out.size g5))
        have Q1 := Lib.hid h5
        have Q2 := Lib.hid (P2.out.grown g5 HNE.out)
        clear h5 g5
        go_wp2_with (fail)
        ((with_reducible refine (C2.out _ Q2.out).mono ?_); rintro _ w6 ⟨rfl, h6, g6⟩)
        have HBZ := Lib.hid (HB5.out.trans (below_row HBB2.out HB5.out.size g6))
        have K1 := Lib.hid (Q1.out.grown g6 HNE2.out)
        have K2 := Lib.hid h6
        clear h6 g6
        have HL1 := Lib.hid (Left_any K1.out _ rfl)
        have HL2 := Lib.hid (RLeft_any K2.out _ rfl)
        obtain ⟨d, hd⟩ : ∃ d, doneB r2 = d := ⟨_, rfl⟩
        have HD1 := Lib.hid (Done_any K1.out d hd)
        have HD2 := Lib.hid (RDone_any K2.out d hd)
        clear hd
        generalize (r2.rest.length : Int) = ln at *
        go_wp2_with (first | ((with_reducible refine (HL1.out).mono ?_); rintro _ w9 ⟨rfl, hw9⟩; obtain rfl := hw9) | ((with_reducible refine (HL2.out).mono ?_); rintro _ w9 ⟨rfl, hw9⟩; obtain rfl := hw9) | ((with_reducible refine (HD1.out).mono ?_); rintro _ w9 ⟨rfl, hw9⟩; obtain rfl := hw9) | ((with_reducible refine (HD2.out).mono ?_); rintro _ w9 ⟨rfl, hw9⟩; obtain rfl := hw9))
        go_roundw
        case rel => exact ⟨j + 1, r2, HLT.out, by go_num, HBZ.out, K1.out, K2.out, HOK2.out.1, HOK2.out.2⟩
        case measure => have := HLT.out; simp [Go.RowKit.intOf]; omega
      · have HK := Lib.hid (fun W => kind_any W u 0 ⟨#[]⟩ (.slice none 0 0) (.slice none 0 0) hum 3 hk)
        have hkeep := (itemsF_len intF_steps HOK.out).2
        obtain ⟨⟨m, r2⟩, hm⟩ : ∃ y, itemsF intF r = y := ⟨_, rfl⟩
        have hkeep2 : r2.ok ∧ r2.rest.length ≤ 400 := by
          have h := hkeep
          have e : itemsF intF r = (m, r2) := hm
          skip
          rw [e] at h
          exact ⟨h.1, Nat.le_trans h.2 HRL.out⟩
        have HOK2 := Lib.hid hkeep2
        have C1 := Lib.hid (fun W (hb : Below w.heap.size w W) (h : RdAt W b1 r) => NumsM_any h (HE.out W hb) HBB1.out HOK.out (by have := HRL.out; omega) _ hm)
        have C2 := Lib.hid (fun W (h : RdAt W b2 r) => RNums_M h HOK.out (by have := HRL.out; omega) _ hm)
        have hml := (itemsF_len intF_steps HOK.out).1
        rw [hm] at hml
        have HML : Hid (m.length ≤ 1099511627776) := Lib.hid (by have := HRL.out; simp only at hml; omega)
        clear hml
        clear hkeep hkeep2 hm hk hum
        go_wp2_with (fail)
        ((with_reducible refine (HK.out _).mono ?_); rintro _ w4 ⟨rfl, hb4⟩)
        have HB4 := Lib.hid (HBP.out.trans (hb4.mono HBP.out.size))
        have P1 := Lib.hid (HR1.out.below hb4)
        have P2 := Lib.hid (HR2.out.below hb4)
        clear hb4
        go_wp2_with (fail)
        ((with_reducible refine (C1.out _ HB4.out P1.out).mono ?_); rintro _ w5 ⟨A5, c5, rfl, hs5, h5, g5⟩)
        have HB5 := Lib.hid (HB4.out.trans (below_row HBB1.out HB4.out.size g5))
        have Q1 := Lib.hid h5
        have Q2 := Lib.hid (P2.out.grown g5 HNE.out)
        have HS5 := Lib.hid hs5
        have HL2' := Lib.hid (Loc.lt P2.out)
        clear hs5 h5 g5
        go_wp2_with (fail)
        ((with_reducible refine (C2.out _ Q2.out).mono ?_); rintro _ w6 ⟨A6, c6, rfl, hs6, h6, g6⟩)
        have HB6 := Lib.hid (HB5.out.trans (below_row HBB2.out HB5.out.size g6))
        have M1 := Lib.hid (Q1.out.grown g6 HNE2.out)
        have M2 := Lib.hid h6
        have HSA := Lib.hid (HS5.out.1.grown g6 (.inr (fun ad e e2 => by have h1 := HS5.out.2 ad e; have h2 := HL2'.out; injection e2 with e2; omega)))
        have HSS := Lib.hid (SameNums_any w6 A5 A6 m.length m.length c5 c6 m m HSA.out hs6.1 HML.out true (by simp))
        clear hs6 h6 g6
        go_wp2_with (fail)
        ((with_reducible refine (HSS.out).mono ?_); rintro _ w7 ⟨rfl, hb7⟩)
        have HBZ := Lib.hid (HB6.out.trans (hb7.mono HB6.out.size))
        have K1 := Lib.hid (M1.out.below hb7)
        have K2 := Lib.hid (M2.out.below hb7)
        clear hb7
        have HL1 := Lib.hid (Left_any K1.out _ rfl)
        have HL2 := Lib.hid (RLeft_any K2.out _ rfl)
        obtain ⟨d, hd⟩ : ∃ d, doneB r2 = d := ⟨_, rfl⟩
        have HD1 := Lib.hid (Done_any K1.out d hd)
        have HD2 := Lib.hid (RDone_any K2.out d hd)
        clear hd
        generalize (r2.rest.length : Int) = ln at *
        go_wp2_with (first | ((with_reducible refine (HL1.out).mono ?_); rintro _ w9 ⟨rfl, hw9⟩; obtain rfl := hw9) | ((with_reducible refine (HL2.out).mono ?_); rintro _ w9 ⟨rfl, hw9⟩; obtain rfl := hw9) | ((with_reducible refine (HD1.out).mono ?_); rintro _ w9 ⟨rfl, hw9⟩; obtain rfl := hw9) | ((with_reducible refine (HD2.out).mono ?_); rintro _ w9 ⟨rfl, hw9⟩; obtain rfl := hw9))
        go_roundw
        case rel => exact ⟨j + 1, r2, HLT.out, by go_num, HBZ.out, K1.out, K2.out, HOK2.out.1, HOK2.out.2⟩
        case measure => have := HLT.out; simp [Go.RowKit.intOf]; omega
      · have HK := Lib.hid (fun W => kind_any W u 0 ⟨#[]⟩ (.slice none 0 0) (.slice none 0 0) hum 4 hk)
        have hkeep := (itemsF_len textF_steps HOK.out).2
        obtain ⟨⟨m, r2⟩, hm⟩ : ∃ y, itemsF textF r = y := ⟨_, rfl⟩
        have hkeep2 : r2.ok ∧ r2.rest.length ≤ 400 := by
          have h := hkeep
          have e : itemsF textF r = (m, r2) := hm
          skip
          rw [e] at h
          exact ⟨h.1, Nat.le_trans h.2 HRL.out⟩
        have HOK2 := Lib.hid hkeep2
        have C1 := Lib.hid (fun W (hb : Below w.heap.size w W) (h : RdAt W b1 r) => TextsM_any h (HE.out W hb) HBB1.out HOK.out (by have := HRL.out; omega) _ hm)
        have C2 := Lib.hid (fun W (h : RdAt W b2 r) => RTexts_M h HOK.out (by have := HRL.out; omega) _ hm)
        have hml := (itemsF_len textF_steps HOK.out).1
        rw [hm] at hml
        have HML : Hid (m.length ≤ 1099511627776) := Lib.hid (by have := HRL.out; simp only at hml; omega)
        clear hml
        clear hkeep hkeep2 hm hk hum
        go_wp2_with (fail)
        ((with_reducible refine (HK.out _).mono ?_); rintro _ w4 ⟨rfl, hb4⟩)
        have HB4 := Lib.hid (HBP.out.trans (hb4.mono HBP.out.size))
        have P1 := Lib.hid (HR1.out.below hb4)
        have P2 := Lib.hid (HR2.out.below hb4)
        clear hb4
        go_wp2_with (fail)
        ((with_reducible refine (C1.out _ HB4.out P1.out).mono ?_); rintro _ w5 ⟨A5, c5, rfl, hs5, h5, g5⟩)
        have HB5 := Lib.hid (HB4.out.trans (below_row HBB1.out HB4.out.size g5))
        have Q1 := Lib.hid h5
        have Q2 := Lib.hid (P2.out.grown g5 HNE.out)
        have HS5 := Lib.hid hs5
        have HL2' := Lib.hid (Loc.lt P2.out)
        clear hs5 h5 g5
        go_wp2_with (fail)
        ((with_reducible refine (C2.out _ Q2.out).mono ?_); rintro _ w6 ⟨A6, c6, rfl, hs6, h6, g6⟩)
        have HB6 := Lib.hid (HB5.out.trans (below_row HBB2.out HB5.out.size g6))
        have M1 := Lib.hid (Q1.out.grown g6 HNE2.out)
        have M2 := Lib.hid h6
        have HSA := Lib.hid (HS5.out.1.grown g6 (.inr (fun ad e e2 => by have h1 := HS5.out.2 ad e; have h2 := HL2'.out; injection e2 with e2; omega)))
        have HSS := Lib.hid (SameTexts_any w6 A5 A6 m.length m.length c5 c6 m m HSA.out hs6.1 HML.out true (by simp))
        clear hs6 h6 g6
        go_wp2_with (fail)
        ((with_reducible refine (HSS.out).mono ?_); rintro _ w7 ⟨rfl, hb7⟩)
        have HBZ := Lib.hid (HB6.out.trans (hb7.mono HB6.out.size))
        have K1 := Lib.hid (M1.out.below hb7)
        have K2 := Lib.hid (M2.out.below hb7)
        clear hb7
        have HL1 := Lib.hid (Left_any K1.out _ rfl)
        have HL2 := Lib.hid (RLeft_any K2.out _ rfl)
        obtain ⟨d, hd⟩ : ∃ d, doneB r2 = d := ⟨_, rfl⟩
        have HD1 := Lib.hid (Done_any K1.out d hd)
        have HD2 := Lib.hid (RDone_any K2.out d hd)
        clear hd
        generalize (r2.rest.length : Int) = ln at *
        go_wp2_with (first | ((with_reducible refine (HL1.out).mono ?_); rintro _ w9 ⟨rfl, hw9⟩; obtain rfl := hw9) | ((with_reducible refine (HL2.out).mono ?_); rintro _ w9 ⟨rfl, hw9⟩; obtain rfl := hw9) | ((with_reducible refine (HD1.out).mono ?_); rintro _ w9 ⟨rfl, hw9⟩; obtain rfl := hw9) | ((with_reducible refine (HD2.out).mono ?_); rintro _ w9 ⟨rfl, hw9⟩; obtain rfl := hw9))
        go_roundw
        case rel => exact ⟨j + 1, r2, HLT.out, by go_num, HBZ.out, K1.out, K2.out, HOK2.out.1, HOK2.out.2⟩
        case measure => have := HLT.out; simp [Go.RowKit.intOf]; omega
    · obtain rfl : j = n := by omega
      have hki : (j : Int) ≤ (j : Int) := Int.le_refl _
      have C1 := Lib.hid (Rest_any HR1.out _ rfl)
      have C2 := Lib.hid (fun W (h : RdAt W b2 r) => RRest_any h _ rfl)
      clear hlt hj
      obtain ⟨rr, rb⟩ := r
      go_wp2_with (fail)
      ((with_reducible refine (C1.out).mono ?_); rintro _ w5 ⟨rfl, h5, g5⟩)
      have HB5 := Lib.hid (HBP.out.trans (below_row HBB1.out HBP.out.size g5))
      have Q1 := Lib.hid h5
      have Q2 := Lib.hid (HR2.out.grown g5 HNE.out)
      clear h5 g5
      go_wp2_with (fail)
      ((with_reducible refine (C2.out _ Q2.out).mono ?_); rintro _ w6 ⟨rfl, h6, g6⟩)
      have HB6 := Lib.hid (HB5.out.trans (below_row HBB2.out HB5.out.size g6))
      have K1 := Lib.hid (Q1.out.grown g6 HNE2.out)
      have K2 := Lib.hid h6
      clear h6 g6
      have HL1 := Lib.hid (Left_any K1.out 0 rfl)
      have HL2 := Lib.hid (RLeft_any K2.out 0 rfl)
      obtain ⟨d, hd⟩ : ∃ d, doneB ⟨[], rb⟩ = d := ⟨_, rfl⟩
      have HD1 := Lib.hid (Done_any K1.out d hd)
      have HD2 := Lib.hid (RDone_any K2.out d hd)
      clear hd
      go_wp2_with (first | ((with_reducible refine (HL1.out).mono ?_); rintro _ w9 ⟨rfl, hw9⟩; obtain rfl := hw9) | ((with_reducible refine (HL2.out).mono ?_); rintro _ w9 ⟨rfl, hw9⟩; obtain rfl := hw9) | ((with_reducible refine (HD1.out).mono ?_); rintro _ w9 ⟨rfl, hw9⟩; obtain rfl := hw9) | ((with_reducible refine (HD2.out).mono ?_); rintro _ w9 ⟨rfl, hw9⟩; obtain rfl := hw9))
      go_ret
      exact ⟨rfl, HB6.out⟩
end Go.Proofs.YtmceahmngifcgaaDoor
