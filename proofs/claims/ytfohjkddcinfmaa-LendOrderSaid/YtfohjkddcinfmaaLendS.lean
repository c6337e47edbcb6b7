/- kerbsideref43: Right and Free, walked. -/
import Derived.Test.YtfohjkddcinfmaaLendR
namespace Go.Proofs.Ytfohjkddcinfmaa
open Go.RowKit

theorem inB_true {n low high : Int} (h : inB n low high = true) : low ≤ n ∧ n ≤ high := by simpa [inB] using h

set_option maxHeartbeats 1000000 in
theorem RightR_yes (t s : Int) (A : Option Addr) (n c : Nat) (ls : List LoanV) (w : World) (hs : Sl w 4 A n (ls.map LoanV.cells)) (hsm : StockV.small ⟨t, s, ls⟩ = true) (f : Int × Bool) (hf : StockV.free ⟨t, s, ls⟩ = f) :
    Calls Try.prog 22 #[.agg #[.int .i64 t, .int .i64 s, .slice A n c]] w fun e w' => e = .returned (.bool f.2) ∧ Below w.heap.size w w' := by
  have hln : ls.length = n := by simpa using hs.1
  have hfree : f = match leftOf (t - s) ls with | some v => (v, decide (0 ≤ v)) | none => (0, false) := by rw [← hf]; unfold StockV.free; rw [if_pos hsm]; rfl
  clear hf
  simp only [StockV.small, Bool.and_eq_true, decide_eq_true_eq, hln] at hsm
  obtain ⟨⟨⟨⟨h1, h2⟩, h3⟩, h4⟩, h5⟩ := hsm
  have HF := Lib.hid (free_fin hfree)
  have HL := Lib.hid hln
  have HS := Lib.hid hs
  have i1 := Lib.hid (show inB t 0 1099511627776 = true by simp [inB, *])
  have i2 := Lib.hid (show inB s 0 t = true by simp [inB, *])
  clear hfree hln hs
  have d1 : ¬ ((100 : Int) < (n : Int)) := by omega
  go_enter Try.func22, Try.ntmps22
  go_wp2_with (fail)
  refine (in_any _ _ _ true i1.out _).mono ?_
  rintro e w' ⟨rfl, rfl⟩
  go_wp2_with (fail)
  refine (in_any _ _ _ true i2.out _).mono ?_
  rintro e w' ⟨rfl, rfl⟩
  go_wp2_with (fail)
  have HB0 := Lib.hid (below_alloc w (.cells #[.int .i64 t, .int .i64 s, .slice A n c] 24))
  have L0 := Lib.hid (Loc.new_ w #[.int .i64 t, .int .i64 s, .slice A n c] 24)
  go_loopw [3, 4] (fun sum i wr => ∃ (k : Nat) (v : Int), k ≤ n ∧ i = .int .i64 k ∧ leftOf (t - s) (ls.take k) = some v ∧ sum = .int .i64 (t - v) ∧ - 1099511627776 * (k : Int) ≤ v ∧ v ≤ 1099511627776 ∧ Loc wr w.heap.size #[.int .i64 t, .int .i64 s, .slice A n c] ∧ Below w.heap.size w wr) (fun _ i _ => n - (intOf i).toNat)
  case atStart => exact ⟨0, t - s, Nat.zero_le _, rfl, rfl, by go_num, by omega, by omega, L0.out, HB0.out⟩
  case round =>
    obtain ⟨k, v, hk, rfl, hv, rfl, hv1, hv2, hL, hb⟩ := hrel
    obtain ⟨z0, k0, f0⟩ := hL
    have HV := Lib.hid hv
    have HBr := Lib.hid hb
    have HLr := Lib.hid (⟨z0, k0, f0⟩ : Loc wr _ _)
    clear hv
    by_cases hlt : k < n
    · obtain ⟨⟨d, u, sp, bk⟩, hlk⟩ : ∃ l, ls[k]? = some l := ⟨ls[k]'(by rw [HL.out]; exact hlt), List.getElem?_eq_getElem _⟩
      obtain ⟨b, o, rfl, hbb, hc⟩ := (HS.out.below hb).2 k (LoanV.cells ⟨d, u, sp, bk⟩) (by rw [List.getElem?_map, hlk]; rfl)
      have c0 : wr.cell? ⟨b, o + k * 4, none⟩ = some (.int .i64 d) := hc 0 _ rfl
      have c1 : wr.cell? ⟨b, o + k * 4 + 1, none⟩ = some (.int .i64 u) := hc 1 _ rfl
      have c2 : wr.cell? ⟨b, o + k * 4 + 2, none⟩ = some (.int .i64 sp) := hc 2 _ rfl
      have c3 : wr.cell? ⟨b, o + k * 4 + 3, none⟩ = some (.bool bk) := hc 3 _ rfl
      have hi0 : (0 : Int) ≤ (k : Int) := by omega
      have hi1 : (k : Int) < (n : Int) := by omega
      have hsn := leftOf_snoc ⟨d, u, sp, bk⟩ (ls.take k) (t - s)
      rw [HV.out, ← take_snoc_of hlk] at hsn
      have HSN := Lib.hid hsn
      clear hc hsn hlk hb
      obtain ⟨q, hq⟩ : ∃ q, LoanV.right ⟨d, u, sp, bk⟩ = q := ⟨_, rfl⟩
      obtain ⟨x, hx⟩ : ∃ x, LoanV.committed ⟨d, u, sp, bk⟩ = x := ⟨_, rfl⟩
      have HR := Lib.hid hq
      have HX := Lib.hid hx
      clear hq hx
      go_wp2_with (fail)
      refine (LoanR_any _ _ _ _ q HR.out _).mono ?_
      rintro e w' ⟨rfl, rfl⟩
      rcases q with _ | _
      · go_wp2_with (fail)
        go_ret
        have hn : leftOf (t - s) ls = none := leftOf_none ls (k + 1) _ (by rw [HSN.out]; simp [HR.out])
        rw [HF.out.1 hn]
        exact ⟨rfl, HBr.out.alloc HBr.out.size _⟩
      · have hcb := right_bound HR.out
        rw [HX.out] at hcb
        obtain ⟨hx0, hx1⟩ := hcb
        go_wp2_with (fail)
        refine (CommittedR_any _ _ _ _ x HX.out _).mono ?_
        rintro e w' ⟨rfl, rfl⟩
        go_wp2_with (fail)
        go_roundw
        case rel => exact ⟨k + 1, v - x, by omega, by go_num, by rw [HSN.out]; simp [HR.out, HX.out], by go_num, by omega, by omega, (HLr.out.alloc _).alloc _, (HBr.out.alloc HBr.out.size _).alloc (by simp; exact Nat.le_succ_of_le HBr.out.size) _⟩
        case measure => simp [intOf]; omega
    · obtain rfl : k = n := by omega
      go_wp2_with (fail)
      go_ret
      have hn : leftOf (t - s) ls = some v := by rw [← HV.out, List.take_of_length_le (by rw [HL.out]; exact Nat.le_refl _)]
      rw [HF.out.2 v hn]
      exact ⟨ret_bool (by simp; omega), hb⟩

set_option maxHeartbeats 1000000 in
theorem RightR_no (t s : Int) (A : Option Addr) (n c : Nat) (ls : List LoanV) (w : World) (hl : ls.length = n) (hsm : StockV.small ⟨t, s, ls⟩ = false) :
    Calls Try.prog 22 #[.agg #[.int .i64 t, .int .i64 s, .slice A n c]] w fun e w' => e = .returned (.bool false) ∧ Below w.heap.size w w' := by
  obtain ⟨r1, h1⟩ : ∃ r1, inB t 0 1099511627776 = r1 := ⟨_, rfl⟩
  obtain ⟨r2, h2⟩ : ∃ r2, inB s 0 t = r2 := ⟨_, rfl⟩
  have H1 := Lib.hid h1
  have H2 := Lib.hid h2
  have HSM := Lib.hid hsm
  have HL := Lib.hid hl
  clear h1 h2 hsm hl
  have HB0 := Lib.hid (below_alloc w (.cells #[.int .i64 t, .int .i64 s, .slice A n c] 24))
  go_enter Try.func22, Try.ntmps22
  go_wp2_with (fail)
  refine (in_any _ _ _ r1 H1.out _).mono ?_
  rintro e w' ⟨rfl, rfl⟩
  rcases r1 with _ | _
  · go_wp2_with (fail)
    go_ret
    exact ⟨rfl, HB0.out⟩
  go_wp2_with (fail)
  refine (in_any _ _ _ r2 H2.out _).mono ?_
  rintro e w' ⟨rfl, rfl⟩
  rcases r2 with _ | _
  · go_wp2_with (fail)
    go_ret
    exact ⟨rfl, HB0.out⟩
  have d1 : (100 : Int) < (n : Int) := by
    have h1 := inB_true H1.out
    have h2 := inB_true H2.out
    have h3 := HSM.out
    have h4 := HL.out
    simp only [StockV.small, Bool.and_eq_false_iff, decide_eq_false_iff_not, h4] at h3
    omega
  go_wp2_with (fail)
  go_ret
  exact ⟨rfl, HB0.out⟩

theorem RightR_any (t s : Int) (A : Option Addr) (n c : Nat) (ls : List LoanV) (w : World) (hs : Sl w 4 A n (ls.map LoanV.cells)) (r : Bool) (hr : (StockV.free ⟨t, s, ls⟩).2 = r) :
    Calls Try.prog 22 #[.agg #[.int .i64 t, .int .i64 s, .slice A n c]] w fun e w' => e = .returned (.bool r) ∧ Below w.heap.size w w' := by
  subst hr
  by_cases hsm : StockV.small ⟨t, s, ls⟩ = true
  · exact RightR_yes t s A n c ls w hs hsm _ rfl
  · have hsm' : StockV.small ⟨t, s, ls⟩ = false := by simpa using hsm
    have : (StockV.free ⟨t, s, ls⟩).2 = false := by unfold StockV.free; rw [if_neg hsm]
    rw [this]
    exact RightR_no t s A n c ls w (by simpa using hs.1) hsm'

set_option maxHeartbeats 1000000 in
theorem FreeR_any (t s : Int) (A : Option Addr) (n c : Nat) (ls : List LoanV) (w : World) (hs : Sl w 4 A n (ls.map LoanV.cells)) (r : Int) (hr : (if (StockV.free ⟨t, s, ls⟩).2 then (StockV.free ⟨t, s, ls⟩).1 else 0) = r) :
    Calls Try.prog 24 #[.agg #[.int .i64 t, .int .i64 s, .slice A n c]] w fun e w' => e = .returned (.int .i64 r) ∧ Below w.heap.size w w' := by
  have hln : ls.length = n := by simpa using hs.1
  obtain ⟨q, hq⟩ : ∃ q, (StockV.free ⟨t, s, ls⟩).2 = q := ⟨_, rfl⟩
  rw [hq] at hr
  have HQ := Lib.hid hq
  have HL := Lib.hid hln
  have HR := Lib.hid hr
  have HS := Lib.hid hs
  clear hq hln hr hs
  go_enter Try.func24, Try.ntmps24
  go_wp2_with (fail)
  refine (RightR_any _ _ _ _ _ ls _ (HS.out.alloc _) q HQ.out).mono ?_
  rintro e w1 ⟨rfl, hb1⟩
  obtain ⟨z0, k0, f0, ko, hb1'⟩ := after1 hb1
  have L0 := Lib.hid (⟨z0, k0, f0⟩ : Loc w1 _ _)
  have HB := Lib.hid hb1'
  replace HS := Lib.hid ((HS.out.alloc _).below hb1)
  clear hb1 hb1' ko
  rcases q with _ | _
  · go_wp2_with (fail)
    go_ret
    exact ⟨ret_int HR.out, HB.out⟩
  have hfl := free_len (v := (StockV.free ⟨t, s, ls⟩).1) (Prod.ext rfl HQ.out)
  obtain ⟨h5, h1, h2, h3, h4, h6, h7⟩ := hfl
  obtain ⟨h8, h9⟩ := leftOf_right ls _ _ h6
  have HA := Lib.hid h8
  have H6 := Lib.hid h6
  rw [HL.out] at h5
  clear h6 h7 h8 h9
  go_wp2_with (fail)
  clear z0 k0 f0
  go_loopw [3, 4] (fun sum i wr => ∃ (k : Nat) (v : Int), k ≤ n ∧ i = .int .i64 k ∧ leftOf (t - s) (ls.take k) = some v ∧ sum = .int .i64 v ∧ - 1099511627776 * (k : Int) ≤ v ∧ v ≤ 1099511627776 ∧ Below w1.heap.size w1 wr) (fun _ i _ => n - (intOf i).toNat)
  case atStart => exact ⟨0, t - s, Nat.zero_le _, rfl, rfl, rfl, by omega, by omega, Below.refl _ _⟩
  case round =>
    obtain ⟨k, v, hk, rfl, hv, rfl, hv1, hv2, hb⟩ := hrel
    obtain ⟨z0, k0, f0⟩ := L0.out.below hb
    have HV := Lib.hid hv
    have HBr := Lib.hid hb
    clear hv
    by_cases hlt : k < n
    · obtain ⟨⟨d, u, sp, bk⟩, hlk⟩ : ∃ l, ls[k]? = some l := ⟨ls[k]'(by rw [HL.out]; exact hlt), List.getElem?_eq_getElem _⟩
      obtain ⟨b, o, rfl, hbb, hc⟩ := (HS.out.below hb).2 k (LoanV.cells ⟨d, u, sp, bk⟩) (by rw [List.getElem?_map, hlk]; rfl)
      have c0 : wr.cell? ⟨b, o + k * 4, none⟩ = some (.int .i64 d) := hc 0 _ rfl
      have c1 : wr.cell? ⟨b, o + k * 4 + 1, none⟩ = some (.int .i64 u) := hc 1 _ rfl
      have c2 : wr.cell? ⟨b, o + k * 4 + 2, none⟩ = some (.int .i64 sp) := hc 2 _ rfl
      have c3 : wr.cell? ⟨b, o + k * 4 + 3, none⟩ = some (.bool bk) := hc 3 _ rfl
      have hi0 : (0 : Int) ≤ (k : Int) := by omega
      have hi1 : (k : Int) < (n : Int) := by omega
      have hsn := leftOf_snoc ⟨d, u, sp, bk⟩ (ls.take k) (t - s)
      rw [HV.out, ← take_snoc_of hlk] at hsn
      have hq := HA.out _ (List.mem_of_getElem? hlk)
      have hcb := right_bound hq
      obtain ⟨x, hx⟩ : ∃ x, LoanV.committed ⟨d, u, sp, bk⟩ = x := ⟨_, rfl⟩
      rw [hx] at hcb
      obtain ⟨hx0, hx1⟩ := hcb
      have HSN := Lib.hid hsn
      have HX := Lib.hid hx
      have HQ2 := Lib.hid hq
      clear hc hsn hlk hb hx hq
      go_wp2_with (fail)
      refine (CommittedR_any _ _ _ _ x HX.out _).mono ?_
      rintro e w' ⟨rfl, rfl⟩
      go_wp2_with (fail)
      go_roundw
      case rel => exact ⟨k + 1, v - x, by omega, by go_num, by rw [HSN.out]; simp [HQ2.out, HX.out], by go_num, by omega, by omega, HBr.out.alloc HBr.out.size _⟩
      case measure => simp [intOf]; omega
    · obtain rfl : k = n := by omega
      go_wp2_with (fail)
      go_ret
      have hn : leftOf (t - s) ls = some v := by rw [← HV.out, List.take_of_length_le (by rw [HL.out]; exact Nat.le_refl _)]
      have h10 := H6.out
      rw [hn] at h10
      have h11 := HR.out
      simp only [Option.some.injEq, if_true] at h10 h11
      exact ⟨ret_int (h10.trans h11), HB.out.trans (hb.mono HB.out.size)⟩
end Go.Proofs.Ytfohjkddcinfmaa
