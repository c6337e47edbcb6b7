/- kerbsideref43: Lend, walked. -/
import Derived.Test.YtfohjkddcinfmaaLendU
namespace Go.Proofs.Ytfohjkddcinfmaa
open Go.RowKit

theorem lend_right (d n : Int) : LoanV.right ⟨d, n, 0, false⟩ = (fineB n && inB d 0 7) := by
  simp only [LoanV.right, rightB, fineB, inB]
  rw [Bool.eq_iff_iff]
  simp only [Bool.and_eq_true, decide_eq_true_eq]
  omega

set_option maxHeartbeats 1000000 in
theorem LendR_any (t s : Int) (A : Option Addr) (k c : Nat) (ls : List LoanV) (d n : Int) (r : StockV × Int) (hr : lendF ⟨t, s, ls⟩ d n = r) (w : World) (hs : Sl w 4 A k (ls.map LoanV.cells)) :
    Calls Try.prog 13 #[.agg #[.int .i64 t, .int .i64 s, .slice A k c], .int .i64 d, .int .i64 n] w (StockRet w r.1 r.2) := by
  have hl : ls.length = k := by simpa using hs.1
  obtain ⟨f1, f2, hf⟩ : ∃ f1 f2, StockV.free ⟨t, s, ls⟩ = (f1, f2) := ⟨_, _, rfl⟩
  obtain ⟨q, hq⟩ : ∃ q, fineB n = q := ⟨_, rfl⟩
  obtain ⟨p, hp⟩ : ∃ p, inB d 0 7 = p := ⟨_, rfl⟩
  have h1 : (f2 && (q && p)) = false → r = (noStock, 1) := fun h => by rw [← hr]; unfold lendF; rw [hf, lend_right, hq, hp, if_pos h]
  have h2 : (f2 && (q && p)) = true → f1 < n ∨ k = 100 → r = (noStock, 6) := fun h h' => by rw [← hr]; unfold lendF; rw [hf, lend_right, hq, hp, if_neg (by simp [h]), if_pos (by simpa [hl] using h')]
  have h3 : (f2 && (q && p)) = true → ¬ (f1 < n ∨ k = 100) → r = (⟨t, s, ls ++ [⟨d, n, 0, false⟩]⟩, 0) := fun h h' => by rw [← hr]; unfold lendF; rw [hf, lend_right, hq, hp, if_neg (by simp [h]), if_neg (by simpa [hl] using h')]
  have HS := Lib.hid hs
  have HF := Lib.hid hf
  have HQ := Lib.hid hq
  have HQ' := Lib.hid ((fine_in n).trans hq)
  have HP := Lib.hid hp
  have HL := Lib.hid hl
  have H1 := Lib.hid h1
  have H2 := Lib.hid h2
  have H3 := Lib.hid h3
  have HB := Lib.hid (Below.refl w.heap.size w)
  clear hf hs hq hp h1 h2 h3 hr hl
  go_enter Try.func13, Try.ntmps13
  go_wp2_with (fail)
  ((with_reducible refine (RightR_any _ _ _ _ _ ls _ ((HS.out.alloc _).alloc _) f2 (free_snd HF.out)).mono ?_); rintro e w1 ⟨rfl, hb⟩)
  obtain ⟨hL0, hL1, hbT⟩ := locs2 hb
  have L0 := Lib.hid hL0
  have L1 := Lib.hid hL1
  clear hL0 hL1
  replace HB := Lib.hid (HB.out.trans (hbT.mono HB.out.size))
  clear hbT hb 
  obtain ⟨zL0, kL0, fL0⟩ := L0.out
  obtain ⟨zL1, kL1, fL1⟩ := L1.out
  rcases f2 with _ | _
  · go_wp2_with (fail)
    refine bodyPost_ret (v := .tuple #[.agg #[.int .i64 0, .int .i64 0, .slice none 0 0], .int .i64 1]) (by simp [results, Try.results13, go_sem, kL1]) rfl ?_
    have er := H1.out rfl
    subst er
    exact noStock_ret _ _ _ (((HB.out.setCell (by first | omega | (simp <;> omega)) _).setCell (by first | omega | (simp <;> omega)) _).setCell (by first | omega | (simp <;> omega)) _)
  go_wp2_with (fail)
  ((with_reducible refine (in_any n 1 1099511627776 q HQ'.out _).mono ?_); rintro e w' ⟨rfl, rfl⟩)
  rcases q with _ | _
  · go_wp2_with (fail)
    refine bodyPost_ret (v := .tuple #[.agg #[.int .i64 0, .int .i64 0, .slice none 0 0], .int .i64 1]) (by simp [results, Try.results13, go_sem, kL1]) rfl ?_
    have er := H1.out rfl
    subst er
    exact noStock_ret _ _ _ (((HB.out.setCell (by first | omega | (simp <;> omega)) _).setCell (by first | omega | (simp <;> omega)) _).setCell (by first | omega | (simp <;> omega)) _)
  go_wp2_with (fail)
  ((with_reducible refine (in_any d 0 7 p HP.out _).mono ?_); rintro e w' ⟨rfl, rfl⟩)
  rcases p with _ | _
  · go_wp2_with (fail)
    refine bodyPost_ret (v := .tuple #[.agg #[.int .i64 0, .int .i64 0, .slice none 0 0], .int .i64 1]) (by simp [results, Try.results13, go_sem, kL1]) rfl ?_
    have er := H1.out rfl
    subst er
    exact noStock_ret _ _ _ (((HB.out.setCell (by first | omega | (simp <;> omega)) _).setCell (by first | omega | (simp <;> omega)) _).setCell (by first | omega | (simp <;> omega)) _)
  go_wp2_with (fail)
  ((with_reducible refine (FreeR_any _ _ _ _ _ ls _ (HS.out.below HB.out) f1 (freeR_of HF.out rfl)).mono ?_); rintro e w2 ⟨rfl, hb⟩)
  have hbT := hb
  replace HB := Lib.hid (HB.out.trans (hbT.mono HB.out.size))
  replace L0 := Lib.hid (L0.out.below hbT)
  replace L1 := Lib.hid (L1.out.below hbT)
  clear hbT hb zL0 kL0 fL0 zL1 kL1 fL1
  obtain ⟨zL0, kL0, fL0⟩ := L0.out
  obtain ⟨zL1, kL1, fL1⟩ := L1.out
  have hk100 : k ≤ 100 := by have h1 := (free_len HF.out).1; have h2 := HL.out; omega
  by_cases h4 : f1 < n
  · go_wp2_with (fail)
    refine bodyPost_ret (v := .tuple #[.agg #[.int .i64 0, .int .i64 0, .slice none 0 0], .int .i64 6]) (by simp [results, Try.results13, go_sem, kL1]) rfl ?_
    have er := H2.out rfl (Or.inl h4)
    subst er
    exact noStock_ret _ _ _ (((HB.out.setCell (by first | omega | (simp <;> omega)) _).setCell (by first | omega | (simp <;> omega)) _).setCell (by first | omega | (simp <;> omega)) _)
  by_cases h5 : k = 100
  · have er := H2.out rfl (Or.inr h5)
    subst er
    have h5' : (100 : Int) ≤ (k : Int) := by omega
    clear h5
    go_wp2_with (fail)
    refine bodyPost_ret (v := .tuple #[.agg #[.int .i64 0, .int .i64 0, .slice none 0 0], .int .i64 6]) (by simp [results, Try.results13, go_sem, kL1]) rfl ?_
    exact noStock_ret _ _ _ (((HB.out.setCell (by first | omega | (simp <;> omega)) _).setCell (by first | omega | (simp <;> omega)) _).setCell (by first | omega | (simp <;> omega)) _)
  · obtain ⟨i0, hi0, hi1, hi2, hi3⟩ := info_parts infoLoan
    have HK : Hid (k ≤ 1000) := by show k ≤ 1000; omega
    have h4' : n ≤ f1 := by omega
    have h5' : (k : Int) < 100 := by omega
    have er := H3.out rfl (by omega)
    subst er
    clear h4 h5
    have hz2 := HB.out.size
    have HZ := Lib.hid zL1
    have HB3 := Lib.hid (HB.out.alloc (by omega) (.cells #[] 26))
    go_wp2_with (first
      | (at_builtin; refine wpList_append_sl _ rfl (.tmp 33) (.tmp 35) _ rfl w2.heap.size 26 i0 _ 4 32 Try.underlying22 hi0 hi1 hi2 hi3 rfl (by omega) (.slice (some ⟨w2.heap.size, 0, none⟩) 0 0) 0 [] rfl (Own.empty (by simp) (Nat.le_refl _)) A k c (ls.map LoanV.cells) rfl (HS.out.below HB3.out) (loans_len ls) (loans_one ls) (by have := HK.out; simp only [maxLen]; omega) (by have := HK.out; omega) (by simp) ?_; intro A1 c1 w3 hown1 hg1 hat1; have hL0 : Loc w3 w.heap.size #[.int .i64 t, .int .i64 s, .slice A k c] := (by have h := (L0.out.alloc (.cells #[] 26)).grown hg1 (by simp [Value.ownBlock]; omega); simpa using h); have hL1 : Loc w3 (w.heap.size + 1) #[.int .i64 0, .int .i64 0, .slice none 0 0] := (by have h := (L1.out.alloc (.cells #[] 26)).grown hg1 (by simp [Value.ownBlock]; omega); simpa using h); rw [Nat.zero_add, List.nil_append] at hown1; have HL0 := Lib.hid hL0; have HL1 := Lib.hid hL1; clear hL0 hL1 zL0 kL0 fL0 zL1 kL1 fL1)
      | (at_builtin; refine wpList_append_sl _ rfl (.tmp 36) (.tmp 40) _ rfl w2.heap.size 26 i0 _ 4 32 Try.underlying22 hi0 hi1 hi2 hi3 rfl (by omega) (.slice A1 k c1) k (ls.map LoanV.cells) rfl (hown1.alloc _) (some ⟨w3.heap.size, 0, none⟩) 1 1 [[.int .i64 d, .int .i64 n, .int .i64 0, .bool false]] rfl (Sl.new_ _ _ _) (by simp) (by simp [Value.oneCell']) (by have := HK.out; simp only [maxLen]; omega) (by have := HK.out; omega) (by have := hg1.size; simp at this ⊢; omega) ?_; intro A3 c3 w4 hown3 hg3 hat3; have hs3 := hg1.size; have hL0 := (HL0.out.alloc (.cells #[.int .i64 d, .int .i64 n, .int .i64 0, .bool false] 26)).grown hg3 (own_ne hown1.1 (Nat.lt_of_lt_of_le (Nat.lt_of_succ_lt HZ.out) (Nat.le_refl _))); have hL1 := (HL1.out.alloc (.cells #[.int .i64 d, .int .i64 n, .int .i64 0, .bool false] 26)).grown hg3 (own_ne hown1.1 HZ.out); obtain ⟨zL0, kL0, fL0⟩ := hL0; obtain ⟨zL1, kL1, fL1⟩ := hL1))
    refine bodyPost_ret (v := .tuple #[.agg #[.int .i64 t, .int .i64 s, .slice A3 (k + 1) c3], .int .i64 0]) (by simp [results, Try.results13, go_sem, kL1]) rfl ?_
    have hz := HZ.out
    have HB4 := ((HB3.out.grown hg1 (by simp; omega) (by simp [Value.ownBlock]; omega)).alloc (by have := hg1.size; simp at this; omega) (.cells #[.int .i64 d, .int .i64 n, .int .i64 0, .bool false] 26)).grown hg3 (by have := hg1.size; simp at this ⊢; omega) (fun b hb => Nat.le_trans (by omega) (hown1.1.lt b hb).1)
    refine stockRet_mk t s (ls := ls ++ [⟨d, n, 0, false⟩]) (base := w2.heap.size) ((((Own.setBelow (by simpa [LoanV.cells] using hown3) ?_ _).setBelow ?_ _).setBelow ?_ _).setBelow ?_ _) (by omega) (by simp [HL.out]) ((((HB4.setCell ?_ _).setCell ?_ _).setCell ?_ _).setCell ?_ _)
    all_goals (simp <;> omega)
end Go.Proofs.Ytfohjkddcinfmaa
