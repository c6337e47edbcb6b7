/- kerbsideref43: Own and Lend, walked. -/
import Derived.Test.YtfohjkddcinfmaaLendT
import Derived.Test.YtfohjkddcinfmaaBase3
import Derived.Outline
namespace Go.Proofs.Ytfohjkddcinfmaa
open Go.RowKit

theorem freeR_of {t s : Int} {ls : List LoanV} {f1 : Int} {f2 : Bool} (h : StockV.free ⟨t, s, ls⟩ = (f1, f2)) (h2 : f2 = true) : (if (StockV.free ⟨t, s, ls⟩).2 then (StockV.free ⟨t, s, ls⟩).1 else 0) = f1 := by
  rw [h]; simp [h2]
theorem free_snd {t s : Int} {ls : List LoanV} {f1 : Int} {f2 : Bool} (h : StockV.free ⟨t, s, ls⟩ = (f1, f2)) : (StockV.free ⟨t, s, ls⟩).2 = f2 := by rw [h]

theorem stockRet_mk {w W : World} {base k c : Nat} {A : Option Addr} {ls : List LoanV} (t s : Int) (hown : Own W base 26 4 (.slice A k c) k (ls.map LoanV.cells)) (hb : w.heap.size ≤ base) (hl : ls.length = k) (hB : Below w.heap.size w W) :
    StockRet w ⟨t, s, ls⟩ 0 (.returned (.tuple #[.agg #[.int .i64 t, .int .i64 s, .slice A k c], .int .i64 0])) W := by
  obtain ⟨A', c', hA, hsl⟩ := hown.sl
  injection hA with hA hn hc
  subst hA
  exact ⟨A, c, by simp [hl], ⟨by simpa [hl] using hsl, fun ad e => Nat.le_trans hb (hown.fresh ad e)⟩, hB⟩

set_option maxHeartbeats 1000000 in
theorem OwnR_any (t s : Int) (A : Option Addr) (k c : Nat) (ls : List LoanV) (n : Int) (r : StockV × Int) (hr : ownF ⟨t, s, ls⟩ n = r) (w : World) (hs : Sl w 4 A k (ls.map LoanV.cells)) :
    Calls Try.prog 11 #[.agg #[.int .i64 t, .int .i64 s, .slice A k c], .int .i64 n] w (StockRet w r.1 r.2) := by
  have hl : ls.length = k := by simpa using hs.1
  obtain ⟨f1, f2, hf⟩ : ∃ f1 f2, StockV.free ⟨t, s, ls⟩ = (f1, f2) := ⟨_, _, rfl⟩
  obtain ⟨q, hq⟩ : ∃ q, fineB n = q := ⟨_, rfl⟩
  have h1 : (f2 && q) = false → r = (noStock, 1) := fun h => by rw [← hr]; unfold ownF; rw [hf, hq, if_pos h]
  have h2 : (f2 && q) = true → f1 < n → r = (noStock, 6) := fun h h' => by rw [← hr]; unfold ownF; rw [hf, hq, if_neg (by simp [h]), if_pos (by simpa using h')]
  have h3 : (f2 && q) = true → ¬ (f1 < n) → r = (⟨t, s + n, ls⟩, 0) := fun h h' => by rw [← hr]; unfold ownF; rw [hf, hq, if_neg (by simp [h]), if_neg (by simpa using h')]
  have HS := Lib.hid hs
  have HF := Lib.hid hf
  have HQ := Lib.hid hq
  have HQ' := Lib.hid ((fine_in n).trans hq)
  have HL := Lib.hid hl
  have H1 := Lib.hid h1
  have H2 := Lib.hid h2
  have H3 := Lib.hid h3
  have HB := Lib.hid (Below.refl w.heap.size w)
  clear hf hs hq h1 h2 h3 hr hl
  go_enter Try.func11, Try.ntmps11
  go_wp2_with (fail)
  ((with_reducible refine (RightR_any _ _ _ _ _ ls _ ((HS.out.alloc _).alloc _) f2 (free_snd HF.out)).mono ?_); rintro e w1 ⟨rfl, hb⟩)
  obtain ⟨hL0, hL1, hbT⟩ := locs2 hb
  have L0 := Lib.hid hL0
  have L1 := Lib.hid hL1
  clear hL0 hL1
  replace HB := Lib.hid (HB.out.trans (hbT.mono HB.out.size))
  clear hbT hb 
  obtain ⟨zL0, kL0, fL0⟩ := L0.out
  obtain ⟨zL1, kL1, fL1⟩ := L1.out
  rcases f2 with _ | _
  · go_wp2_with (fail)
    refine bodyPost_ret (v := .tuple #[.agg #[.int .i64 0, .int .i64 0, .slice none 0 0], .int .i64 1]) (by simp [results, Try.results11, go_sem, kL1]) rfl ?_
    have er := H1.out rfl
    subst er
    exact noStock_ret _ _ _ (((HB.out.setCell (by first | omega | (simp <;> omega)) _).setCell (by first | omega | (simp <;> omega)) _).setCell (by first | omega | (simp <;> omega)) _)
  go_wp2_with (fail)
  ((with_reducible refine (in_any n 1 1099511627776 q HQ'.out _).mono ?_); rintro e w' ⟨rfl, rfl⟩)
  rcases q with _ | _
  · go_wp2_with (fail)
    refine bodyPost_ret (v := .tuple #[.agg #[.int .i64 0, .int .i64 0, .slice none 0 0], .int .i64 1]) (by simp [results, Try.results11, go_sem, kL1]) rfl ?_
    have er := H1.out rfl
    subst er
    exact noStock_ret _ _ _ (((HB.out.setCell (by first | omega | (simp <;> omega)) _).setCell (by first | omega | (simp <;> omega)) _).setCell (by first | omega | (simp <;> omega)) _)
  go_wp2_with (fail)
  ((with_reducible refine (FreeR_any _ _ _ _ _ ls _ (HS.out.below HB.out) f1 (freeR_of HF.out rfl)).mono ?_); rintro e w2 ⟨rfl, hb⟩)
  have hbT := hb
  replace HB := Lib.hid (HB.out.trans (hbT.mono HB.out.size))
  replace L0 := Lib.hid (L0.out.below hbT)
  replace L1 := Lib.hid (L1.out.below hbT)
  clear hbT hb zL0 kL0 fL0 zL1 kL1 fL1
  obtain ⟨zL0, kL0, fL0⟩ := L0.out
  obtain ⟨zL1, kL1, fL1⟩ := L1.out
  by_cases h4 : f1 < n
  · go_wp2_with (fail)
    refine bodyPost_ret (v := .tuple #[.agg #[.int .i64 0, .int .i64 0, .slice none 0 0], .int .i64 6]) (by simp [results, Try.results11, go_sem, kL1]) rfl ?_
    have er := H2.out rfl h4
    subst er
    exact noStock_ret _ _ _ (((HB.out.setCell (by first | omega | (simp <;> omega)) _).setCell (by first | omega | (simp <;> omega)) _).setCell (by first | omega | (simp <;> omega)) _)
  · obtain ⟨i0, hi0, hi1, hi2, hi3⟩ := info_parts infoLoan
    have hn := fine_facts HQ.out
    have W1 := IntWalk.i64_in (s + n) (by have := free_len HF.out; omega)
    have HK : Hid (k ≤ 1000) := by have h1 := (free_len HF.out).1; have h2 := HL.out; show k ≤ 1000; omega
    have h4' : n ≤ f1 := by omega
    clear h4
    have hz2 := HB.out.size
    have HZ := Lib.hid zL1
    have HB3 := Lib.hid ((HB.out.setCell (p := ⟨w.heap.size, 1, none⟩) (Nat.le_refl _) (.int .i64 (s + n))).alloc (by simp; omega) (.cells #[] 26))
    go_wp2_with (at_builtin; refine wpList_append_sl _ rfl (.tmp 25) (.tmp 27) _ rfl w2.heap.size 26 i0 _ 4 32 Try.underlying22 hi0 hi1 hi2 hi3 rfl (by omega) (.slice (some ⟨w2.heap.size, 0, none⟩) 0 0) 0 [] rfl (Own.empty (by simp) (Nat.le_refl _)) A k c (ls.map LoanV.cells) rfl (HS.out.below HB3.out) (loans_len ls) (loans_one ls) (by have := HK.out; simp only [maxLen]; omega) (by have := HK.out; omega) (by simp) ?_; intro A1 c1 w3 hown1 hg1 hat1; have hL0 : Loc w3 w.heap.size #[.int .i64 t, .int .i64 (s + n), .slice A k c] := (by have h := ((L0.out.set_ 1 (.int .i64 (s + n))).alloc (.cells #[] 26)).grown hg1 (by simp [Value.ownBlock]; omega); simpa using h); have hL1 : Loc w3 (w.heap.size + 1) #[.int .i64 0, .int .i64 0, .slice none 0 0] := (by have h := ((L1.out.far (p := ⟨w.heap.size, 1, none⟩) (by simp) (.int .i64 (s + n))).alloc (.cells #[] 26)).grown hg1 (by simp [Value.ownBlock]; omega); simpa using h); clear zL0 kL0 fL0 zL1 kL1 fL1; obtain ⟨zL0, kL0, fL0⟩ := hL0; obtain ⟨zL1, kL1, fL1⟩ := hL1)
    have er := H3.out rfl (by omega)
    subst er
    rw [Nat.zero_add, List.nil_append] at hown1
    refine bodyPost_ret (v := .tuple #[.agg #[.int .i64 t, .int .i64 (s + n), .slice A1 k c1], .int .i64 0]) (by simp [results, Try.results11, go_sem, kL1]) rfl ?_
    have hz := HZ.out
    have HB4 := HB3.out.grown hg1 (by simp; omega) (by simp [Value.ownBlock]; omega)
    refine stockRet_mk t (s + n) ((((hown1.setBelow ?_ _).setBelow ?_ _).setBelow ?_ _).setBelow ?_ _) (by omega) HL.out ((((HB4.setCell ?_ _).setCell ?_ _).setCell ?_ _).setCell ?_ _)
    all_goals (simp <;> omega)
end Go.Proofs.Ytfohjkddcinfmaa
