/- lend: Lend, walked. -/
import Derived.Test.YtfohjkddcinfmaaLendB
import Derived.Deep.RegionHeld3
import Derived.Deep.RegionLaw
import Derived.StillTactics
namespace Go.Proofs.Ytfohjkddcinfmaa
open Go.RowKit

def lendF (s : StockV) (d n : Int) : StockV × Int :=
  if (s.free.2 && LoanV.right ⟨d, n, 0, false⟩) = false then (noStock, 1) else if s.free.1 < n ∨ s.loans.length = 100 then (noStock, 6) else (⟨s.total, s.spent, s.loans ++ [⟨d, n, 0, false⟩]⟩, 0)

theorem noStock_ret (w w' : World) (r : Int) (h : Below w.heap.size w w') : StockRet w noStock r (.returned (.tuple #[.agg #[.int .i64 0, .int .i64 0, .slice none 0 0], .int .i64 r])) w' :=
  ⟨none, 0, rfl, SlF.nil_ _ _ _, h⟩


theorem k100 {f1 n : Int} {k : Nat} (h : f1 < n ∨ ((k : Int) == 100) = true) : f1 < n ∨ k = 100 := by simp at h; omega
set_option maxHeartbeats 1000000 in
theorem Lend_any (t s : Int) (A : Option Addr) (k c : Nat) (ls : List LoanV) (d n : Int) (r : StockV × Int) (hr : lendF ⟨t, s, ls⟩ d n = r) (w : World) (hs : Sl w 4 A k (ls.map LoanV.cells)) :
    Calls Try.prog 12 #[.agg #[.int .i64 t, .int .i64 s, .slice A k c], .int .i64 d, .int .i64 n] w (StockRet w r.1 r.2) := by
  have hl : ls.length = k := by simpa using hs.1
  obtain ⟨f1, f2, hf⟩ : ∃ f1 f2, StockV.free ⟨t, s, ls⟩ = (f1, f2) := ⟨_, _, rfl⟩
  obtain ⟨q, hq⟩ : ∃ q, LoanV.right ⟨d, n, 0, false⟩ = q := ⟨_, rfl⟩
  have h1 : (f2 && q) = false → r = (noStock, 1) := fun h => by rw [← hr]; unfold lendF; rw [hf, hq, if_pos h]
  have h2 : (f2 && q) = true → f1 < n ∨ k = 100 → r = (noStock, 6) := fun h h' => by rw [← hr]; unfold lendF; rw [hf, hq, if_neg (by simp [h]), if_pos (by simpa [hl] using h')]
  have h3 : (f2 && q) = true → ¬ (f1 < n ∨ k = 100) → r = (⟨t, s, ls ++ [⟨d, n, 0, false⟩]⟩, 0) := fun h h' => by rw [← hr]; unfold lendF; rw [hf, hq, if_neg (by simp [h]), if_neg (by simpa [hl] using h')]
  have hend : r.1 = noStock → r.2 = 1 ∨ r.2 = 6 → ∀ w', Below w.heap.size w w' → StockRet w r.1 r.2 (.returned (.tuple #[.agg #[.int .i64 0, .int .i64 0, .slice none 0 0], .int .i64 r.2])) w' := fun h _ w' hb => by rw [h]; exact noStock_ret _ _ _ hb
  have HS := Lib.hid hs
  have HF := Lib.hid hf
  have HQ := Lib.hid hq
  have H1 := Lib.hid h1
  have H2 := Lib.hid h2
  have H3 := Lib.hid h3
  have HE := Lib.hid hend
  clear hf hs hq h1 h2 h3 hr hend hl
  go_enter Try.func12, Try.ntmps12
  go_wp2_with (first | (go_at_call 27; refine (free_any _ _ _ _ _ ls _ ((HS.out.alloc _).alloc _) (f1, f2) HF.out).mono ?_; rintro e w1 ⟨rfl, hb⟩; have HS1 := Lib.hid (((HS.out.alloc _).alloc _).below hb); obtain ⟨hz0, hz1, c0, f0, c1, f1', co, hb'⟩ := after2 hb; have HB := Lib.hid hb'; clear hb hb') | (go_at_call 31; refine (right_any _ _ _ _ _ HQ.out _).mono ?_; rintro e w' ⟨rfl, rfl⟩))
  · have e := H1.out (by simp only [Bool.not_eq_true'] at *; simp [*])
    subst e
    refine bodyPost_ret (v := .tuple #[.agg #[.int .i64 0, .int .i64 0, .slice none 0 0], .int .i64 1]) (by simp [results, Try.results12, go_sem, c1, hz0, hz1]) rfl (noStock_ret _ _ _ ?_)
    exact ((((HB.out.setCell (by simp) _).setCell (by simp) _).setCell (by simp) _).alloc (by first | omega | (simp <;> omega)) _).alloc (by first | omega | (simp <;> omega)) _
  · have e := H2.out (by simp only [Bool.not_eq_false'] at *; simp [*]) (k100 (by assumption))
    subst e
    refine bodyPost_ret (v := .tuple #[.agg #[.int .i64 0, .int .i64 0, .slice none 0 0], .int .i64 6]) (by simp [results, Try.results12, go_sem, c1, hz0, hz1]) rfl (noStock_ret _ _ _ ?_)
    exact ((((HB.out.setCell (by simp) _).setCell (by simp) _).setCell (by simp) _).alloc (by simp; omega) _).alloc (by simp; omega) _
  · obtain ⟨i0, hi0, hi1, hi2, hi3⟩ := info_parts infoLoan
    have hf2 : f2 = true := by assumption
    subst hf2
    have W0 : Hid (k ≤ 1000) := by have h1 := (free_len HF.out).1; have h2 := HS.out.1; rw [List.length_map] at h2; show k ≤ 1000; omega
    have hB1 := below2 w1 (.cells #[.int .i64 d, .int .i64 n, .int .i64 0, .bool false] 26) (.cells #[.int .i64 d, .int .i64 n, .int .i64 0, .bool false] 26)
    have kL : ∀ j, ((w1.alloc (.cells #[.int .i64 d, .int .i64 n, .int .i64 0, .bool false] 26)).alloc (.cells #[.int .i64 d, .int .i64 n, .int .i64 0, .bool false] 26)).cell? ⟨w1.heap.size, j, none⟩ = #[Value.int .i64 d, .int .i64 n, .int .i64 0, .bool false][j]? := fun j => by rw [World.cell?_alloc_past _ _ _ (by simp), World.cell?_alloc_at _ _ _ _ rfl]
    have hS : w1.heap.size < ((w1.alloc (.cells #[.int .i64 d, .int .i64 n, .int .i64 0, .bool false] 26)).alloc (.cells #[.int .i64 d, .int .i64 n, .int .i64 0, .bool false] 26)).heap.size := by simp; omega
    have hSl := (HS1.out.alloc (.cells #[.int .i64 d, .int .i64 n, .int .i64 0, .bool false] 26)).alloc (.cells #[.int .i64 d, .int .i64 n, .int .i64 0, .bool false] 26)
    generalize ((w1.alloc (.cells #[.int .i64 d, .int .i64 n, .int .i64 0, .bool false] 26)).alloc (.cells #[.int .i64 d, .int .i64 n, .int .i64 0, .bool false] 26)) = W at *
    obtain ⟨bcW, bfW⟩ := bcell hB1
    have k0 : ∀ j, W.cell? ⟨w.heap.size, j, none⟩ = #[.int .i64 t, .int .i64 s, .slice A k c][j]? := fun j => (bcW _ _ hz0).trans (c0 j)
    have k1 : ∀ j, W.cell? ⟨w.heap.size + 1, j, none⟩ = #[.int .i64 0, .int .i64 0, .slice none 0 0][j]? := fun j => (bcW _ _ hz1).trans (c1 j)
    have j0 : ∀ j, W.frozen? ⟨w.heap.size, j, none⟩ = false := fun j => (bfW _ _ hz0).trans (f0 j)
    have j1 : ∀ j, W.frozen? ⟨w.heap.size + 1, j, none⟩ = false := fun j => (bfW _ _ hz1).trans (f1' j)
    have hw0 : w.heap.size < W.heap.size := Nat.lt_trans hz0 hS
    have hw1 : w.heap.size + 1 < W.heap.size := Nat.lt_trans hz1 hS
    have HB1 := Lib.hid (HB.out.trans (hB1.mono (Nat.le_of_lt hz0)))
    have HSW := Lib.hid hSl
    clear bcW bfW hB1 hSl c0 f0 c1 f1' co hz0 hz1 HB
    have hnew := Sl.new_ W 26 [.int .i64 d, .int .i64 n, .int .i64 0, .bool false]
    have HNEW := Lib.hid hnew
    clear hnew
    go_region_law (first
      | (refine step_append_sl _ (by rfl) (.tmp 41) (.tmp 43) _ (by rfl) _ _ _ _ 4 32 Try.underlying22 hi0 hi1 hi2 hi3 rfl (by omega) _ _ _ (by rfl) (by first | exact hown2 | exact hown2.alloc _) _ _ _ [[.int .i64 d, .int .i64 n, .int .i64 0, .bool false]] (by rfl) (by first | exact HNEW.out.below (undrew hb2) | exact Sl.new_ _ _ _) (by simp) (by simp [Value.oneCell']) (by have := W0.out; simp only [maxLen]; omega) (by have := W0.out; omega) (by have := hb2.size; simp at this ⊢; omega) ?_
         intro A3 c3 w3 hown3 hg3 hat3
         have hb3 : Below W.heap.size W w3 := by
           first
             | exact hown2.below_grown (by first | omega | (simp <;> omega)) (by first | omega | (simp <;> omega)) hu hg3
             | exact (hown2.alloc _).below_grown (by first | omega | (simp <;> omega)) (by first | omega | (simp <;> omega)) (hu.alloc (by have := hu.size; omega) _) hg3
         obtain ⟨bc3, bf3⟩ := bcell hb3)
      | (go_simp; go_at_call 29
         refine (Clone_any _ _ _ ls _ (by first | exact Sl.drew HSW.out | exact Sl.drew (HSW.out.alloc _)) W0.out).mono ?_
         rintro e w2 ⟨A2, c2, rfl, hown2, hb2⟩
         have hu : Below W.heap.size W w2 := by
           refine Below.trans ?_ ((undrew hb2).mono (by first | omega | (simp <;> omega)))
           repeat (first | exact Below.refl _ _ | refine Below.alloc ?_ (by first | omega | (simp <;> omega)) _)
         have hwu := hu.size
         obtain ⟨bc2, bf2⟩ := bcell hu))
    all_goals
      have n0 : ∀ j, w3.cell? ⟨w.heap.size, j, none⟩ = #[.int .i64 t, .int .i64 s, .slice A k c][j]? := fun j => (bc3 _ _ hw0).trans (k0 j)
      have n1 : ∀ j, w3.cell? ⟨w.heap.size + 1, j, none⟩ = #[.int .i64 0, .int .i64 0, .slice none 0 0][j]? := fun j => (bc3 _ _ hw1).trans (k1 j)
      have m0 : ∀ j, w3.frozen? ⟨w.heap.size, j, none⟩ = false := fun j => (bf3 _ _ hw0).trans (j0 j)
      have m1 : ∀ j, w3.frozen? ⟨w.heap.size + 1, j, none⟩ = false := fun j => (bf3 _ _ hw1).trans (j1 j)
      have HB3 := Lib.hid (HB1.out.trans (hb3.mono (Nat.le_of_lt hw0)))
      have HO3 := Lib.hid (hown3.mono (base' := W.heap.size) (by first | omega | (simp <;> omega)))
      clear hb3 bc3 bf3 hown3 hg3 hat3 k0 k1 j0 j1 kL hu bc2 bf2 hb2 hown2
      go_wp2
      refine bodyPost_ret (v := .tuple #[.agg #[.int .i64 t, .int .i64 s, .slice A3 (k + 1) c3], .int .i64 0]) (by simp [results, Try.results12, go_sem, n1]) rfl ?_
      have hl : ls.length = k := by simpa using HS.out.1
      have er := H3.out (by simp only [Bool.not_eq_false'] at *; simp [*]) (by rintro (h | h) <;> simp_all <;> omega)
      subst er
      obtain ⟨A', c', hA, hsl⟩ := ((((HO3.out.setBelow (p := ⟨w.heap.size, 2, none⟩) hw0 (.slice A3 (k + 1) c3)).setBelow (p := ⟨w.heap.size + 1, 0, none⟩) hw1 (.int .i64 t)).setBelow (p := ⟨w.heap.size + 1, 1, none⟩) hw1 (.int .i64 s)).setBelow (p := ⟨w.heap.size + 1, 2, none⟩) hw1 (.slice A3 (k + 1) c3)).sl
      injection hA with hA hn hc
      subst hA
      exact ⟨A3, c3, by simp [hl], ⟨by simpa [hl, LoanV.cells] using hsl, fun ad e => Nat.le_trans (by omega) (HO3.out.fresh ad e)⟩, (((HB3.out.setCell (by simp) _).setCell (by simp) _).setCell (by simp) _).setCell (by simp) _⟩
  · have e := H2.out (by simp only [Bool.not_eq_false'] at *; simp [*]) (Or.inl (by assumption))
    subst e
    refine bodyPost_ret (v := .tuple #[.agg #[.int .i64 0, .int .i64 0, .slice none 0 0], .int .i64 6]) (by simp [results, Try.results12, go_sem, c1, hz0, hz1]) rfl (noStock_ret _ _ _ ?_)
    exact ((((HB.out.setCell (by simp) _).setCell (by simp) _).setCell (by simp) _).alloc (by simp; omega) _).alloc (by simp; omega) _
  · have e := H1.out (by simp_all)
    subst e
    refine bodyPost_ret (v := .tuple #[.agg #[.int .i64 0, .int .i64 0, .slice none 0 0], .int .i64 1]) (by simp [results, Try.results12, go_sem, c1, hz1]) rfl (noStock_ret _ _ _ ?_)
    exact ((((HB.out.setCell (by simp) _).setCell (by simp) _).setCell (by simp) _).alloc (by simp; omega) _)
end Go.Proofs.Ytfohjkddcinfmaa
