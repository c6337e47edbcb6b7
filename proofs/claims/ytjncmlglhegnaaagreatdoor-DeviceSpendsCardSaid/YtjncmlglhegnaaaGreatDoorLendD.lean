/- lend: Lend, walked. -/
/- lend: Merge, walked. -/
import Derived.Test.YtjncmlglhegnaaaGreatDoorLendB
import Derived.Deep.RegionHeld3
import Derived.Deep.RegionLaw
import Derived.StillTactics
import Derived.BigRegion
namespace Go.Proofs.YtjncmlglhegnaaaGreatDoor
open Go.RowKit

def lendF (s : StockV) (d n : Int) : StockV × Int :=
  if (s.free.2 && LoanV.right ⟨d, n, 0, false⟩) = false then (noStock, 1) else if s.free.1 < n ∨ s.loans.length = 100 then (noStock, 6) else (⟨s.total, s.spent, s.loans ++ [⟨d, n, 0, false⟩]⟩, 0)

theorem noStock_ret (w w' : World) (r : Int) (h : Below w.heap.size w w') : StockRet w noStock r (.returned (.tuple #[.agg #[.int .i64 0, .int .i64 0, .slice none 0 0], .int .i64 r])) w' :=
  ⟨none, 0, rfl, SlF.nil_ _ _ _, h⟩


theorem k100 {f1 n : Int} {k : Nat} (h : f1 < n ∨ ((k : Int) == 100) = true) : f1 < n ∨ k = 100 := by simp at h; omega
set_option maxRecDepth 100000 in
set_option maxHeartbeats 1000000 in
theorem Lend_any (t s : Int) (A : Option Addr) (k c : Nat) (ls : List LoanV) (d n : Int) (r : StockV × Int) (hr : lendF ⟨t, s, ls⟩ d n = r) (w : World) (hs : Sl w 4 A k (ls.map LoanV.cells)) :
    Calls Tryz.prog 42 #[.agg #[.int .i64 t, .int .i64 s, .slice A k c], .int .i64 d, .int .i64 n] w (StockRet w r.1 r.2) := by
  have hl : ls.length = k := by simpa using hs.1
  obtain ⟨f1, f2, hf⟩ : ∃ f1 f2, StockV.free ⟨t, s, ls⟩ = (f1, f2) := ⟨_, _, rfl⟩
  obtain ⟨q, hq⟩ : ∃ q, LoanV.right ⟨d, n, 0, false⟩ = q := ⟨_, rfl⟩
  have h1 : (f2 && q) = false → r = (noStock, 1) := fun h => by rw [← hr]; unfold lendF; rw [hf, hq, if_pos h]
  have h2 : (f2 && q) = true → f1 < n ∨ k = 100 → r = (noStock, 6) := fun h h' => by rw [← hr]; unfold lendF; rw [hf, hq, if_neg (by simp [h]), if_pos (by simpa [hl] using h')]
  have h3 : (f2 && q) = true → ¬ (f1 < n ∨ k = 100) → r = (⟨t, s, ls ++ [⟨d, n, 0, false⟩]⟩, 0) := fun h h' => by rw [← hr]; unfold lendF; rw [hf, hq, if_neg (by simp [h]), if_neg (by simpa [hl] using h')]
  have hend : r.1 = noStock → r.2 = 1 ∨ r.2 = 6 → ∀ w', Below w.heap.size w w' → StockRet w r.1 r.2 (.returned (.tuple #[.agg #[.int .i64 0, .int .i64 0, .slice none 0 0], .int .i64 r.2])) w' := fun h _ w' hb => by rw [h]; exact noStock_ret _ _ _ hb
  have HS := Lib.hid hs
  have HF := Lib.hid hf
  have HQ := Lib.hid hq
  have H1 := Lib.hid h1
  have H2 := Lib.hid h2
  have H3 := Lib.hid h3
  have HE := Lib.hid hend
  clear hf hs hq h1 h2 h3 hr hend hl
  go_enter Tryz.func42, Tryz.ntmps42
  go_wp2_with (first | (go_at_call 86; refine (free_any _ _ _ _ _ ls _ ((HS.out.alloc _).alloc _) (f1, f2) HF.out).mono ?_; rintro e w1 ⟨rfl, hb⟩; have HS1 := Lib.hid (((HS.out.alloc _).alloc _).below hb); obtain ⟨hz0, hz1, c0, f0, c1, f1', co, hb'⟩ := after2 hb; have HB := Lib.hid hb'; clear hb hb') | (go_at_call 58; refine (right_any _ _ _ _ _ HQ.out _).mono ?_; rintro e w' ⟨rfl, rfl⟩))
  · have e := H1.out (by simp only [Bool.not_eq_true'] at *; simp [*])
    subst e
    refine bodyPost_ret (v := .tuple #[.agg #[.int .i64 0, .int .i64 0, .slice none 0 0], .int .i64 1]) (by simp [results, Tryz.results42, go_sem, c1, hz0, hz1]) rfl (noStock_ret _ _ _ ?_)
    exact ((((HB.out.setCell (by simp) _).setCell (by simp) _).setCell (by simp) _).alloc (by first | omega | (simp <;> omega)) _).alloc (by first | omega | (simp <;> omega)) _
  · have e := H2.out (by simp only [Bool.not_eq_false'] at *; simp [*]) (k100 (by assumption))
    subst e
    refine bodyPost_ret (v := .tuple #[.agg #[.int .i64 0, .int .i64 0, .slice none 0 0], .int .i64 6]) (by simp [results, Tryz.results42, go_sem, c1, hz0, hz1]) rfl (noStock_ret _ _ _ ?_)
    exact ((((HB.out.setCell (by simp) _).setCell (by simp) _).setCell (by simp) _).alloc (by simp; omega) _).alloc (by simp; omega) _
  · obtain ⟨i0, hi0, hi1, hi2, hi3⟩ := info_parts infoLoan
    have hf2 : f2 = true := by assumption
    subst hf2
    have W0 : Hid (k ≤ 1000) := by have h1 := (free_len HF.out).1; have h2 := HS.out.1; rw [List.length_map] at h2; show k ≤ 1000; omega
    have hB1 := below2 w1 (.cells #[.int .i64 d, .int .i64 n, .int .i64 0, .bool false] 24) (.cells #[.int .i64 d, .int .i64 n, .int .i64 0, .bool false] 24)
    have kL : ∀ j, ((w1.alloc (.cells #[.int .i64 d, .int .i64 n, .int .i64 0, .bool false] 24)).alloc (.cells #[.int .i64 d, .int .i64 n, .int .i64 0, .bool false] 24)).cell? ⟨w1.heap.size, j, none⟩ = #[Value.int .i64 d, .int .i64 n, .int .i64 0, .bool false][j]? := fun j => by rw [World.cell?_alloc_past _ _ _ (by simp), World.cell?_alloc_at _ _ _ _ rfl]
    have hS : w1.heap.size < ((w1.alloc (.cells #[.int .i64 d, .int .i64 n, .int .i64 0, .bool false] 24)).alloc (.cells #[.int .i64 d, .int .i64 n, .int .i64 0, .bool false] 24)).heap.size := by simp; omega
    have hSl := (HS1.out.alloc (.cells #[.int .i64 d, .int .i64 n, .int .i64 0, .bool false] 24)).alloc (.cells #[.int .i64 d, .int .i64 n, .int .i64 0, .bool false] 24)
    generalize ((w1.alloc (.cells #[.int .i64 d, .int .i64 n, .int .i64 0, .bool false] 24)).alloc (.cells #[.int .i64 d, .int .i64 n, .int .i64 0, .bool false] 24)) = W at *
    obtain ⟨bcW, bfW⟩ := bcell hB1
    have k0 : ∀ j, W.cell? ⟨w.heap.size, j, none⟩ = #[.int .i64 t, .int .i64 s, .slice A k c][j]? := fun j => (bcW _ _ hz0).trans (c0 j)
    have k1 : ∀ j, W.cell? ⟨w.heap.size + 1, j, none⟩ = #[.int .i64 0, .int .i64 0, .slice none 0 0][j]? := fun j => (bcW _ _ hz1).trans (c1 j)
    have j0 : ∀ j, W.frozen? ⟨w.heap.size, j, none⟩ = false := fun j => (bfW _ _ hz0).trans (f0 j)
    have j1 : ∀ j, W.frozen? ⟨w.heap.size + 1, j, none⟩ = false := fun j => (bfW _ _ hz1).trans (f1' j)
    have hw0 : w.heap.size < W.heap.size := Nat.lt_trans hz0 hS
    have hw1 : w.heap.size + 1 < W.heap.size := Nat.lt_trans hz1 hS
    have HB1 := Lib.hid (HB.out.trans (hB1.mono (Nat.le_of_lt hz0)))
    have HSW := Lib.hid hSl
    clear bcW bfW hB1 hSl c0 f0 c1 f1' co hz0 hz1 HB
    have hnew := Sl.new_ W 24 [.int .i64 d, .int .i64 n, .int .i64 0, .bool false]
    have HNEW := Lib.hid hnew
    clear hnew
    go_region_law (first
      | (refine step_append_sl _ (by rfl) (.tmp 41) (.tmp 43) _ (by rfl) _ _ _ _ 4 32 Tryz.underlying67 hi0 hi1 hi2 hi3 rfl (by omega) _ _ _ (by rfl) (by first | exact hown2 | exact hown2.alloc _) _ _ _ [[.int .i64 d, .int .i64 n, .int .i64 0, .bool false]] (by rfl) (by first | exact HNEW.out.below (undrew hb2) | exact Sl.new_ _ _ _) (by simp) (by simp [Value.oneCell']) (by have := W0.out; simp only [maxLen]; omega) (by have := W0.out; omega) (by have := hb2.size; simp at this ⊢; omega) ?_
         intro A3 c3 w3 hown3 hg3 hat3
         have hb3 : Below W.heap.size W w3 := by
           first
             | exact hown2.below_grown (by first | omega | (simp <;> omega)) (by first | omega | (simp <;> omega)) hu hg3
             | exact (hown2.alloc _).below_grown (by first | omega | (simp <;> omega)) (by first | omega | (simp <;> omega)) (hu.alloc (by have := hu.size; omega) _) hg3
         obtain ⟨bc3, bf3⟩ := bcell hb3)
      | (go_simp; go_at_call 87
         refine (Clone_any _ _ _ ls _ (by first | exact Sl.drew HSW.out | exact Sl.drew (HSW.out.alloc _)) W0.out).mono ?_
         rintro e w2 ⟨A2, c2, rfl, hown2, hb2⟩
         have hu : Below W.heap.size W w2 := by
           refine Below.trans ?_ ((undrew hb2).mono (by first | omega | (simp <;> omega)))
           repeat (first | exact Below.refl _ _ | refine Below.alloc ?_ (by first | omega | (simp <;> omega)) _)
         have hwu := hu.size
         obtain ⟨bc2, bf2⟩ := bcell hu))
    all_goals
      have n0 : ∀ j, w3.cell? ⟨w.heap.size, j, none⟩ = #[.int .i64 t, .int .i64 s, .slice A k c][j]? := fun j => (bc3 _ _ hw0).trans (k0 j)
      have n1 : ∀ j, w3.cell? ⟨w.heap.size + 1, j, none⟩ = #[.int .i64 0, .int .i64 0, .slice none 0 0][j]? := fun j => (bc3 _ _ hw1).trans (k1 j)
      have m0 : ∀ j, w3.frozen? ⟨w.heap.size, j, none⟩ = false := fun j => (bf3 _ _ hw0).trans (j0 j)
      have m1 : ∀ j, w3.frozen? ⟨w.heap.size + 1, j, none⟩ = false := fun j => (bf3 _ _ hw1).trans (j1 j)
      have HB3 := Lib.hid (HB1.out.trans (hb3.mono (Nat.le_of_lt hw0)))
      have HO3 := Lib.hid (hown3.mono (base' := W.heap.size) (by first | omega | (simp <;> omega)))
      clear hb3 bc3 bf3 hown3 hg3 hat3 k0 k1 j0 j1 kL hu bc2 bf2 hb2 hown2
      go_wp2
      refine bodyPost_ret (v := .tuple #[.agg #[.int .i64 t, .int .i64 s, .slice A3 (k + 1) c3], .int .i64 0]) (by simp [results, Tryz.results42, go_sem, n1]) rfl ?_
      have hl : ls.length = k := by simpa using HS.out.1
      have er := H3.out (by simp only [Bool.not_eq_false'] at *; simp [*]) (by rintro (h | h) <;> simp_all <;> omega)
      subst er
      obtain ⟨A', c', hA, hsl⟩ := ((((HO3.out.setBelow (p := ⟨w.heap.size, 2, none⟩) hw0 (.slice A3 (k + 1) c3)).setBelow (p := ⟨w.heap.size + 1, 0, none⟩) hw1 (.int .i64 t)).setBelow (p := ⟨w.heap.size + 1, 1, none⟩) hw1 (.int .i64 s)).setBelow (p := ⟨w.heap.size + 1, 2, none⟩) hw1 (.slice A3 (k + 1) c3)).sl
      injection hA with hA hn hc
      subst hA
      exact ⟨A3, c3, by simp [hl], ⟨by simpa [hl, LoanV.cells] using hsl, fun ad e => Nat.le_trans (by omega) (HO3.out.fresh ad e)⟩, (((HB3.out.setCell (by simp) _).setCell (by simp) _).setCell (by simp) _).setCell (by simp) _⟩
  · have e := H2.out (by simp only [Bool.not_eq_false'] at *; simp [*]) (Or.inl (by assumption))
    subst e
    refine bodyPost_ret (v := .tuple #[.agg #[.int .i64 0, .int .i64 0, .slice none 0 0], .int .i64 6]) (by simp [results, Tryz.results42, go_sem, c1, hz0, hz1]) rfl (noStock_ret _ _ _ ?_)
    exact ((((HB.out.setCell (by simp) _).setCell (by simp) _).setCell (by simp) _).alloc (by simp; omega) _).alloc (by simp; omega) _
  · have e := H1.out (by simp_all)
    subst e
    refine bodyPost_ret (v := .tuple #[.agg #[.int .i64 0, .int .i64 0, .slice none 0 0], .int .i64 1]) (by simp [results, Tryz.results42, go_sem, c1, hz1]) rfl (noStock_ret _ _ _ ?_)
    exact ((((HB.out.setCell (by simp) _).setCell (by simp) _).setCell (by simp) _).alloc (by simp; omega) _)
end Go.Proofs.YtjncmlglhegnaaaGreatDoor
namespace Go.Proofs.YtjncmlglhegnaaaGreatDoor
open Go.RowKit

def mergeF (s : StockV) (i : Int) (l : LoanV) : StockV × Int :=
  if (s.free.2 && l.right) = false then (noStock, 1) else if i < 0 ∨ (s.loans.length : Int) ≤ i then (noStock, 4) else
  match s.loans[i.toNat]? with
  | none => (noStock, 4)
  | some x => if x.device ≠ l.device ∨ x.units ≠ l.units then (noStock, 21) else if forkedB x l then (noStock, 22) else
    (⟨s.total, s.spent, s.loans.set i.toNat ⟨x.device, x.units, max x.spent l.spent, x.back || l.back⟩⟩, 0)

theorem free_len2 {t s : Int} {ls : List LoanV} (h : (StockV.free ⟨t, s, ls⟩).2 = true) : ls.length ≤ 100 :=
  (free_len (v := (StockV.free ⟨t, s, ls⟩).1) (Prod.ext rfl h)).1

set_option maxRecDepth 100000 in
set_option maxHeartbeats 1000000 in
theorem Merge_arg (t s : Int) (A : Option Addr) (k c : Nat) (ls : List LoanV) (i d u p : Int) (b f2 q : Bool) (hf : (StockV.free ⟨t, s, ls⟩).2 = f2) (hq : LoanV.right ⟨d, u, p, b⟩ = q) (h : (f2 && q) = false) (w : World) (hs : Sl w 4 A k (ls.map LoanV.cells)) :
    Calls Tryz.prog 45 #[.agg #[.int .i64 t, .int .i64 s, .slice A k c], .int .i64 i, .agg #[.int .i64 d, .int .i64 u, .int .i64 p, .bool b]] w (StockRet w noStock 1) := by
  have HS := Lib.hid hs
  have HF := Lib.hid hf
  have HQ := Lib.hid hq
  have HH := Lib.hid h
  clear hf hs hq h
  go_enter Tryz.func45, Tryz.ntmps45
  go_wp2_with (fail)
  refine (StockRight_any _ _ _ _ _ ls _ (((HS.out.alloc _).alloc _).alloc _) f2 HF.out).mono ?_
  rintro e w1 ⟨rfl, hb⟩
  obtain ⟨hz0, hz1, hz2, c0, f0, c1, f1', c2, f2', co, hb'⟩ := after3 hb
  have HB := Lib.hid hb'
  clear hb hb' co
  rcases f2 with _ | _
  · go_wp2_with (fail)
    refine bodyPost_ret (v := .tuple #[.agg #[.int .i64 0, .int .i64 0, .slice none 0 0], .int .i64 1]) (by simp [results, Tryz.results45, go_sem, c2]) rfl (noStock_ret _ _ _ ?_)
    exact ((((HB.out.setCell (by first | omega | (simp <;> omega)) _).setCell (by first | omega | (simp <;> omega)) _).setCell (by first | omega | (simp <;> omega)) _))
  · have hq : q = false := by simpa using HH.out
    subst hq
    go_wp2_with (fail)
    refine (right_any _ _ _ _ _ HQ.out _).mono ?_
    rintro e w' ⟨rfl, rfl⟩
    go_wp2_with (fail)
    refine bodyPost_ret (v := .tuple #[.agg #[.int .i64 0, .int .i64 0, .slice none 0 0], .int .i64 1]) (by simp [results, Tryz.results45, go_sem, c2, hz2]) rfl (noStock_ret _ _ _ ?_)
    exact ((((HB.out.setCell (by first | omega | (simp <;> omega)) _).setCell (by first | omega | (simp <;> omega)) _).setCell (by first | omega | (simp <;> omega)) _)).alloc (by first | omega | (simp <;> omega)) _

set_option maxRecDepth 100000 in
set_option maxHeartbeats 1000000 in
theorem Merge_out (t s : Int) (A : Option Addr) (k c : Nat) (ls : List LoanV) (i d u p : Int) (b : Bool) (hf : (StockV.free ⟨t, s, ls⟩).2 = true) (hq : LoanV.right ⟨d, u, p, b⟩ = true) (ho : i < 0 ∨ (k : Int) ≤ i) (w : World) (hs : Sl w 4 A k (ls.map LoanV.cells)) :
    Calls Tryz.prog 45 #[.agg #[.int .i64 t, .int .i64 s, .slice A k c], .int .i64 i, .agg #[.int .i64 d, .int .i64 u, .int .i64 p, .bool b]] w (StockRet w noStock 4) := by
  have HS := Lib.hid hs
  have HF := Lib.hid hf
  have HQ := Lib.hid hq
  clear hf hs hq
  go_enter Tryz.func45, Tryz.ntmps45
  go_wp2_with (fail)
  refine (StockRight_any _ _ _ _ _ ls _ (((HS.out.alloc _).alloc _).alloc _) true HF.out).mono ?_
  rintro e w1 ⟨rfl, hb⟩
  obtain ⟨hz0, hz1, hz2, c0, f0, c1, f1', c2, f2', co, hb'⟩ := after3 hb
  have HB := Lib.hid hb'
  clear hb hb' co
  go_wp2_with (fail)
  refine (right_any _ _ _ _ _ HQ.out _).mono ?_
  rintro e w' ⟨rfl, rfl⟩
  rcases ho with ho | ho
  · go_wp2_with (fail)
    refine bodyPost_ret (v := .tuple #[.agg #[.int .i64 0, .int .i64 0, .slice none 0 0], .int .i64 4]) (by simp [results, Tryz.results45, go_sem, c2, hz2]) rfl (noStock_ret _ _ _ ?_)
    exact ((((HB.out.setCell (by first | omega | (simp <;> omega)) _).setCell (by first | omega | (simp <;> omega)) _).setCell (by first | omega | (simp <;> omega)) _)).alloc (by first | omega | (simp <;> omega)) _
  · have h0 : ¬ i < 0 := by omega
    go_wp2_with (fail)
    refine bodyPost_ret (v := .tuple #[.agg #[.int .i64 0, .int .i64 0, .slice none 0 0], .int .i64 4]) (by simp [results, Tryz.results45, go_sem, c2, hz2]) rfl (noStock_ret _ _ _ ?_)
    exact ((((HB.out.setCell (by first | omega | (simp <;> omega)) _).setCell (by first | omega | (simp <;> omega)) _).setCell (by first | omega | (simp <;> omega)) _)).alloc (by first | omega | (simp <;> omega)) _

theorem map_set_cells (ls : List LoanV) (m : Nat) (l : LoanV) : (ls.set m l).map LoanV.cells = (ls.map LoanV.cells).set m l.cells := by
  rw [List.map_set]
/-- what the two stores make of the copy -/
theorem merged {W : World} {B gg k c m : Nat} {ls : List LoanV} {d u p : Int} {b : Bool} (h : Own W B 24 4 (.slice (some ⟨gg, 0, none⟩) k c) k (ls.map LoanV.cells)) (hx : ls[m]? = some ⟨d, u, p, b⟩) (p1 : Int) (b1 : Bool) :
    Own ((W.setCell ⟨gg, m * 4 + 2, none⟩ (.int .i64 p1)).setCell ⟨gg, m * 4 + 3, none⟩ (.bool b1)) B 24 4 (.slice (some ⟨gg, 0, none⟩) k c) k ((ls.set m ⟨d, u, p1, b1⟩).map LoanV.cells) := by
  have hm : m < ls.length := (List.getElem?_eq_some_iff.1 hx).1
  have h1 := h.stored (i := m) (j := 2) (x := LoanV.cells ⟨d, u, p, b⟩) (by rw [List.getElem?_map, hx]; rfl) (by omega) (.int .i64 p1)
  have h2 := h1.stored (i := m) (j := 3) (x := LoanV.cells ⟨d, u, p1, b⟩) (by rw [List.getElem?_set_self (by simpa using hm)]; rfl) (by omega) (.bool b1)
  rw [map_set_cells]
  rw [List.set_set] at h2
  exact h2

theorem merge_fin {w w1 W : World} {gg k c m : Nat} {ls : List LoanV} {d u p : Int} {b : Bool} (h : Own W w1.heap.size 24 4 (.slice (some ⟨gg, 0, none⟩) k c) k (ls.map LoanV.cells)) (hx : ls[m]? = some ⟨d, u, p, b⟩) (hz : w.heap.size + 1 + 1 < w1.heap.size) (hg : w1.heap.size ≤ gg) (hl : ls.length = k) (hB : Below w.heap.size w W)
    (t s p1 p2 : Int) (hp : p1 = p2) {b1 : Bool} :
    StockRet w ⟨t, s, ls.set m ⟨d, u, p2, b1⟩⟩ 0 (.returned (.tuple #[.agg #[.int .i64 t, .int .i64 s, .slice (some ⟨gg, 0, none⟩) k c], .int .i64 0]))
      (((((W.setCell ⟨gg, m * 4 + 2, none⟩ (.int .i64 p1)).setCell ⟨gg, m * 4 + 3, none⟩ (.bool b1)).setCell ⟨w.heap.size + 1 + 1, 0, none⟩ (.int .i64 t)).setCell ⟨w.heap.size + 1 + 1, 1, none⟩ (.int .i64 s)).setCell ⟨w.heap.size + 1 + 1, 2, none⟩ (.slice (some ⟨gg, 0, none⟩) k c)).drew := by
  subst hp
  obtain ⟨A', c', hA, hsl⟩ := ((((merged h hx p1 b1).setBelow (p := ⟨w.heap.size + 1 + 1, 0, none⟩) hz (.int .i64 t)).setBelow (p := ⟨w.heap.size + 1 + 1, 1, none⟩) hz (.int .i64 s)).setBelow (p := ⟨w.heap.size + 1 + 1, 2, none⟩) hz (.slice (some ⟨gg, 0, none⟩) k c)).sl
  injection hA with hA hn hc
  subst hA
  subst hc
  have hlen : (ls.set m ⟨d, u, p1, b1⟩).length = k := by rw [List.length_set]; exact hl
  refine ⟨some ⟨gg, 0, none⟩, c, by simp only [hlen], ⟨?_, fun ad e => Nat.le_trans (by omega) (h.fresh ad e)⟩, ?_⟩
  · show Sl _ 4 _ (ls.set m ⟨d, u, p1, b1⟩).length _
    rw [hlen]
    exact hsl.drew
  · exact (((((hB.setCell (by first | omega | (simp <;> omega)) _).setCell (by first | omega | (simp <;> omega)) _).setCell (by first | omega | (simp <;> omega)) _).setCell (by first | omega | (simp <;> omega)) _).setCell (by first | omega | (simp <;> omega)) _).drew

set_option maxRecDepth 100000 in
set_option maxHeartbeats 4000000 in
theorem Merge_in (t s : Int) (A : Option Addr) (k c : Nat) (ls : List LoanV) (m : Nat) (d u p : Int) (b : Bool) (d' u' p' : Int) (b' : Bool) (hx : ls[m]? = some ⟨d', u', p', b'⟩) (r : StockV × Int)
    (h2 : d' ≠ d ∨ u' ≠ u → r = (noStock, 21)) (g : Bool) (hg : forkedB ⟨d', u', p', b'⟩ ⟨d, u, p, b⟩ = g)
    (h3 : d' = d → u' = u → g = true → r = (noStock, 22))
    (h4 : d' = d → u' = u → g = false → r = (⟨t, s, ls.set m ⟨d', u', max p' p, b' || b⟩⟩, 0))
    (hf : (StockV.free ⟨t, s, ls⟩).2 = true) (hq : LoanV.right ⟨d, u, p, b⟩ = true) (w : World) (hs : Sl w 4 A k (ls.map LoanV.cells)) (hm : m < k) :
    Calls Tryz.prog 45 #[.agg #[.int .i64 t, .int .i64 s, .slice A k c], .int .i64 m, .agg #[.int .i64 d, .int .i64 u, .int .i64 p, .bool b]] w (StockRet w r.1 r.2) := by
  have hl : ls.length = k := by simpa using hs.1
  have HS := Lib.hid hs
  have HF := Lib.hid hf
  have HQ := Lib.hid hq
  have HG := Lib.hid hg
  have H2 := Lib.hid h2
  have H3 := Lib.hid h3
  have H4 := Lib.hid h4
  have HX := Lib.hid hx
  have HL := Lib.hid hl
  clear hf hq hg h2 h3 h4 hl
  obtain ⟨bb, oo, rfl, hbb, hc⟩ := hs.2 m (LoanV.cells ⟨d', u', p', b'⟩) (by rw [List.getElem?_map, hx]; rfl)
  have x0 : w.cell? ⟨bb, oo + m * 4, none⟩ = some (.int .i64 d') := hc 0 _ rfl
  have x1 : w.cell? ⟨bb, oo + m * 4 + 1, none⟩ = some (.int .i64 u') := hc 1 _ rfl
  have x2 : w.cell? ⟨bb, oo + m * 4 + 2, none⟩ = some (.int .i64 p') := hc 2 _ rfl
  have x3 : w.cell? ⟨bb, oo + m * 4 + 3, none⟩ = some (.bool b') := hc 3 _ rfl
  clear hc hs hx
  go_enter Tryz.func45, Tryz.ntmps45
  go_wp2_with (fail)
  refine (StockRight_any _ _ _ _ _ ls _ (((HS.out.alloc _).alloc _).alloc _) true HF.out).mono ?_
  rintro e w1 ⟨rfl, hb⟩
  have HS1 := Lib.hid ((((HS.out.alloc _).alloc _).alloc _).below hb)
  obtain ⟨hz0, hz1, hz2, c0, f0, c1, f1', c2, f2', co, hb'⟩ := after3 hb
  have HB := Lib.hid hb'
  have y0 := (co _ (oo + m * 4) hbb).trans x0
  have y1 := (co _ (oo + m * 4 + 1) hbb).trans x1
  have y2 := (co _ (oo + m * 4 + 2) hbb).trans x2
  have y3 := (co _ (oo + m * 4 + 3) hbb).trans x3
  have hbb1 : bb < w1.heap.size := Nat.lt_trans hbb hz0
  clear hb hb' co
  clear x0 x1 x2 x3 hbb
  go_wp2_with (fail)
  refine (right_any _ _ _ _ _ HQ.out _).mono ?_
  rintro e w' ⟨rfl, rfl⟩
  have hlt : (m : Int) < (k : Int) := by omega
  by_cases hd : d' = d
  · by_cases hu : u' = u
    · subst hd
      subst hu
      go_wp2_with (fail)
      refine (forked_any _ _ _ _ _ _ _ _ _ HG.out _).mono ?_
      rintro e w' ⟨rfl, rfl⟩
      rcases g with _ | _
      · go_wp2_with (fail)
        have er := (by simpa using H4.out : r = _)
        subst er
        refine (Clone_any _ _ _ ls _ ((((HS1.out.alloc _).alloc _).alloc _).alloc _) (by have h1 := (free_len2 HF.out); have h2 := HL.out; omega)).mono ?_
        rintro e w2 ⟨A2, c2', rfl, hown2, hb2⟩
        obtain ⟨hy0, hy1, hy2, hy3, q0, g0, q1, g1, q2, g2, q3, g3, qo, hb2'⟩ := after4 hb2
        have qf := (bcell hb2').2
        obtain ⟨gg, cc, hv, hbase, hglt, hcl, hfr⟩ := hown2.at_ (i := m) (x := LoanV.cells ⟨d', u', p', b'⟩) (by rw [List.getElem?_map, HX.out]; rfl)
        injection hv with hv1 hv2 hv3
        subst hv1
        subst hv3
        go_wp2_with (fail)
        have n0 : (w2.setCell ⟨w.heap.size, 2, none⟩ (.slice (some ⟨gg, 0, none⟩) k c2')).cell? ⟨w.heap.size, 2, none⟩ = some (.slice (some ⟨gg, 0, none⟩) k c2') := World.cell?_setCell_same _ _ _ ((qo _ 2 hz0).trans (c0 2))
        have n1 : ∀ B o, B ≠ w.heap.size → (w2.setCell ⟨w.heap.size, 2, none⟩ (.slice (some ⟨gg, 0, none⟩) k c2')).cell? ⟨B, o, none⟩ = w2.cell? ⟨B, o, none⟩ := fun B o h => World.cell?_setCell_other _ _ _ _ (by simp <;> omega)
        have hgg : w1.heap.size + 1 + 1 + 1 + 1 ≤ gg := by simpa using hbase
        have nl := fun j => (n1 (w.heap.size + 1) j (by omega)).trans ((qo _ j hz1).trans (c1 j))
        have nx := fun j => (n1 (w1.heap.size + 1) j (by omega)).trans (q1 j)
        have ng2 := (n1 gg (m * 4 + 2) (by omega)).trans (hcl 2 _ rfl)
        have ng3 := (n1 gg (m * 4 + 3) (by omega)).trans (hcl 3 _ rfl)
        have nr := fun j => (n1 (w.heap.size + 1 + 1) j (by omega)).trans ((qo _ j hz2).trans (c2 j))
        have ns0 := (World.cell?_setCell_other w2 ⟨w.heap.size, 2, none⟩ ⟨w.heap.size, 0, none⟩ (.slice (some ⟨gg, 0, none⟩) k c2') (by simp)).trans ((qo _ 0 hz0).trans (c0 0))
        have ns1 := (World.cell?_setCell_other w2 ⟨w.heap.size, 2, none⟩ ⟨w.heap.size, 1, none⟩ (.slice (some ⟨gg, 0, none⟩) k c2') (by simp)).trans ((qo _ 1 hz0).trans (c0 1))
        have fg : ∀ j, (w2.setCell ⟨w.heap.size, 2, none⟩ (.slice (some ⟨gg, 0, none⟩) k c2')).frozen? ⟨gg, j, none⟩ = false := fun j => by rw [World.frozen?_setCell]; exact hfr j
        have fr2 : ∀ j, (w2.setCell ⟨w.heap.size, 2, none⟩ (.slice (some ⟨gg, 0, none⟩) k c2')).frozen? ⟨w.heap.size + 1 + 1, j, none⟩ = false := fun j => by rw [World.frozen?_setCell, qf _ _ hz2]; exact f2' j
        have HO := Lib.hid ((hown2.setBelow (p := ⟨w.heap.size, 2, none⟩) (by first | omega | (simp <;> omega)) (.slice (some ⟨gg, 0, none⟩) k c2')).mono (base' := w1.heap.size) (by first | omega | (simp <;> omega)))
        have HZ := Lib.hid hz2
        have HGG : Hid (w1.heap.size ≤ gg) := by show w1.heap.size ≤ gg; omega
        have HB2 := Lib.hid ((HB.out.trans (hb2'.mono (Nat.le_of_lt hz0))).setCell (p := ⟨w.heap.size, 2, none⟩) (Nat.le_refl _) (.slice (some ⟨gg, 0, none⟩) k c2'))
        have hne1 : w.heap.size ≠ gg := by omega
        have hne2 : w.heap.size + 1 ≠ gg := by omega
        have hne3 : w1.heap.size + 1 ≠ gg := by omega
        have hne4 : w.heap.size + 1 + 1 ≠ gg := by omega
        have hm0 : (0 : Int) ≤ (m : Int) := by omega
        clear n1 hcl hfr qo qf hb2 hb2' hown2 q0 g0 q1 g1 q2 g2 q3 g3 hy0 hy1 hy2 hy3 c0 f0 c1 f1' c2 f2' y0 y1 y2 y3 HS1 hbase hglt hgg
        generalize w2.setCell ⟨w.heap.size, 2, none⟩ (.slice (some ⟨gg, 0, none⟩) k c2') = W at *
        clear hz0 hz1 hz2 hbb1 HB
        rcases Int.lt_or_le p' p with hpp | hpp <;> cases b' <;> cases b
        all_goals go_region
        all_goals go_wp2_with (fail)
        all_goals refine bodyPost_ret (v := .tuple #[.agg #[.int .i64 t, .int .i64 s, .slice (some ⟨gg, 0, none⟩) k c2'], .int .i64 0]) (by simp [results, Tryz.results45, go_sem, nr]) rfl ?_
        all_goals exact merge_fin HO.out HX.out HZ.out HGG.out HL.out HB2.out _ _ _ _ (by omega)
      · go_wp2_with (fail)
        have e := (by simpa using H3.out : r = _)
        subst e
        refine bodyPost_ret (v := .tuple #[.agg #[.int .i64 0, .int .i64 0, .slice none 0 0], .int .i64 22]) (by simp [results, Tryz.results45, go_sem, c2, hz0, hz1, hz2]) rfl (noStock_ret _ _ _ ?_)
        exact ((((HB.out.setCell (by first | omega | (simp <;> omega)) _).setCell (by first | omega | (simp <;> omega)) _).setCell (by first | omega | (simp <;> omega)) _).alloc (by first | omega | (simp <;> omega)) _).alloc (by first | omega | (simp <;> omega)) _ |>.alloc (by first | omega | (simp <;> omega)) _ |>.alloc (by first | omega | (simp <;> omega)) _
    · have hu' : (u' != u) = true := by simpa using hu
      have er := H2.out (Or.inr hu)
      subst er
      subst hd
      go_wp2_with (fail)
      refine bodyPost_ret (v := .tuple #[.agg #[.int .i64 0, .int .i64 0, .slice none 0 0], .int .i64 21]) (by simp [results, Tryz.results45, go_sem, c2, hz1, hz2]) rfl (noStock_ret _ _ _ ?_)
      exact ((((HB.out.setCell (by first | omega | (simp <;> omega)) _).setCell (by first | omega | (simp <;> omega)) _).setCell (by first | omega | (simp <;> omega)) _).alloc (by first | omega | (simp <;> omega)) _).alloc (by first | omega | (simp <;> omega)) _
  · have hd' : (d' != d) = true := by simpa using hd
    have er := H2.out (Or.inl hd)
    subst er
    go_wp2_with (fail)
    refine bodyPost_ret (v := .tuple #[.agg #[.int .i64 0, .int .i64 0, .slice none 0 0], .int .i64 21]) (by simp [results, Tryz.results45, go_sem, c2, hz1, hz2]) rfl (noStock_ret _ _ _ ?_)
    exact ((((HB.out.setCell (by first | omega | (simp <;> omega)) _).setCell (by first | omega | (simp <;> omega)) _).setCell (by first | omega | (simp <;> omega)) _).alloc (by first | omega | (simp <;> omega)) _).alloc (by first | omega | (simp <;> omega)) _

theorem Merge_any (t s : Int) (A : Option Addr) (k c : Nat) (ls : List LoanV) (i d u p : Int) (b : Bool) (r : StockV × Int) (hr : mergeF ⟨t, s, ls⟩ i ⟨d, u, p, b⟩ = r) (w : World) (hs : Sl w 4 A k (ls.map LoanV.cells)) :
    Calls Tryz.prog 45 #[.agg #[.int .i64 t, .int .i64 s, .slice A k c], .int .i64 i, .agg #[.int .i64 d, .int .i64 u, .int .i64 p, .bool b]] w (StockRet w r.1 r.2) := by
  have hl : ls.length = k := by simpa using hs.1
  subst hr
  unfold mergeF
  rcases hf : (StockV.free ⟨t, s, ls⟩).2 with _ | _
  · exact Merge_arg t s A k c ls i d u p b false _ hf rfl rfl w hs
  rcases hq : LoanV.right ⟨d, u, p, b⟩ with _ | _
  · exact Merge_arg t s A k c ls i d u p b true false hf hq rfl w hs
  rw [if_neg (by simp)]
  by_cases ho : i < 0 ∨ (k : Int) ≤ i
  · rw [if_pos (by simpa [hl] using ho)]
    exact Merge_out t s A k c ls i d u p b hf hq ho w hs
  · rw [if_neg (by simpa [hl] using ho)]
    obtain ⟨m, rfl⟩ : ∃ m : Nat, i = (m : Int) := ⟨i.toNat, by omega⟩
    have hm : m < k := by omega
    obtain ⟨⟨d', u', p', b'⟩, hx⟩ : ∃ x, ls[m]? = some x := ⟨ls[m]'(by omega), List.getElem?_eq_getElem _⟩
    simp only [Int.toNat_natCast, hx]
    refine Merge_in t s A k c ls m d u p b d' u' p' b' hx _ (fun h => if_pos h) _ rfl (fun h h' hg => ?_) (fun h h' hg => ?_) hf hq w hs hm
    · rw [if_neg (by simp [h, h']), if_pos hg]
    · rw [if_neg (by simp [h, h']), if_neg (by simp [hg])]

end Go.Proofs.YtjncmlglhegnaaaGreatDoor
