/- kerbsideref43: Merge, walked. -/
import Derived.Test.YtfohjkddcinfmaaLendV
import Derived.Outline
namespace Go.Proofs.Ytfohjkddcinfmaa
open Go.RowKit

set_option maxHeartbeats 1000000 in
theorem MergeR_arg (t s : Int) (A : Option Addr) (k c : Nat) (ls : List LoanV) (i d u p : Int) (b f2 q : Bool) (hf : (StockV.free ⟨t, s, ls⟩).2 = f2) (hq : LoanV.right ⟨d, u, p, b⟩ = q) (h : (f2 && q) = false) (w : World) (hs : Sl w 4 A k (ls.map LoanV.cells)) :
    Calls Try.prog 15 #[.agg #[.int .i64 t, .int .i64 s, .slice A k c], .int .i64 i, .agg #[.int .i64 d, .int .i64 u, .int .i64 p, .bool b]] w (StockRet w noStock 1) := by
  have HS := Lib.hid hs
  have HF := Lib.hid hf
  have HQ := Lib.hid hq
  have HH := Lib.hid h
  have HB := Lib.hid (Below.refl w.heap.size w)
  clear hf hs hq h
  go_enter Try.func15, Try.ntmps15
  go_wp2_with (fail)
  ((with_reducible refine (RightR_any _ _ _ _ _ ls _ (((HS.out.alloc _).alloc _).alloc _) f2 HF.out).mono ?_); rintro e w1 ⟨rfl, hb⟩)
  obtain ⟨hL0, hL1, hL2, hbT⟩ := locs3 hb
  have L0 := Lib.hid hL0
  have L1 := Lib.hid hL1
  have L2 := Lib.hid hL2
  clear hL0 hL1 hL2
  replace HB := Lib.hid (HB.out.trans (hbT.mono HB.out.size))
  clear hbT hb 
  obtain ⟨zL1, kL1, fL1⟩ := L1.out
  obtain ⟨zL2, kL2, fL2⟩ := L2.out
  rcases f2 with _ | _
  · go_wp2_with (fail)
    refine bodyPost_ret (v := .tuple #[.agg #[.int .i64 0, .int .i64 0, .slice none 0 0], .int .i64 1]) (by simp [results, Try.results15, go_sem, kL2]) rfl (noStock_ret _ _ _ ?_)
    exact (((HB.out.setCell (by first | omega | (simp <;> omega)) _).setCell (by first | omega | (simp <;> omega)) _).setCell (by first | omega | (simp <;> omega)) _)
  · have hq : q = false := by simpa using HH.out
    subst hq
    go_wp2_with (fail)
    ((with_reducible refine (LoanR_any _ _ _ _ _ HQ.out _).mono ?_); rintro e w' ⟨rfl, rfl⟩)
    go_wp2_with (fail)
    refine bodyPost_ret (v := .tuple #[.agg #[.int .i64 0, .int .i64 0, .slice none 0 0], .int .i64 1]) (by simp [results, Try.results15, go_sem, kL2, zL2]) rfl (noStock_ret _ _ _ ?_)
    exact ((((HB.out.setCell (by first | omega | (simp <;> omega)) _).setCell (by first | omega | (simp <;> omega)) _).setCell (by first | omega | (simp <;> omega)) _)).alloc (by first | omega | (simp <;> omega)) _

set_option maxHeartbeats 1000000 in
theorem MergeR_out (t s : Int) (A : Option Addr) (k c : Nat) (ls : List LoanV) (i d u p : Int) (b : Bool) (hf : (StockV.free ⟨t, s, ls⟩).2 = true) (hq : LoanV.right ⟨d, u, p, b⟩ = true) (ho : i < 0 ∨ (k : Int) ≤ i) (w : World) (hs : Sl w 4 A k (ls.map LoanV.cells)) :
    Calls Try.prog 15 #[.agg #[.int .i64 t, .int .i64 s, .slice A k c], .int .i64 i, .agg #[.int .i64 d, .int .i64 u, .int .i64 p, .bool b]] w (StockRet w noStock 4) := by
  have HS := Lib.hid hs
  have HF := Lib.hid hf
  have HQ := Lib.hid hq
  have HB := Lib.hid (Below.refl w.heap.size w)
  clear hf hs hq
  go_enter Try.func15, Try.ntmps15
  go_wp2_with (fail)
  ((with_reducible refine (RightR_any _ _ _ _ _ ls _ (((HS.out.alloc _).alloc _).alloc _) true HF.out).mono ?_); rintro e w1 ⟨rfl, hb⟩)
  obtain ⟨hL0, hL1, hL2, hbT⟩ := locs3 hb
  have L0 := Lib.hid hL0
  have L1 := Lib.hid hL1
  have L2 := Lib.hid hL2
  clear hL0 hL1 hL2
  replace HB := Lib.hid (HB.out.trans (hbT.mono HB.out.size))
  clear hbT hb 
  obtain ⟨zL0, kL0, fL0⟩ := L0.out
  obtain ⟨zL1, kL1, fL1⟩ := L1.out
  obtain ⟨zL2, kL2, fL2⟩ := L2.out
  go_wp2_with (fail)
  ((with_reducible refine (LoanR_any _ _ _ _ _ HQ.out _).mono ?_); rintro e w' ⟨rfl, rfl⟩)
  rcases ho with ho | ho
  · go_wp2_with (fail)
    refine bodyPost_ret (v := .tuple #[.agg #[.int .i64 0, .int .i64 0, .slice none 0 0], .int .i64 4]) (by simp [results, Try.results15, go_sem, kL2, zL2]) rfl (noStock_ret _ _ _ ?_)
    exact ((((HB.out.setCell (by first | omega | (simp <;> omega)) _).setCell (by first | omega | (simp <;> omega)) _).setCell (by first | omega | (simp <;> omega)) _)).alloc (by first | omega | (simp <;> omega)) _
  · have h0 : ¬ i < 0 := by omega
    go_wp2_with (fail)
    refine bodyPost_ret (v := .tuple #[.agg #[.int .i64 0, .int .i64 0, .slice none 0 0], .int .i64 4]) (by simp [results, Try.results15, go_sem, kL2, zL2]) rfl (noStock_ret _ _ _ ?_)
    exact ((((HB.out.setCell (by first | omega | (simp <;> omega)) _).setCell (by first | omega | (simp <;> omega)) _).setCell (by first | omega | (simp <;> omega)) _)).alloc (by first | omega | (simp <;> omega)) _

/-- what the store of a whole loan makes of the copy -/
theorem merged4 {W : World} {B gg k c m : Nat} {ls : List LoanV} (h : Own W B 26 4 (.slice (some ⟨gg, 0, none⟩) k c) k (ls.map LoanV.cells)) (hm : m < ls.length) (d u p : Int) (b : Bool) :
    Own ((((W.setCell ⟨gg, m * 4, none⟩ (.int .i64 d)).setCell ⟨gg, m * 4 + 1, none⟩ (.int .i64 u)).setCell ⟨gg, m * 4 + 2, none⟩ (.int .i64 p)).setCell ⟨gg, m * 4 + 3, none⟩ (.bool b)) B 26 4 (.slice (some ⟨gg, 0, none⟩) k c) k ((ls.set m ⟨d, u, p, b⟩).map LoanV.cells) := by
  obtain ⟨⟨d0, u0, p0, b0⟩, hx⟩ : ∃ x, ls[m]? = some x := ⟨ls[m], List.getElem?_eq_getElem _⟩
  have h0 := h.stored (i := m) (j := 0) (x := LoanV.cells ⟨d0, u0, p0, b0⟩) (by rw [List.getElem?_map, hx]; rfl) (by omega) (.int .i64 d)
  have h1 := h0.stored (i := m) (j := 1) (x := LoanV.cells ⟨d, u0, p0, b0⟩) (by rw [List.getElem?_set_self (by simpa using hm)]; rfl) (by omega) (.int .i64 u)
  rw [List.set_set] at h1
  have h2 := h1.stored (i := m) (j := 2) (x := LoanV.cells ⟨d, u, p0, b0⟩) (by rw [List.getElem?_set_self (by simpa using hm)]; rfl) (by omega) (.int .i64 p)
  rw [List.set_set] at h2
  have h3 := h2.stored (i := m) (j := 3) (x := LoanV.cells ⟨d, u, p, b0⟩) (by rw [List.getElem?_set_self (by simpa using hm)]; rfl) (by omega) (.bool b)
  rw [List.set_set] at h3
  rw [map_set_cells]
  exact h3

theorem mergeR_fin {w w1 w3 : World} {gg k c m : Nat} {ls : List LoanV} (ho : Own w3 (w1.heap.size + 1 + 1) 26 4 (.slice (some ⟨gg, 0, none⟩) k c) k (ls.map LoanV.cells)) (hz : w.heap.size + 1 + 1 < w1.heap.size) (_ : w.heap.size ≤ w1.heap.size) (hg : w1.heap.size + 1 + 1 ≤ gg) (hB : Below w.heap.size w w3) (hl : ls.length = k) (hm : m < k)
    (t s p1 p2 : Int) (b1 b2 : Bool) (d u : Int) {l : LoanV} (h0 : l = ⟨d, u, p2, b2⟩) (hp : p1 = p2) (hb : b1 = b2) :
    StockRet w ⟨t, s, ls.set m l⟩ 0 (.returned (.tuple #[.agg #[.int .i64 t, .int .i64 s, .slice (some ⟨gg, 0, none⟩) k c], .int .i64 0]))
      ((((((((((w3.setCell ⟨w.heap.size, 2, none⟩ (.slice (some ⟨gg, 0, none⟩) k c)).setCell ⟨w1.heap.size + 1, 2, none⟩ (.int .i64 p1)).setCell ⟨w1.heap.size + 1, 3, none⟩ (.bool b1)).setCell ⟨gg, m * 4, none⟩ (.int .i64 d)).setCell ⟨gg, m * 4 + 1, none⟩ (.int .i64 u)).setCell ⟨gg, m * 4 + 2, none⟩ (.int .i64 p1)).setCell ⟨gg, m * 4 + 3, none⟩ (.bool b1)).setCell ⟨w.heap.size + 1 + 1, 0, none⟩ (.int .i64 t)).setCell ⟨w.heap.size + 1 + 1, 1, none⟩ (.int .i64 s)).setCell ⟨w.heap.size + 1 + 1, 2, none⟩ (.slice (some ⟨gg, 0, none⟩) k c)) := by
  subst h0 hp hb
  refine stockRet_mk t s ((((merged4 (((ho.setBelow ?_ _).setBelow ?_ _).setBelow ?_ _) (by omega) _ _ _ _).setBelow ?_ _).setBelow ?_ _).setBelow ?_ _) (by omega) (by simp [hl]) ((((((((((hB.setCell ?_ _).setCell ?_ _).setCell ?_ _).setCell ?_ _).setCell ?_ _).setCell ?_ _).setCell ?_ _).setCell ?_ _).setCell ?_ _).setCell ?_ _)
  all_goals (simp <;> omega)

set_option maxHeartbeats 4000000 in
theorem MergeR_in (t s : Int) (A : Option Addr) (k c : Nat) (ls : List LoanV) (m : Nat) (d u p : Int) (b : Bool) (d' u' p' : Int) (b' : Bool) (hx : ls[m]? = some ⟨d', u', p', b'⟩) (r : StockV × Int)
    (h2 : d' ≠ d ∨ u' ≠ u → r = (noStock, 21))
    (h3 : d' = d → u' = u → forkedB ⟨d', u', p', b'⟩ ⟨d, u, p, b⟩ = true → r = (noStock, 22))
    (h4 : d' = d → u' = u → forkedB ⟨d', u', p', b'⟩ ⟨d, u, p, b⟩ = false → r = (⟨t, s, ls.set m ⟨d', u', max p' p, b' || b⟩⟩, 0))
    (hf : (StockV.free ⟨t, s, ls⟩).2 = true) (hq : LoanV.right ⟨d, u, p, b⟩ = true) (w : World) (hs : Sl w 4 A k (ls.map LoanV.cells)) (hm : m < k) :
    Calls Try.prog 15 #[.agg #[.int .i64 t, .int .i64 s, .slice A k c], .int .i64 m, .agg #[.int .i64 d, .int .i64 u, .int .i64 p, .bool b]] w (StockRet w r.1 r.2) := by
  have hl : ls.length = k := by simpa using hs.1
  have HS := Lib.hid hs
  have HF := Lib.hid hf
  have HQ := Lib.hid hq
  have H2 := Lib.hid h2
  have H3 := Lib.hid h3
  have H4 := Lib.hid h4
  have HX := Lib.hid hx
  have HL := Lib.hid hl
  have HB := Lib.hid (Below.refl w.heap.size w)
  clear hf hq h2 h3 h4 hl
  obtain ⟨bb, oo, rfl, hbb, hc⟩ := hs.2 m (LoanV.cells ⟨d', u', p', b'⟩) (by rw [List.getElem?_map, hx]; rfl)
  have x0 : w.cell? ⟨bb, oo + m * 4, none⟩ = some (.int .i64 d') := hc 0 _ rfl
  have x1 : w.cell? ⟨bb, oo + m * 4 + 1, none⟩ = some (.int .i64 u') := hc 1 _ rfl
  have x2 : w.cell? ⟨bb, oo + m * 4 + 2, none⟩ = some (.int .i64 p') := hc 2 _ rfl
  have x3 : w.cell? ⟨bb, oo + m * 4 + 3, none⟩ = some (.bool b') := hc 3 _ rfl
  have X := Lib.hid (And.intro x0 (And.intro x1 (And.intro x2 x3)))
  have hlt : (m : Int) < (k : Int) := by omega
  have hm0 : (0 : Int) ≤ (m : Int) := by omega
  clear hc hs hx x0 x1 x2 x3
  go_enter Try.func15, Try.ntmps15
  go_wp2_with (fail)
  ((with_reducible refine (RightR_any _ _ _ _ _ ls _ (((HS.out.alloc _).alloc _).alloc _) true HF.out).mono ?_); rintro e w1 ⟨rfl, hb⟩)
  obtain ⟨hL0, hL1, hL2, hbT⟩ := locs3 hb
  have L0 := Lib.hid hL0
  have L1 := Lib.hid hL1
  have L2 := Lib.hid hL2
  clear hL0 hL1 hL2
  replace HB := Lib.hid (HB.out.trans (hbT.mono HB.out.size))
  clear hbT hb 
  obtain ⟨zL0, kL0, fL0⟩ := L0.out
  obtain ⟨zL1, kL1, fL1⟩ := L1.out
  obtain ⟨zL2, kL2, fL2⟩ := L2.out
  obtain ⟨x0, x1, x2, x3⟩ := X.out
  replace x0 := (HB.out.cell (p := ⟨bb, oo + m * 4, none⟩) hbb).trans x0
  replace x1 := (HB.out.cell (p := ⟨bb, oo + m * 4 + 1, none⟩) hbb).trans x1
  replace x2 := (HB.out.cell (p := ⟨bb, oo + m * 4 + 2, none⟩) hbb).trans x2
  replace x3 := (HB.out.cell (p := ⟨bb, oo + m * 4 + 3, none⟩) hbb).trans x3
  have hbb1 : bb < w1.heap.size := Nat.lt_of_lt_of_le hbb HB.out.size
  go_wp2_with (fail)
  ((with_reducible refine (LoanR_any _ _ _ _ _ HQ.out _).mono ?_); rintro e w' ⟨rfl, rfl⟩)
  by_cases hd : d' = d
  · by_cases hu : u' = u
    · subst hd
      subst hu
      have e1 : (d' != d') = false := by simp
      have e2 : (u' != u') = false := by simp
      rcases hg : forkedB ⟨d', u', p', b'⟩ ⟨d', u', p, b⟩ with _ | _
      · have er := H4.out rfl rfl hg
        subst er
        obtain ⟨i0, hi0, hi1, hi2, hi3⟩ := info_parts infoLoan
        have HK : Hid (k ≤ 1000) := by have h1 := free_len2 HF.out; have h2 := HL.out; show k ≤ 1000; omega
        have hz1 := HB.out.size
        have HZ := Lib.hid zL2
        have HB3 := Lib.hid (((HB.out.alloc (by omega) (.cells #[.int .i64 d', .int .i64 u', .int .i64 p, .bool b] 26)).alloc (by simp; omega) (.cells #[.int .i64 d', .int .i64 u', .int .i64 p', .bool b'] 26)).alloc (by simp; omega) (.cells #[] 26))
        have LX := Lib.hid (((Loc.new_ (w1.alloc (.cells #[.int .i64 d', .int .i64 u', .int .i64 p, .bool b] 26)) #[.int .i64 d', .int .i64 u', .int .i64 p', .bool b'] 26)).alloc (.cells #[] 26))
        rcases Int.lt_or_le p' p with hpp | hpp <;> cases b' <;> cases b <;> (simp [forkedB] at hg) <;> try (exfalso; omega)
        all_goals
          go_wp2_with (at_builtin; refine wpList_append_sl _ rfl (.tmp 67) (.tmp 69) _ rfl (w1.heap.size + 1 + 1) 26 i0 _ 4 32 Try.underlying22 hi0 hi1 hi2 hi3 rfl (by omega) (.slice (some ⟨w1.heap.size + 1 + 1, 0, none⟩) 0 0) 0 [] rfl (Own.empty (by simp) (Nat.le_refl _)) (some ⟨bb, oo, none⟩) k c (ls.map LoanV.cells) rfl (HS.out.below HB3.out) (loans_len ls) (loans_one ls) (by have := HK.out; simp only [maxLen]; omega) (by have := HK.out; omega) (by simp) ?_; intro A1 c1 w3 hown1 hg1 hat1; have HL0 := Lib.hid ((((L0.out.alloc _).alloc _).alloc _).grown hg1 (by simp [Value.ownBlock]; omega)); have HL1 := Lib.hid ((((L1.out.alloc _).alloc _).alloc _).grown hg1 (by simp [Value.ownBlock]; omega)); have HL2 := Lib.hid ((((L2.out.alloc _).alloc _).alloc _).grown hg1 (by simp [Value.ownBlock]; omega)); have HLX := Lib.hid (LX.out.grown hg1 (by simp [Value.ownBlock])); rw [Nat.zero_add, List.nil_append] at hown1; have HO := Lib.hid hown1; obtain ⟨gg, cc, hv, hbase, hglt, hcl, hfr⟩ := hown1.at_ (i := m) (x := LoanV.cells ⟨d', u', p', _⟩) (by rw [List.getElem?_map, HX.out]; rfl); injection hv with hv1 hv2 hv3; subst hv1; subst hv3; have HB4 := Lib.hid (HB3.out.grown hg1 (by simp; omega) (by simp [Value.ownBlock]; omega)); clear zL0 kL0 fL0 zL1 kL1 fL1 zL2 kL2 fL2 x0 x1 x2 x3 hat1 hown1; have y0 := hcl 0 _ rfl; have y1 := hcl 1 _ rfl; have y2 := hcl 2 _ rfl; have y3 := hcl 3 _ rfl; rw [Nat.add_zero] at y0; have hz2 := HZ.out; have ne0 : w.heap.size ≠ gg := (by omega); have ne1 : w.heap.size + 1 ≠ gg := (by omega); have ne2 : w.heap.size + 1 + 1 ≠ gg := (by omega); have ne3 : w1.heap.size + 1 ≠ gg := (by omega); clear hcl; obtain ⟨zL0, kL0, fL0⟩ := HL0.out; obtain ⟨zL1, kL1, fL1⟩ := HL1.out; obtain ⟨zL2, kL2, fL2⟩ := HL2.out; obtain ⟨zLX, kLX, fLX⟩ := HLX.out; simp only [World.size_alloc] at zLX kLX fLX)
          refine bodyPost_ret (v := .tuple #[.agg #[.int .i64 t, .int .i64 s, .slice (some ⟨gg, 0, none⟩) k c1], .int .i64 0]) (by simp [results, Try.results15, go_sem, kL2]) rfl ?_
          refine mergeR_fin HO.out HZ.out hz1 hbase HB4.out HL.out hm _ _ _ _ _ _ _ _ rfl (by omega) (by simp)
      · have er := H3.out rfl rfl hg
        subst er
        simp only [forkedB, Bool.or_eq_true, Bool.and_eq_true, decide_eq_true_eq] at hg
        rcases hg with ⟨rfl, hg⟩ | ⟨rfl, hg⟩
        · go_wp2_with (fail)
          refine bodyPost_ret (v := .tuple #[.agg #[.int .i64 0, .int .i64 0, .slice none 0 0], .int .i64 22]) (by simp [results, Try.results15, go_sem, kL2, zL2]) rfl (noStock_ret _ _ _ ?_)
          exact (((((HB.out.setCell (by first | omega | (simp <;> omega)) _).setCell (by first | omega | (simp <;> omega)) _).setCell (by first | omega | (simp <;> omega)) _)).alloc (by first | omega | (simp <;> omega)) _).alloc (by first | omega | (simp <;> omega)) _
        · have hg' : p ≤ p' := by omega
          cases b'
          all_goals go_wp2_with (fail)
          all_goals refine bodyPost_ret (v := .tuple #[.agg #[.int .i64 0, .int .i64 0, .slice none 0 0], .int .i64 22]) (by simp [results, Try.results15, go_sem, kL2, zL2]) rfl (noStock_ret _ _ _ ?_)
          all_goals exact (((((HB.out.setCell (by first | omega | (simp <;> omega)) _).setCell (by first | omega | (simp <;> omega)) _).setCell (by first | omega | (simp <;> omega)) _)).alloc (by first | omega | (simp <;> omega)) _).alloc (by first | omega | (simp <;> omega)) _
    · have e1 : (d' != d) = false := by simpa using hd
      have e2 : (u' != u) = true := by simpa using hu
      have er := H2.out (Or.inr hu)
      subst er
      clear hd hu
      go_wp2_with (fail)
      refine bodyPost_ret (v := .tuple #[.agg #[.int .i64 0, .int .i64 0, .slice none 0 0], .int .i64 21]) (by simp [results, Try.results15, go_sem, kL2, zL2]) rfl (noStock_ret _ _ _ ?_)
      exact (((((HB.out.setCell (by first | omega | (simp <;> omega)) _).setCell (by first | omega | (simp <;> omega)) _).setCell (by first | omega | (simp <;> omega)) _)).alloc (by first | omega | (simp <;> omega)) _).alloc (by first | omega | (simp <;> omega)) _
  · have e1 : (d' != d) = true := by simpa using hd
    have er := H2.out (Or.inl hd)
    subst er
    clear hd
    go_wp2_with (fail)
    refine bodyPost_ret (v := .tuple #[.agg #[.int .i64 0, .int .i64 0, .slice none 0 0], .int .i64 21]) (by simp [results, Try.results15, go_sem, kL2, zL2]) rfl (noStock_ret _ _ _ ?_)
    exact (((((HB.out.setCell (by first | omega | (simp <;> omega)) _).setCell (by first | omega | (simp <;> omega)) _).setCell (by first | omega | (simp <;> omega)) _)).alloc (by first | omega | (simp <;> omega)) _).alloc (by first | omega | (simp <;> omega)) _

theorem MergeR_any (t s : Int) (A : Option Addr) (k c : Nat) (ls : List LoanV) (i d u p : Int) (b : Bool) (r : StockV × Int) (hr : mergeF ⟨t, s, ls⟩ i ⟨d, u, p, b⟩ = r) (w : World) (hs : Sl w 4 A k (ls.map LoanV.cells)) :
    Calls Try.prog 15 #[.agg #[.int .i64 t, .int .i64 s, .slice A k c], .int .i64 i, .agg #[.int .i64 d, .int .i64 u, .int .i64 p, .bool b]] w (StockRet w r.1 r.2) := by
  have hl : ls.length = k := by simpa using hs.1
  subst hr
  unfold mergeF
  rcases hf : (StockV.free ⟨t, s, ls⟩).2 with _ | _
  · exact MergeR_arg t s A k c ls i d u p b false _ hf rfl rfl w hs
  rcases hq : LoanV.right ⟨d, u, p, b⟩ with _ | _
  · exact MergeR_arg t s A k c ls i d u p b true false hf hq rfl w hs
  rw [if_neg (by simp)]
  by_cases ho : i < 0 ∨ (k : Int) ≤ i
  · rw [if_pos (by simpa [hl] using ho)]
    exact MergeR_out t s A k c ls i d u p b hf hq ho w hs
  · rw [if_neg (by simpa [hl] using ho)]
    obtain ⟨m, rfl⟩ : ∃ m : Nat, i = (m : Int) := ⟨i.toNat, by omega⟩
    have hm : m < k := by omega
    obtain ⟨⟨d', u', p', b'⟩, hx⟩ : ∃ x, ls[m]? = some x := ⟨ls[m]'(by omega), List.getElem?_eq_getElem _⟩
    simp only [Int.toNat_natCast, hx]
    refine MergeR_in t s A k c ls m d u p b d' u' p' b' hx _ (fun h => if_pos h) (fun h h' hg => ?_) (fun h h' hg => ?_) hf hq w hs hm
    · rw [if_neg (by simp [h, h']), if_pos hg]
    · rw [if_neg (by simp [h, h']), if_neg (by simp [hg])]
end Go.Proofs.Ytfohjkddcinfmaa
