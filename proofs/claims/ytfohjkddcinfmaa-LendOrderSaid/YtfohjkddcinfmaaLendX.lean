/- LendTells, walked. -/
import Derived.Test.YtfohjkddcinfmaaLendW
import Derived.Deep.RegionHeld3
namespace Go.Proofs.Ytfohjkddcinfmaa
open Go.RowKit

theorem loc3 {w w' : World} {n : Nat} {x y z : Value} (h : Loc w n #[x, y, z]) (hb : Below w.heap.size w w') : w'.cell? ⟨n, 0, none⟩ = some x ∧ w'.cell? ⟨n, 1, none⟩ = some y ∧ w'.cell? ⟨n, 2, none⟩ = some z :=
  ⟨(h.below hb).cell 0, (h.below hb).cell 1, (h.below hb).cell 2⟩
theorem ownF_len {s r : StockV} {n e : Int} (h : ownF s n = (r, e)) : r.loans.length ≤ s.loans.length + 1 := by
  unfold ownF at h
  split at h
  · simp only [Prod.mk.injEq] at h; rw [← h.1]; simp [noStock]
  split at h
  · simp only [Prod.mk.injEq] at h; rw [← h.1]; simp [noStock]
  · simp only [Prod.mk.injEq] at h; rw [← h.1]; simp
theorem lendF_len {s r : StockV} {d n e : Int} (h : lendF s d n = (r, e)) : r.loans.length ≤ s.loans.length + 1 := by
  unfold lendF at h
  split at h
  · simp only [Prod.mk.injEq] at h; rw [← h.1]; simp [noStock]
  split at h
  · simp only [Prod.mk.injEq] at h; rw [← h.1]; simp [noStock]
  · simp only [Prod.mk.injEq] at h; rw [← h.1]; simp
theorem mergeF_len {s r : StockV} {i e : Int} {l : LoanV} (h : mergeF s i l = (r, e)) : r.loans.length ≤ s.loans.length + 1 := by
  by_cases he : e = 0
  · obtain ⟨x, _, _, _, _, _, _, _, _, rfl⟩ := mergeF_ok h he
    simp
  · rw [mergeF_bad h he]; simp [noStock]
theorem freeR_max (s : StockV) : (if s.free.2 then s.free.1 else 0) = max s.free.1 0 := by
  by_cases h : s.free.2 = true
  · rw [if_pos h]
    have := (free_of h).2.2.2
    omega
  · rw [if_neg h]
    unfold StockV.free at h ⊢
    by_cases hs : s.small = true
    · rw [if_pos hs] at h ⊢
      rcases hl : leftOf (s.total - s.spent) s.loans with _ | v
      · rfl
      · rw [hl] at h
        simp only [decide_eq_true_eq] at h
        simp only []
        omega
    · rw [if_neg hs]; rfl

set_option maxRecDepth 100000 in
set_option maxHeartbeats 4000000 in
theorem tells_any (t s : Int) (A : Option Addr) (n c : Nat) (ls : List LoanV) (d u p : Int) (b : Bool) (i v x : Int) (w : World) (hs : Sl w 4 A n (ls.map LoanV.cells)) (hn : n ≤ maxLen) :
    Calls Try.prog 3 #[.agg #[.int .i64 t, .int .i64 s, .slice A n c], .agg #[.int .i64 d, .int .i64 u, .int .i64 p, .bool b], .int .i64 i, .int .i64 v, .int .i64 x] w fun e w' => e = .returned (.bool true) ∧ Below w.heap.size w w' := by
  have HN := Lib.hid hn
  have hl : ls.length = n := by simpa using hs.1
  have HS := Lib.hid hs
  have HL := Lib.hid hl
  obtain ⟨q, hq⟩ : ∃ q, decide (n ≤ 120) = q := ⟨_, rfl⟩
  obtain ⟨r1, e1, h1⟩ : ∃ r1 e1, ownF ⟨t, s, ls⟩ x = (r1, e1) := ⟨_, _, rfl⟩
  obtain ⟨r2, e2, h2⟩ : ∃ r1 e1, lendF ⟨t, s, ls⟩ v x = (r1, e1) := ⟨_, _, rfl⟩
  obtain ⟨r3, e3, h3⟩ : ∃ r1 e1, mergeF ⟨t, s, ls⟩ i ⟨d, u, p, b⟩ = (r1, e1) := ⟨_, _, rfl⟩
  obtain ⟨⟨d4, u4, p4, b4⟩, e4, h4⟩ : ∃ r1 e1, spendF ⟨d, u, p, b⟩ x = (r1, e1) := ⟨_, _, rfl⟩
  obtain ⟨⟨d5, u5, p5, b5⟩, e5, h5⟩ : ∃ r1 e1, returnF ⟨d, u, p, b⟩ = (r1, e1) := ⟨_, _, rfl⟩
  obtain ⟨f1, f2, hf⟩ : ∃ f1 f2, StockV.free ⟨t, s, ls⟩ = (f1, f2) := ⟨_, _, rfl⟩
  have Q := Lib.hid hq
  have N1 := Lib.hid (ownF_len h1)
  have N2 := Lib.hid (lendF_len h2)
  have N3 := Lib.hid (mergeF_len h3)
  have R1 := Lib.hid h1
  have R2 := Lib.hid h2
  have R3 := Lib.hid h3
  have R4 := Lib.hid h4
  have R5 := Lib.hid h5
  have HF := Lib.hid hf
  have HG : Hid (max (StockV.free ⟨t, s, ls⟩).1 0 = max f1 0) := by show _ = _; rw [hf]
  have HG' : Hid ((if (StockV.free ⟨t, s, ls⟩).2 then (StockV.free ⟨t, s, ls⟩).1 else 0) = max f1 0) := by show _ = _; rw [freeR_max, hf]
  have q4 := neq_loan d4 u4 p4 b4 d4 u4 p4 b4 true (by simp [loanEq])
  have q5 := neq_loan d5 u5 p5 b5 d5 u5 p5 b5 true (by simp [loanEq])
  have HB := Lib.hid (Below.refl w.heap.size w)
  clear hn hl hs hq h1 h2 h3 h4 h5 hf
  go_enter Try.func3, Try.ntmps3
  go_wp2_with (fail)
  ((with_reducible refine (sane_any _).mono ?_); rintro e w1 ⟨rfl, hb⟩)
  obtain ⟨hL0, hL1, hbT⟩ := locs2 hb
  have L0 := Lib.hid hL0
  have L1 := Lib.hid hL1
  clear hL0 hL1
  replace HB := Lib.hid (HB.out.trans (hbT.mono HB.out.size))
  clear hbT hb 
  obtain ⟨zL0, kL0, fL0⟩ := L0.out
  go_wp2_with (fail)
  ((with_reducible refine (Few_any _ _ _ _ _ _ q Q.out HN.out).mono ?_); rintro e w2 ⟨rfl, hb⟩)
  have hbT := hb
  replace HB := Lib.hid (HB.out.trans (hbT.mono HB.out.size))
  replace L0 := Lib.hid (L0.out.below hbT)
  replace L1 := Lib.hid (L1.out.below hbT)
  clear hbT hb zL0 kL0 fL0
  obtain ⟨zL0, kL0, fL0⟩ := L0.out
  obtain ⟨zL1, kL1, fL1⟩ := L1.out
  rcases q with _ | _
  · go_wp2_with (fail)
    go_ret
    exact ⟨rfl, HB.out⟩
  go_wp2_with (fail)
  ((with_reducible refine (Own_any t s A n c ls x (r1, e1) R1.out _ (HS.out.below HB.out)).mono ?_); rintro e w3 ⟨A3, c3, rfl, hs3, hb⟩)
  have hbT := hb
  replace HB := Lib.hid (HB.out.trans (hbT.mono HB.out.size))
  replace L0 := Lib.hid (L0.out.below hbT)
  replace L1 := Lib.hid (L1.out.below hbT)
  clear hbT hb zL0 kL0 fL0 zL1 kL1 fL1
  have HA := Lib.hid hs3.1
  clear hs3
  obtain ⟨zL0, kL0, fL0⟩ := L0.out
  obtain ⟨zL1, kL1, fL1⟩ := L1.out
  go_wp2_with (fail)
  ((with_reducible refine (OwnR_any t s A n c ls x (r1, e1) R1.out _ ((HS.out.below HB.out).alloc _)).mono ?_); rintro e w4 ⟨A4, c4, rfl, hs4, hb⟩)
  obtain ⟨hLA, hbT⟩ := locs1 hb
  have LA := Lib.hid hLA
  clear hLA
  replace HB := Lib.hid (HB.out.trans (hbT.mono HB.out.size))
  replace L0 := Lib.hid (L0.out.below hbT)
  replace L1 := Lib.hid (L1.out.below hbT)
  replace HA := Lib.hid (HA.out.below hbT)
  clear hbT hb zL0 kL0 fL0 zL1 kL1 fL1
  have HA' := Lib.hid hs4.1
  clear hs4
  obtain ⟨zL0, kL0, fL0⟩ := L0.out
  obtain ⟨zL1, kL1, fL1⟩ := L1.out
  go_wp2_with (fail)
  ((with_reducible refine (Lend_any t s A n c ls v x (r2, e2) R2.out _ ((HS.out.below HB.out).alloc _)).mono ?_); rintro e w5 ⟨A5, c5, rfl, hs5, hb⟩)
  obtain ⟨hLA', hbT⟩ := locs1 hb
  have LA' := Lib.hid hLA'
  clear hLA'
  replace HB := Lib.hid (HB.out.trans (hbT.mono HB.out.size))
  replace L0 := Lib.hid (L0.out.below hbT)
  replace L1 := Lib.hid (L1.out.below hbT)
  replace HA := Lib.hid (HA.out.below hbT)
  replace LA := Lib.hid (LA.out.below hbT)
  replace HA' := Lib.hid (HA'.out.below hbT)
  clear hbT hb zL0 kL0 fL0 zL1 kL1 fL1
  have HC := Lib.hid hs5.1
  clear hs5
  obtain ⟨zL0, kL0, fL0⟩ := L0.out
  obtain ⟨zL1, kL1, fL1⟩ := L1.out
  go_wp2_with (fail)
  ((with_reducible refine (LendR_any t s A n c ls v x (r2, e2) R2.out _ ((HS.out.below HB.out).alloc _)).mono ?_); rintro e w6 ⟨A6, c6, rfl, hs6, hb⟩)
  obtain ⟨hLC, hbT⟩ := locs1 hb
  have LC := Lib.hid hLC
  clear hLC
  replace HB := Lib.hid (HB.out.trans (hbT.mono HB.out.size))
  replace L0 := Lib.hid (L0.out.below hbT)
  replace L1 := Lib.hid (L1.out.below hbT)
  replace HA := Lib.hid (HA.out.below hbT)
  replace LA := Lib.hid (LA.out.below hbT)
  replace HA' := Lib.hid (HA'.out.below hbT)
  replace LA' := Lib.hid (LA'.out.below hbT)
  replace HC := Lib.hid (HC.out.below hbT)
  clear hbT hb zL0 kL0 fL0 zL1 kL1 fL1
  have HC' := Lib.hid hs6.1
  clear hs6
  obtain ⟨zL0, kL0, fL0⟩ := L0.out
  obtain ⟨zL1, kL1, fL1⟩ := L1.out
  go_wp2_with (fail)
  ((with_reducible refine (Merge_any t s A n c ls i d u p b (r3, e3) R3.out _ ((HS.out.below HB.out).alloc _)).mono ?_); rintro e w7 ⟨A7, c7, rfl, hs7, hb⟩)
  obtain ⟨hLC', hbT⟩ := locs1 hb
  have LC' := Lib.hid hLC'
  clear hLC'
  replace HB := Lib.hid (HB.out.trans (hbT.mono HB.out.size))
  replace L0 := Lib.hid (L0.out.below hbT)
  replace L1 := Lib.hid (L1.out.below hbT)
  replace HA := Lib.hid (HA.out.below hbT)
  replace LA := Lib.hid (LA.out.below hbT)
  replace HA' := Lib.hid (HA'.out.below hbT)
  replace LA' := Lib.hid (LA'.out.below hbT)
  replace HC := Lib.hid (HC.out.below hbT)
  replace LC := Lib.hid (LC.out.below hbT)
  replace HC' := Lib.hid (HC'.out.below hbT)
  clear hbT hb zL0 kL0 fL0 zL1 kL1 fL1
  have HX := Lib.hid hs7.1
  clear hs7
  obtain ⟨zL0, kL0, fL0⟩ := L0.out
  obtain ⟨zL1, kL1, fL1⟩ := L1.out
  go_wp2_with (fail)
  ((with_reducible refine (MergeR_any t s A n c ls i d u p b (r3, e3) R3.out _ ((HS.out.below HB.out).alloc _)).mono ?_); rintro e w8 ⟨A8, c8, rfl, hs8, hb⟩)
  obtain ⟨hLX, hbT⟩ := locs1 hb
  have LX := Lib.hid hLX
  clear hLX
  replace HB := Lib.hid (HB.out.trans (hbT.mono HB.out.size))
  replace L0 := Lib.hid (L0.out.below hbT)
  replace L1 := Lib.hid (L1.out.below hbT)
  replace HA := Lib.hid (HA.out.below hbT)
  replace LA := Lib.hid (LA.out.below hbT)
  replace HA' := Lib.hid (HA'.out.below hbT)
  replace LA' := Lib.hid (LA'.out.below hbT)
  replace HC := Lib.hid (HC.out.below hbT)
  replace LC := Lib.hid (LC.out.below hbT)
  replace HC' := Lib.hid (HC'.out.below hbT)
  replace LC' := Lib.hid (LC'.out.below hbT)
  replace HX := Lib.hid (HX.out.below hbT)
  clear hbT hb zL0 kL0 fL0 zL1 kL1 fL1
  have HX' := Lib.hid hs8.1
  clear hs8
  obtain ⟨zL0, kL0, fL0⟩ := L0.out
  obtain ⟨zL1, kL1, fL1⟩ := L1.out
  go_wp2_with (fail)
  ((with_reducible refine (Spend_any d u p b x _ R4.out _).mono ?_); rintro e w9 ⟨rfl, hb⟩)
  obtain ⟨hLX', hbT⟩ := locs1 hb
  have LX' := Lib.hid hLX'
  clear hLX'
  replace HB := Lib.hid (HB.out.trans (hbT.mono HB.out.size))
  replace L0 := Lib.hid (L0.out.below hbT)
  replace L1 := Lib.hid (L1.out.below hbT)
  replace HA := Lib.hid (HA.out.below hbT)
  replace LA := Lib.hid (LA.out.below hbT)
  replace HA' := Lib.hid (HA'.out.below hbT)
  replace LA' := Lib.hid (LA'.out.below hbT)
  replace HC := Lib.hid (HC.out.below hbT)
  replace LC := Lib.hid (LC.out.below hbT)
  replace HC' := Lib.hid (HC'.out.below hbT)
  replace LC' := Lib.hid (LC'.out.below hbT)
  replace HX := Lib.hid (HX.out.below hbT)
  replace LX := Lib.hid (LX.out.below hbT)
  replace HX' := Lib.hid (HX'.out.below hbT)
  clear hbT hb zL0 kL0 fL0 zL1 kL1 fL1
  obtain ⟨zL0, kL0, fL0⟩ := L0.out
  obtain ⟨zL1, kL1, fL1⟩ := L1.out
  go_wp2_with (fail)
  ((with_reducible refine (SpendR_any d u p b x _ R4.out _).mono ?_); rintro e w10 ⟨rfl, hb⟩)
  obtain ⟨hLP, hbT⟩ := locs1 hb
  have LP := Lib.hid hLP
  clear hLP
  replace HB := Lib.hid (HB.out.trans (hbT.mono HB.out.size))
  replace L0 := Lib.hid (L0.out.below hbT)
  replace L1 := Lib.hid (L1.out.below hbT)
  replace HA := Lib.hid (HA.out.below hbT)
  replace LA := Lib.hid (LA.out.below hbT)
  replace HA' := Lib.hid (HA'.out.below hbT)
  replace LA' := Lib.hid (LA'.out.below hbT)
  replace HC := Lib.hid (HC.out.below hbT)
  replace LC := Lib.hid (LC.out.below hbT)
  replace HC' := Lib.hid (HC'.out.below hbT)
  replace LC' := Lib.hid (LC'.out.below hbT)
  replace HX := Lib.hid (HX.out.below hbT)
  replace LX := Lib.hid (LX.out.below hbT)
  replace HX' := Lib.hid (HX'.out.below hbT)
  replace LX' := Lib.hid (LX'.out.below hbT)
  clear hbT hb zL0 kL0 fL0 zL1 kL1 fL1
  obtain ⟨zL0, kL0, fL0⟩ := L0.out
  obtain ⟨zL1, kL1, fL1⟩ := L1.out
  go_wp2_with (fail)
  ((with_reducible refine (Return_any d u p b _ R5.out _).mono ?_); rintro e w11 ⟨rfl, hb⟩)
  obtain ⟨hLP', hbT⟩ := locs1 hb
  have LP' := Lib.hid hLP'
  clear hLP'
  replace HB := Lib.hid (HB.out.trans (hbT.mono HB.out.size))
  replace L0 := Lib.hid (L0.out.below hbT)
  replace L1 := Lib.hid (L1.out.below hbT)
  replace HA := Lib.hid (HA.out.below hbT)
  replace LA := Lib.hid (LA.out.below hbT)
  replace HA' := Lib.hid (HA'.out.below hbT)
  replace LA' := Lib.hid (LA'.out.below hbT)
  replace HC := Lib.hid (HC.out.below hbT)
  replace LC := Lib.hid (LC.out.below hbT)
  replace HC' := Lib.hid (HC'.out.below hbT)
  replace LC' := Lib.hid (LC'.out.below hbT)
  replace HX := Lib.hid (HX.out.below hbT)
  replace LX := Lib.hid (LX.out.below hbT)
  replace HX' := Lib.hid (HX'.out.below hbT)
  replace LX' := Lib.hid (LX'.out.below hbT)
  replace LP := Lib.hid (LP.out.below hbT)
  clear hbT hb zL0 kL0 fL0 zL1 kL1 fL1
  obtain ⟨zL0, kL0, fL0⟩ := L0.out
  obtain ⟨zL1, kL1, fL1⟩ := L1.out
  go_wp2_with (fail)
  ((with_reducible refine (ReturnR_any d u p b _ R5.out _).mono ?_); rintro e w12 ⟨rfl, hb⟩)
  obtain ⟨hLV, hbT⟩ := locs1 hb
  have LV := Lib.hid hLV
  clear hLV
  replace HB := Lib.hid (HB.out.trans (hbT.mono HB.out.size))
  replace L0 := Lib.hid (L0.out.below hbT)
  replace L1 := Lib.hid (L1.out.below hbT)
  replace HA := Lib.hid (HA.out.below hbT)
  replace LA := Lib.hid (LA.out.below hbT)
  replace HA' := Lib.hid (HA'.out.below hbT)
  replace LA' := Lib.hid (LA'.out.below hbT)
  replace HC := Lib.hid (HC.out.below hbT)
  replace LC := Lib.hid (LC.out.below hbT)
  replace HC' := Lib.hid (HC'.out.below hbT)
  replace LC' := Lib.hid (LC'.out.below hbT)
  replace HX := Lib.hid (HX.out.below hbT)
  replace LX := Lib.hid (LX.out.below hbT)
  replace HX' := Lib.hid (HX'.out.below hbT)
  replace LX' := Lib.hid (LX'.out.below hbT)
  replace LP := Lib.hid (LP.out.below hbT)
  replace LP' := Lib.hid (LP'.out.below hbT)
  clear hbT hb zL0 kL0 fL0 zL1 kL1 fL1
  obtain ⟨zLP, kLP, fLP⟩ := LP.out
  obtain ⟨zLP', kLP', fLP'⟩ := LP'.out
  obtain ⟨zLV, kLV, fLV⟩ := LV.out
  have ne1 : (e1 != e1) = false := by simp
  have ne2 : (e2 != e2) = false := by simp
  have ne3 : (e3 != e3) = false := by simp
  have ne4 : (e4 != e4) = false := by simp
  have ne5 : (e5 != e5) = false := by simp
  go_wp2_with (fail)
  have HS12 := Lib.hid (HS.out.below HB.out)
  have hq120 : n ≤ 120 := by simpa using Q.out
  have M1 := Lib.hid (show r1.loans.length ≤ maxLen by have h1 := N1.out; have h2 := HL.out; simp only [maxLen] at *; omega)
  have M2 := Lib.hid (show r2.loans.length ≤ maxLen by have h1 := N2.out; have h2 := HL.out; simp only [maxLen] at *; omega)
  have M3 := Lib.hid (show r3.loans.length ≤ maxLen by have h1 := N3.out; have h2 := HL.out; simp only [maxLen] at *; omega)
  have hS : ∀ w', Below w12.heap.size w12 w' → _ :=
    fun w' hb => And.intro (loc3 L0.out hb) (And.intro (loc3 LA.out hb) (And.intro (loc3 LA'.out hb) (And.intro (loc3 LC.out hb) (And.intro (loc3 LC'.out hb) (And.intro (loc3 LX.out hb) (And.intro (loc3 LX'.out hb) hb))))))
  have HSS := Lib.hid hS
  clear hS hq120
  go_region_held3 (fun w' =>
      (w'.cell? ⟨w.heap.size, 0, none⟩ = some (.int .i64 t) ∧ w'.cell? ⟨w.heap.size, 1, none⟩ = some (.int .i64 s) ∧ w'.cell? ⟨w.heap.size, 2, none⟩ = some (.slice A n c)) ∧
      (w'.cell? ⟨w3.heap.size, 0, none⟩ = some (.int .i64 r1.total) ∧ w'.cell? ⟨w3.heap.size, 1, none⟩ = some (.int .i64 r1.spent) ∧ w'.cell? ⟨w3.heap.size, 2, none⟩ = some (.slice A3 r1.loans.length c3)) ∧
      (w'.cell? ⟨w4.heap.size, 0, none⟩ = some (.int .i64 r1.total) ∧ w'.cell? ⟨w4.heap.size, 1, none⟩ = some (.int .i64 r1.spent) ∧ w'.cell? ⟨w4.heap.size, 2, none⟩ = some (.slice A4 r1.loans.length c4)) ∧
      (w'.cell? ⟨w5.heap.size, 0, none⟩ = some (.int .i64 r2.total) ∧ w'.cell? ⟨w5.heap.size, 1, none⟩ = some (.int .i64 r2.spent) ∧ w'.cell? ⟨w5.heap.size, 2, none⟩ = some (.slice A5 r2.loans.length c5)) ∧
      (w'.cell? ⟨w6.heap.size, 0, none⟩ = some (.int .i64 r2.total) ∧ w'.cell? ⟨w6.heap.size, 1, none⟩ = some (.int .i64 r2.spent) ∧ w'.cell? ⟨w6.heap.size, 2, none⟩ = some (.slice A6 r2.loans.length c6)) ∧
      (w'.cell? ⟨w7.heap.size, 0, none⟩ = some (.int .i64 r3.total) ∧ w'.cell? ⟨w7.heap.size, 1, none⟩ = some (.int .i64 r3.spent) ∧ w'.cell? ⟨w7.heap.size, 2, none⟩ = some (.slice A7 r3.loans.length c7)) ∧
      (w'.cell? ⟨w8.heap.size, 0, none⟩ = some (.int .i64 r3.total) ∧ w'.cell? ⟨w8.heap.size, 1, none⟩ = some (.int .i64 r3.spent) ∧ w'.cell? ⟨w8.heap.size, 2, none⟩ = some (.slice A8 r3.loans.length c8)) ∧
      Below w12.heap.size w12 w')
    (first | exact HSS.out _ hB7 | exact HSS.out _ (below_alloc w12 _) | exact HSS.out _ ((below_alloc w12 _).drew) | exact HSS.out _ (bdrewN (below_alloc w12 _) _) | exact HSS.out _ (Below.refl _ _) | exact HSS.out _ (Below.refl _ _).drew)
    (first
      | (go_at_call 20
         ((with_reducible refine (Same_any r1.total r1.spent r1.total r1.spent A3 A4 _ _ c3 c4 r1.loans r1.loans _ ?ha1 ?hb1 M1.out M1.out true ?hc1).mono ?_)
          (case ha1 => (go_split_ands; exact Sl.below HA.out (by assumption)))
          (case hb1 => (go_split_ands; exact Sl.below HA'.out (by assumption)))
          (case hc1 => simp [sameB])
          rintro e w13 ⟨rfl, hbF⟩
          have hB7 : Below w12.heap.size w12 w13 := by go_split_ands; exact Below.trans (by assumption) (hbF.mono (Below.size (by assumption)))))
      | (go_at_call 20
         ((with_reducible refine (Same_any r2.total r2.spent r2.total r2.spent A5 A6 _ _ c5 c6 r2.loans r2.loans _ ?ha2 ?hb2 M2.out M2.out true ?hc2).mono ?_)
          (case ha2 => (go_split_ands; exact Sl.below HC.out (by assumption)))
          (case hb2 => (go_split_ands; exact Sl.below HC'.out (by assumption)))
          (case hc2 => simp [sameB])
          rintro e w13 ⟨rfl, hbF⟩
          have hB7 : Below w12.heap.size w12 w13 := by go_split_ands; exact Below.trans (by assumption) (hbF.mono (Below.size (by assumption)))))
      | (go_at_call 20
         ((with_reducible refine (Same_any r3.total r3.spent r3.total r3.spent A7 A8 _ _ c7 c8 r3.loans r3.loans _ ?ha3 ?hb3 M3.out M3.out true ?hc3).mono ?_)
          (case ha3 => (go_split_ands; exact Sl.below HX.out (by assumption)))
          (case hb3 => (go_split_ands; exact Sl.below HX'.out (by assumption)))
          (case hc3 => simp [sameB])
          rintro e w13 ⟨rfl, hbF⟩
          have hB7 : Below w12.heap.size w12 w13 := by go_split_ands; exact Below.trans (by assumption) (hbF.mono (Below.size (by assumption)))))
      | (go_at_call 21
         ((with_reducible refine (Right_any t s A n c ls _ ?hd1 f2 (free_snd HF.out)).mono ?_)
          (case hd1 => (go_split_ands; exact Sl.below HS12.out (by assumption)))
          rintro e w13 ⟨rfl, hbF⟩
          have hB7 : Below w12.heap.size w12 w13 := by go_split_ands; exact Below.trans (by assumption) (hbF.mono (Below.size (by assumption)))))
      | (go_at_call 22
         ((with_reducible refine (RightR_any t s A n c ls _ ?hd2 f2 (free_snd HF.out)).mono ?_)
          (case hd2 => (go_split_ands; exact Sl.below HS12.out (by assumption)))
          rintro e w13 ⟨rfl, hbF⟩
          have hB7 : Below w12.heap.size w12 w13 := by go_split_ands; exact Below.trans (by assumption) (hbF.mono (Below.size (by assumption)))))
      | (go_at_call 23
         ((with_reducible refine (Free_any t s A n c ls _ ?hd3 (max f1 0) HG.out).mono ?_)
          (case hd3 => (go_split_ands; exact Sl.below HS12.out (by assumption)))
          rintro e w13 ⟨rfl, hbF⟩
          have hB7 : Below w12.heap.size w12 w13 := by go_split_ands; exact Below.trans (by assumption) (hbF.mono (Below.size (by assumption)))))
      | (go_at_call 24
         ((with_reducible refine (FreeR_any t s A n c ls _ ?hd4 (max f1 0) HG'.out).mono ?_)
          (case hd4 => (go_split_ands; exact Sl.below HS12.out (by assumption)))
          rintro e w13 ⟨rfl, hbF⟩
          have hB7 : Below w12.heap.size w12 w13 := by go_split_ands; exact Below.trans (by assumption) (hbF.mono (Below.size (by assumption))))))
  go_wp2_with (fail)
  go_ret
  exact ⟨ret_bool (by simp), HB.out.trans (hB7.mono HB.out.size)⟩
end Go.Proofs.Ytfohjkddcinfmaa
