/- LendForks: the plain law, and the walk. -/
import Derived.Test.YtfohjkddcinfmaaLendG
namespace Go.Proofs.Ytfohjkddcinfmaa
open Go.RowKit

/- the plain law -/
theorem mergeF_ok {s t : StockV} {i : Int} {l : LoanV} {e : Int} (h : mergeF s i l = (t, e)) (he : e = 0) :
    ∃ x : LoanV, s.free.2 = true ∧ l.right = true ∧ 0 ≤ i ∧ i < s.loans.length ∧ s.loans[i.toNat]? = some x ∧ x.device = l.device ∧ x.units = l.units ∧ forkedB x l = false ∧ t = ⟨s.total, s.spent, s.loans.set i.toNat ⟨x.device, x.units, max x.spent l.spent, x.back || l.back⟩⟩ := by
  subst he
  unfold mergeF at h
  split at h
  · simp at h
  rename_i h1
  split at h
  · simp at h
  rename_i h2
  split at h
  · simp at h
  rename_i x hx
  split at h
  · simp at h
  rename_i h3
  split at h
  · simp at h
  rename_i h4
  simp only [Prod.mk.injEq, and_true] at h
  simp only [not_or, Decidable.not_not] at h3
  simp only [Bool.not_eq_false, Bool.and_eq_true] at h1
  exact ⟨x, h1.1, h1.2, by omega, by omega, hx, h3.1, h3.2, by simpa using h4, h.symm⟩
theorem mergeF_fork {s : StockV} {i : Int} {l x : LoanV} (hx : s.loans[i.toNat]? = some x) (hf : forkedB x l = true) : (mergeF s i l).2 ≠ 0 := by
  unfold mergeF
  split
  · simp
  split
  · simp
  rw [hx]
  simp only []
  split
  · simp
  simp
theorem forks_plain {s t : StockV} {i e : Int} {a b : LoanV} (ha : a.back = true) (hb : a.spent < b.spent) (h : mergeF s i a = (t, e)) (he : e = 0) : (mergeF t i b).2 ≠ 0 := by
  obtain ⟨x, _, _, h0, h1, hx, _, _, hf, rfl⟩ := mergeF_ok h he
  have hlt : i.toNat < s.loans.length := by omega
  refine mergeF_fork (x := ⟨x.device, x.units, max x.spent a.spent, x.back || a.back⟩) (by simp [hlt]) ?_
  simp only [forkedB, ha, Bool.true_and, Bool.or_eq_false_iff, decide_eq_false_iff_not] at hf ⊢
  simp only [Bool.or_true, Bool.true_and, Bool.or_eq_true, decide_eq_true_eq]
  left
  omega
theorem forks_plain' {s t : StockV} {i e : Int} {a b : LoanV} (ha : a.back = true) (hb : a.spent < b.spent) (h : mergeF s i b = (t, e)) (he : e = 0) : (mergeF t i a).2 ≠ 0 := by
  obtain ⟨x, _, _, h0, h1, hx, _, _, hf, rfl⟩ := mergeF_ok h he
  have hlt : i.toNat < s.loans.length := by omega
  refine mergeF_fork (x := ⟨x.device, x.units, max x.spent b.spent, x.back || b.back⟩) (by simp [hlt]) ?_
  simp only [forkedB, ha, Bool.true_and, Bool.or_eq_true, decide_eq_true_eq]
  right
  omega

set_option maxRecDepth 100000 in
set_option maxHeartbeats 4000000 in
theorem forks_any (t s : Int) (A : Option Addr) (n c : Nat) (ls : List LoanV) (i d u p : Int) (b : Bool) (d' u' p' : Int) (b' : Bool) (w : World) (hs : Sl w 4 A n (ls.map LoanV.cells)) (hn : n ≤ maxLen) :
    Calls Try.prog 7 #[.agg #[.int .i64 t, .int .i64 s, .slice A n c], .int .i64 i, .agg #[.int .i64 d, .int .i64 u, .int .i64 p, .bool b], .agg #[.int .i64 d', .int .i64 u', .int .i64 p', .bool b']] w fun e w' => e = .returned (.bool true) ∧ Below w.heap.size w w' := by
  have HN := Lib.hid hn
  have hl : ls.length = n := by simpa using hs.1
  obtain ⟨r, hr⟩ : ∃ r, (StockV.free ⟨t, s, ls⟩).2 = r := ⟨_, rfl⟩
  have HR := Lib.hid hr
  have HS := Lib.hid hs
  have HL := Lib.hid hl
  clear hr hs hl hn
  obtain ⟨q, hq⟩ : ∃ q, decide (n ≤ 120) = q := ⟨_, rfl⟩
  have HQ := Lib.hid hq
  clear hq
  go_enter Try.func7, Try.ntmps7
  go_wp2_with (fail)
  refine (sane_any _).mono ?_
  rintro e w1 ⟨rfl, hb1⟩
  replace HS := Lib.hid ((((HS.out.alloc _).alloc _).alloc _).below hb1)
  obtain ⟨z0, z1, z2, k0, f0, k1, f1, k2, f2, ko, hb1'⟩ := after3 hb1
  have HB := Lib.hid hb1'
  have L0 := Lib.hid (⟨z0, k0, f0⟩ : Loc w1 _ _)
  have L1 := Lib.hid (⟨z1, k1, f1⟩ : Loc w1 _ _)
  have L2 := Lib.hid (⟨z2, k2, f2⟩ : Loc w1 _ _)
  clear hb1 hb1' ko k1 f1 k2 f2 z1 z2
  go_wp2_with (fail)
  refine (Few_any _ _ _ _ _ _ q HQ.out HN.out).mono ?_
  rintro e w2 ⟨rfl, hb2⟩
  replace HS := Lib.hid (HS.out.below hb2)
  replace L0 := Lib.hid (L0.out.below hb2)
  replace L1 := Lib.hid (L1.out.below hb2)
  replace L2 := Lib.hid (L2.out.below hb2)
  replace HB := Lib.hid (HB.out.trans (hb2.mono HB.out.size))
  clear hb2 z0 k0 f0
  obtain ⟨z0, k0, f0⟩ := L0.out
  rcases q with _ | _
  · go_wp2_with (fail)
    go_ret
    exact ⟨rfl, HB.out⟩
  go_wp2_with (fail)
  refine (Right_any _ _ _ _ _ ls _ HS.out r HR.out).mono ?_
  rintro e w3 ⟨rfl, hb3⟩
  replace HS := Lib.hid (HS.out.below hb3)
  replace L0 := Lib.hid (L0.out.below hb3)
  replace L1 := Lib.hid (L1.out.below hb3)
  replace L2 := Lib.hid (L2.out.below hb3)
  replace HB := Lib.hid (HB.out.trans (hb3.mono HB.out.size))
  clear hb3 z0 k0 f0
  obtain ⟨z0, k0, f0⟩ := L0.out
  obtain ⟨z1, k1, f1⟩ := L1.out
  obtain ⟨z2, k2, f2⟩ := L2.out
  rcases r with _ | _
  · go_wp2_with (fail)
    go_ret
    exact ⟨rfl, HB.out⟩
  rcases b with _ | _
  · go_wp2_with (fail)
    go_ret
    exact ⟨rfl, HB.out⟩
  by_cases hpp : p' ≤ p
  · go_wp2_with (fail)
    go_ret
    exact ⟨rfl, HB.out⟩
  have hpp' : p < p' := by omega
  obtain ⟨r1, e1, hm1⟩ : ∃ r1 e1, mergeF ⟨t, s, ls⟩ i ⟨d, u, p, true⟩ = (r1, e1) := ⟨_, _, rfl⟩
  obtain ⟨r2, e2, hm2⟩ : ∃ r2 e2, mergeF ⟨t, s, ls⟩ i ⟨d', u', p', b'⟩ = (r2, e2) := ⟨_, _, rfl⟩
  have M1 := Lib.hid hm1
  have M2 := Lib.hid hm2
  clear hm1 hm2
  go_wp2_with (fail)
  refine (Merge_any t s A n c ls i d u p true (r1, e1) M1.out _ HS.out).mono ?_
  rintro e w4 ⟨A4, c4, rfl, hs4, hb4⟩
  replace HS := Lib.hid (HS.out.below hb4)
  replace L0 := Lib.hid (L0.out.below hb4)
  replace L1 := Lib.hid (L1.out.below hb4)
  replace L2 := Lib.hid (L2.out.below hb4)
  replace HB := Lib.hid (HB.out.trans (hb4.mono HB.out.size))
  have HT := Lib.hid hs4.1
  clear hs4 hb4 z0 k0 f0 z1 k1 f1 z2 k2 f2
  obtain ⟨z0, k0, f0⟩ := L0.out
  obtain ⟨z2, k2, f2⟩ := L2.out
  go_wp2_with (fail)
  refine (Merge_any t s A n c ls i d' u' p' b' (r2, e2) M2.out _ (HS.out.alloc _)).mono ?_
  rintro e w5 ⟨A5, c5, rfl, hs5, hb5⟩
  have L3 := Lib.hid ((Loc.new_ w4 _ _).below hb5)
  replace HS := Lib.hid ((HS.out.alloc _).below hb5)
  replace HT := Lib.hid ((HT.out.alloc _).below hb5)
  replace L0 := Lib.hid ((L0.out.alloc _).below hb5)
  replace L1 := Lib.hid ((L1.out.alloc _).below hb5)
  replace L2 := Lib.hid ((L2.out.alloc _).below hb5)
  replace HB := Lib.hid (HB.out.trans ((below_of_calls _ hb5).mono HB.out.size))
  have HU := Lib.hid hs5.1
  have L4 := Lib.hid (Loc.new_ w5 #[.int .i64 r2.total, .int .i64 r2.spent, .slice A5 r2.loans.length c5] 24)
  clear hs5 hb5 z0 k0 f0 z2 k2 f2
  obtain ⟨z0, k0, f0⟩ := L0.out
  obtain ⟨z1, k1, f1⟩ := L1.out
  obtain ⟨z2, k2, f2⟩ := L2.out
  obtain ⟨z3, k3, f3⟩ := L3.out
  have hE1 : (e1 == 0) = true ∨ (e1 == 0) = false := by cases (e1 == 0) <;> simp
  rcases hE1 with hE1 | hE1
  · have he1 : e1 = 0 := by simpa using hE1
    obtain ⟨r3, e3, hm3⟩ : ∃ r3 e3, mergeF r1 i ⟨d', u', p', b'⟩ = (r3, e3) := ⟨_, _, rfl⟩
    have h3 : (e3 == 0) = false := by have h := forks_plain (a := ⟨d, u, p, true⟩) (b := ⟨d', u', p', b'⟩) rfl hpp' M1.out he1; rw [hm3] at h; simpa using h
    have M3 := Lib.hid hm3
    clear hm3 he1
    go_wp2_with (fail)
    refine (Merge_any _ _ _ _ _ r1.loans i d' u' p' b' (r3, e3) M3.out _ (HT.out.alloc _)).mono ?_
    rintro e w6 ⟨A6, c6, rfl, hs6, hb6⟩
    replace L4 := Lib.hid (L4.out.below hb6)
    replace HU := Lib.hid ((HU.out.alloc _).below hb6)
    replace L0 := Lib.hid ((L0.out.alloc _).below hb6)
    replace L1 := Lib.hid ((L1.out.alloc _).below hb6)
    replace HB := Lib.hid (HB.out.trans ((below_of_calls _ hb6).mono HB.out.size))
    clear hs6 hb6 z0 k0 f0 z1 k1 f1 z2 k2 f2 z3 k3 f3
    obtain ⟨z1, k1, f1⟩ := L1.out
    obtain ⟨z4, k4, f4⟩ := L4.out
    have hE2 : (e2 == 0) = true ∨ (e2 == 0) = false := by cases (e2 == 0) <;> simp
    rcases hE2 with hE2 | hE2
    · have he2 : e2 = 0 := by simpa using hE2
      obtain ⟨r4, e4, hm4⟩ : ∃ r4 e4, mergeF r2 i ⟨d, u, p, true⟩ = (r4, e4) := ⟨_, _, rfl⟩
      have h4 : (e4 == 0) = false := by have h := forks_plain' (a := ⟨d, u, p, true⟩) (b := ⟨d', u', p', b'⟩) rfl hpp' M2.out he2; rw [hm4] at h; simpa using h
      have M4 := Lib.hid hm4
      clear hm4 he2
      go_wp2_with (fail)
      refine (Merge_any _ _ _ _ _ r2.loans i d u p true (r4, e4) M4.out _ (HU.out.alloc _)).mono ?_
      rintro e w7 ⟨A7, c7, rfl, hs7, hb7⟩
      go_wp2_with (fail)
      go_ret
      exact ⟨rfl, (HB.out.trans ((below_of_calls _ hb7).mono HB.out.size)).alloc (Nat.le_trans HB.out.size (below_of_calls _ hb7).size) _⟩
    · go_wp2_with (fail)
      go_ret
      exact ⟨rfl, HB.out.alloc HB.out.size _⟩
  · have hE2 : (e2 == 0) = true ∨ (e2 == 0) = false := by cases (e2 == 0) <;> simp
    rcases hE2 with hE2 | hE2
    · have he2 : e2 = 0 := by simpa using hE2
      obtain ⟨r4, e4, hm4⟩ : ∃ r4 e4, mergeF r2 i ⟨d, u, p, true⟩ = (r4, e4) := ⟨_, _, rfl⟩
      have h4 : (e4 == 0) = false := by have h := forks_plain' (a := ⟨d, u, p, true⟩) (b := ⟨d', u', p', b'⟩) rfl hpp' M2.out he2; rw [hm4] at h; simpa using h
      have M4 := Lib.hid hm4
      clear hm4 he2
      go_wp2_with (fail)
      refine (Merge_any _ _ _ _ _ r2.loans i d u p true (r4, e4) M4.out _ (HU.out.alloc _)).mono ?_
      rintro e w7 ⟨A7, c7, rfl, hs7, hb7⟩
      go_wp2_with (fail)
      go_ret
      exact ⟨rfl, (HB.out.trans ((below_of_calls _ hb7).mono HB.out.size)).alloc (Nat.le_trans HB.out.size (below_of_calls _ hb7).size) _⟩
    · go_wp2_with (fail)
      go_ret
      exact ⟨rfl, HB.out.alloc HB.out.size _⟩
end Go.Proofs.Ytfohjkddcinfmaa
