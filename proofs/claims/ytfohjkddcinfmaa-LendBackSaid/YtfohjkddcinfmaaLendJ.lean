/- LendBack, walked. -/
import Derived.Test.YtfohjkddcinfmaaLendI
import Derived.Deep.RegionHeld3
namespace Go.Proofs.Ytfohjkddcinfmaa
open Go.RowKit

/-- Merge where the report is taken in -/
theorem Merge_taken (t s : Int) (A : Option Addr) (n c : Nat) (ls ls' : List LoanV) (i d u p : Int) (b : Bool) (hr : mergeF ⟨t, s, ls⟩ i ⟨d, u, p, b⟩ = (⟨t, s, ls'⟩, 0)) (hl : ls'.length = n) (w : World) (hs : Sl w 4 A n (ls.map LoanV.cells)) :
    Calls Try.prog 14 #[.agg #[.int .i64 t, .int .i64 s, .slice A n c], .int .i64 i, .agg #[.int .i64 d, .int .i64 u, .int .i64 p, .bool b]] w fun e w' => ∃ A' c', e = .returned (.tuple #[.agg #[.int .i64 t, .int .i64 s, .slice A' n c'], .int .i64 0]) ∧ SlF w w' 4 A' n (ls'.map LoanV.cells) ∧ Below w.heap.size w w' := by
  refine (Merge_any t s A n c ls i d u p b _ hr w hs).mono ?_
  rintro e w' ⟨A', c', rfl, h1, h2⟩
  subst hl
  exact ⟨A', c', rfl, h1, h2⟩
/-- Merge where it is not -/
theorem Merge_bad (t s : Int) (A : Option Addr) (n c : Nat) (ls : List LoanV) (i d u p : Int) (b : Bool) (r : StockV) (e1 : Int) (hr : mergeF ⟨t, s, ls⟩ i ⟨d, u, p, b⟩ = (r, e1)) (he : e1 ≠ 0) (w : World) (hs : Sl w 4 A n (ls.map LoanV.cells)) :
    Calls Try.prog 14 #[.agg #[.int .i64 t, .int .i64 s, .slice A n c], .int .i64 i, .agg #[.int .i64 d, .int .i64 u, .int .i64 p, .bool b]] w fun e w' => ∃ A' c', e = .returned (.tuple #[.agg #[.int .i64 0, .int .i64 0, .slice A' 0 c'], .int .i64 e1]) ∧ Below w.heap.size w w' := by
  have hn := mergeF_bad hr he
  subst hn
  refine (Merge_any t s A n c ls i d u p b _ hr w hs).mono ?_
  rintro e w' ⟨A', c', rfl, h1, h2⟩
  exact ⟨A', c', rfl, h2⟩

set_option maxRecDepth 100000 in
set_option maxHeartbeats 4000000 in
theorem back_bad (t s : Int) (A : Option Addr) (n c : Nat) (ls : List LoanV) (i d u p : Int) (b : Bool) (w : World) (hs : Sl w 4 A n (ls.map LoanV.cells)) (hn : n ≤ maxLen) (r1 : StockV) (e1 : Int) (hm : mergeF ⟨t, s, ls⟩ i ⟨d, u, p, b⟩ = (r1, e1)) (he : e1 ≠ 0) :
    Calls Try.prog 6 #[.agg #[.int .i64 t, .int .i64 s, .slice A n c], .int .i64 i, .agg #[.int .i64 d, .int .i64 u, .int .i64 p, .bool b]] w fun e w' => e = .returned (.bool true) ∧ Below w.heap.size w w' := by
  have HN := Lib.hid hn
  obtain ⟨r, hr⟩ : ∃ r, (StockV.free ⟨t, s, ls⟩).2 = r := ⟨_, rfl⟩
  have HR := Lib.hid hr
  have HS := Lib.hid hs
  have HM := Lib.hid hm
  have HE := Lib.hid he
  have hne : (e1 != 0) = true := by simpa using he
  clear hr hs hn hm he
  obtain ⟨q, hq⟩ : ∃ q, decide (n ≤ 120) = q := ⟨_, rfl⟩
  have HQ := Lib.hid hq
  clear hq
  go_enter Try.func6, Try.ntmps6
  go_wp2_with (fail)
  refine (sane_any _).mono ?_
  rintro e w1 ⟨rfl, hb1⟩
  replace HS := Lib.hid (((HS.out.alloc _).alloc _).below hb1)
  obtain ⟨z0, z1, k0, f0, k1, f1, ko, hb1'⟩ := after2 hb1
  have HB := Lib.hid hb1'
  have L0 := Lib.hid (⟨z0, k0, f0⟩ : Loc w1 _ _)
  have L1 := Lib.hid (⟨z1, k1, f1⟩ : Loc w1 _ _)
  clear hb1 hb1' ko k1 f1 z1
  go_wp2_with (fail)
  refine (Few_any _ _ _ _ _ _ q HQ.out HN.out).mono ?_
  rintro e w2 ⟨rfl, hb2⟩
  replace HS := Lib.hid (HS.out.below hb2)
  replace L0 := Lib.hid (L0.out.below hb2)
  replace L1 := Lib.hid (L1.out.below hb2)
  replace HB := Lib.hid (HB.out.trans (hb2.mono HB.out.size))
  clear hb2 z0 k0 f0
  obtain ⟨z0, k0, f0⟩ := L0.out
  rcases q with _ | _
  · go_wp2_with (fail)
    go_ret
    exact ⟨rfl, HB.out⟩
  go_wp2_with (fail)
  refine (Right_any _ _ _ _ _ ls _ HS.out r HR.out).mono ?_
  rintro e w3 ⟨rfl, hb3⟩
  replace HS := Lib.hid (HS.out.below hb3)
  replace L0 := Lib.hid (L0.out.below hb3)
  replace L1 := Lib.hid (L1.out.below hb3)
  replace HB := Lib.hid (HB.out.trans (hb3.mono HB.out.size))
  clear hb3 z0 k0 f0
  obtain ⟨z0, k0, f0⟩ := L0.out
  obtain ⟨z1, k1, f1⟩ := L1.out
  rcases r with _ | _
  · go_wp2_with (fail)
    go_ret
    exact ⟨rfl, HB.out⟩
  go_wp2_with (fail)
  refine (Merge_bad t s A n c ls i d u p b r1 e1 HM.out HE.out _ HS.out).mono ?_
  rintro e w4 ⟨A4, c4, rfl, hb4⟩
  replace HB := Lib.hid (HB.out.trans (hb4.mono HB.out.size))
  clear hb4 z0 k0 f0 z1 k1 f1
  go_wp2_with (fail)
  go_ret
  exact ⟨rfl, HB.out.alloc HB.out.size _⟩
end Go.Proofs.Ytfohjkddcinfmaa
