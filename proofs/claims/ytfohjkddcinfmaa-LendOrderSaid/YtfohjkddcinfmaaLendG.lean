/- sane, walked. -/
import Derived.Test.YtfohjkddcinfmaaLendE
import Derived.Test.YtfohjkddcinfmaaLendF
namespace Go.Proofs.Ytfohjkddcinfmaa
open Go.RowKit

set_option maxRecDepth 100000 in
set_option maxHeartbeats 4000000 in
theorem sane_any (w : World) : Calls Try.prog 8 #[] w fun e w' => e = .returned (.bool true) ∧ Below w.heap.size w w' := by
  have heq := eql_loan 2 50 10 true 2 50 10 true true rfl
  go_enter Try.func8, Try.ntmps8
  go_wp2_with (fail)
  refine (made_any _).mono ?_
  rintro e w1 ⟨A1, c1, rfl, hs1, hb1⟩
  have HB := Lib.hid hb1
  have HS := Lib.hid hs1
  clear hs1 hb1
  go_wp2_with (fail)
  -- Own(s, 21)
  refine (Own_any 100 30 _ _ _ [⟨2, 50, 0, false⟩] 21 (noStock, 6) (by decide) _ (HS.out.alloc _)).mono ?_
  rintro e w2 ⟨A2, c2, rfl, hs2, hb2⟩
  have L1 := Lib.hid ((Loc.new_ w1 _ _).below hb2)
  replace HS := Lib.hid ((HS.out.alloc _).below hb2)
  replace HB := Lib.hid (HB.out.trans ((below_of_calls _ hb2).mono HB.out.size))
  clear hs2 hb2
  obtain ⟨z1, k1, f1⟩ := L1.out
  go_wp2_with (fail)
  -- Lend(s, 3, 20)
  refine (Lend_any 100 30 _ _ _ [⟨2, 50, 0, false⟩] 3 20 (⟨100, 30, [⟨2, 50, 0, false⟩, ⟨3, 20, 0, false⟩]⟩, 0) (by decide) _ (HS.out.alloc _)).mono ?_
  rintro e w3 ⟨A3, c3, rfl, hs3, hb3⟩
  replace HS := Lib.hid ((HS.out.alloc _).below hb3)
  replace L1 := Lib.hid ((L1.out.alloc _).below hb3)
  replace HB := Lib.hid (HB.out.trans ((below_of_calls _ hb3).mono HB.out.size))
  have HT := Lib.hid hs3.1
  clear hs3 hb3 z1 k1 f1
  obtain ⟨z1, k1, f1⟩ := L1.out
  obtain ⟨b1, o1, rfl, hb1, hc1⟩ := HS.out.2 0 (LoanV.cells ⟨2, 50, 0, false⟩) rfl
  have x0 : w3.cell? ⟨b1, o1, none⟩ = some (.int .i64 2) := by simpa using hc1 0 _ rfl
  have x1 : w3.cell? ⟨b1, o1 + 1, none⟩ = some (.int .i64 50) := by simpa using hc1 1 _ rfl
  have x2 : w3.cell? ⟨b1, o1 + 2, none⟩ = some (.int .i64 0) := by simpa using hc1 2 _ rfl
  have x3 : w3.cell? ⟨b1, o1 + 3, none⟩ = some (.bool false) := by simpa using hc1 3 _ rfl
  clear hc1
  go_wp2_with (fail)
  -- Spend(l, 10)
  refine (Spend_any 2 50 0 false 10 (⟨2, 50, 10, false⟩, 0) (by decide) _).mono ?_
  rintro e w4 ⟨rfl, hb4⟩
  have L3 := Lib.hid ((Loc.new_ w3 _ _).below hb4)
  replace HS := Lib.hid ((HS.out.alloc _).below hb4)
  replace HT := Lib.hid ((HT.out.alloc _).below hb4)
  replace L1 := Lib.hid ((L1.out.alloc _).below hb4)
  replace HB := Lib.hid (HB.out.trans ((below_of_calls _ hb4).mono HB.out.size))
  clear hb4 z1 k1 f1 x0 x1 x2 x3 hb1
  obtain ⟨z1, k1, f1⟩ := L1.out
  go_wp2_with (fail)
  -- Return(l)
  refine (Return_any 2 50 10 false (⟨2, 50, 10, true⟩, 0) (by decide) _).mono ?_
  rintro e w5 ⟨rfl, hb5⟩
  replace HS := Lib.hid ((HS.out.alloc _).below hb5)
  replace HT := Lib.hid ((HT.out.alloc _).below hb5)
  replace L1 := Lib.hid ((L1.out.alloc _).below hb5)
  replace L3 := Lib.hid ((L3.out.alloc _).below hb5)
  replace HB := Lib.hid (HB.out.trans ((below_of_calls _ hb5).mono HB.out.size))
  clear hb5 z1 k1 f1
  obtain ⟨z1, k1, f1⟩ := L1.out
  go_wp2_with (fail)
  -- Merge(s, 0, m)
  refine (Merge_any 100 30 _ _ _ [⟨2, 50, 0, false⟩] 0 2 50 10 true (⟨100, 30, [⟨2, 50, 10, true⟩]⟩, 0) (by decide) _ (HS.out.alloc _)).mono ?_
  rintro e w6 ⟨A6, c6, rfl, hs6, hb6⟩
  have L5 := Lib.hid ((Loc.new_ w5 _ _).below hb6)
  replace HS := Lib.hid ((HS.out.alloc _).below hb6)
  replace HT := Lib.hid ((HT.out.alloc _).below hb6)
  replace L1 := Lib.hid ((L1.out.alloc _).below hb6)
  replace L3 := Lib.hid ((L3.out.alloc _).below hb6)
  replace HB := Lib.hid (HB.out.trans ((below_of_calls _ hb6).mono HB.out.size))
  have HU := Lib.hid hs6.1
  clear hs6 hb6 z1 k1 f1
  obtain ⟨z1, k1, f1⟩ := L1.out
  go_wp2_with (fail)
  -- Free(s), Free(t), Free(u)
  refine (Free_any 100 30 _ _ _ [⟨2, 50, 0, false⟩] _ (HS.out.alloc _) 20 (by decide)).mono ?_
  rintro e w7 ⟨rfl, hb7⟩
  have L6 := Lib.hid ((Loc.new_ w6 _ _).below hb7)
  replace HS := Lib.hid ((HS.out.alloc _).below hb7)
  replace HT := Lib.hid ((HT.out.alloc _).below hb7)
  replace HU := Lib.hid ((HU.out.alloc _).below hb7)
  replace L1 := Lib.hid ((L1.out.alloc _).below hb7)
  replace L3 := Lib.hid ((L3.out.alloc _).below hb7)
  replace L5 := Lib.hid ((L5.out.alloc _).below hb7)
  replace HB := Lib.hid (HB.out.trans ((below_of_calls _ hb7).mono HB.out.size))
  clear hb7 z1 k1 f1
  obtain ⟨z3, k3, f3⟩ := L3.out
  go_wp2_with (fail)
  refine (Free_any 100 30 _ _ _ [⟨2, 50, 0, false⟩, ⟨3, 20, 0, false⟩] _ HT.out 0 (by decide)).mono ?_
  rintro e w8 ⟨rfl, hb8⟩
  replace HS := Lib.hid (HS.out.below hb8)
  replace HT := Lib.hid (HT.out.below hb8)
  replace HU := Lib.hid (HU.out.below hb8)
  replace L1 := Lib.hid (L1.out.below hb8)
  replace L3 := Lib.hid (L3.out.below hb8)
  replace L5 := Lib.hid (L5.out.below hb8)
  replace L6 := Lib.hid (L6.out.below hb8)
  replace HB := Lib.hid (HB.out.trans (hb8.mono HB.out.size))
  clear hb8 z3 k3 f3
  obtain ⟨z6, k6, f6⟩ := L6.out
  go_wp2_with (fail)
  refine (Free_any 100 30 _ _ _ [⟨2, 50, 10, true⟩] _ HU.out 60 (by decide)).mono ?_
  rintro e w9 ⟨rfl, hb9⟩
  replace HU := Lib.hid (HU.out.below hb9)
  replace L5 := Lib.hid (L5.out.below hb9)
  replace L6 := Lib.hid (L6.out.below hb9)
  replace HB := Lib.hid (HB.out.trans (hb9.mono HB.out.size))
  clear hb9 z6 k6 f6 HS HT L1 L3
  obtain ⟨z6, k6, f6⟩ := L6.out
  go_wp2_with (fail)
  -- Merge(u, 0, ..)
  refine (Merge_any 100 30 _ _ _ [⟨2, 50, 10, true⟩] 0 2 50 4 false (⟨100, 30, [⟨2, 50, 10, true⟩]⟩, 0) (by decide) _ HU.out).mono ?_
  rintro e w10 ⟨A10, c10, rfl, hs10, hb10⟩
  replace HU := Lib.hid (HU.out.below hb10)
  replace L5 := Lib.hid (L5.out.below hb10)
  replace L6 := Lib.hid (L6.out.below hb10)
  replace HB := Lib.hid (HB.out.trans (hb10.mono HB.out.size))
  have HV := Lib.hid hs10.1
  clear hs10 hb10 z6 k6 f6
  obtain ⟨z6, k6, f6⟩ := L6.out
  go_wp2_with (fail)
  refine (Merge_any 100 30 _ _ _ [⟨2, 50, 10, true⟩] 0 2 50 11 false (noStock, 22) (by decide) _ (HU.out.alloc _)).mono ?_
  rintro e w11 ⟨A11, c11, rfl, hs11, hb11⟩
  have L10 := Lib.hid ((Loc.new_ w10 _ _).below hb11)
  replace HU := Lib.hid ((HU.out.alloc _).below hb11)
  replace HV := Lib.hid ((HV.out.alloc _).below hb11)
  replace L5 := Lib.hid ((L5.out.alloc _).below hb11)
  replace L6 := Lib.hid ((L6.out.alloc _).below hb11)
  replace HB := Lib.hid (HB.out.trans ((below_of_calls _ hb11).mono HB.out.size))
  clear hs11 hb11 z6 k6 f6
  obtain ⟨z6, k6, f6⟩ := L6.out
  obtain ⟨z10, k10, f10⟩ := L10.out
  go_wp2_with (fail)
  refine (Same_any 100 30 100 30 _ _ _ _ _ _ [⟨2, 50, 10, true⟩] [⟨2, 50, 10, true⟩] _ (HU.out.alloc _) (HV.out.alloc _) (by simp [maxLen]) (by simp [maxLen]) true (by decide)).mono ?_
  rintro e w12 ⟨rfl, hb12⟩
  replace HU := Lib.hid ((HU.out.alloc _).below hb12)
  replace L5 := Lib.hid ((L5.out.alloc _).below hb12)
  replace L6 := Lib.hid ((L6.out.alloc _).below hb12)
  replace HB := Lib.hid (HB.out.trans ((below_of_calls _ hb12).mono HB.out.size))
  clear hb12 z6 k6 f6 z10 k10 f10
  obtain ⟨z6, k6, f6⟩ := L6.out
  go_wp2_with (fail)
  refine (Right_any 100 30 _ _ _ [⟨2, 50, 10, true⟩] _ HU.out true (by decide)).mono ?_
  rintro e w13 ⟨rfl, hb13⟩
  replace L5 := Lib.hid (L5.out.below hb13)
  replace HB := Lib.hid (HB.out.trans (hb13.mono HB.out.size))
  clear hb13 z6 k6 f6
  obtain ⟨z5, k5, f5⟩ := L5.out
  go_wp2_with (fail)
  go_ret
  exact ⟨rfl, HB.out⟩
end Go.Proofs.Ytfohjkddcinfmaa
