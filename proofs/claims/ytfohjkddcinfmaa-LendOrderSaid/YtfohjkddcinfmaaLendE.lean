/- the statements' helpers over lend: Few, Same, made, sane, walked. -/
import Derived.Test.YtfohjkddcinfmaaLendD
import Derived.Test.YtfohjkddcinfmaaBase2
import Derived.Deep.QuietTactic
import Derived.BigQuiet
namespace Go.Proofs.Ytfohjkddcinfmaa
open Go.RowKit

set_option maxHeartbeats 400000 in
theorem Few_any (t s : Int) (A : Option Addr) (n c : Nat) (w : World) (r : Bool) (hr : decide (n ≤ 120) = r) (hn : n ≤ maxLen) :
    Calls Try.prog 9 #[.agg #[.int .i64 t, .int .i64 s, .slice A n c]] w fun e w' => e = .returned (.bool r) ∧ Below w.heap.size w w' := by
  have HR := Lib.hid hr
  clear hr
  unfold maxLen at hn
  go_enter Try.func9, Try.ntmps9
  go_wp2
  go_ret
  exact ⟨ret_bool (by rw [← HR.out]; simp; omega), below_alloc _ _⟩


/-- what made and sane work on -/
def loan0 : LoanV := ⟨2, 50, 0, false⟩

set_option maxHeartbeats 1000000 in
theorem made_any (w : World) : Calls Try.prog 26 #[] w fun e w' => ∃ A c, e = .returned (.tuple #[.agg #[.int .i64 100, .int .i64 30, .slice A 1 c], .bool true]) ∧ Sl w' 4 A 1 [LoanV.cells ⟨2, 50, 0, false⟩] ∧ Below w.heap.size w w' := by
  go_enter Try.func26, Try.ntmps26
  go_wp2_with (fail)
  refine (Own_any 100 0 _ 0 0 [] 30 _ rfl _ (Sl.nil_ _ _ _)).mono ?_
  rintro e w1 ⟨A1, c1, rfl, hs1, hb1⟩
  have L0 := Lib.hid ((Loc.new_ w _ _).below hb1)
  have HZ := Lib.hid L0.out.lt
  have HS := Lib.hid hs1.1
  have HB := Lib.hid (below_of_calls _ hb1)
  clear hs1 hb1
  have e1 : (ownF ⟨100, 0, []⟩ 30).1 = ⟨100, 30, []⟩ := by decide
  have e2 : (ownF ⟨100, 0, []⟩ 30).2 = 0 := by decide
  rw [e1] at HS
  rw [e1, e2]
  clear e1 e2
  go_wp2_with (fail)
  refine (Lend_any 100 30 _ _ _ [] 2 50 _ rfl _ (HS.out.alloc _)).mono ?_
  rintro e w2 ⟨A2, c2, rfl, hs2, hb2⟩
  have HS2 := Lib.hid (hs2.mono (w0 := w1) (by simp))
  have HB2 := Lib.hid (HB.out.trans ((below_of_calls _ hb2).mono HB.out.size))
  replace L0 := Lib.hid ((L0.out.alloc _).below hb2)
  have e1 : (lendF ⟨100, 30, []⟩ 2 50).1 = ⟨100, 30, [⟨2, 50, 0, false⟩]⟩ := by decide
  have e2 : (lendF ⟨100, 30, []⟩ 2 50).2 = 0 := by decide
  clear hs2 hb2 HS
  rw [e1] at HS2
  rw [e1, e2]
  clear e1 e2
  go_wp2_with (fail)
  obtain ⟨z0, k0, f0⟩ := L0.out
  
  go_region
  go_wp2_with (fail)
  refine bodyPost_ret (v := .tuple #[.agg #[.int .i64 100, .int .i64 30, .slice A2 1 c2], .bool true]) (by simp [results, Try.results26, go_sem, k0, z0]) rfl ?_
  refine ⟨A2, c2, rfl, Sl.drew (Sl.alloc ?_ _), (((((HB2.out.setCell (by first | omega | (simp <;> omega)) _).setCell (by first | omega | (simp <;> omega)) _).setCell (by first | omega | (simp <;> omega)) _)).alloc (by first | omega | (simp <;> omega)) _).drew⟩
  exact ((((HS2.out.far (p := ⟨w.heap.size, 0, none⟩) HZ.out _).far (p := ⟨w.heap.size, 1, none⟩) HZ.out _).far (p := ⟨w.heap.size, 2, none⟩) HZ.out _).1)

end Go.Proofs.Ytfohjkddcinfmaa
