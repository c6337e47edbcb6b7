/- chain: the laws' seen and entry, walked. -/
import Derived.Test.YtindfkekinpchaaGreatDoorChainM
import Derived.Test.YtindfkekinpchaaGreatDoorMakeR
namespace Go.Proofs.YtindfkekinpchaaGreatDoor
open Go.RowKit Go.Sort Go.Lib

def seenV (k : Nat) (n : Int) : List Int := [0, 0, 0, 0, 0, 0, 0, 0].set k n
set_option maxRecDepth 100000 in
set_option maxHeartbeats 1000000 in
theorem seen_any (w : World) (n : Int) :
    Calls Tryz.prog 22 #[.int .i64 2, .int .i64 n] w fun e w' => ∃ A c, e = .returned (.slice A 8 c) ∧ SlF w w' 1 A 8 ((seenV 2 n).map intC) ∧ Below w.heap.size w w' := by
  obtain ⟨i1, hj0, hj1, hj2, hj3⟩ := info_parts infoInt
  go_enter Tryz.func22, Tryz.ntmps22
  go_wp2_with (at_make; refine wpList_make_own w rfl (.const (.int .i64 8)) (.const (.int .i64 8)) 23 rfl w.heap.size 3 i1 _ 1 8 Tryz.underlying23 hj0 hj1 hj2 hj3 rfl (by omega) 8 rfl rfl (by omega) (by simp only [maxLen]; omega) (Nat.le_refl _) ?_; intro w1 hown1 hb1 hz1; obtain ⟨g', c', he, hgb, hgz, hcell2, hfz⟩ := hown1.at_ (i := 2) (x := [.int .i64 0]) rfl; cases he; have e0 := hcell2 0 _ rfl; have f0 := hfz 2; have HW1 := Lib.hid (hown1.stored (i := 2) (j := 0) (x := [.int .i64 0]) rfl (by omega) (.int .i64 n)); have HB1 := Lib.hid (hb1.setCell (p := ⟨w.heap.size, 2, none⟩) (Nat.le_refl _) (.int .i64 n)); simp only [Nat.reduceMul, Nat.reduceAdd] at e0; clear hown1 hb1 hcell2 hfz)
  go_ret
  have h := HW1.out
  exact ⟨_, _, rfl, ⟨Own.sl' h, h.fresh⟩, HB1.out⟩
def entryV (no day : Int) (text : List UInt8) : EntV := ⟨2, no, day, seenV 2 no, text⟩
set_option maxRecDepth 100000 in
set_option maxHeartbeats 4000000 in
theorem entry_any (w : World) (no day : Int) (text : List UInt8) :
    Calls Tryz.prog 21 #[.int .i64 no, .int .i64 day, .string ⟨text.toArray⟩] w fun e w' => ∃ x : EntC, x.v = entryV no day text ∧ e = .returned (.agg x.cells.toArray) ∧ EntF w w' x ∧ Below w.heap.size w w' := by
  have HS := Lib.hid (fun W => seen_any W no)
  have HB := Lib.hid (Below.refl w.heap.size w)
  go_enter Tryz.func21, Tryz.ntmps21
  go_wp2_with (fail)
  ((with_reducible refine (HS.out _).mono ?_); rintro _ w1 ⟨A, c, rfl, h1, hb1⟩)
  have S1 := Lib.hid h1
  clear h1
  obtain ⟨hX, hbT⟩ := locs1 hb1
  have X := Lib.hid hX
  have HB1 := Lib.hid (HB.out.trans hbT)
  clear hX hbT hb1
  obtain ⟨zX, kX, fX⟩ := X.out
  go_wp2_with (fail)
  refine bodyPost_ret (v := .agg #[.int .i64 2, .int .i64 no, .int .i64 day, .slice A 8 c, .string ⟨text.toArray⟩]) (by simp [results, Tryz.results21, go_sem, *]) rfl ?_
  have h := (((((S1.out.far (p := ⟨w.heap.size, 0, none⟩) (by simp) (.int .i64 2)).far (p := ⟨w.heap.size, 1, none⟩) (by simp) (.int .i64 no)).far (p := ⟨w.heap.size, 2, none⟩) (by simp) (.int .i64 day)).far (p := ⟨w.heap.size, 3, none⟩) (by simp) (.slice A 8 c)).far (p := ⟨w.heap.size, 4, none⟩) (by simp) (.string ⟨text.toArray⟩))
  have hl : (seenV 2 no).length = 8 := rfl
  exact ⟨⟨entryV no day text, A, c⟩, rfl, rfl, ⟨h.1, fun ad e => Nat.le_trans (by simp) (h.2 ad e)⟩, (((((HB1.out.setCell (p := ⟨w.heap.size, 0, none⟩) (Nat.le_refl _) (.int .i64 2)).setCell (p := ⟨w.heap.size, 1, none⟩) (Nat.le_refl _) (.int .i64 no)).setCell (p := ⟨w.heap.size, 2, none⟩) (Nat.le_refl _) (.int .i64 day)).setCell (p := ⟨w.heap.size, 3, none⟩) (Nat.le_refl _) (.slice A 8 c)).setCell (p := ⟨w.heap.size, 4, none⟩) (Nat.le_refl _) (.string ⟨text.toArray⟩))⟩
end Go.Proofs.YtindfkekinpchaaGreatDoor
