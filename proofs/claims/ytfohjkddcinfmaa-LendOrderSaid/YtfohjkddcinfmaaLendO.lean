/- World.do, walked: the center spends. -/
import Derived.Test.YtfohjkddcinfmaaLendM
import Derived.Deep.RegionHeld3
import Derived.Deep.RegionLaw
import Derived.Outline
namespace Go.Proofs.Ytfohjkddcinfmaa
open Go.RowKit

/-- what an act leaves -/
def DoRet (w : World) (B base : Nat) (st : St) (e : Ending) (w' : World) : Prop :=
  e = .returned (.bool true) ∧ Below B w w' ∧ ∃ A c D cd R cr rs, WAt w' B base st A c D cd R cr rs
section
variable {w : World} {B base : Nat} {st : St} {A : Option Addr} {c : Nat} {D : Option Addr} {cd : Nat} {R : Option Addr} {cr : Nat} {rs : List Value}

theorem loc5 {w w' : World} {n : Nat} {x y z u v : Value} (h : Loc w n #[x, y, z, u, v]) (hb : Below w.heap.size w w') : w'.cell? ⟨n, 0, none⟩ = some x ∧ w'.cell? ⟨n, 1, none⟩ = some y ∧ w'.cell? ⟨n, 2, none⟩ = some z ∧ w'.cell? ⟨n, 3, none⟩ = some u ∧ w'.cell? ⟨n, 4, none⟩ = some v :=
  ⟨(h.below hb).cell 0, (h.below hb).cell 1, (h.below hb).cell 2, (h.below hb).cell 3, (h.below hb).cell 4⟩

theorem DoRet.alloc {st' : St} {e : Ending} {w' : World} (h : DoRet w B base st' e w') (o : Obj) : DoRet w B base st' e (w'.alloc o) := by
  obtain ⟨h1, h2, A, c, D, cd, R, cr, rs, h3⟩ := h
  exact ⟨h1, h2.alloc (Nat.le_of_lt (h3.loc.lt)) o, A, c, D, cd, R, cr, rs, h3.alloc o⟩
/-- the center's stock is stored -/
theorem do_S {W w4 : World} (h : WAt W B base st A c D cd R cr rs) (hW : Below w.heap.size w W) (hB : B < w.heap.size) (hb : Below W.heap.size W w4) (s' : StockV) {A' : Option Addr} {c' : Nat} (hs : SlF W w4 4 A' s'.loans.length (s'.loans.map LoanV.cells)) :
    DoRet w B base ⟨s', st.dev, st.rep⟩ (.returned (.bool true)) (((w4.setCell ⟨B, 0, none⟩ (.int .i64 s'.total)).setCell ⟨B, 1, none⟩ (.int .i64 s'.spent)).setCell ⟨B, 2, none⟩ (.slice A' s'.loans.length c')) := by
  have hB2 := hW.size
  exact ⟨rfl, (((((hW.mono (Nat.le_of_lt hB)).trans (hb.mono (by omega))).setCell (Nat.le_refl _) _).setCell (Nat.le_refl _) _).setCell (Nat.le_refl _) _), A', c', D, cd, R, cr, rs, h.setS hb s' hs.1 hs.2⟩
/-- nothing has turned -/
theorem do_same {W w4 : World} (h : WAt W B base st A c D cd R cr rs) (hW : Below w.heap.size w W) (hB : B < w.heap.size) (hb : Below W.heap.size W w4) : DoRet w B base st (.returned (.bool true)) w4 := by
  have hB2 := hW.size
  exact ⟨rfl, (hW.mono (Nat.le_of_lt hB)).trans (hb.mono (by omega)), A, c, D, cd, R, cr, rs, h.below hb⟩
theorem DoRet.cast {st' st'' : St} {e : Ending} {w' : World} (he : st' = st'') (h : DoRet w B base st' e w') : DoRet w B base st'' e w' := he ▸ h
theorem own_step {st : St} {a : ActV} {r : StockV} {e : Int} (h : ownF st.S a.units = (r, e)) (he : e = 0) : (⟨r, st.dev, st.rep⟩ : St) = stepOwn st a := by unfold stepOwn; rw [h, if_pos he]
theorem own_stay {st : St} {a : ActV} {r : StockV} {e : Int} (h : ownF st.S a.units = (r, e)) (he : e ≠ 0) : st = stepOwn st a := by unfold stepOwn; rw [h, if_neg he]
theorem SlF.undrew {W w' : World} {size n : Nat} {A : Option Addr} {xs : List (List Value)} (h : SlF W.drew w' size A n xs) : SlF W w' size A n xs := h
theorem SlF.unalloc {W w' : World} {o : Obj} {size n : Nat} {A : Option Addr} {xs : List (List Value)} (h : SlF (W.alloc o).drew w' size A n xs) : SlF W w' size A n xs := h.mono (by show W.heap.size ≤ (W.alloc o).heap.size; simp)

set_option maxRecDepth 100000 in
set_option maxHeartbeats 4000000 in
theorem do_own (h : WAt w B base st A c D cd R cr rs) (d v l u o : Int) (ha : ActV.ok ⟨d, v, l, u, o⟩) (hd : d % 5 = 0) (hn : st.dev.length ≤ 1000) :
    Calls Try.prog 25 #[.pointer (some ⟨B, 0, none⟩), .agg #[.int .u8 d, .int .u8 v, .int .u8 l, .int .u8 u, .int .u8 o]] w (DoRet w B base (stepOwn st ⟨d, v, l, u, o⟩)) := by
  obtain ⟨r, e1, hr⟩ : ∃ r e, ownF st.S u = (r, e) := ⟨_, _, rfl⟩
  obtain ⟨⟨t, s, ls⟩, dev, rep⟩ := st
  simp only [ActV.ok] at ha
  obtain ⟨⟨a1, a2⟩, ⟨a3, a4⟩, ⟨a5, a6⟩, ⟨a7, a8⟩, a9, a10⟩ := ha
  have hd' : (d % 5 == 0) = true := by simpa using hd
  have H := Lib.hid h
  have HR := Lib.hid hr
  have HL := Lib.hid (show Loc w B _ from h.loc)
  obtain ⟨zB, kB, fB⟩ := h.loc
  simp only [] at kB hn hr
  generalize hN : dev.length = n at *
  have HN := Lib.hid hN
  have HLt := Lib.hid zB
  clear h hd hN hr
  go_enter Try.func25, Try.ntmps25
  go_wp2_with (fail)
  all_goals
    have LA := Lib.hid (Loc.new_ w #[.int .u8 d, .int .u8 v, .int .u8 l, .int .u8 u, .int .u8 o] 47)
    have LB := Lib.hid (HL.out.alloc (.cells #[.int .u8 d, .int .u8 v, .int .u8 l, .int .u8 u, .int .u8 o] 47))
    have HW := Lib.hid (H.out.alloc (.cells #[.int .u8 d, .int .u8 v, .int .u8 l, .int .u8 u, .int .u8 o] 47))
    have HZ := Lib.hid (below_alloc w (.cells #[.int .u8 d, .int .u8 v, .int .u8 l, .int .u8 u, .int .u8 o] 47))
    generalize w.alloc (.cells #[.int .u8 d, .int .u8 v, .int .u8 l, .int .u8 u, .int .u8 o] 47) = W at *
    clear zB kB fB
    obtain ⟨zB, kB, fB⟩ := LB.out
    obtain ⟨zA, kA, fA⟩ := LA.out
    have W1 := IntWalk.i64_in u (by omega)
    have hS : ∀ w', Below W.heap.size W w' → _ := fun w' hb => And.intro ((LB.out.below hb).cell 0) (And.intro ((LB.out.below hb).cell 1) (And.intro ((LB.out.below hb).cell 2) (And.intro ((LA.out.below hb).cell 3) hb)))
    have HSS := Lib.hid hS
    clear hS zB kB fB zA kA fA
    go_region_held3 (fun w' => w'.cell? ⟨B, 0, none⟩ = some (.int .i64 t) ∧ w'.cell? ⟨B, 1, none⟩ = some (.int .i64 s) ∧ w'.cell? ⟨B, 2, none⟩ = some (.slice A ls.length c) ∧ w'.cell? ⟨w.heap.size, 3, none⟩ = some (.int .u8 u) ∧ Below W.heap.size W w')
      (first | exact HSS.out _ hB7 | (refine HSS.out _ ?_; repeat (first | exact hB7 | exact Below.refl _ _ | refine Below.drew ?_ | refine Below.alloc ?_ (by first | exact Nat.le_refl _ | exact hB7.size | (simp <;> omega)) _ | refine Below.setCell ?_ (by first | exact Nat.le_refl _ | exact hB7.size | (simp <;> omega)) _)))
      (first
        | (go_at_call 10
           ((with_reducible refine (Own_any t s A ls.length c ls u (r, e1) HR.out _ ?hs1).mono ?_)
            (case hs1 => exact Sl.drew (HW.out.sl.alloc _))
            rintro e w3 ⟨A3, c3, rfl, hs3, hbF⟩
            have hB7 : Below W.heap.size W w3 := by go_split_ands; exact Below.trans (by assumption) (hbF.mono (Below.size (by assumption)))
            obtain ⟨⟨zX, kX, fX⟩, _⟩ := locs1 (undrew hbF)))
        | (go_at_call 10
           ((with_reducible refine (Own_any t s A ls.length c ls u (r, e1) HR.out _ ?hs1).mono ?_)
            (case hs1 => exact Sl.drew HW.out.sl)
            rintro e w3 ⟨A3, c3, rfl, hs3, hbF⟩
            have hB7 : Below W.heap.size W w3 := by go_split_ands; exact Below.trans (by assumption) (hbF.mono (Below.size (by assumption))))))
  all_goals
    clear W1
    obtain ⟨zB, kB, fB⟩ := LB.out.below hB7
    have hE : (e1 == 0) = true ∨ (e1 == 0) = false := by cases (e1 == 0) <;> simp
    rcases hE with hE | hE
    all_goals go_wp2_with (fail)
  all_goals go_ret
  · exact (do_S HW.out HZ.out HLt.out hB7 r hs3.undrew).alloc _ |> DoRet.cast (own_step HR.out (by simpa using hE))
  · exact (do_same HW.out HZ.out HLt.out hB7).alloc _ |> DoRet.cast (own_stay HR.out (by simpa using hE))
  · exact do_S HW.out HZ.out HLt.out (((hB7.setCell (Nat.le_refl _) _).setCell (Nat.le_refl _) _).setCell (Nat.le_refl _) _) r (((hs3.far (by simp) _).far (by simp) _).far (by simp) _).unalloc |> DoRet.cast (own_step HR.out (by simpa using hE))
  · exact do_same HW.out HZ.out HLt.out (((hB7.setCell (Nat.le_refl _) _).setCell (Nat.le_refl _) _).setCell (Nat.le_refl _) _) |> DoRet.cast (own_stay HR.out (by simpa using hE))
  · exact (do_S HW.out HZ.out HLt.out hB7 r hs3.undrew).alloc _ |> DoRet.cast (own_step HR.out (by simpa using hE))
  · exact (do_same HW.out HZ.out HLt.out hB7).alloc _ |> DoRet.cast (own_stay HR.out (by simpa using hE))
  · exact do_S HW.out HZ.out HLt.out (((hB7.setCell (Nat.le_refl _) _).setCell (Nat.le_refl _) _).setCell (Nat.le_refl _) _) r (((hs3.far (by simp) _).far (by simp) _).far (by simp) _).unalloc |> DoRet.cast (own_step HR.out (by simpa using hE))
  · exact do_same HW.out HZ.out HLt.out (((hB7.setCell (Nat.le_refl _) _).setCell (Nat.le_refl _) _).setCell (Nat.le_refl _) _) |> DoRet.cast (own_stay HR.out (by simpa using hE))
end
end Go.Proofs.Ytfohjkddcinfmaa
