/- World.do, walked: the center takes in a report. -/
import Derived.Test.YtfohjkddcinfmaaLendO
namespace Go.Proofs.Ytfohjkddcinfmaa
open Go.RowKit
section
variable {w : World} {B base : Nat} {st : St} {A : Option Addr} {c : Nat} {D : Option Addr} {cd : Nat} {R : Option Addr} {cr : Nat} {rs : List Value}

/-- where the reports of a loan lie -/
theorem WAt.report (h : WAt w B base st A c D cd R cr rs) {k : Nat} {ys : List LoanV} (hk : st.rep[k]? = some ys) (hy : ys ≠ []) :
    ∃ gR gk ck, R = some ⟨gR, 0, none⟩ ∧ rs[k]? = some (.slice (some ⟨gk, 0, none⟩) ys.length ck) ∧ gR < w.heap.size ∧ gk < w.heap.size ∧ w.cell? ⟨gR, k, none⟩ = some (.slice (some ⟨gk, 0, none⟩) ys.length ck) ∧
      (∀ j, w.frozen? ⟨gR, j, none⟩ = false) ∧
      (∀ (i : Nat) (r : LoanV), ys[i]? = some r → w.cell? ⟨gk, i * 4, none⟩ = some (.int .i64 r.device) ∧ w.cell? ⟨gk, i * 4 + 1, none⟩ = some (.int .i64 r.units) ∧ w.cell? ⟨gk, i * 4 + 2, none⟩ = some (.int .i64 r.spent) ∧ w.cell? ⟨gk, i * 4 + 3, none⟩ = some (.bool r.back)) := by
  have hlt : k < rs.length := by rw [h.rl]; exact (List.getElem?_eq_some_iff.1 hk).1
  obtain ⟨v, hv⟩ : ∃ v, rs[k]? = some v := ⟨_, List.getElem?_eq_getElem hlt⟩
  obtain ⟨gR, cR, h1, _, h3, h4, h5⟩ := h.rep.at_ (i := k) (x := [v]) (by rw [List.getElem?_map, hv]; rfl)
  have ho := h.each k v ys hv hk
  obtain ⟨r0, hr0⟩ : ∃ r0, ys[0]? = some r0 := ⟨_, List.getElem?_eq_getElem (List.length_pos_iff.2 hy)⟩
  obtain ⟨gk, ck, h6, _, h8, _, _⟩ := ho.at_ (i := 0) (x := r0.cells) (by rw [List.getElem?_map, hr0]; rfl)
  simp only [Value.slice.injEq] at h1
  subst h6
  refine ⟨gR, gk, ck, h1.1, hv, h3, h8, by have h9 := h4 0 _ rfl; simpa using h9, h5, fun i r hr => ?_⟩
  obtain ⟨g', c', h9, _, _, h10, _⟩ := ho.at_ (i := i) (x := r.cells) (by rw [List.getElem?_map, hr]; rfl)
  simp only [Value.slice.injEq, Option.some.injEq, Addr.mk.injEq, and_true, true_and] at h9
  obtain ⟨rfl, rfl⟩ := h9
  exact ⟨h10 0 _ rfl, h10 1 _ rfl, h10 2 _ rfl, h10 3 _ rfl⟩

theorem pick_index {n : Nat} (hn : 0 < n) (o : Int) : ∃ i : Nat, i < n ∧ o % (n : Int) = (i : Int) := by
  have h1 := Int.emod_lt_of_pos o (show (0 : Int) < (n : Int) by omega)
  have h2 := Int.emod_nonneg o (show (n : Int) ≠ 0 by omega)
  exact ⟨(o % (n : Int)).toNat, by omega, by omega⟩

set_option maxRecDepth 100000 in
set_option maxHeartbeats 4000000 in
theorem do_merge {T : Int} (hj : J st T) (h : WAt w B base st A c D cd R cr rs) (d v l u o : Int) (ha : ActV.ok ⟨d, v, l, u, o⟩) (hd : d % 5 = 4) (hn : st.dev.length ≤ 1000) (k : Nat) (hk : l % (st.dev.length : Int) = (k : Int)) (x : LoanV) (hx : st.dev[k]? = some x) (ys : List LoanV) (hy : st.rep[k]? = some ys) (hyl : ys.length ≤ 1000) :
    Calls Try.prog 25 #[.pointer (some ⟨B, 0, none⟩), .agg #[.int .u8 d, .int .u8 v, .int .u8 l, .int .u8 u, .int .u8 o]] w (DoRet w B base (stepMerge st k (pick ys o))) := by
  have hkl : k < st.dev.length := (List.getElem?_eq_some_iff.1 hx).1
  have hne : ys ≠ [] := by
    have h1 := (hj.each k _ x ys (List.getElem?_eq_getElem (by rw [← hj.ld]; exact hkl)) hx hy).last
    rintro rfl
    simp at h1
  obtain ⟨i, hi, hio⟩ := pick_index (List.length_pos_iff.2 hne) o
  obtain ⟨q, hq⟩ : ∃ q, ys[i]? = some q := ⟨_, List.getElem?_eq_getElem hi⟩
  have hp : pick ys o = q := by unfold pick; rw [hio, Int.toNat_natCast, hq]; rfl
  rw [hp]
  obtain ⟨c0, hc0, hm, hj2, _, _⟩ := hj.merge_step hx hy (List.mem_of_getElem? hq)
  have hld := hj.ld
  obtain ⟨gR, gk, ck, rfl, hrk, zR, zk, kR, fR, hcells⟩ := h.report hy hne
  obtain ⟨y0, y1, y2, y3⟩ := hcells i q hq
  have hst : stepMerge st k q = ⟨⟨st.S.total, st.S.spent, st.S.loans.set k (joined c0 q)⟩, st.dev, st.rep⟩ := by unfold stepMerge; rw [hm]
  rw [hst]
  generalize hml : st.S.loans.set k (joined c0 q) = ls' at *
  have hll : ls'.length = st.dev.length := by rw [← hml, List.length_set]; exact hld.symm
  obtain ⟨⟨t, s, ls⟩, dev, rep⟩ := st
  obtain ⟨qd, qu, qs, qb⟩ := q
  simp only [ActV.ok] at ha
  obtain ⟨⟨a1, a2⟩, ⟨a3, a4⟩, ⟨a5, a6⟩, ⟨a7, a8⟩, a9, a10⟩ := ha
  have hd0 : (d % 5 == 0) = false := by simp; omega
  have hd1 : (d % 5 == 1) = false := by simp; omega
  have hd2 : (d % 5 == 2) = false := by simp; omega
  have hd3 : (d % 5 == 3) = false := by simp; omega
  have hd4 : (d % 5 == 4) = true := by simp; omega
  have H := Lib.hid h
  have HM := Lib.hid hm
  have hloc := h.loc
  rw [hj.lr] at hloc
  have HL := Lib.hid hloc
  simp only [] at y0 y1 y2 y3 hn hkl hll hk hld
  have HY := Lib.hid (And.intro y0 (And.intro y1 (And.intro y2 y3)))
  have HR := Lib.hid (And.intro zR (And.intro zk kR))
  obtain ⟨zB, kB, fB⟩ := hloc
  simp only [] at kB
  generalize hN : dev.length = n at *
  generalize hY : ys.length = m at *
  have HN := Lib.hid hN
  have HLt := Lib.hid zB
  have HLL := Lib.hid hll
  have HI := Lib.hid hio
  have hn0 : (0 : Int) < (n : Int) := by omega
  clear h hd hN hm hj hj2 hc0 hld hp hx hy hne hio hst hml hll hq hcells hrk y0 y1 y2 y3 zR zk kR fR hY
  go_enter Try.func25, Try.ntmps25
  go_wp2_with (fail)
  have LA := Lib.hid (Loc.new_ w #[.int .u8 d, .int .u8 v, .int .u8 l, .int .u8 u, .int .u8 o] 47)
  have LB := Lib.hid (HL.out.alloc (.cells #[.int .u8 d, .int .u8 v, .int .u8 l, .int .u8 u, .int .u8 o] 47))
  have HW := Lib.hid (H.out.alloc (.cells #[.int .u8 d, .int .u8 v, .int .u8 l, .int .u8 u, .int .u8 o] 47))
  have HZ := Lib.hid (below_alloc w (.cells #[.int .u8 d, .int .u8 v, .int .u8 l, .int .u8 u, .int .u8 o] 47))
  generalize w.alloc (.cells #[.int .u8 d, .int .u8 v, .int .u8 l, .int .u8 u, .int .u8 o] 47) = W at *
  have hS : ∀ w', Below W.heap.size W w' → _ := fun w' hb =>
    have hb' : Below w.heap.size w w' := HZ.out.trans (hb.mono HZ.out.size)
    And.intro ((LB.out.below hb).cell 0) (And.intro ((LB.out.below hb).cell 1) (And.intro ((LB.out.below hb).cell 2) (And.intro ((LB.out.below hb).cell 4) (And.intro ((LA.out.below hb).cell 4)
      (And.intro ((hb'.cell (p := ⟨gR, k, none⟩) HR.out.1).trans HR.out.2.2) (And.intro ((hb'.cell (p := ⟨gk, i * 4, none⟩) HR.out.2.1).trans HY.out.1) (And.intro ((hb'.cell (p := ⟨gk, i * 4 + 1, none⟩) HR.out.2.1).trans HY.out.2.1)
      (And.intro ((hb'.cell (p := ⟨gk, i * 4 + 2, none⟩) HR.out.2.1).trans HY.out.2.2.1) (And.intro ((hb'.cell (p := ⟨gk, i * 4 + 3, none⟩) HR.out.2.1).trans HY.out.2.2.2) hb)))))))))
  have HSS := Lib.hid hS
  clear hS zB kB fB
  have W1 := IntWalk.i64_in o (by omega)
  have M1 : o.tmod (m : Int) = (i : Int) := by rw [Int.tmod_eq_emod_of_nonneg (by omega)]; exact HI.out
  have M2 : ((m : Int) == 0) = false := by simp; omega
  have M2a : ¬ ((m : Int) = 0) := by omega
  have M2b : ¬ (m = 0) := by omega
  have M2c : ¬ ((m : Int) = -1) := by omega
  have M7 : o % (m : Int) = (i : Int) := HI.out
  have M8 : ((ls'.length : Int) != (n : Int)) = false := by simp; have := HLL.out; omega
  have M9 : (0 : Int) < (m : Int) := by omega
  have M3 : (i : Int) < (m : Int) := by omega
  have M4 : (0 : Int) ≤ (i : Int) := by omega
  have M5 : (k : Int) < (n : Int) := by omega
  have M6 : (0 : Int) ≤ (k : Int) := by omega
  go_region_held3 (fun w' => w'.cell? ⟨B, 0, none⟩ = some (.int .i64 t) ∧ w'.cell? ⟨B, 1, none⟩ = some (.int .i64 s) ∧ w'.cell? ⟨B, 2, none⟩ = some (.slice A ls.length c) ∧ w'.cell? ⟨B, 4, none⟩ = some (.slice (some ⟨gR, 0, none⟩) n cr) ∧ w'.cell? ⟨w.heap.size, 4, none⟩ = some (.int .u8 o) ∧
      w'.cell? ⟨gR, k, none⟩ = some (.slice (some ⟨gk, 0, none⟩) m ck) ∧ w'.cell? ⟨gk, i * 4, none⟩ = some (.int .i64 qd) ∧ w'.cell? ⟨gk, i * 4 + 1, none⟩ = some (.int .i64 qu) ∧ w'.cell? ⟨gk, i * 4 + 2, none⟩ = some (.int .i64 qs) ∧ w'.cell? ⟨gk, i * 4 + 3, none⟩ = some (.bool qb) ∧ Below W.heap.size W w')
    (first | exact HSS.out _ hB7 | (refine HSS.out _ ?_; repeat (first | exact hB7 | exact Below.refl _ _ | refine Below.drew ?_ | refine Below.alloc ?_ (by first | exact Nat.le_refl _ | exact hB7.size | (simp <;> omega)) _ | refine Below.setCell ?_ (by first | exact Nat.le_refl _ | exact hB7.size | (simp <;> omega)) _)))
    (first
      | (go_at_call 14
         ((with_reducible refine (Merge_any t s A ls.length c ls k qd qu qs qb (⟨t, s, ls'⟩, 0) HM.out _ ?hs1).mono ?_)
          (case hs1 => exact Sl.drew (HW.out.sl.alloc _))
          rintro e w3 ⟨A3, c3, rfl, hs3, hbF⟩
          have hB7 : Below W.heap.size W w3 := by go_split_ands; exact Below.trans (by assumption) (hbF.mono (Below.size (by assumption)))
          obtain ⟨⟨zX, kX, fX⟩, _⟩ := locs1 (undrew hbF)))
      | (go_at_call 14
         ((with_reducible refine (Merge_any t s A ls.length c ls k qd qu qs qb (⟨t, s, ls'⟩, 0) HM.out _ ?hs1).mono ?_)
          (case hs1 => exact Sl.drew HW.out.sl)
          rintro e w3 ⟨A3, c3, rfl, hs3, hbF⟩
          have hB7 : Below W.heap.size W w3 := by go_split_ands; exact Below.trans (by assumption) (hbF.mono (Below.size (by assumption))))))
  all_goals
    clear W1 M1 M2 M7
    obtain ⟨zB, kB, fB⟩ := LB.out.below hB7
    go_wp2_with (fail)
  all_goals go_ret
  · exact (do_S HW.out HZ.out HLt.out hB7 ⟨t, s, ls'⟩ hs3.undrew).alloc _
  · exact do_S HW.out HZ.out HLt.out (((hB7.setCell (Nat.le_refl _) _).setCell (Nat.le_refl _) _).setCell (Nat.le_refl _) _) ⟨t, s, ls'⟩ (((hs3.far (by simp) _).far (by simp) _).far (by simp) _).unalloc
end
end Go.Proofs.Ytfohjkddcinfmaa
