/- kerbsidelaw49: lists of acts, a loan that came in, opened. -/
import Derived.Test.YtjncmlglhegnaaaGreatDoorOpenChainC
import Derived.Test.YtjncmlglhegnaaaGreatDoorDevR
namespace Go.Proofs.YtjncmlglhegnaaaGreatDoor
open Go.ChangeShapes Go.WideShapes Go.RowKit Go.Deep Go.Joins

section
set_option maxRecDepth 100000
variable {H : Type} {enc : TypeId × Value → H} {w : World} {base : Nat} {spare : Nat → Bool} {held : Bool}
theorem cellsAct : Tryz.prog.cellsOf 51 = 5 := by kernel_rfl
theorem cellsLoanD : Tryz.prog.cellsOf 24 = 4 := by kernel_rfl
theorem cellsBoolD : Tryz.prog.cellsOf 4 = 1 := by kernel_rfl
theorem int_cellsD (n : Nat) (cs : List Value) (x : DataW H × List MemPlace) (h : DataW.trod enc Tryz.prog w base spare held n 3 cs = some x) (_hl : cs.length = 1) : ∃ o : Int, cs = [.int .i64 o] ∧ True := by
  obtain ⟨n0, e0, _, w0⟩ := DataW.trod_int Tryz.underlying3 h
  exact ⟨n0, e0, trivial⟩
theorem act_cells (n : Nat) (cs : List Value) (x : DataW H × List MemPlace) (h : DataW.trod enc Tryz.prog w base spare held n 51 cs = some x) (hl : cs.length = 5) : ∃ a : ActE, cs = a.cells ∧ (a.ok ∧ Sl w 1 a.A a.keep.length (a.keep.map fun k => [.int .i64 k])) := by
  match cs, hl with
  | [a0, a1, a2, a3, a4], _ =>
    obtain ⟨ys, k, _, _, _, hyl, hf⟩ := DataW.trod_struct Tryz.underlying51 h
    match ys, hyl with
    | [y0, y1, y2, y3, y4], _ =>
      have h0 := hf 0 _ rfl
      have h1 := hf 1 _ rfl
      have h2 := hf 2 _ rfl
      have h3 := hf 3 _ rfl
      have h4 := hf 4 _ rfl
      simp [cellsI, cellsS, cellsIs] at h0 h1 h2 h3 h4
      obtain ⟨n0, e0, _, w0⟩ := DataW.trod_int Tryz.underlying3 h0
      obtain ⟨n1, e1, _, w1⟩ := DataW.trod_int Tryz.underlying3 h1
      obtain ⟨n2, e2, _, w2⟩ := DataW.trod_int Tryz.underlying3 h2
      obtain ⟨s3, e3, _, _⟩ := DataW.trod_string Tryz.underlying9 h3
      obtain ⟨A, m, c, L, e4, hs4, _, _⟩ := open_elems Tryz.underlying30 cellsI (by omega) (fun o => [.int .i64 o]) (fun _ => True) int_cellsD h4
      simp at e0 e1 e2 e3
      subst e0 e1 e2 e3 e4
      have hm : L.length = m := by simpa using hs4.1
      subst hm
      exact ⟨⟨n0, n1, n2, s3.data.toList, L, A, c⟩, rfl, ⟨bounds_i64 w0, bounds_i64 w1, bounds_i64 w2⟩, hs4⟩
theorem open_ActsE {r : Reach} {b0 : Nat} {v : Value} {d : DataW H} {p : List MemPlace} (hv : Value.okWide Tryz.prog w r b0 38 v) (h : DataW.Trod enc Tryz.prog w base spare held 38 v d p) :
    ∃ (A : Option Addr) (n c : Nat) (l : List ActE), v = .slice A n c ∧ Sl w 5 A n (l.map ActE.cells) ∧ n ≤ maxLen ∧ (∀ a ∈ l, a.ok) ∧ ActsAtE w l := by
  obtain ⟨a0, len0, cap0, rfl⟩ := okWide_slice Tryz.underlying38 hv
  obtain ⟨fuel, h⟩ := h
  obtain ⟨A, n, c, l, h1, h2, h3, h4⟩ := open_elems Tryz.underlying38 cellsAct (by omega) ActE.cells (fun a => a.ok ∧ Sl w 1 a.A a.keep.length (a.keep.map fun k => [.int .i64 k])) act_cells h
  exact ⟨A, n, c, l, h1, h2, h3, fun a ha => (h4 a ha).1, fun a ha => (h4 a ha).2⟩
theorem loanD_cells (n : Nat) (cs : List Value) (x : DataW H × List MemPlace) (h : DataW.trod enc Tryz.prog w base spare held n 24 cs = some x) (hl : cs.length = 4) : ∃ l : LoanV, cs = l.cells ∧ i64In l.device ∧ i64In l.units ∧ i64In l.spent := by
  match cs, hl with
  | [a0, a1, a2, a3], _ =>
    obtain ⟨ys, k, _, _, _, hyl, hf⟩ := DataW.trod_struct Tryz.underlying24 h
    match ys, hyl with
    | [y0, y1, y2, y3], _ =>
      have h0 := hf 0 _ rfl
      have h1 := hf 1 _ rfl
      have h2 := hf 2 _ rfl
      have h3 := hf 3 _ rfl
      simp [cellsI, cellsBoolD] at h0 h1 h2 h3
      obtain ⟨n0, e0, _, w0⟩ := DataW.trod_int Tryz.underlying3 h0
      obtain ⟨n1, e1, _, w1⟩ := DataW.trod_int Tryz.underlying3 h1
      obtain ⟨n2, e2, _, w2⟩ := DataW.trod_int Tryz.underlying3 h2
      obtain ⟨b3, e3, _⟩ := DataW.trod_bool Tryz.underlying4 h3
      simp at e0 e1 e2 e3
      subst e0 e1 e2 e3
      exact ⟨⟨n0, n1, n2, b3⟩, rfl, bounds_i64 w0, bounds_i64 w1, bounds_i64 w2⟩
theorem open_LoanD {r : Reach} {b0 : Nat} {v : Value} {d : DataW H} {p : List MemPlace} (hv : Value.okWide Tryz.prog w r b0 24 v) (h : DataW.Trod enc Tryz.prog w base spare held 24 v d p) :
    ∃ l : LoanV, v = .agg (loanX l) ∧ i64In l.device ∧ i64In l.units ∧ i64In l.spent := by
  obtain ⟨cs, rfl, hsz⟩ := okWide_struct Tryz.underlying24 hv
  obtain ⟨fuel, h⟩ := h
  obtain ⟨cs⟩ := cs
  have hl : cs.length = 4 := hsz.trans cellsLoanD
  obtain ⟨u, hu, h1⟩ := loanD_cells fuel cs _ h hl
  subst hu
  exact ⟨u, rfl, h1⟩
end
end Go.Proofs.YtjncmlglhegnaaaGreatDoor
