/- kerbsidelaw03: lists of operations, of ints, of strings that came in, opened. -/
import Derived.Test.YtniiahmpdkgplaaDoorOpenDoor
import Derived.Test.YtniiahmpdkgplaaDoorJrnS
namespace Go.Proofs.YtniiahmpdkgplaaDoor
open Go.ChangeShapes Go.WideShapes Go.RowKit Go.Deep Go.Joins

section
set_option maxRecDepth 100000
variable {H : Type} {enc : TypeId × Value → H} {w : World} {base : Nat} {spare : Nat → Bool} {held : Bool}
theorem cellsOp : Tryd.prog.cellsOf 52 = 4 := by kernel_rfl
theorem int_cellsJ (n : Nat) (cs : List Value) (x : DataW H × List MemPlace) (h : DataW.trod enc Tryd.prog w base spare held n 3 cs = some x) (_hl : cs.length = 1) : ∃ o : Int, cs = [.int .i64 o] ∧ True := by
  obtain ⟨n0, e0, _, w0⟩ := DataW.trod_int Tryd.underlying3 h
  exact ⟨n0, e0, trivial⟩
theorem op_cells (n : Nat) (cs : List Value) (x : DataW H × List MemPlace) (h : DataW.trod enc Tryd.prog w base spare held n 52 cs = some x) (hl : cs.length = 4) : ∃ a : OpC, cs = a.cells ∧ (a.ok ∧ Sl w 1 a.A a.keep.length (a.keep.map fun k => [.int .i64 k])) := by
  match cs, hl with
  | [a0, a1, a2, a3], _ =>
    obtain ⟨ys, k, _, _, _, hyl, hf⟩ := DataW.trod_struct Tryd.underlying52 h
    match ys, hyl with
    | [y0, y1, y2, y3], _ =>
      have h0 := hf 0 _ rfl
      have h1 := hf 1 _ rfl
      have h2 := hf 2 _ rfl
      have h3 := hf 3 _ rfl
      simp [cellsI, cellsS, cellsIs] at h0 h1 h2 h3
      obtain ⟨n0, e0, _, w0⟩ := DataW.trod_int Tryd.underlying3 h0
      obtain ⟨s1, e1, _, _⟩ := DataW.trod_string Tryd.underlying9 h1
      obtain ⟨n2, e2, _, w2⟩ := DataW.trod_int Tryd.underlying3 h2
      obtain ⟨A, m, c, L, e3, hs3, _, _⟩ := open_elems Tryd.underlying23 cellsI (by omega) (fun o => [.int .i64 o]) (fun _ => True) int_cellsJ h3
      simp at e0 e1 e2
      subst e0 e1 e2 e3
      have hm : L.length = m := by simpa using hs3.1
      subst hm
      exact ⟨⟨n0, s1.data.toList, n2, L, A, c⟩, rfl, ⟨bounds_i64 w0, bounds_i64 w2⟩, hs3⟩
theorem open_Ops {r : Reach} {b0 : Nat} {v : Value} {d : DataW H} {p : List MemPlace} (hv : Value.okWide Tryd.prog w r b0 49 v) (h : DataW.Trod enc Tryd.prog w base spare held 49 v d p) :
    ∃ (A : Option Addr) (n c : Nat) (l : List OpC), v = .slice A n c ∧ Sl w 4 A n (l.map OpC.cells) ∧ n ≤ maxLen ∧ (∀ a ∈ l, a.ok) ∧ OpsAt w l := by
  obtain ⟨a0, len0, cap0, rfl⟩ := okWide_slice Tryd.underlying49 hv
  obtain ⟨fuel, h⟩ := h
  obtain ⟨A, n, c, l, h1, h2, h3, h4⟩ := open_elems Tryd.underlying49 cellsOp (by omega) OpC.cells (fun a => a.ok ∧ Sl w 1 a.A a.keep.length (a.keep.map fun k => [.int .i64 k])) op_cells h
  exact ⟨A, n, c, l, h1, h2, h3, fun a ha => (h4 a ha).1, fun a ha => (h4 a ha).2⟩
theorem open_IntsJ {r : Reach} {b0 : Nat} {v : Value} {d : DataW H} {p : List MemPlace} (hv : Value.okWide Tryd.prog w r b0 23 v) (h : DataW.Trod enc Tryd.prog w base spare held 23 v d p) :
    ∃ (A : Option Addr) (c : Nat) (ks : List Int), v = .slice A ks.length c ∧ Sl w 1 A ks.length (ks.map fun k => [.int .i64 k]) := by
  obtain ⟨a0, len0, cap0, rfl⟩ := okWide_slice Tryd.underlying23 hv
  obtain ⟨fuel, h⟩ := h
  obtain ⟨A, n, c, l, h1, h2, _, _⟩ := open_elems Tryd.underlying23 cellsI (by omega) (fun o => [.int .i64 o]) (fun _ => True) int_cellsJ h
  have hl : l.length = n := by simpa using h2.1
  subst hl
  exact ⟨A, c, l, h1, h2⟩
theorem open_TextsJ {r : Reach} {b0 : Nat} {v : Value} {d : DataW H} {p : List MemPlace} (hv : Value.okWide Tryd.prog w r b0 22 v) (h : DataW.Trod enc Tryd.prog w base spare held 22 v d p) :
    ∃ (A : Option Addr) (n c : Nat) (l : List (List UInt8)), v = .slice A n c ∧ Sl w 1 A n (l.map strC) ∧ n ≤ maxLen := by
  obtain ⟨a0, len0, cap0, rfl⟩ := okWide_slice Tryd.underlying22 hv
  obtain ⟨fuel, h⟩ := h
  obtain ⟨A, n, c, l, h1, h2, h3, _⟩ := open_elems Tryd.underlying22 cellsS (by omega) strC (fun o => o.length ≤ maxLen) s_cells h
  exact ⟨A, n, c, l, h1, h2, h3⟩
theorem open_TextsC {r : Reach} {b0 : Nat} {v : Value} {d : DataW H} {p : List MemPlace} (hv : Value.okWide Tryd.prog w r b0 22 v) (h : DataW.Trod enc Tryd.prog w base spare held 22 v d p) :
    ∃ (A : Option Addr) (n c : Nat) (l : List (List UInt8)), v = .slice A n c ∧ Sl w 1 A n (l.map strC) ∧ n ≤ maxLen ∧ n ≤ c := by
  obtain ⟨a0, len0, cap0, rfl⟩ := okWide_slice Tryd.underlying22 hv
  obtain ⟨fuel, h⟩ := h
  replace h : DataW.trod enc Tryd.prog w base spare held fuel 22 [.slice a0 len0 cap0] = some (d, p) := h
  obtain ⟨A, n, c, l, h1, h2, h3, _⟩ := open_elems Tryd.underlying22 cellsS (by omega) strC (fun o => o.length ≤ maxLen) s_cells h
  refine ⟨A, n, c, l, h1, h2, h3, ?_⟩
  injection h1 with e1 e2 e3
  subst e1 e2 e3
  rcases open_slice Tryd.underlying22 h with ⟨hcs, _⟩ | ⟨a, len, cap, m, k, D, Pl, hcs, _, hl, _⟩
  · simp only [List.cons.injEq, and_true, Value.slice.injEq] at hcs
    omega
  · simp only [List.cons.injEq, and_true, Value.slice.injEq] at hcs
    omega
end
end Go.Proofs.YtniiahmpdkgplaaDoor
