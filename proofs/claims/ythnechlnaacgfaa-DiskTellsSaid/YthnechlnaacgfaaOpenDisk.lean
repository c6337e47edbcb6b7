/- Opening lists of acts and of ints that came in. -/
import Derived.Test.YthnechlnaacgfaaOpen
import Derived.Test.YthnechlnaacgfaaDiskA
import Derived.ChangeArms
namespace Go.Proofs.Ythnechlnaacgfaa
open Go.ChangeShapes Go.WideShapes Go.RowKit Go.Deep Go.Joins

section
variable {H : Type} {enc : TypeId × Value → H} {w : World} {base : Nat} {spare : Nat → Bool} {held : Bool}
theorem cellsActD : Try.prog.cellsOf 33 = 5 := by kernel_rfl
theorem cellsIntD : Try.prog.cellsOf 3 = 1 := by kernel_rfl
theorem cellsStrD : Try.prog.cellsOf 9 = 1 := by kernel_rfl
theorem cellsIntsD : Try.prog.cellsOf 31 = 1 := by kernel_rfl
theorem int_cells (n : Nat) (cs : List Value) (x : DataW H × List MemPlace) (h : DataW.trod enc Try.prog w base spare held n 3 cs = some x) (_hl : cs.length = 1) : ∃ o : Int, cs = [.int .i64 o] ∧ True := by
  obtain ⟨n0, e0, _, w0⟩ := DataW.trod_int Try.underlying3 h
  exact ⟨n0, e0, trivial⟩
theorem act_cellsD (n : Nat) (cs : List Value) (x : DataW H × List MemPlace) (h : DataW.trod enc Try.prog w base spare held n 33 cs = some x) (hl : cs.length = 5) : ∃ a : ActC, cs = a.cells ∧ (a.ok ∧ IntsAt w a.A a.keep ∧ a.s.length ≤ maxLen) := by
  match cs, hl with
  | [a0, a1, a2, a3, a4], _ =>
    obtain ⟨ys, k, _, _, _, hyl, hf⟩ := DataW.trod_struct Try.underlying33 h
    match ys, hyl with
    | [y0, y1, y2, y3, y4], _ =>
      have h0 := hf 0 _ rfl
      have h1 := hf 1 _ rfl
      have h2 := hf 2 _ rfl
      have h3 := hf 3 _ rfl
      have h4 := hf 4 _ rfl
      simp [cellsIntD, cellsStrD, cellsIntsD] at h0 h1 h2 h3 h4
      obtain ⟨n0, e0, _, w0⟩ := DataW.trod_int Try.underlying3 h0
      obtain ⟨n1, e1, _, w1⟩ := DataW.trod_int Try.underlying3 h1
      obtain ⟨n2, e2, _, w2⟩ := DataW.trod_int Try.underlying3 h2
      obtain ⟨s3, e3, _, hs3⟩ := DataW.trod_string Try.underlying9 h3
      obtain ⟨A, m, c, ks, e4, hs4, hm4, _⟩ := open_elems Try.underlying31 cellsIntD (by omega) (fun o => [.int .i64 o]) (fun _ => True) int_cells h4
      simp at e0 e1 e2 e3
      subst e0 e1 e2 e3 e4
      have hks : ks.length = m := by simpa using hs4.1
      subst hks
      exact ⟨⟨n0, n1, n2, s3.data.toList, ks, A, c⟩, rfl, ⟨bounds_i64 w0, bounds_i64 w1, bounds_i64 w2⟩, hs4, by simpa using hs3⟩
theorem open_ActsD {r : Reach} {b0 : Nat} {v : Value} {d : DataW H} {p : List MemPlace} (hv : Value.okWide Try.prog w r b0 22 v) (h : DataW.Trod enc Try.prog w base spare held 22 v d p) :
    ∃ (A : Option Addr) (n c : Nat) (l : List ActC), v = .slice A n c ∧ Sl w 5 A n (l.map ActC.cells) ∧ n ≤ maxLen ∧ (∀ a ∈ l, a.ok) ∧ ActsAt w l := by
  obtain ⟨a0, len0, cap0, rfl⟩ := okWide_slice Try.underlying22 hv
  obtain ⟨fuel, h⟩ := h
  obtain ⟨A, n, c, l, h1, h2, h3, h4⟩ := open_elems Try.underlying22 cellsActD (by omega) ActC.cells (fun a => a.ok ∧ IntsAt w a.A a.keep ∧ a.s.length ≤ maxLen) act_cellsD h
  exact ⟨A, n, c, l, h1, h2, h3, fun a ha => (h4 a ha).1, fun a ha => (h4 a ha).2.1⟩
theorem open_IntsD {r : Reach} {b0 : Nat} {v : Value} {d : DataW H} {p : List MemPlace} (hv : Value.okWide Try.prog w r b0 31 v) (h : DataW.Trod enc Try.prog w base spare held 31 v d p) :
    ∃ (A : Option Addr) (c : Nat) (ks : List Int), v = .slice A ks.length c ∧ IntsAt w A ks ∧ ks.length ≤ maxLen := by
  obtain ⟨a0, len0, cap0, rfl⟩ := okWide_slice Try.underlying31 hv
  obtain ⟨fuel, h⟩ := h
  obtain ⟨A, n, c, l, h1, h2, h3, _⟩ := open_elems Try.underlying31 cellsIntD (by omega) (fun o => [.int .i64 o]) (fun _ => True) int_cells h
  have hl : l.length = n := by simpa using h2.1
  subst hl
  exact ⟨A, c, l, h1, h2, h3⟩
end
end Go.Proofs.Ythnechlnaacgfaa
