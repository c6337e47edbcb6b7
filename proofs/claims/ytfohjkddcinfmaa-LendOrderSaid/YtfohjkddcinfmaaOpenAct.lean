/- Opening a list of acts that came in, and bytes. -/
import Derived.Test.YtfohjkddcinfmaaOpen
import Derived.Test.YtfohjkddcinfmaaLendN
namespace Go.Proofs.Ytfohjkddcinfmaa
open Go.ChangeShapes Go.WideShapes Go.RowKit Go.Deep Go.Joins

section
variable {H : Type} {enc : TypeId × Value → H} {w : World} {base : Nat} {spare : Nat → Bool} {held : Bool}
theorem cellsAct : Try.prog.cellsOf 47 = 5 := by kernel_rfl
theorem cellsU8 : Try.prog.cellsOf 5 = 1 := by kernel_rfl
theorem act_cells (n : Nat) (cs : List Value) (x : DataW H × List MemPlace) (h : DataW.trod enc Try.prog w base spare held n 47 cs = some x) (hl : cs.length = 5) : ∃ a : ActV, cs = a.cells ∧ a.ok := by
  match cs, hl with
  | [a0, a1, a2, a3, a4], _ =>
    obtain ⟨ys, k, _, _, _, hyl, hf⟩ := DataW.trod_struct Try.underlying47 h
    match ys, hyl with
    | [y0, y1, y2, y3, y4], _ =>
      have h0 := hf 0 _ rfl
      have h1 := hf 1 _ rfl
      have h2 := hf 2 _ rfl
      have h3 := hf 3 _ rfl
      have h4 := hf 4 _ rfl
      simp [cellsU8] at h0 h1 h2 h3 h4
      obtain ⟨n0, e0, _, w0⟩ := DataW.trod_int Try.underlying5 h0
      obtain ⟨n1, e1, _, w1⟩ := DataW.trod_int Try.underlying5 h1
      obtain ⟨n2, e2, _, w2⟩ := DataW.trod_int Try.underlying5 h2
      obtain ⟨n3, e3, _, w3⟩ := DataW.trod_int Try.underlying5 h3
      obtain ⟨n4, e4, _, w4⟩ := DataW.trod_int Try.underlying5 h4
      simp at e0 e1 e2 e3 e4
      subst e0 e1 e2 e3 e4
      exact ⟨⟨n0, n1, n2, n3, n4⟩, rfl, bounds_u8 w0, bounds_u8 w1, bounds_u8 w2, bounds_u8 w3, bounds_u8 w4⟩
theorem open_Acts {r : Reach} {b0 : Nat} {v : Value} {d : DataW H} {p : List MemPlace} (hv : Value.okWide Try.prog w r b0 40 v) (h : DataW.Trod enc Try.prog w base spare held 40 v d p) :
    ∃ (A : Option Addr) (n c : Nat) (acs : List ActV), v = .slice A n c ∧ Sl w 5 A n (acs.map ActV.cells) ∧ n ≤ maxLen ∧ ∀ a ∈ acs, a.ok := by
  obtain ⟨a0, len0, cap0, rfl⟩ := okWide_slice Try.underlying40 hv
  obtain ⟨fuel, h⟩ := h
  exact open_elems Try.underlying40 cellsAct (by omega) ActV.cells ActV.ok act_cells h
end
section
variable {H : Type} {enc : TypeId × Value → H} {P : Program} {w : World} {base : Nat} {spare : Nat → Bool} {held : Bool}
/-- a byte that came in -/
theorem open_u8 {r : Reach} {b0 t : Nat} {v : Value} {d : DataW H} {p : List MemPlace} (ht : P.underlying t = some (.int .u8)) (hv : Value.okWide P w r b0 t v) (h : DataW.Trod enc P w base spare held t v d p) :
    ∃ a : Int, v = .int .u8 a ∧ 0 ≤ a ∧ a ≤ 255 := by
  obtain ⟨a, rfl, _, _, wf⟩ := open_int ht hv h
  have := bounds_u8 wf
  exact ⟨a, rfl, this.1, this.2⟩
end
end Go.Proofs.Ytfohjkddcinfmaa
