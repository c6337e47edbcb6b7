/- Entries, lists of entries that came in, opened. -/
import Derived.Test.YtnnnibkainlplaaGreatDoorOpenDoor
import Derived.Test.YtnnnibkainlplaaGreatDoorChainD
namespace Go.Proofs.YtnnnibkainlplaaGreatDoor
open Go.ChangeShapes Go.WideShapes Go.RowKit Go.Deep Go.Joins

section
set_option maxRecDepth 100000
variable {H : Type} {enc : TypeId × Value → H} {w : World} {base : Nat} {spare : Nat → Bool} {held : Bool}
theorem cellsEnt : Tryz.prog.cellsOf 37 = 5 := by kernel_rfl
theorem ent_cells (n : Nat) (cs : List Value) (x : DataW H × List MemPlace) (h : DataW.trod enc Tryz.prog w base spare held n 37 cs = some x) (hl : cs.length = 5) : ∃ v : EntC, cs = v.cells ∧ (EntAt w v ∧ v.v.text.length ≤ maxLen) := by
  match cs, hl with
  | [a0, a1, a2, a3, a4], _ =>
    obtain ⟨ys, k, _, _, _, hyl, hf⟩ := DataW.trod_struct Tryz.underlying37 h
    match ys, hyl with
    | [y0, y1, y2, y3, y4], _ =>
      have h0 := hf 0 _ rfl
      have h1 := hf 1 _ rfl
      have h2 := hf 2 _ rfl
      have h3 := hf 3 _ rfl
      have h4 := hf 4 _ rfl
      simp [cellsI, cellsS, cellsIs] at h0 h1 h2 h3 h4
      obtain ⟨n0, e0, _, w0⟩ := DataW.trod_int Tryz.underlying3 h0
      obtain ⟨n1, e1, _, w1⟩ := DataW.trod_int Tryz.underlying3 h1
      obtain ⟨n2, e2, _, w2⟩ := DataW.trod_int Tryz.underlying3 h2
      obtain ⟨A, m, c, L, e3, hs3, hm3, ho3⟩ := open_elems Tryz.underlying28 cellsI (by omega) intC inI i_cells h3
      obtain ⟨s4, e4, _, hs4⟩ := DataW.trod_string Tryz.underlying9 h4
      simp at e0 e1 e2 e4
      subst e0 e1 e2 e3 e4
      have hm : L.length = m := by simpa using hs3.1
      subst hm
      exact ⟨⟨⟨n0, n1, n2, L, s4.data.toList⟩, A, c⟩, rfl, hs3, by simpa using hs4⟩
theorem open_Ent {r : Reach} {b0 : Nat} {v : Value} {d : DataW H} {p : List MemPlace} (hv : Value.okWide Tryz.prog w r b0 37 v) (h : DataW.Trod enc Tryz.prog w base spare held 37 v d p) :
    ∃ u : EntC, v = .agg u.cells.toArray ∧ EntAt w u := by
  obtain ⟨cs, rfl, hsz⟩ := okWide_struct Tryz.underlying37 hv
  obtain ⟨fuel, h⟩ := h
  obtain ⟨cs⟩ := cs
  have hl : cs.length = 5 := hsz.trans cellsEnt
  obtain ⟨u, hu, h1, _⟩ := ent_cells fuel cs _ h hl
  subst hu
  exact ⟨u, rfl, h1⟩
theorem open_Ents {r : Reach} {b0 : Nat} {v : Value} {d : DataW H} {p : List MemPlace} (hv : Value.okWide Tryz.prog w r b0 22 v) (h : DataW.Trod enc Tryz.prog w base spare held 22 v d p) :
    ∃ (A : Option Addr) (n c : Nat) (l : List EntC), v = .slice A n c ∧ Sl w 5 A n (l.map EntC.cells) ∧ n ≤ maxLen ∧ ∀ u ∈ l, EntAt w u := by
  obtain ⟨a0, len0, cap0, rfl⟩ := okWide_slice Tryz.underlying22 hv
  obtain ⟨fuel, h⟩ := h
  obtain ⟨A, n, c, l, h1, h2, h3, h4⟩ := open_elems Tryz.underlying22 cellsEnt (by omega) EntC.cells (fun u => EntAt w u ∧ u.v.text.length ≤ maxLen) ent_cells h
  exact ⟨A, n, c, l, h1, h2, h3, fun u hu => (h4 u hu).1⟩
end
end Go.Proofs.YtnnnibkainlplaaGreatDoor
