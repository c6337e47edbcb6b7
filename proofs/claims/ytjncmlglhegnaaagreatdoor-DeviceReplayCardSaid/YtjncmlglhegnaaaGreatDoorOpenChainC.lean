/- What the rows' condition on the library's variables gives a walk; lists of ints, of strings that came in, opened. -/
/- Entries, lists of entries that came in, opened. -/
/- Lists of entries that came in, with their capacity. -/
import Derived.Test.YtjncmlglhegnaaaGreatDoorSlCut
import Derived.Test.YtjncmlglhegnaaaGreatDoorWireS
import Derived.ChangeArms
import Derived.LaidMore
import Derived.LaidLaws
import Derived.LaidHandle
import Derived.MakeChecks
import Derived.Stop.LaidErr
import Derived.Lib.LaidTab
import Derived.Test.YtjncmlglhegnaaaGreatDoorChainB
namespace Go.Proofs.YtjncmlglhegnaaaGreatDoor
open Go.ChangeShapes Go.WideShapes Go.RowKit Go.Deep Go.Joins

/-- what the rows list -/
def laidList : List (String × DataW Unit) := [("math/bits.deBruijn32tab", Rows.laid_math_bits_deBruijn32tab), ("math/bits.deBruijn64tab", Rows.laid_math_bits_deBruijn64tab), ("internal/strconv.uint64pow10", Rows.laid_internal_strconv_uint64pow10), ("strconv.ErrRange", Rows.laid_strconv_ErrRange), ("strconv.ErrSyntax", Rows.laid_strconv_ErrSyntax)]
theorem typeTab : (Tryz.prog.globalNamed "internal/strconv.uint64pow10").bind (fun g => (Tryz.prog.globals[g]?).map (·.type)) = some 274 := by kernel_rfl
theorem typeSyn : (Tryz.prog.globalNamed "strconv.ErrSyntax").bind (fun g => (Tryz.prog.globals[g]?).map (·.type)) = some 216 := by kernel_rfl
theorem typeRng : (Tryz.prog.globalNamed "strconv.ErrRange").bind (fun g => (Tryz.prog.globals[g]?).map (·.type)) = some 216 := by kernel_rfl
theorem laidTab : (Rows.laid_internal_strconv_uint64pow10 : DataW Unit) = Lib.tabData .u64 Lib.pow10Tab := by kernel_rfl
theorem sentinel_of {name nm : String} {d : DataW Unit} {rest : List (String × DataW Unit)} {W : World} (hty : (Tryz.prog.globalNamed name).bind (fun g => (Tryz.prog.globals[g]?).map (·.type)) = some 216)
    (h : laidMet Tryz.prog ((name, .iface nm d) :: rest) W) : ∃ tp p, VarIn W.heap.size W name #[.iface tp p] := by
  obtain ⟨ps, ⟨g, t, cs, fuel, p, q, hg, ht, hvar, hd, _, _⟩, _⟩ := h
  rw [hg] at hty
  simp only [Option.bind_some] at hty
  obtain rfl := Option.some.inj (hty.symm.trans ht)
  obtain ⟨_, u, v, hcs, _, _⟩ := iface_of_trod Tryz.underlying216 hd
  obtain ⟨cs⟩ := cs
  simp only at hcs
  subst hcs
  exact ⟨u, v, VarIn.of hvar⟩
theorem env_of_laid {W : World} (h : laidMetH Tryz.prog laidList W) : Env W.heap.size W := by
  rw [MakeChecks.laidMetH_plain _ _ _ (by kernel_rfl)] at h
  have h3 := h.tail.tail
  refine ⟨?_, sentinel_of typeSyn h3.tail.tail, sentinel_of typeRng h3.tail⟩
  obtain ⟨ps, ⟨g, t, cs, fuel, p, q, hg, ht, hvar, hd, _, _⟩, _⟩ := h3
  have hty := typeTab
  rw [hg] at hty
  simp only [Option.bind_some] at hty
  obtain rfl := Option.some.inj (hty.symm.trans ht)
  rw [laidTab] at hd
  have hc := Lib.cells_of_tab Tryz.underlying274 Tryz.underlying239 (by kernel_rfl) (by kernel_rfl) hd
  obtain ⟨cs⟩ := cs
  simp only at hc
  subst hc
  exact VarIn.of hvar
/-- the door's own heap meets the condition -/
theorem door_met (os : Os) (args : Array Value) : laidMetH Tryz.prog laidList ((World.doorLaid Tryz.prog 62 os).forCall (fun _ _ => 0) ⟨#[], args, []⟩).memory :=
  laidMetH_of_parts3 (fuel := 8) (laidMet_of_run' 8 (by kernel_rfl) (by kernel_rfl)) (by kernel_rfl) (by kernel_rfl)
section
set_option maxRecDepth 100000
variable {H : Type} {enc : TypeId × Value → H} {w : World} {base : Nat} {spare : Nat → Bool} {held : Bool}
theorem cellsI : Tryz.prog.cellsOf 3 = 1 := by kernel_rfl
theorem cellsS : Tryz.prog.cellsOf 9 = 1 := by kernel_rfl
theorem cellsIs : Tryz.prog.cellsOf 30 = 1 := by kernel_rfl
theorem i_cells (n : Nat) (cs : List Value) (x : DataW H × List MemPlace) (h : DataW.trod enc Tryz.prog w base spare held n 3 cs = some x) (_hl : cs.length = 1) : ∃ o : Int, cs = intC o ∧ inI o := by
  obtain ⟨n0, e0, _, w0⟩ := DataW.trod_int Tryz.underlying3 h
  exact ⟨n0, e0, bounds_i64 w0⟩
theorem s_cells (n : Nat) (cs : List Value) (x : DataW H × List MemPlace) (h : DataW.trod enc Tryz.prog w base spare held n 9 cs = some x) (_hl : cs.length = 1) : ∃ o : List UInt8, cs = strC o ∧ o.length ≤ maxLen := by
  obtain ⟨s, e, _, hs⟩ := DataW.trod_string Tryz.underlying9 h
  exact ⟨s.data.toList, e, by simpa using hs⟩
theorem open_IntsW {r : Reach} {b0 : Nat} {v : Value} {d : DataW H} {p : List MemPlace} (hv : Value.okWide Tryz.prog w r b0 30 v) (h : DataW.Trod enc Tryz.prog w base spare held 30 v d p) :
    ∃ (A : Option Addr) (n c : Nat) (ks : List Int), v = .slice A n c ∧ Sl w 1 A n (ks.map intC) ∧ n ≤ maxLen ∧ ∀ k ∈ ks, inI k := by
  obtain ⟨a0, len0, cap0, rfl⟩ := okWide_slice Tryz.underlying30 hv
  obtain ⟨fuel, h⟩ := h
  exact open_elems Tryz.underlying30 cellsI (by omega) intC inI i_cells h
end
section
variable {H : Type} {enc : TypeId × Value → H} {P : Program} {w : World} {base : Nat} {spare : Nat → Bool} {held : Bool}
/-- a byte that came in -/
theorem open_u8 {r : Reach} {b0 t : Nat} {v : Value} {d : DataW H} {p : List MemPlace} (ht : P.underlying t = some (.int .u8)) (hv : Value.okWide P w r b0 t v) (h : DataW.Trod enc P w base spare held t v d p) :
    ∃ a : Int, v = .int .u8 a ∧ 0 ≤ a ∧ a ≤ 255 := by
  obtain ⟨a, rfl, _, _, wf⟩ := open_int ht hv h
  have := bounds_u8 wf
  exact ⟨a, rfl, this.1, this.2⟩
end
end Go.Proofs.YtjncmlglhegnaaaGreatDoor
namespace Go.Proofs.YtjncmlglhegnaaaGreatDoor
open Go.ChangeShapes Go.WideShapes Go.RowKit Go.Deep Go.Joins

section
set_option maxRecDepth 100000
variable {H : Type} {enc : TypeId × Value → H} {w : World} {base : Nat} {spare : Nat → Bool} {held : Bool}
theorem cellsEnt : Tryz.prog.cellsOf 32 = 5 := by kernel_rfl
theorem ent_cells (n : Nat) (cs : List Value) (x : DataW H × List MemPlace) (h : DataW.trod enc Tryz.prog w base spare held n 32 cs = some x) (hl : cs.length = 5) : ∃ v : EntC, cs = v.cells ∧ (EntAt w v ∧ v.v.text.length ≤ maxLen) := by
  match cs, hl with
  | [a0, a1, a2, a3, a4], _ =>
    obtain ⟨ys, k, _, _, _, hyl, hf⟩ := DataW.trod_struct Tryz.underlying32 h
    match ys, hyl with
    | [y0, y1, y2, y3, y4], _ =>
      have h0 := hf 0 _ rfl
      have h1 := hf 1 _ rfl
      have h2 := hf 2 _ rfl
      have h3 := hf 3 _ rfl
      have h4 := hf 4 _ rfl
      simp [cellsI, cellsS, cellsIs] at h0 h1 h2 h3 h4
      obtain ⟨n0, e0, _, w0⟩ := DataW.trod_int Tryz.underlying3 h0
      obtain ⟨n1, e1, _, w1⟩ := DataW.trod_int Tryz.underlying3 h1
      obtain ⟨n2, e2, _, w2⟩ := DataW.trod_int Tryz.underlying3 h2
      obtain ⟨A, m, c, L, e3, hs3, hm3, ho3⟩ := open_elems Tryz.underlying30 cellsI (by omega) intC inI i_cells h3
      obtain ⟨s4, e4, _, hs4⟩ := DataW.trod_string Tryz.underlying9 h4
      simp at e0 e1 e2 e4
      subst e0 e1 e2 e3 e4
      have hm : L.length = m := by simpa using hs3.1
      subst hm
      exact ⟨⟨⟨n0, n1, n2, L, s4.data.toList⟩, A, c⟩, rfl, hs3, by simpa using hs4⟩
theorem open_Ent {r : Reach} {b0 : Nat} {v : Value} {d : DataW H} {p : List MemPlace} (hv : Value.okWide Tryz.prog w r b0 32 v) (h : DataW.Trod enc Tryz.prog w base spare held 32 v d p) :
    ∃ u : EntC, v = .agg u.cells.toArray ∧ EntAt w u := by
  obtain ⟨cs, rfl, hsz⟩ := okWide_struct Tryz.underlying32 hv
  obtain ⟨fuel, h⟩ := h
  obtain ⟨cs⟩ := cs
  have hl : cs.length = 5 := hsz.trans cellsEnt
  obtain ⟨u, hu, h1, _⟩ := ent_cells fuel cs _ h hl
  subst hu
  exact ⟨u, rfl, h1⟩
theorem open_Ents {r : Reach} {b0 : Nat} {v : Value} {d : DataW H} {p : List MemPlace} (hv : Value.okWide Tryz.prog w r b0 22 v) (h : DataW.Trod enc Tryz.prog w base spare held 22 v d p) :
    ∃ (A : Option Addr) (n c : Nat) (l : List EntC), v = .slice A n c ∧ Sl w 5 A n (l.map EntC.cells) ∧ n ≤ maxLen ∧ ∀ u ∈ l, EntAt w u := by
  obtain ⟨a0, len0, cap0, rfl⟩ := okWide_slice Tryz.underlying22 hv
  obtain ⟨fuel, h⟩ := h
  obtain ⟨A, n, c, l, h1, h2, h3, h4⟩ := open_elems Tryz.underlying22 cellsEnt (by omega) EntC.cells (fun u => EntAt w u ∧ u.v.text.length ≤ maxLen) ent_cells h
  exact ⟨A, n, c, l, h1, h2, h3, fun u hu => (h4 u hu).1⟩
end
end Go.Proofs.YtjncmlglhegnaaaGreatDoor
namespace Go.Proofs.YtjncmlglhegnaaaGreatDoor
open Go.ChangeShapes Go.WideShapes Go.RowKit Go.Deep Go.Joins

section
set_option maxRecDepth 100000
variable {H : Type} {enc : TypeId × Value → H} {w : World} {base : Nat} {spare : Nat → Bool} {held : Bool}
theorem open_EntsC {r : Reach} {b0 : Nat} {v : Value} {d : DataW H} {p : List MemPlace} (hv : Value.okWide Tryz.prog w r b0 22 v) (h : DataW.Trod enc Tryz.prog w base spare held 22 v d p) :
    ∃ (A : Option Addr) (n c : Nat) (l : List EntC), v = .slice A n c ∧ Sl w 5 A n (l.map EntC.cells) ∧ n ≤ c ∧ ∀ u ∈ l, EntAt w u := by
  obtain ⟨a0, len0, cap0, rfl⟩ := okWide_slice Tryz.underlying22 hv
  obtain ⟨fuel, h⟩ := h
  obtain ⟨A, n, c, l, h1, h2, _, h3, h4⟩ := open_elemsC Tryz.underlying22 cellsEnt (by omega) EntC.cells (fun u => EntAt w u ∧ u.v.text.length ≤ maxLen) ent_cells h
  exact ⟨A, n, c, l, h1, h2, h3, fun u hu => (h4 u hu).1⟩
end
end Go.Proofs.YtjncmlglhegnaaaGreatDoor
