/- What the rows' condition on the library's variables gives a walk; values, lists of values, of ints that came in, opened. -/
import Derived.Test.YtmceahmngifcgaaDoorOpen
import Derived.Test.YtmceahmngifcgaaDoorWireZ
import Derived.ChangeArms
import Derived.LaidMore
import Derived.LaidLaws
import Derived.LaidHandle
import Derived.MakeChecks
import Derived.Stop.LaidErr
import Derived.Lib.LaidTab
namespace Go.Proofs.YtmceahmngifcgaaDoor
open Go.ChangeShapes Go.WideShapes Go.RowKit Go.Deep Go.Joins

/-- what the rows list -/
def laidList : List (String × DataW Unit) := [("math/bits.deBruijn32tab", Rows.laid_math_bits_deBruijn32tab), ("math/bits.deBruijn64tab", Rows.laid_math_bits_deBruijn64tab), ("internal/strconv.uint64pow10", Rows.laid_internal_strconv_uint64pow10), ("strconv.ErrRange", Rows.laid_strconv_ErrRange), ("strconv.ErrSyntax", Rows.laid_strconv_ErrSyntax)]
theorem typeTab : (Tryd.prog.globalNamed "internal/strconv.uint64pow10").bind (fun g => (Tryd.prog.globals[g]?).map (·.type)) = some 96 := by kernel_rfl
theorem typeSyn : (Tryd.prog.globalNamed "strconv.ErrSyntax").bind (fun g => (Tryd.prog.globals[g]?).map (·.type)) = some 69 := by kernel_rfl
theorem typeRng : (Tryd.prog.globalNamed "strconv.ErrRange").bind (fun g => (Tryd.prog.globals[g]?).map (·.type)) = some 69 := by kernel_rfl
theorem laidTab : (Rows.laid_internal_strconv_uint64pow10 : DataW Unit) = Lib.tabData .u64 Lib.pow10Tab := by kernel_rfl
theorem sentinel_of {name nm : String} {d : DataW Unit} {rest : List (String × DataW Unit)} {W : World} (hty : (Tryd.prog.globalNamed name).bind (fun g => (Tryd.prog.globals[g]?).map (·.type)) = some 69)
    (h : laidMet Tryd.prog ((name, .iface nm d) :: rest) W) : ∃ tp p, VarIn W.heap.size W name #[.iface tp p] := by
  obtain ⟨ps, ⟨g, t, cs, fuel, p, q, hg, ht, hvar, hd, _, _⟩, _⟩ := h
  rw [hg] at hty
  simp only [Option.bind_some] at hty
  obtain rfl := Option.some.inj (hty.symm.trans ht)
  obtain ⟨_, u, v, hcs, _, _⟩ := iface_of_trod Tryd.underlying69 hd
  obtain ⟨cs⟩ := cs
  simp only at hcs
  subst hcs
  exact ⟨u, v, VarIn.of hvar⟩
theorem env_of_laid {W : World} (h : laidMetH Tryd.prog laidList W) : Env W.heap.size W := by
  rw [MakeChecks.laidMetH_plain _ _ _ (by kernel_rfl)] at h
  have h3 := h.tail.tail
  refine ⟨?_, sentinel_of typeSyn h3.tail.tail, sentinel_of typeRng h3.tail⟩
  obtain ⟨ps, ⟨g, t, cs, fuel, p, q, hg, ht, hvar, hd, _, _⟩, _⟩ := h3
  have hty := typeTab
  rw [hg] at hty
  simp only [Option.bind_some] at hty
  obtain rfl := Option.some.inj (hty.symm.trans ht)
  rw [laidTab] at hd
  have hc := Lib.cells_of_tab Tryd.underlying96 Tryd.underlying81 (by kernel_rfl) (by kernel_rfl) hd
  obtain ⟨cs⟩ := cs
  simp only at hc
  subst hc
  exact VarIn.of hvar
/-- the door's own heap meets the condition -/
theorem door_met (os : Os) (args : Array Value) : laidMetH Tryd.prog laidList ((World.doorLaid Tryd.prog 62 os).forCall (fun _ _ => 0) ⟨#[], args, []⟩).memory :=
  laidMetH_of_parts3 (fuel := 8) (laidMet_of_run' 8 (by kernel_rfl) (by kernel_rfl)) (by kernel_rfl) (by kernel_rfl)
section
set_option maxRecDepth 100000
variable {H : Type} {enc : TypeId × Value → H} {w : World} {base : Nat} {spare : Nat → Bool} {held : Bool}
theorem cellsVal : Tryd.prog.cellsOf 25 = 5 := by kernel_rfl
theorem cellsI : Tryd.prog.cellsOf 3 = 1 := by kernel_rfl
theorem cellsS : Tryd.prog.cellsOf 9 = 1 := by kernel_rfl
theorem cellsIs : Tryd.prog.cellsOf 22 = 1 := by kernel_rfl
theorem cellsSs : Tryd.prog.cellsOf 23 = 1 := by kernel_rfl
theorem i_cells (n : Nat) (cs : List Value) (x : DataW H × List MemPlace) (h : DataW.trod enc Tryd.prog w base spare held n 3 cs = some x) (_hl : cs.length = 1) : ∃ o : Int, cs = intC o ∧ inI o := by
  obtain ⟨n0, e0, _, w0⟩ := DataW.trod_int Tryd.underlying3 h
  exact ⟨n0, e0, bounds_i64 w0⟩
theorem s_cells (n : Nat) (cs : List Value) (x : DataW H × List MemPlace) (h : DataW.trod enc Tryd.prog w base spare held n 9 cs = some x) (_hl : cs.length = 1) : ∃ o : List UInt8, cs = strC o ∧ o.length ≤ maxLen := by
  obtain ⟨s, e, _, hs⟩ := DataW.trod_string Tryd.underlying9 h
  exact ⟨s.data.toList, e, by simpa using hs⟩
theorem val_cells (n : Nat) (cs : List Value) (x : DataW H × List MemPlace) (h : DataW.trod enc Tryd.prog w base spare held n 25 cs = some x) (hl : cs.length = 5) : ∃ v : ValC, cs = v.cells ∧ (v.ok ∧ ValAt w v) := by
  match cs, hl with
  | [a0, a1, a2, a3, a4], _ =>
    obtain ⟨ys, k, _, _, _, hyl, hf⟩ := DataW.trod_struct Tryd.underlying25 h
    match ys, hyl with
    | [y0, y1, y2, y3, y4], _ =>
      have h0 := hf 0 _ rfl
      have h1 := hf 1 _ rfl
      have h2 := hf 2 _ rfl
      have h3 := hf 3 _ rfl
      have h4 := hf 4 _ rfl
      simp [cellsI, cellsS, cellsIs, cellsSs] at h0 h1 h2 h3 h4
      obtain ⟨n0, e0, _, w0⟩ := DataW.trod_int Tryd.underlying3 h0
      obtain ⟨n1, e1, _, w1⟩ := DataW.trod_int Tryd.underlying3 h1
      obtain ⟨s2, e2, _, hs2⟩ := DataW.trod_string Tryd.underlying9 h2
      obtain ⟨A, m, c, L, e3, hs3, hm3, ho3⟩ := open_elems Tryd.underlying22 cellsI (by omega) intC inI i_cells h3
      obtain ⟨A', m', c', T, e4, hs4, hm4, ho4⟩ := open_elems Tryd.underlying23 cellsS (by omega) strC (fun o : List UInt8 => o.length ≤ maxLen) s_cells h4
      simp at e0 e1 e2
      subst e0 e1 e2 e3 e4
      have hm : L.length = m := by simpa using hs3.1
      have hm' : T.length = m' := by simpa using hs4.1
      subst hm hm'
      exact ⟨⟨n0, n1, s2.data.toList, L, T, A, c, A', c'⟩, rfl, ⟨bounds_i64 w0, bounds_i64 w1, ho3, ⟨hm3, hm4, by simpa using hs2⟩, ho4⟩, ⟨hs3, hs4⟩⟩
theorem open_Val {r : Reach} {b0 : Nat} {v : Value} {d : DataW H} {p : List MemPlace} (hv : Value.okWide Tryd.prog w r b0 25 v) (h : DataW.Trod enc Tryd.prog w base spare held 25 v d p) :
    ∃ u : ValC, v = .agg #[.int .i64 u.k, .int .i64 u.n, .string ⟨u.s.toArray⟩, .slice u.A u.L.length u.c, .slice u.A' u.T.length u.c'] ∧ u.ok ∧ ValAt w u := by
  obtain ⟨cs, rfl, hsz⟩ := okWide_struct Tryd.underlying25 hv
  obtain ⟨fuel, h⟩ := h
  obtain ⟨cs⟩ := cs
  have hl : cs.length = 5 := hsz.trans cellsVal
  obtain ⟨u, hu, h1, h2⟩ := val_cells fuel cs _ h hl
  subst hu
  exact ⟨u, rfl, h1, h2⟩
theorem open_Vals {r : Reach} {b0 : Nat} {v : Value} {d : DataW H} {p : List MemPlace} (hv : Value.okWide Tryd.prog w r b0 28 v) (h : DataW.Trod enc Tryd.prog w base spare held 28 v d p) :
    ∃ (A : Option Addr) (n c : Nat) (l : List ValC), v = .slice A n c ∧ Sl w 5 A n (l.map ValC.cells) ∧ n ≤ maxLen ∧ ∀ u ∈ l, u.ok ∧ ValAt w u := by
  obtain ⟨a0, len0, cap0, rfl⟩ := okWide_slice Tryd.underlying28 hv
  obtain ⟨fuel, h⟩ := h
  exact open_elems Tryd.underlying28 cellsVal (by omega) ValC.cells (fun u => u.ok ∧ ValAt w u) val_cells h
theorem open_IntsW {r : Reach} {b0 : Nat} {v : Value} {d : DataW H} {p : List MemPlace} (hv : Value.okWide Tryd.prog w r b0 22 v) (h : DataW.Trod enc Tryd.prog w base spare held 22 v d p) :
    ∃ (A : Option Addr) (n c : Nat) (ks : List Int), v = .slice A n c ∧ Sl w 1 A n (ks.map intC) ∧ n ≤ maxLen ∧ ∀ k ∈ ks, inI k := by
  obtain ⟨a0, len0, cap0, rfl⟩ := okWide_slice Tryd.underlying22 hv
  obtain ⟨fuel, h⟩ := h
  exact open_elems Tryd.underlying22 cellsI (by omega) intC inI i_cells h
end
end Go.Proofs.YtmceahmngifcgaaDoor
