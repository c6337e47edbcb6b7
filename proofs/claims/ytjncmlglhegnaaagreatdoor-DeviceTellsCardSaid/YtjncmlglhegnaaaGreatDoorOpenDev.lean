/- What the rows' condition on the library's variables gives a walk; lists of ints, of strings that came in, opened. -/
/- Entries, lists of entries that came in, opened. -/
/- Lists of entries that came in, with their capacity. -/
/- kerbsidelaw49: lists of acts, a loan that came in, opened. -/
import Derived.Test.YtjncmlglhegnaaaGreatDoorDevT
import Derived.Test.YtjncmlglhegnaaaGreatDoorWireS
import Derived.ChangeArms
import Derived.LaidMore
import Derived.LaidLaws
import Derived.LaidHandle
import Derived.MakeChecks
import Derived.Stop.LaidErr
import Derived.Lib.LaidTab
import Derived.Test.YtjncmlglhegnaaaGreatDoorChainF
import Derived.Test.YtjncmlglhegnaaaGreatDoorDevR
namespace Go.Proofs.YtjncmlglhegnaaaGreatDoor
open Go.ChangeShapes Go.WideShapes Go.RowKit Go.Deep Go.Joins

/-- what the rows list -/
def laidList : List (String × DataW Unit) := [("math/bits.deBruijn32tab", Rows.laid_math_bits_deBruijn32tab), ("math/bits.deBruijn64tab", Rows.laid_math_bits_deBruijn64tab), ("internal/strconv.uint64pow10", Rows.laid_internal_strconv_uint64pow10), ("strconv.ErrRange", Rows.laid_strconv_ErrRange), ("strconv.ErrSyntax", Rows.laid_strconv_ErrSyntax)]
theorem typeTab : (Tryz.prog.globalNamed "internal/strconv.uint64pow10").bind (fun g => (Tryz.prog.globals[g]?).map (·.type)) = some 274 := by kernel_rfl
theorem typeSyn : (Tryz.prog.globalNamed "strconv.ErrSyntax").bind (fun g => (Tryz.prog.globals[g]?).map (·.type)) = some 216 := by kernel_rfl
theorem typeRng : (Tryz.prog.globalNamed "strconv.ErrRange").bind (fun g => (Tryz.prog.globals[g]?).map (·.type)) = some 216 := by kernel_rfl
theorem laidTab : (Rows.laid_internal_strconv_uint64pow10 : DataW Unit) = Lib.tabData .u64 Lib.pow10Tab := by kernel_rfl
theorem sentinel_of {name nm : String} {d : DataW Unit} {rest : List (String × DataW Unit)} {W : World} (hty : (Tryz.prog.globalNamed name).bind (fun g => (Tryz.prog.globals[g]?).map (·.type)) = some 216)
    (h : laidMet Tryz.prog ((name, .iface nm d) :: rest) W) : ∃ tp p, VarIn W.heap.size W name #[.iface tp p] := by
  obtain ⟨ps, ⟨g, t, cs, fuel, p, q, hg, ht, hvar, hd, _, _⟩, _⟩ := h
  rw [hg] at hty
  simp only [Option.bind_some] at hty
  obtain rfl := Option.some.inj (hty.symm.trans ht)
  obtain ⟨_, u, v, hcs, _, _⟩ := iface_of_trod Tryz.underlying216 hd
  obtain ⟨cs⟩ := cs
  simp only at hcs
  subst hcs
  exact ⟨u, v, VarIn.of hvar⟩
theorem env_of_laid {W : World} (h : laidMetH Tryz.prog laidList W) : Env W.heap.size W := by
  rw [MakeChecks.laidMetH_plain _ _ _ (by kernel_rfl)] at h
  have h3 := h.tail.tail
  refine ⟨?_, sentinel_of typeSyn h3.tail.tail, sentinel_of typeRng h3.tail⟩
  obtain ⟨ps, ⟨g, t, cs, fuel, p, q, hg, ht, hvar, hd, _, _⟩, _⟩ := h3
  have hty := typeTab
  rw [hg] at hty
  simp only [Option.bind_some] at hty
  obtain rfl := Option.some.inj (hty.symm.trans ht)
  rw [laidTab] at hd
  have hc := Lib.cells_of_tab Tryz.underlying274 Tryz.underlying239 (by kernel_rfl) (by kernel_rfl) hd
  obtain ⟨cs⟩ := cs
  simp only at hc
  subst hc
  exact VarIn.of hvar
/-- the door's own heap meets the condition -/
theorem door_met (os : Os) (args : Array Value) : laidMetH Tryz.prog laidList ((World.doorLaid Tryz.prog 62 os).forCall (fun _ _ => 0) ⟨#[], args, []⟩).memory :=
  laidMetH_of_parts3 (fuel := 8) (laidMet_of_run' 8 (by kernel_rfl) (by kernel_rfl)) (by kernel_rfl) (by kernel_rfl)
section
set_option maxRecDepth 100000
variable {H : Type} {enc : TypeId × Value → H} {w : World} {base : Nat} {spare : Nat → Bool} {held : Bool}
theorem cellsI : Tryz.prog.cellsOf 3 = 1 := by kernel_rfl
theorem cellsS : Tryz.prog.cellsOf 9 = 1 := by kernel_rfl
theorem cellsIs : Tryz.prog.cellsOf 30 = 1 := by kernel_rfl
theorem i_cells (n : Nat) (cs : List Value) (x : DataW H × List MemPlace) (h : DataW.trod enc Tryz.prog w base spare held n 3 cs = some x) (_hl : cs.length = 1) : ∃ o : Int, cs = intC o ∧ inI o := by
  obtain ⟨n0, e0, _, w0⟩ := DataW.trod_int Tryz.underlying3 h
  exact ⟨n0, e0, bounds_i64 w0⟩
theorem open_IntsW {r : Reach} {b0 : Nat} {v : Value} {d : DataW H} {p : List MemPlace} (hv : Value.okWide Tryz.prog w r b0 30 v) (h : DataW.Trod enc Tryz.prog w base spare held 30 v d p) :
    ∃ (A : Option Addr) (n c : Nat) (ks : List Int), v = .slice A n c ∧ Sl w 1 A n (ks.map intC) ∧ n ≤ maxLen ∧ ∀ k ∈ ks, inI k := by
  obtain ⟨a0, len0, cap0, rfl⟩ := okWide_slice Tryz.underlying30 hv
  obtain ⟨fuel, h⟩ := h
  exact open_elems Tryz.underlying30 cellsI (by omega) intC inI i_cells h
end
section
variable {H : Type} {enc : TypeId × Value → H} {P : Program} {w : World} {base : Nat} {spare : Nat → Bool} {held : Bool}
end
end Go.Proofs.YtjncmlglhegnaaaGreatDoor
namespace Go.Proofs.YtjncmlglhegnaaaGreatDoor
open Go.ChangeShapes Go.WideShapes Go.RowKit Go.Deep Go.Joins

section
set_option maxRecDepth 100000
variable {H : Type} {enc : TypeId × Value → H} {w : World} {base : Nat} {spare : Nat → Bool} {held : Bool}
end
end Go.Proofs.YtjncmlglhegnaaaGreatDoor
namespace Go.Proofs.YtjncmlglhegnaaaGreatDoor
open Go.ChangeShapes Go.WideShapes Go.RowKit Go.Deep Go.Joins

section
set_option maxRecDepth 100000
variable {H : Type} {enc : TypeId × Value → H} {w : World} {base : Nat} {spare : Nat → Bool} {held : Bool}
end
end Go.Proofs.YtjncmlglhegnaaaGreatDoor
namespace Go.Proofs.YtjncmlglhegnaaaGreatDoor
open Go.ChangeShapes Go.WideShapes Go.RowKit Go.Deep Go.Joins

section
set_option maxRecDepth 100000
variable {H : Type} {enc : TypeId × Value → H} {w : World} {base : Nat} {spare : Nat → Bool} {held : Bool}
theorem cellsAct : Tryz.prog.cellsOf 51 = 5 := by kernel_rfl
theorem cellsLoanD : Tryz.prog.cellsOf 24 = 4 := by kernel_rfl
theorem cellsBoolD : Tryz.prog.cellsOf 4 = 1 := by kernel_rfl
theorem int_cellsD (n : Nat) (cs : List Value) (x : DataW H × List MemPlace) (h : DataW.trod enc Tryz.prog w base spare held n 3 cs = some x) (_hl : cs.length = 1) : ∃ o : Int, cs = [.int .i64 o] ∧ True := by
  obtain ⟨n0, e0, _, w0⟩ := DataW.trod_int Tryz.underlying3 h
  exact ⟨n0, e0, trivial⟩
theorem act_cells (n : Nat) (cs : List Value) (x : DataW H × List MemPlace) (h : DataW.trod enc Tryz.prog w base spare held n 51 cs = some x) (hl : cs.length = 5) : ∃ a : ActE, cs = a.cells ∧ (a.ok ∧ Sl w 1 a.A a.keep.length (a.keep.map fun k => [.int .i64 k])) := by
  match cs, hl with
  | [a0, a1, a2, a3, a4], _ =>
    obtain ⟨ys, k, _, _, _, hyl, hf⟩ := DataW.trod_struct Tryz.underlying51 h
    match ys, hyl with
    | [y0, y1, y2, y3, y4], _ =>
      have h0 := hf 0 _ rfl
      have h1 := hf 1 _ rfl
      have h2 := hf 2 _ rfl
      have h3 := hf 3 _ rfl
      have h4 := hf 4 _ rfl
      simp [cellsI, cellsS, cellsIs] at h0 h1 h2 h3 h4
      obtain ⟨n0, e0, _, w0⟩ := DataW.trod_int Tryz.underlying3 h0
      obtain ⟨n1, e1, _, w1⟩ := DataW.trod_int Tryz.underlying3 h1
      obtain ⟨n2, e2, _, w2⟩ := DataW.trod_int Tryz.underlying3 h2
      obtain ⟨s3, e3, _, _⟩ := DataW.trod_string Tryz.underlying9 h3
      obtain ⟨A, m, c, L, e4, hs4, _, _⟩ := open_elems Tryz.underlying30 cellsI (by omega) (fun o => [.int .i64 o]) (fun _ => True) int_cellsD h4
      simp at e0 e1 e2 e3
      subst e0 e1 e2 e3 e4
      have hm : L.length = m := by simpa using hs4.1
      subst hm
      exact ⟨⟨n0, n1, n2, s3.data.toList, L, A, c⟩, rfl, ⟨bounds_i64 w0, bounds_i64 w1, bounds_i64 w2⟩, hs4⟩
theorem open_ActsE {r : Reach} {b0 : Nat} {v : Value} {d : DataW H} {p : List MemPlace} (hv : Value.okWide Tryz.prog w r b0 38 v) (h : DataW.Trod enc Tryz.prog w base spare held 38 v d p) :
    ∃ (A : Option Addr) (n c : Nat) (l : List ActE), v = .slice A n c ∧ Sl w 5 A n (l.map ActE.cells) ∧ n ≤ maxLen ∧ (∀ a ∈ l, a.ok) ∧ ActsAtE w l := by
  obtain ⟨a0, len0, cap0, rfl⟩ := okWide_slice Tryz.underlying38 hv
  obtain ⟨fuel, h⟩ := h
  obtain ⟨A, n, c, l, h1, h2, h3, h4⟩ := open_elems Tryz.underlying38 cellsAct (by omega) ActE.cells (fun a => a.ok ∧ Sl w 1 a.A a.keep.length (a.keep.map fun k => [.int .i64 k])) act_cells h
  exact ⟨A, n, c, l, h1, h2, h3, fun a ha => (h4 a ha).1, fun a ha => (h4 a ha).2⟩
theorem loanD_cells (n : Nat) (cs : List Value) (x : DataW H × List MemPlace) (h : DataW.trod enc Tryz.prog w base spare held n 24 cs = some x) (hl : cs.length = 4) : ∃ l : LoanV, cs = l.cells ∧ i64In l.device ∧ i64In l.units ∧ i64In l.spent := by
  match cs, hl with
  | [a0, a1, a2, a3], _ =>
    obtain ⟨ys, k, _, _, _, hyl, hf⟩ := DataW.trod_struct Tryz.underlying24 h
    match ys, hyl with
    | [y0, y1, y2, y3], _ =>
      have h0 := hf 0 _ rfl
      have h1 := hf 1 _ rfl
      have h2 := hf 2 _ rfl
      have h3 := hf 3 _ rfl
      simp [cellsI, cellsBoolD] at h0 h1 h2 h3
      obtain ⟨n0, e0, _, w0⟩ := DataW.trod_int Tryz.underlying3 h0
      obtain ⟨n1, e1, _, w1⟩ := DataW.trod_int Tryz.underlying3 h1
      obtain ⟨n2, e2, _, w2⟩ := DataW.trod_int Tryz.underlying3 h2
      obtain ⟨b3, e3, _⟩ := DataW.trod_bool Tryz.underlying4 h3
      simp at e0 e1 e2 e3
      subst e0 e1 e2 e3
      exact ⟨⟨n0, n1, n2, b3⟩, rfl, bounds_i64 w0, bounds_i64 w1, bounds_i64 w2⟩
theorem open_LoanD {r : Reach} {b0 : Nat} {v : Value} {d : DataW H} {p : List MemPlace} (hv : Value.okWide Tryz.prog w r b0 24 v) (h : DataW.Trod enc Tryz.prog w base spare held 24 v d p) :
    ∃ l : LoanV, v = .agg (loanX l) ∧ i64In l.device ∧ i64In l.units ∧ i64In l.spent := by
  obtain ⟨cs, rfl, hsz⟩ := okWide_struct Tryz.underlying24 hv
  obtain ⟨fuel, h⟩ := h
  obtain ⟨cs⟩ := cs
  have hl : cs.length = 4 := hsz.trans cellsLoanD
  obtain ⟨u, hu, h1⟩ := loanD_cells fuel cs _ h hl
  subst hu
  exact ⟨u, rfl, h1⟩
end
end Go.Proofs.YtjncmlglhegnaaaGreatDoor
