/- What the rows' condition on the library's variables gives a walk; lists of ints, of strings that came in, opened. -/
/- Opening a list of bytes that came in. -/
/- Opening a list of steps that came in. -/
import Derived.Test.YtnnnibkainlplaaDoorOpen
import Derived.Test.YtnnnibkainlplaaDoorWireS
import Derived.ChangeArms
import Derived.LaidMore
import Derived.LaidLaws
import Derived.LaidHandle
import Derived.MakeChecks
import Derived.Stop.LaidErr
import Derived.Lib.LaidTab
import Derived.Test.YtnnnibkainlplaaDoorMrgR
namespace Go.Proofs.YtnnnibkainlplaaDoor
open Go.ChangeShapes Go.WideShapes Go.RowKit Go.Deep Go.Joins

/-- what the rows list -/
def laidList : List (String × DataW Unit) := [("math/bits.deBruijn32tab", Rows.laid_math_bits_deBruijn32tab), ("math/bits.deBruijn64tab", Rows.laid_math_bits_deBruijn64tab), ("internal/strconv.uint64pow10", Rows.laid_internal_strconv_uint64pow10)]
theorem typeTab : (Tryd.prog.globalNamed "internal/strconv.uint64pow10").bind (fun g => (Tryd.prog.globals[g]?).map (·.type)) = some 134 := by kernel_rfl
theorem laidTab : (Rows.laid_internal_strconv_uint64pow10 : DataW Unit) = Lib.tabData .u64 Lib.pow10Tab := by kernel_rfl
theorem env_of_laid {W : World} (h : laidMetH Tryd.prog laidList W) : Env W.heap.size W := by
  rw [MakeChecks.laidMetH_plain _ _ _ (by kernel_rfl)] at h
  have h3 := h.tail.tail
  refine ⟨?_⟩
  obtain ⟨ps, ⟨g, t, cs, fuel, p, q, hg, ht, hvar, hd, _, _⟩, _⟩ := h3
  have hty := typeTab
  rw [hg] at hty
  simp only [Option.bind_some] at hty
  obtain rfl := Option.some.inj (hty.symm.trans ht)
  rw [laidTab] at hd
  have hc := Lib.cells_of_tab Tryd.underlying134 Tryd.underlying105 (by kernel_rfl) (by kernel_rfl) hd
  obtain ⟨cs⟩ := cs
  simp only at hc
  subst hc
  exact VarIn.of hvar
/-- the door's own heap meets the condition -/
theorem door_met (os : Os) (args : Array Value) : laidMetH Tryd.prog laidList ((World.doorLaid Tryd.prog 62 os).forCall (fun _ _ => 0) ⟨#[], args, []⟩).memory :=
  laidMetH_of_parts3 (fuel := 8) (laidMet_of_run' 8 (by kernel_rfl) (by kernel_rfl)) (by kernel_rfl) (by kernel_rfl)
section
set_option maxRecDepth 100000
variable {H : Type} {enc : TypeId × Value → H} {w : World} {base : Nat} {spare : Nat → Bool} {held : Bool}
theorem cellsI : Tryd.prog.cellsOf 3 = 1 := by kernel_rfl
theorem cellsS : Tryd.prog.cellsOf 9 = 1 := by kernel_rfl
theorem cellsIs : Tryd.prog.cellsOf 31 = 1 := by kernel_rfl
theorem i_cells (n : Nat) (cs : List Value) (x : DataW H × List MemPlace) (h : DataW.trod enc Tryd.prog w base spare held n 3 cs = some x) (_hl : cs.length = 1) : ∃ o : Int, cs = intC o ∧ inI o := by
  obtain ⟨n0, e0, _, w0⟩ := DataW.trod_int Tryd.underlying3 h
  exact ⟨n0, e0, bounds_i64 w0⟩
theorem s_cells (n : Nat) (cs : List Value) (x : DataW H × List MemPlace) (h : DataW.trod enc Tryd.prog w base spare held n 9 cs = some x) (_hl : cs.length = 1) : ∃ o : List UInt8, cs = strC o ∧ o.length ≤ maxLen := by
  obtain ⟨s, e, _, hs⟩ := DataW.trod_string Tryd.underlying9 h
  exact ⟨s.data.toList, e, by simpa using hs⟩
theorem open_IntsW {r : Reach} {b0 : Nat} {v : Value} {d : DataW H} {p : List MemPlace} (hv : Value.okWide Tryd.prog w r b0 31 v) (h : DataW.Trod enc Tryd.prog w base spare held 31 v d p) :
    ∃ (A : Option Addr) (n c : Nat) (ks : List Int), v = .slice A n c ∧ Sl w 1 A n (ks.map intC) ∧ n ≤ maxLen ∧ ∀ k ∈ ks, inI k := by
  obtain ⟨a0, len0, cap0, rfl⟩ := okWide_slice Tryd.underlying31 hv
  obtain ⟨fuel, h⟩ := h
  exact open_elems Tryd.underlying31 cellsI (by omega) intC inI i_cells h
end
section
variable {H : Type} {enc : TypeId × Value → H} {P : Program} {w : World} {base : Nat} {spare : Nat → Bool} {held : Bool}
/-- a byte that came in -/
theorem open_u8 {r : Reach} {b0 t : Nat} {v : Value} {d : DataW H} {p : List MemPlace} (ht : P.underlying t = some (.int .u8)) (hv : Value.okWide P w r b0 t v) (h : DataW.Trod enc P w base spare held t v d p) :
    ∃ a : Int, v = .int .u8 a ∧ 0 ≤ a ∧ a ≤ 255 := by
  obtain ⟨a, rfl, _, _, wf⟩ := open_int ht hv h
  have := bounds_u8 wf
  exact ⟨a, rfl, this.1, this.2⟩
end
end Go.Proofs.YtnnnibkainlplaaDoor
namespace Go.Proofs.YtnnnibkainlplaaDoor
open Go.ChangeShapes Go.WideShapes Go.RowKit Go.Deep Go.Joins
section
set_option maxRecDepth 100000
variable {H : Type} {enc : TypeId × Value → H} {w : World} {base : Nat} {spare : Nat → Bool} {held : Bool}
theorem cellsByte : Tryd.prog.cellsOf 5 = 1 := by kernel_rfl
theorem byte_cells (n : Nat) (cs : List Value) (x : DataW H × List MemPlace) (h : DataW.trod enc Tryd.prog w base spare held n 5 cs = some x) (_hl : cs.length = 1) : ∃ o : Int, cs = [.int .u8 o] ∧ (0 ≤ o ∧ o ≤ 255) := by
  obtain ⟨n0, e0, _, w0⟩ := DataW.trod_int Tryd.underlying5 h
  exact ⟨n0, e0, bounds_u8 w0⟩
theorem open_Bytes {r : Reach} {b0 : Nat} {v : Value} {d : DataW H} {p : List MemPlace} (hv : Value.okWide Tryd.prog w r b0 23 v) (h : DataW.Trod enc Tryd.prog w base spare held 23 v d p) :
    ∃ (A : Option Addr) (n c : Nat) (os : List Int), v = .slice A n c ∧ Sl w 1 A n (os.map fun o => [.int .u8 o]) ∧ n ≤ maxLen ∧ ∀ o ∈ os, 0 ≤ o ∧ o ≤ 255 := by
  obtain ⟨a0, len0, cap0, rfl⟩ := okWide_slice Tryd.underlying23 hv
  obtain ⟨fuel, h⟩ := h
  exact open_elems Tryd.underlying23 cellsByte (by omega) (fun o => [.int .u8 o]) (fun o => 0 ≤ o ∧ o ≤ 255) byte_cells h
end
end Go.Proofs.YtnnnibkainlplaaDoor
namespace Go.Proofs.YtnnnibkainlplaaDoor
open Go.ChangeShapes Go.WideShapes Go.RowKit Go.Deep Go.Joins
section
set_option maxRecDepth 100000
variable {H : Type} {enc : TypeId × Value → H} {w : World} {base : Nat} {spare : Nat → Bool} {held : Bool}
theorem cellsStep : Tryd.prog.cellsOf 53 = 3 := by kernel_rfl
theorem cellsIntS : Tryd.prog.cellsOf 3 = 1 := by kernel_rfl
theorem step_cells (n : Nat) (cs : List Value) (x : DataW H × List MemPlace) (h : DataW.trod enc Tryd.prog w base spare held n 53 cs = some x) (hl : cs.length = 3) : ∃ a : Int × Int × Int, cs = stC a ∧ True := by
  match cs, hl with
  | [a0, a1, a2], _ =>
    obtain ⟨ys, k, _, _, _, hyl, hf⟩ := DataW.trod_struct Tryd.underlying53 h
    match ys, hyl with
    | [y0, y1, y2], _ =>
      have h0 := hf 0 _ rfl
      have h1 := hf 1 _ rfl
      have h2 := hf 2 _ rfl
      simp [cellsIntS] at h0 h1 h2
      obtain ⟨n0, e0, _, w0⟩ := DataW.trod_int Tryd.underlying3 h0
      obtain ⟨n1, e1, _, w1⟩ := DataW.trod_int Tryd.underlying3 h1
      obtain ⟨n2, e2, _, w2⟩ := DataW.trod_int Tryd.underlying3 h2
      simp at e0 e1 e2
      subst e0 e1 e2
      exact ⟨(n0, n1, n2), rfl, trivial⟩
theorem open_Steps {r : Reach} {b0 : Nat} {v : Value} {d : DataW H} {p : List MemPlace} (hv : Value.okWide Tryd.prog w r b0 51 v) (h : DataW.Trod enc Tryd.prog w base spare held 51 v d p) :
    ∃ (A : Option Addr) (n c : Nat) (sts : List (Int × Int × Int)), v = .slice A n c ∧ Sl w 3 A n (sts.map stC) ∧ n ≤ maxLen ∧ ∀ a ∈ sts, True := by
  obtain ⟨a0, len0, cap0, rfl⟩ := okWide_slice Tryd.underlying51 hv
  obtain ⟨fuel, h⟩ := h
  exact open_elems Tryd.underlying51 cellsStep (by omega) stC (fun _ => True) step_cells h
end
end Go.Proofs.YtnnnibkainlplaaDoor
