/- What the rows' condition on the library's variables gives a walk; lists of ints, of strings that came in, opened. -/
import Derived.Test.YtnnnibkainlplaaGreatDoorOpen
import Derived.Test.YtnnnibkainlplaaGreatDoorWireS
import Derived.ChangeArms
import Derived.LaidMore
import Derived.LaidLaws
import Derived.LaidHandle
import Derived.MakeChecks
import Derived.Stop.LaidErr
import Derived.Lib.LaidTab
namespace Go.Proofs.YtnnnibkainlplaaGreatDoor
open Go.ChangeShapes Go.WideShapes Go.RowKit Go.Deep Go.Joins

/-- what the rows list -/
def laidList : List (String × DataW Unit) := [("math/bits.deBruijn32tab", Rows.laid_math_bits_deBruijn32tab), ("math/bits.deBruijn64tab", Rows.laid_math_bits_deBruijn64tab), ("internal/strconv.uint64pow10", Rows.laid_internal_strconv_uint64pow10)]
theorem typeTab : (Tryz.prog.globalNamed "internal/strconv.uint64pow10").bind (fun g => (Tryz.prog.globals[g]?).map (·.type)) = some 127 := by kernel_rfl
theorem laidTab : (Rows.laid_internal_strconv_uint64pow10 : DataW Unit) = Lib.tabData .u64 Lib.pow10Tab := by kernel_rfl
theorem env_of_laid {W : World} (h : laidMetH Tryz.prog laidList W) : Env W.heap.size W := by
  rw [MakeChecks.laidMetH_plain _ _ _ (by kernel_rfl)] at h
  have h3 := h.tail.tail
  refine ⟨?_⟩
  obtain ⟨ps, ⟨g, t, cs, fuel, p, q, hg, ht, hvar, hd, _, _⟩, _⟩ := h3
  have hty := typeTab
  rw [hg] at hty
  simp only [Option.bind_some] at hty
  obtain rfl := Option.some.inj (hty.symm.trans ht)
  rw [laidTab] at hd
  have hc := Lib.cells_of_tab Tryz.underlying127 Tryz.underlying97 (by kernel_rfl) (by kernel_rfl) hd
  obtain ⟨cs⟩ := cs
  simp only at hc
  subst hc
  exact VarIn.of hvar
/-- the door's own heap meets the condition -/
theorem door_met (os : Os) (args : Array Value) : laidMetH Tryz.prog laidList ((World.doorLaid Tryz.prog 62 os).forCall (fun _ _ => 0) ⟨#[], args, []⟩).memory :=
  laidMetH_of_parts3 (fuel := 8) (laidMet_of_run' 8 (by kernel_rfl) (by kernel_rfl)) (by kernel_rfl) (by kernel_rfl)
section
set_option maxRecDepth 100000
variable {H : Type} {enc : TypeId × Value → H} {w : World} {base : Nat} {spare : Nat → Bool} {held : Bool}
theorem cellsI : Tryz.prog.cellsOf 3 = 1 := by kernel_rfl
theorem cellsS : Tryz.prog.cellsOf 9 = 1 := by kernel_rfl
theorem cellsIs : Tryz.prog.cellsOf 28 = 1 := by kernel_rfl
theorem i_cells (n : Nat) (cs : List Value) (x : DataW H × List MemPlace) (h : DataW.trod enc Tryz.prog w base spare held n 3 cs = some x) (_hl : cs.length = 1) : ∃ o : Int, cs = intC o ∧ inI o := by
  obtain ⟨n0, e0, _, w0⟩ := DataW.trod_int Tryz.underlying3 h
  exact ⟨n0, e0, bounds_i64 w0⟩
theorem s_cells (n : Nat) (cs : List Value) (x : DataW H × List MemPlace) (h : DataW.trod enc Tryz.prog w base spare held n 9 cs = some x) (_hl : cs.length = 1) : ∃ o : List UInt8, cs = strC o ∧ o.length ≤ maxLen := by
  obtain ⟨s, e, _, hs⟩ := DataW.trod_string Tryz.underlying9 h
  exact ⟨s.data.toList, e, by simpa using hs⟩
theorem open_IntsW {r : Reach} {b0 : Nat} {v : Value} {d : DataW H} {p : List MemPlace} (hv : Value.okWide Tryz.prog w r b0 28 v) (h : DataW.Trod enc Tryz.prog w base spare held 28 v d p) :
    ∃ (A : Option Addr) (n c : Nat) (ks : List Int), v = .slice A n c ∧ Sl w 1 A n (ks.map intC) ∧ n ≤ maxLen ∧ ∀ k ∈ ks, inI k := by
  obtain ⟨a0, len0, cap0, rfl⟩ := okWide_slice Tryz.underlying28 hv
  obtain ⟨fuel, h⟩ := h
  exact open_elems Tryz.underlying28 cellsI (by omega) intC inI i_cells h
end
section
variable {H : Type} {enc : TypeId × Value → H} {P : Program} {w : World} {base : Nat} {spare : Nat → Bool} {held : Bool}
/-- a byte that came in -/
theorem open_u8 {r : Reach} {b0 t : Nat} {v : Value} {d : DataW H} {p : List MemPlace} (ht : P.underlying t = some (.int .u8)) (hv : Value.okWide P w r b0 t v) (h : DataW.Trod enc P w base spare held t v d p) :
    ∃ a : Int, v = .int .u8 a ∧ 0 ≤ a ∧ a ≤ 255 := by
  obtain ⟨a, rfl, _, _, wf⟩ := open_int ht hv h
  have := bounds_u8 wf
  exact ⟨a, rfl, this.1, this.2⟩
end
end Go.Proofs.YtnnnibkainlplaaGreatDoor
