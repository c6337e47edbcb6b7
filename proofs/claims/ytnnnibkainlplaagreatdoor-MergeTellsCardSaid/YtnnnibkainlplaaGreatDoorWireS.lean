/- wire: the library's variables in the world; strconv.Atoi, strings.IndexByte, strings.CutPrefix as the reader uses them; close, walked. -/
import Derived.Test.YtnnnibkainlplaaGreatDoorWireC
import Derived.WalkSmall
namespace Go.Proofs.YtnnnibkainlplaaGreatDoor
open Go.RowKit Go.Sort Go.Lib

/-- a package variable that lies below B -/
def VarIn (B : Nat) (w : World) (name : String) (cs : Array Value) : Prop := ∃ g, Tryz.prog.globalNamed name = some g ∧ g < B ∧ w.var? Tryz.prog name = some cs
theorem VarIn.of {w : World} {name : String} {cs : Array Value} (h : w.var? Tryz.prog name = some cs) : VarIn w.heap.size w name cs := by
  have h' := h
  unfold World.var? at h'
  cases hg : Tryz.prog.globalNamed name with
  | none => rw [hg] at h'; cases h'
  | some g =>
    rw [hg] at h'
    refine ⟨g, (by first | rfl | exact hg), ?_, h⟩
    simp only [Option.bind_some] at h'
    cases hb : w.heap[g]? with
    | none => rw [hb] at h'; cases h'
    | some o => exact (Array.getElem?_eq_some_iff.1 hb).1
theorem VarIn.below {B : Nat} {w w' : World} {name : String} {cs : Array Value} (h : VarIn B w name cs) (hb : Below B w w') : VarIn B w' name cs := by
  obtain ⟨g, h1, h2, h3⟩ := h
  exact ⟨g, h1, h2, var?_below hb h1 h2 h3⟩
theorem VarIn.grown {B b : Nat} {w w' : World} {name : String} {cs : Array Value} (h : VarIn B w name cs) (hB : B ≤ b) (hs : B ≤ w.heap.size) (hg : w.grownBy w' (some b)) : VarIn B w' name cs :=
  h.below ((Below.refl B w).grown hg hs fun k hk => by injection hk with hk; omega)
structure Env (B : Nat) (w : World) : Prop where
  tab : VarIn B w "internal/strconv.uint64pow10" (Lib.pow10Tab.map fun z => Value.int .u64 z).toArray
theorem Env.below {B : Nat} {w w' : World} (h : Env B w) (hb : Below B w w') : Env B w' :=
  ⟨h.tab.below hb⟩
theorem Env.grown {B b : Nat} {w w' : World} (h : Env B w) (hB : B ≤ b) (hs : B ≤ w.heap.size) (hg : w.grownBy w' (some b)) : Env B w' :=
  h.below ((Below.refl B w).grown hg hs fun k hk => by injection hk with hk; omega)
theorem Env.isTab {B : Nat} {w : World} (h : Env B w) : Tab w := by
  obtain ⟨_, _, _, h⟩ := h.tab
  exact h
theorem Env.lt {B : Nat} {w : World} (h : Env B w) : 0 < B := by
  obtain ⟨g, _, h, _⟩ := h.tab
  omega
end Go.Proofs.YtnnnibkainlplaaGreatDoor
