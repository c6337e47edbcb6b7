/- More words for memory: variables of the call's own. -/
import Derived.Test.YtnnnibkainlplaaDoorBase
namespace Go.Proofs.YtnnnibkainlplaaDoor
open Go.RowKit

/-- A variable of the call's own: the block n holds just the cells X, to be read and written. -/
structure Loc (w : World) (n : Nat) (X : Array Value) : Prop where
  lt : n < w.heap.size
  cell : ∀ j, w.cell? ⟨n, j, none⟩ = X[j]?
  free : ∀ j, w.frozen? ⟨n, j, none⟩ = false
section
variable {w w' : World} {n : Nat} {X : Array Value}
theorem Loc.new_ (w : World) (X : Array Value) (t : TypeId) : Loc (w.alloc (.cells X t)) w.heap.size X :=
  ⟨by simp, fun j => World.cell?_alloc_at _ _ _ _ rfl, fun j => World.frozen?_alloc_at _ _ _ _ rfl⟩
theorem Loc.below (h : Loc w n X) (hb : Below w.heap.size w w') : Loc w' n X :=
  ⟨Nat.lt_of_lt_of_le h.lt hb.size, fun j => (hb.cell (p := ⟨n, j, none⟩) h.lt).trans (h.cell j), fun j => (hb.frozen (p := ⟨n, j, none⟩) h.lt).trans (h.free j)⟩
theorem Loc.drew (h : Loc w n X) : Loc w.drew n X := h.below ⟨rfl, rfl, rfl, Nat.le_refl _, fun _ _ => rfl⟩
theorem Loc.drewN (h : Loc w n X) (k : Nat) : Loc (w.drewN k) n X := h.below ⟨rfl, rfl, rfl, Nat.le_refl _, fun _ _ => rfl⟩
theorem Loc.alloc (h : Loc w n X) (o : Obj) : Loc (w.alloc o) n X := h.below (below_alloc w o)
theorem Loc.set_ (h : Loc w n X) (i : Nat) (v : Value) : Loc (w.setCell ⟨n, i, none⟩ v) n (X.setIfInBounds i v) := by
  refine ⟨by rw [World.size_setCell]; exact h.lt, fun j => ?_, fun j => by rw [World.frozen?_setCell]; exact h.free j⟩
  by_cases hij : i = j
  · subst hij
    by_cases hi : i < X.size
    · rw [World.cell?_setCell_same _ _ _ (u := X[i]) (by rw [h.cell]; exact Array.getElem?_eq_getElem hi)]
      simp [hi]
    · rw [Array.getElem?_eq_none (by simp; omega)]
      have hc := h.cell i
      rw [Array.getElem?_eq_none (by omega)] at hc
      rcases hx : (w.setCell ⟨n, i, none⟩ v).cell? ⟨n, i, none⟩ with _ | u
      · rfl
      · exfalso
        simp only [World.setCell, World.cell?, Array.getElem?_modify] at hx hc
        cases hb : w.heap[n]? with
        | none => simp [hb] at hx
        | some o => cases o <;> simp_all
  · rw [World.cell?_setCell_other _ _ _ _ (fun e => hij (by injection e)), h.cell]
    simp [hij]
theorem Loc.far (h : Loc w n X) {p : Addr} (hp : p.block ≠ n) (v : Value) : Loc (w.setCell p v) n X :=
  ⟨by rw [World.size_setCell]; exact h.lt, fun j => (World.cell?_setCell_other _ _ _ _ (fun e => hp (by rw [e]))).trans (h.cell j), fun j => by rw [World.frozen?_setCell]; exact h.free j⟩
end


theorem bdrewN {B : Nat} {w w' : World} (h : Below B w w') (k : Nat) : Below B w (w'.drewN k) := ⟨h.os, h.tape, h.output, h.size, h.block⟩
theorem Sl.drewN {w : World} {size n : Nat} {A : Option Addr} {xs : List (List Value)} (h : Sl w size A n xs) (k : Nat) : Sl (w.drewN k) size A n xs := h
/-- the post of a call behind which nothing that was there has turned -/
theorem below_of_calls {w : World} (o : Obj) {w' : World} (h : Below (w.alloc o).heap.size (w.alloc o) w') : Below w.heap.size w w' :=
  (below_alloc w o).trans (h.mono (by simp))
end Go.Proofs.YtnnnibkainlplaaDoor
