/- More words for memory: variables of the call's own. -/
/- Words for the line-writer: blocks made ahead of a call; what an append onto an own slice leaves alone. -/
/- More words for memory: what a write to one row leaves alone. -/
import Derived.Test.YtjncmlglhegnaaaGreatDoorBase
namespace Go.Proofs.YtjncmlglhegnaaaGreatDoor
open Go.RowKit

/-- A variable of the call's own: the block n holds just the cells X, to be read and written. -/
structure Loc (w : World) (n : Nat) (X : Array Value) : Prop where
  lt : n < w.heap.size
  cell : ∀ j, w.cell? ⟨n, j, none⟩ = X[j]?
  free : ∀ j, w.frozen? ⟨n, j, none⟩ = false
section
variable {w w' : World} {n : Nat} {X : Array Value}
theorem Loc.new_ (w : World) (X : Array Value) (t : TypeId) : Loc (w.alloc (.cells X t)) w.heap.size X :=
  ⟨by simp, fun j => World.cell?_alloc_at _ _ _ _ rfl, fun j => World.frozen?_alloc_at _ _ _ _ rfl⟩
theorem Loc.below (h : Loc w n X) (hb : Below w.heap.size w w') : Loc w' n X :=
  ⟨Nat.lt_of_lt_of_le h.lt hb.size, fun j => (hb.cell (p := ⟨n, j, none⟩) h.lt).trans (h.cell j), fun j => (hb.frozen (p := ⟨n, j, none⟩) h.lt).trans (h.free j)⟩
theorem Loc.drew (h : Loc w n X) : Loc w.drew n X := h.below ⟨rfl, rfl, rfl, Nat.le_refl _, fun _ _ => rfl⟩
theorem Loc.drewN (h : Loc w n X) (k : Nat) : Loc (w.drewN k) n X := h.below ⟨rfl, rfl, rfl, Nat.le_refl _, fun _ _ => rfl⟩
theorem Loc.alloc (h : Loc w n X) (o : Obj) : Loc (w.alloc o) n X := h.below (below_alloc w o)
theorem Loc.set_ (h : Loc w n X) (i : Nat) (v : Value) : Loc (w.setCell ⟨n, i, none⟩ v) n (X.setIfInBounds i v) := by
  refine ⟨by rw [World.size_setCell]; exact h.lt, fun j => ?_, fun j => by rw [World.frozen?_setCell]; exact h.free j⟩
  by_cases hij : i = j
  · subst hij
    by_cases hi : i < X.size
    · rw [World.cell?_setCell_same _ _ _ (u := X[i]) (by rw [h.cell]; exact Array.getElem?_eq_getElem hi)]
      simp [hi]
    · rw [Array.getElem?_eq_none (by simp; omega)]
      have hc := h.cell i
      rw [Array.getElem?_eq_none (by omega)] at hc
      rcases hx : (w.setCell ⟨n, i, none⟩ v).cell? ⟨n, i, none⟩ with _ | u
      · rfl
      · exfalso
        simp only [World.setCell, World.cell?, Array.getElem?_modify] at hx hc
        cases hb : w.heap[n]? with
        | none => simp [hb] at hx
        | some o => cases o <;> simp_all
  · rw [World.cell?_setCell_other _ _ _ _ (fun e => hij (by injection e)), h.cell]
    simp [hij]
theorem Loc.far (h : Loc w n X) {p : Addr} (hp : p.block ≠ n) (v : Value) : Loc (w.setCell p v) n X :=
  ⟨by rw [World.size_setCell]; exact h.lt, fun j => (World.cell?_setCell_other _ _ _ _ (fun e => hp (by rw [e]))).trans (h.cell j), fun j => by rw [World.frozen?_setCell]; exact h.free j⟩
end


theorem bdrewN {B : Nat} {w w' : World} (h : Below B w w') (k : Nat) : Below B w (w'.drewN k) := ⟨h.os, h.tape, h.output, h.size, h.block⟩
theorem Sl.drewN {w : World} {size n : Nat} {A : Option Addr} {xs : List (List Value)} (h : Sl w size A n xs) (k : Nat) : Sl (w.drewN k) size A n xs := h
/-- the post of a call behind which nothing that was there has turned -/
theorem below_of_calls {w : World} (o : Obj) {w' : World} (h : Below (w.alloc o).heap.size (w.alloc o) w') : Below w.heap.size w w' :=
  (below_alloc w o).trans (h.mono (by simp))
end Go.Proofs.YtjncmlglhegnaaaGreatDoor
namespace Go.Proofs.YtjncmlglhegnaaaGreatDoor
open Go.RowKit

theorem locs1 {w w1 : World} {x : Array Value} {t0 : TypeId} (hb : Below (w.alloc (.cells x t0)).heap.size (w.alloc (.cells x t0)) w1) : Loc w1 (w.heap.size) x ∧ Below w.heap.size w w1 := by
  have h0 : Loc (w.alloc (.cells x t0)) (w.heap.size) x := by
    have h := Loc.new_ w x t0
    exact h
  exact ⟨h0.below hb, (below_alloc w _).trans (hb.mono (by simp only [World.size_alloc]; omega))⟩
theorem locs2 {w w1 : World} {x y : Array Value} {t0 t1 : TypeId} (hb : Below ((w.alloc (.cells x t0)).alloc (.cells y t1)).heap.size ((w.alloc (.cells x t0)).alloc (.cells y t1)) w1) : Loc w1 (w.heap.size) x ∧ Loc w1 (w.heap.size + 1) y ∧ Below w.heap.size w w1 := by
  have h0 : Loc (w.alloc (.cells x t0)) (w.heap.size) x := by
    have h := Loc.new_ w x t0
    exact h
  have h1 : Loc ((w.alloc (.cells x t0)).alloc (.cells y t1)) (w.heap.size + 1) y := by
    have h := Loc.new_ (w.alloc (.cells x t0)) y t1
    simpa only [World.size_alloc] using h
  exact ⟨(h0.alloc _).below hb, h1.below hb, ((below_alloc w _).alloc (by simp only [World.size_alloc]; omega) _).trans (hb.mono (by simp only [World.size_alloc]; omega))⟩

section
variable {w w' : World} {row : Option Nat}
theorem Loc.grown {n : Nat} {X : Array Value} (h : Loc w n X) (hg : w.grownBy w' row) (hne : row ≠ some n) : Loc w' n X := by
  have hb := hg.block n h.lt (fun e => hne e.symm)
  exact ⟨Nat.lt_of_lt_of_le h.lt hg.size, fun j => (World.cell?_of_block (w := w) (a := ⟨n, j, none⟩) hb).trans (h.cell j), fun j => (World.frozen?_of_block (w := w) (a := ⟨n, j, none⟩) hb).trans (h.free j)⟩
end
theorem own_ne {w : World} {base : Nat} {e : TypeId} {size n : Nat} {v : Value} {xs : List Value} (h : w.ownsRow base e size v n xs) {b : Nat} (hb : b < base) : v.ownBlock ≠ some b :=
  fun e => Nat.lt_irrefl _ (Nat.lt_of_lt_of_le hb (h.lt b e).1)
theorem Own.empty {w : World} {b base : Nat} {e : TypeId} {size : Nat} (h : w.heap.size = b) (hb : base ≤ b) : Own (w.alloc (.cells #[] e)) base e size (.slice (some ⟨b, 0, none⟩) 0 0) 0 [] := by
  subst h
  exact ⟨World.ownsRow_lit w #[] 0 hb (by simp [maxLen]) (by simp), by simp, rfl⟩
end Go.Proofs.YtjncmlglhegnaaaGreatDoor
namespace Go.Proofs.YtjncmlglhegnaaaGreatDoor
open Go.RowKit

/-- two slice values lie in two blocks -/
def Dis (x y : Value) : Prop := ∀ b, x.ownBlock = some b → y.ownBlock ≠ some b
theorem Dis.symm {x y : Value} (h : Dis x y) : Dis y x := fun b hy hx => h b hx hy
theorem Dis.none (y : Value) (n c : Nat) : Dis (.slice none n c) y := fun b h => by simp [Value.ownBlock] at h
/-- a fresh block is no old one -/
theorem Dis.fresh {x y : Value} {B : Nat} (hx : ∀ b, x.ownBlock = some b → B ≤ b) (hy : ∀ b, y.ownBlock = some b → b < B) : Dis x y := fun b h h' => Nat.lt_irrefl _ (Nat.lt_of_lt_of_le (hy b h') (hx b h))
theorem slice_block (D : Option Addr) (n cc : Nat) : (Value.slice D n cc).ownBlock = (Value.slice D 0 0).ownBlock := by cases D <;> rfl
theorem grownBy_setCell (w : World) (p : Addr) (v : Value) : w.grownBy (w.setCell p v) (some p.block) :=
  ⟨rfl, rfl, rfl, by rw [World.size_setCell]; exact Nat.le_refl _, fun k _ hne => Below.heap_setCell _ _ _ _ (fun e => hne (by rw [e]))⟩
theorem Own.sl' {w : World} {base : Nat} {e : TypeId} {size n m c : Nat} {A : Option Addr} {xs : List (List Value)} (h : Own w base e size (.slice A m c) n xs) : Sl w size A n xs := by
  obtain ⟨A', c', hv, hs⟩ := h.sl
  injection hv with h1 h2 h3
  subst h1
  exact hs
section
variable {w w' : World} {base : Nat} {e : TypeId} {size : Nat} {v : Value} {n : Nat} {xs : List (List Value)}
theorem Own.lt (h : Own w base e size v n xs) : ∀ b, v.ownBlock = some b → base ≤ b ∧ b < w.heap.size := fun b hb => h.1.lt b hb
theorem Own.other (h : Own w base e size v n xs) {p : Addr} (hp : v.ownBlock ≠ some p.block) (u : Value) : Own (w.setCell p u) base e size v n xs := h.kept (grownBy_setCell w p u) (.inr hp)
theorem Sl.grown {A : Option Addr} {row : Option Nat} (h : Sl w size A n xs) (hg : w.grownBy w' row) (hne : xs = [] ∨ ∀ ad, A = some ad → row ≠ some ad.block) : Sl w' size A n xs := by
  refine ⟨h.1, fun i x hx => ?_⟩
  obtain ⟨b, o, hA, hb, hc⟩ := h.2 i x hx
  rcases hne with rfl | hne
  · simp at hx
  refine ⟨b, o, hA, Nat.lt_of_lt_of_le hb hg.size, fun j v hv => ?_⟩
  exact (World.cell?_of_block (w := w) (a := ⟨b, _, none⟩) (hg.block b hb (fun e => hne _ hA e.symm))).trans (hc j v hv)
end
end Go.Proofs.YtjncmlglhegnaaaGreatDoor
