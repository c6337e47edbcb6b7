/- More words for memory: what a write to one row leaves alone. -/
import Derived.Test.YtnnnibkainlplaaDoorBase3
namespace Go.Proofs.YtnnnibkainlplaaDoor
open Go.RowKit

/-- two slice values lie in two blocks -/
def Dis (x y : Value) : Prop := ∀ b, x.ownBlock = some b → y.ownBlock ≠ some b
theorem Dis.symm {x y : Value} (h : Dis x y) : Dis y x := fun b hy hx => h b hx hy
theorem Dis.none (y : Value) (n c : Nat) : Dis (.slice none n c) y := fun b h => by simp [Value.ownBlock] at h
/-- a fresh block is no old one -/
theorem Dis.fresh {x y : Value} {B : Nat} (hx : ∀ b, x.ownBlock = some b → B ≤ b) (hy : ∀ b, y.ownBlock = some b → b < B) : Dis x y := fun b h h' => Nat.lt_irrefl _ (Nat.lt_of_lt_of_le (hy b h') (hx b h))
theorem slice_block (D : Option Addr) (n cc : Nat) : (Value.slice D n cc).ownBlock = (Value.slice D 0 0).ownBlock := by cases D <;> rfl
theorem grownBy_setCell (w : World) (p : Addr) (v : Value) : w.grownBy (w.setCell p v) (some p.block) :=
  ⟨rfl, rfl, rfl, by rw [World.size_setCell]; exact Nat.le_refl _, fun k _ hne => Below.heap_setCell _ _ _ _ (fun e => hne (by rw [e]))⟩
theorem grownBy_of_below {w w' : World} (hb : Below w.heap.size w w') : w.grownBy w' none := ⟨hb.os, hb.tape, hb.output, hb.size, fun k hk _ => hb.block k hk⟩
theorem Own.sl' {w : World} {base : Nat} {e : TypeId} {size n m c : Nat} {A : Option Addr} {xs : List (List Value)} (h : Own w base e size (.slice A m c) n xs) : Sl w size A n xs := by
  obtain ⟨A', c', hv, hs⟩ := h.sl
  injection hv with h1 h2 h3
  subst h1
  exact hs
section
variable {w w' : World} {base : Nat} {e : TypeId} {size : Nat} {v : Value} {n : Nat} {xs : List (List Value)}
theorem Own.lt (h : Own w base e size v n xs) : ∀ b, v.ownBlock = some b → base ≤ b ∧ b < w.heap.size := fun b hb => h.1.lt b hb
theorem Own.other (h : Own w base e size v n xs) {p : Addr} (hp : v.ownBlock ≠ some p.block) (u : Value) : Own (w.setCell p u) base e size v n xs := h.kept (grownBy_setCell w p u) (.inr hp)
theorem Sl.grown {A : Option Addr} {row : Option Nat} (h : Sl w size A n xs) (hg : w.grownBy w' row) (hne : xs = [] ∨ ∀ ad, A = some ad → row ≠ some ad.block) : Sl w' size A n xs := by
  refine ⟨h.1, fun i x hx => ?_⟩
  obtain ⟨b, o, hA, hb, hc⟩ := h.2 i x hx
  rcases hne with rfl | hne
  · simp at hx
  refine ⟨b, o, hA, Nat.lt_of_lt_of_le hb hg.size, fun j v hv => ?_⟩
  exact (World.cell?_of_block (w := w) (a := ⟨b, _, none⟩) (hg.block b hb (fun e => hne _ hA e.symm))).trans (hc j v hv)
/-- one element of an own slice of one-cell elements is written -/
theorem Own.stored1 {g c i : Nat} {vs : List Value} (h : Own w base e 1 (.slice (some ⟨g, 0, none⟩) n c) n (vs.map fun v => [v])) (hi : i < vs.length) (u : Value) :
    Own (w.setCell ⟨g, i, none⟩ u) base e 1 (.slice (some ⟨g, 0, none⟩) n c) n ((vs.set i u).map fun v => [v]) := by
  obtain ⟨x, hx⟩ : ∃ x, vs[i]? = some x := ⟨_, List.getElem?_eq_getElem hi⟩
  have h1 := h.stored (i := i) (j := 0) (x := [x]) (by rw [List.getElem?_map, hx]; rfl) (by omega) u
  rw [List.map_set]
  simpa using h1
theorem Own.newOne (w : World) (e : TypeId) (x : List Value) (hl : x.length = size) (hb : base ≤ w.heap.size) : Own (w.alloc (.cells x.toArray e)) base e size (.slice (some ⟨w.heap.size, 0, none⟩) 1 1) 1 [x] := by
  refine ⟨?_, by simpa using hl, rfl⟩
  have h := World.ownsRow_lit (base := base) (e := e) (size := size) w x.toArray 1 hb (by simp [maxLen]) (by simpa using hl)
  simpa using h
end
end Go.Proofs.YtnnnibkainlplaaDoor
