/- Words for memory that all walks of this seat use: a slice that reads as a list of elements, a slice of the call's own, and how both are kept while memory grows. -/
/- More words for memory: variables of the call's own. -/
/- Words for the line-writer: blocks made ahead of a call; what an append onto an own slice leaves alone. -/
/- More words for memory: what a write to one row leaves alone. -/
import Derived.Test.YtjncmlglhegnaaaGreatDoorRows
import Derived.WalkKit
import Derived.WalkSpells
import Derived.WalkLawsBesides
import Derived.Lib.Hide
import Derived.Maps.AppendAt
import Derived.Deep.AppendLies
namespace Go.Proofs.YtjncmlglhegnaaaGreatDoor
open Go.RowKit

/-- The slice '.slice A n c' holds the elements xs, each of 'size' cells, in the world w. -/
def Sl (w : World) (size : Nat) (A : Option Addr) (n : Nat) (xs : List (List Value)) : Prop :=
  xs.length = n ∧ ∀ i x, xs[i]? = some x → ∃ b o, A = some ⟨b, o, none⟩ ∧ b < w.heap.size ∧ ∀ j v, x[j]? = some v → w.cell? ⟨b, o + i * size + j, none⟩ = some v

section
variable {w w' : World} {size n : Nat} {A : Option Addr} {xs : List (List Value)}
theorem Sl.nil_ (w : World) (size : Nat) (A : Option Addr) : Sl w size A 0 [] := ⟨rfl, fun i x h => by simp at h⟩
theorem Sl.len (h : Sl w size A n xs) : xs.length = n := h.1
theorem Sl.keep (h : Sl w size A n xs) (hz : w.heap.size ≤ w'.heap.size) (hk : ∀ p : Addr, p.block < w.heap.size → w'.cell? p = w.cell? p) : Sl w' size A n xs :=
  ⟨h.1, fun i x hx => by
    obtain ⟨b, o, hA, hb, hc⟩ := h.2 i x hx
    exact ⟨b, o, hA, by omega, fun j v hv => (hk _ hb).trans (hc j v hv)⟩⟩
theorem Sl.below (h : Sl w size A n xs) (hb : Below w.heap.size w w') : Sl w' size A n xs := h.keep hb.size fun _ hp => hb.cell hp
theorem Sl.drew (h : Sl w size A n xs) : Sl w.drew size A n xs := h
theorem Sl.alloc (h : Sl w size A n xs) (o : Obj) : Sl (w.alloc o) size A n xs := h.keep (by simp) fun p hp => World.cell?_alloc_lt w o p hp
end

/- a block below the heap's size behind several new blocks: one condition alone, on the first world -/
section
variable {w : World}
@[go_sem] theorem cell_past2 (o0 o1 : Obj) (n i : Nat) (hn : n < w.heap.size) : ((w.alloc o0).alloc o1).cell? ⟨n, i, none⟩ = w.cell? ⟨n, i, none⟩ := by
  rw [World.cell?_alloc_past _ _ _ (by first | omega | (simp only [World.size_alloc]; omega))]; rw [World.cell?_alloc_past _ _ _ (by first | omega | (simp only [World.size_alloc]; omega))]
@[go_sem] theorem frozen_past2 (o0 o1 : Obj) (n i : Nat) (hn : n < w.heap.size) : ((w.alloc o0).alloc o1).frozen? ⟨n, i, none⟩ = w.frozen? ⟨n, i, none⟩ := by
  rw [World.frozen?_alloc_past _ _ _ (by first | omega | (simp only [World.size_alloc]; omega))]; rw [World.frozen?_alloc_past _ _ _ (by first | omega | (simp only [World.size_alloc]; omega))]
@[go_sem] theorem set_past2 (o0 o1 : Obj) (n i : Nat) (v : Value) (hn : n < w.heap.size) : ((w.alloc o0).alloc o1).setCell ⟨n, i, none⟩ v = (((w.setCell ⟨n, i, none⟩ v).alloc o0).alloc o1) := by
  rw [World.setCell_alloc_past _ _ _ _ (by first | omega | (simp only [World.size_alloc]; omega))]; rw [World.setCell_alloc_past _ _ _ _ (by first | omega | (simp only [World.size_alloc]; omega))]
@[go_sem] theorem cell_past3 (o0 o1 o2 : Obj) (n i : Nat) (hn : n < w.heap.size) : (((w.alloc o0).alloc o1).alloc o2).cell? ⟨n, i, none⟩ = w.cell? ⟨n, i, none⟩ := by
  rw [World.cell?_alloc_past _ _ _ (by first | omega | (simp only [World.size_alloc]; omega))]; rw [World.cell?_alloc_past _ _ _ (by first | omega | (simp only [World.size_alloc]; omega))]; rw [World.cell?_alloc_past _ _ _ (by first | omega | (simp only [World.size_alloc]; omega))]
@[go_sem] theorem frozen_past3 (o0 o1 o2 : Obj) (n i : Nat) (hn : n < w.heap.size) : (((w.alloc o0).alloc o1).alloc o2).frozen? ⟨n, i, none⟩ = w.frozen? ⟨n, i, none⟩ := by
  rw [World.frozen?_alloc_past _ _ _ (by first | omega | (simp only [World.size_alloc]; omega))]; rw [World.frozen?_alloc_past _ _ _ (by first | omega | (simp only [World.size_alloc]; omega))]; rw [World.frozen?_alloc_past _ _ _ (by first | omega | (simp only [World.size_alloc]; omega))]
@[go_sem] theorem set_past3 (o0 o1 o2 : Obj) (n i : Nat) (v : Value) (hn : n < w.heap.size) : (((w.alloc o0).alloc o1).alloc o2).setCell ⟨n, i, none⟩ v = ((((w.setCell ⟨n, i, none⟩ v).alloc o0).alloc o1).alloc o2) := by
  rw [World.setCell_alloc_past _ _ _ _ (by first | omega | (simp only [World.size_alloc]; omega))]; rw [World.setCell_alloc_past _ _ _ _ (by first | omega | (simp only [World.size_alloc]; omega))]; rw [World.setCell_alloc_past _ _ _ _ (by first | omega | (simp only [World.size_alloc]; omega))]
@[go_sem] theorem cell_past4 (o0 o1 o2 o3 : Obj) (n i : Nat) (hn : n < w.heap.size) : ((((w.alloc o0).alloc o1).alloc o2).alloc o3).cell? ⟨n, i, none⟩ = w.cell? ⟨n, i, none⟩ := by
  rw [World.cell?_alloc_past _ _ _ (by first | omega | (simp only [World.size_alloc]; omega))]; rw [World.cell?_alloc_past _ _ _ (by first | omega | (simp only [World.size_alloc]; omega))]; rw [World.cell?_alloc_past _ _ _ (by first | omega | (simp only [World.size_alloc]; omega))]; rw [World.cell?_alloc_past _ _ _ (by first | omega | (simp only [World.size_alloc]; omega))]
@[go_sem] theorem frozen_past4 (o0 o1 o2 o3 : Obj) (n i : Nat) (hn : n < w.heap.size) : ((((w.alloc o0).alloc o1).alloc o2).alloc o3).frozen? ⟨n, i, none⟩ = w.frozen? ⟨n, i, none⟩ := by
  rw [World.frozen?_alloc_past _ _ _ (by first | omega | (simp only [World.size_alloc]; omega))]; rw [World.frozen?_alloc_past _ _ _ (by first | omega | (simp only [World.size_alloc]; omega))]; rw [World.frozen?_alloc_past _ _ _ (by first | omega | (simp only [World.size_alloc]; omega))]; rw [World.frozen?_alloc_past _ _ _ (by first | omega | (simp only [World.size_alloc]; omega))]
@[go_sem] theorem set_past4 (o0 o1 o2 o3 : Obj) (n i : Nat) (v : Value) (hn : n < w.heap.size) : ((((w.alloc o0).alloc o1).alloc o2).alloc o3).setCell ⟨n, i, none⟩ v = (((((w.setCell ⟨n, i, none⟩ v).alloc o0).alloc o1).alloc o2).alloc o3) := by
  rw [World.setCell_alloc_past _ _ _ _ (by first | omega | (simp only [World.size_alloc]; omega))]; rw [World.setCell_alloc_past _ _ _ _ (by first | omega | (simp only [World.size_alloc]; omega))]; rw [World.setCell_alloc_past _ _ _ _ (by first | omega | (simp only [World.size_alloc]; omega))]; rw [World.setCell_alloc_past _ _ _ _ (by first | omega | (simp only [World.size_alloc]; omega))]
@[go_sem] theorem cell_past5 (o0 o1 o2 o3 o4 : Obj) (n i : Nat) (hn : n < w.heap.size) : (((((w.alloc o0).alloc o1).alloc o2).alloc o3).alloc o4).cell? ⟨n, i, none⟩ = w.cell? ⟨n, i, none⟩ := by
  rw [World.cell?_alloc_past _ _ _ (by first | omega | (simp only [World.size_alloc]; omega))]; rw [World.cell?_alloc_past _ _ _ (by first | omega | (simp only [World.size_alloc]; omega))]; rw [World.cell?_alloc_past _ _ _ (by first | omega | (simp only [World.size_alloc]; omega))]; rw [World.cell?_alloc_past _ _ _ (by first | omega | (simp only [World.size_alloc]; omega))]; rw [World.cell?_alloc_past _ _ _ (by first | omega | (simp only [World.size_alloc]; omega))]
@[go_sem] theorem frozen_past5 (o0 o1 o2 o3 o4 : Obj) (n i : Nat) (hn : n < w.heap.size) : (((((w.alloc o0).alloc o1).alloc o2).alloc o3).alloc o4).frozen? ⟨n, i, none⟩ = w.frozen? ⟨n, i, none⟩ := by
  rw [World.frozen?_alloc_past _ _ _ (by first | omega | (simp only [World.size_alloc]; omega))]; rw [World.frozen?_alloc_past _ _ _ (by first | omega | (simp only [World.size_alloc]; omega))]; rw [World.frozen?_alloc_past _ _ _ (by first | omega | (simp only [World.size_alloc]; omega))]; rw [World.frozen?_alloc_past _ _ _ (by first | omega | (simp only [World.size_alloc]; omega))]; rw [World.frozen?_alloc_past _ _ _ (by first | omega | (simp only [World.size_alloc]; omega))]
@[go_sem] theorem set_past5 (o0 o1 o2 o3 o4 : Obj) (n i : Nat) (v : Value) (hn : n < w.heap.size) : (((((w.alloc o0).alloc o1).alloc o2).alloc o3).alloc o4).setCell ⟨n, i, none⟩ v = ((((((w.setCell ⟨n, i, none⟩ v).alloc o0).alloc o1).alloc o2).alloc o3).alloc o4) := by
  rw [World.setCell_alloc_past _ _ _ _ (by first | omega | (simp only [World.size_alloc]; omega))]; rw [World.setCell_alloc_past _ _ _ _ (by first | omega | (simp only [World.size_alloc]; omega))]; rw [World.setCell_alloc_past _ _ _ _ (by first | omega | (simp only [World.size_alloc]; omega))]; rw [World.setCell_alloc_past _ _ _ _ (by first | omega | (simp only [World.size_alloc]; omega))]; rw [World.setCell_alloc_past _ _ _ _ (by first | omega | (simp only [World.size_alloc]; omega))]
@[go_sem] theorem cell_past6 (o0 o1 o2 o3 o4 o5 : Obj) (n i : Nat) (hn : n < w.heap.size) : ((((((w.alloc o0).alloc o1).alloc o2).alloc o3).alloc o4).alloc o5).cell? ⟨n, i, none⟩ = w.cell? ⟨n, i, none⟩ := by
  rw [World.cell?_alloc_past _ _ _ (by first | omega | (simp only [World.size_alloc]; omega))]; rw [World.cell?_alloc_past _ _ _ (by first | omega | (simp only [World.size_alloc]; omega))]; rw [World.cell?_alloc_past _ _ _ (by first | omega | (simp only [World.size_alloc]; omega))]; rw [World.cell?_alloc_past _ _ _ (by first | omega | (simp only [World.size_alloc]; omega))]; rw [World.cell?_alloc_past _ _ _ (by first | omega | (simp only [World.size_alloc]; omega))]; rw [World.cell?_alloc_past _ _ _ (by first | omega | (simp only [World.size_alloc]; omega))]
@[go_sem] theorem frozen_past6 (o0 o1 o2 o3 o4 o5 : Obj) (n i : Nat) (hn : n < w.heap.size) : ((((((w.alloc o0).alloc o1).alloc o2).alloc o3).alloc o4).alloc o5).frozen? ⟨n, i, none⟩ = w.frozen? ⟨n, i, none⟩ := by
  rw [World.frozen?_alloc_past _ _ _ (by first | omega | (simp only [World.size_alloc]; omega))]; rw [World.frozen?_alloc_past _ _ _ (by first | omega | (simp only [World.size_alloc]; omega))]; rw [World.frozen?_alloc_past _ _ _ (by first | omega | (simp only [World.size_alloc]; omega))]; rw [World.frozen?_alloc_past _ _ _ (by first | omega | (simp only [World.size_alloc]; omega))]; rw [World.frozen?_alloc_past _ _ _ (by first | omega | (simp only [World.size_alloc]; omega))]; rw [World.frozen?_alloc_past _ _ _ (by first | omega | (simp only [World.size_alloc]; omega))]
@[go_sem] theorem set_past6 (o0 o1 o2 o3 o4 o5 : Obj) (n i : Nat) (v : Value) (hn : n < w.heap.size) : ((((((w.alloc o0).alloc o1).alloc o2).alloc o3).alloc o4).alloc o5).setCell ⟨n, i, none⟩ v = (((((((w.setCell ⟨n, i, none⟩ v).alloc o0).alloc o1).alloc o2).alloc o3).alloc o4).alloc o5) := by
  rw [World.setCell_alloc_past _ _ _ _ (by first | omega | (simp only [World.size_alloc]; omega))]; rw [World.setCell_alloc_past _ _ _ _ (by first | omega | (simp only [World.size_alloc]; omega))]; rw [World.setCell_alloc_past _ _ _ _ (by first | omega | (simp only [World.size_alloc]; omega))]; rw [World.setCell_alloc_past _ _ _ _ (by first | omega | (simp only [World.size_alloc]; omega))]; rw [World.setCell_alloc_past _ _ _ _ (by first | omega | (simp only [World.size_alloc]; omega))]; rw [World.setCell_alloc_past _ _ _ _ (by first | omega | (simp only [World.size_alloc]; omega))]
@[go_sem] theorem cell_past7 (o0 o1 o2 o3 o4 o5 o6 : Obj) (n i : Nat) (hn : n < w.heap.size) : (((((((w.alloc o0).alloc o1).alloc o2).alloc o3).alloc o4).alloc o5).alloc o6).cell? ⟨n, i, none⟩ = w.cell? ⟨n, i, none⟩ := by
  rw [World.cell?_alloc_past _ _ _ (by first | omega | (simp only [World.size_alloc]; omega))]; rw [World.cell?_alloc_past _ _ _ (by first | omega | (simp only [World.size_alloc]; omega))]; rw [World.cell?_alloc_past _ _ _ (by first | omega | (simp only [World.size_alloc]; omega))]; rw [World.cell?_alloc_past _ _ _ (by first | omega | (simp only [World.size_alloc]; omega))]; rw [World.cell?_alloc_past _ _ _ (by first | omega | (simp only [World.size_alloc]; omega))]; rw [World.cell?_alloc_past _ _ _ (by first | omega | (simp only [World.size_alloc]; omega))]; rw [World.cell?_alloc_past _ _ _ (by first | omega | (simp only [World.size_alloc]; omega))]
@[go_sem] theorem frozen_past7 (o0 o1 o2 o3 o4 o5 o6 : Obj) (n i : Nat) (hn : n < w.heap.size) : (((((((w.alloc o0).alloc o1).alloc o2).alloc o3).alloc o4).alloc o5).alloc o6).frozen? ⟨n, i, none⟩ = w.frozen? ⟨n, i, none⟩ := by
  rw [World.frozen?_alloc_past _ _ _ (by first | omega | (simp only [World.size_alloc]; omega))]; rw [World.frozen?_alloc_past _ _ _ (by first | omega | (simp only [World.size_alloc]; omega))]; rw [World.frozen?_alloc_past _ _ _ (by first | omega | (simp only [World.size_alloc]; omega))]; rw [World.frozen?_alloc_past _ _ _ (by first | omega | (simp only [World.size_alloc]; omega))]; rw [World.frozen?_alloc_past _ _ _ (by first | omega | (simp only [World.size_alloc]; omega))]; rw [World.frozen?_alloc_past _ _ _ (by first | omega | (simp only [World.size_alloc]; omega))]; rw [World.frozen?_alloc_past _ _ _ (by first | omega | (simp only [World.size_alloc]; omega))]
@[go_sem] theorem set_past7 (o0 o1 o2 o3 o4 o5 o6 : Obj) (n i : Nat) (v : Value) (hn : n < w.heap.size) : (((((((w.alloc o0).alloc o1).alloc o2).alloc o3).alloc o4).alloc o5).alloc o6).setCell ⟨n, i, none⟩ v = ((((((((w.setCell ⟨n, i, none⟩ v).alloc o0).alloc o1).alloc o2).alloc o3).alloc o4).alloc o5).alloc o6) := by
  rw [World.setCell_alloc_past _ _ _ _ (by first | omega | (simp only [World.size_alloc]; omega))]; rw [World.setCell_alloc_past _ _ _ _ (by first | omega | (simp only [World.size_alloc]; omega))]; rw [World.setCell_alloc_past _ _ _ _ (by first | omega | (simp only [World.size_alloc]; omega))]; rw [World.setCell_alloc_past _ _ _ _ (by first | omega | (simp only [World.size_alloc]; omega))]; rw [World.setCell_alloc_past _ _ _ _ (by first | omega | (simp only [World.size_alloc]; omega))]; rw [World.setCell_alloc_past _ _ _ _ (by first | omega | (simp only [World.size_alloc]; omega))]; rw [World.setCell_alloc_past _ _ _ _ (by first | omega | (simp only [World.size_alloc]; omega))]
end

/-- A slice that a call hands back: it holds the elements xs in the world w', and lies in memory that the call has made (w: the world ahead of the call). -/
def SlF (w w' : World) (size : Nat) (A : Option Addr) (n : Nat) (xs : List (List Value)) : Prop := Sl w' size A n xs ∧ ∀ ad, A = some ad → w.heap.size ≤ ad.block
theorem SlF.far {w w' : World} {size n : Nat} {A : Option Addr} {xs : List (List Value)} (h : SlF w w' size A n xs) {p : Addr} (hp : p.block < w.heap.size) (v : Value) : SlF w (w'.setCell p v) size A n xs :=
  ⟨⟨h.1.1, fun i x hx => by
    obtain ⟨b, o, hA, hb, hc⟩ := h.1.2 i x hx
    have hf := h.2 _ hA
    refine ⟨b, o, hA, by rw [World.size_setCell]; exact hb, fun j v hv => ?_⟩
    rw [World.cell?_setCell_other _ _ _ _ (fun e => by rw [e] at hp; exact absurd hp (by simp at hf ⊢; omega))]
    exact hc j v hv⟩, h.2⟩
theorem SlF.mono {w0 w w' : World} {size n : Nat} {A : Option Addr} {xs : List (List Value)} (h : SlF w w' size A n xs) (hz : w0.heap.size ≤ w.heap.size) : SlF w0 w' size A n xs := ⟨h.1, fun ad e => Nat.le_trans hz (h.2 ad e)⟩
theorem SlF.nil_ (w w' : World) (size : Nat) : SlF w w' size none 0 [] := ⟨Sl.nil_ _ _ _, fun ad e => by cases e⟩
/-- Behind a call that keeps all that was there: each old cell, each old mark reads as before. -/
theorem bcell {W w1 : World} (hb : Below W.heap.size W w1) : (∀ b o, b < W.heap.size → w1.cell? ⟨b, o, none⟩ = W.cell? ⟨b, o, none⟩) ∧ (∀ b o, b < W.heap.size → w1.frozen? ⟨b, o, none⟩ = W.frozen? ⟨b, o, none⟩) :=
  ⟨fun b o h => hb.cell (p := ⟨b, o, none⟩) h, fun b o h => hb.frozen (p := ⟨b, o, none⟩) h⟩

theorem undrew {B : Nat} {W w1 : World} (h : Below B W.drew w1) : Below B W w1 := ⟨h.os, h.tape, h.output, h.size, h.block⟩

theorem ret_bool {a b : Bool} (h : a = b) : Ending.returned (.bool a) = .returned (.bool b) := by rw [h]
theorem below_alloc (w : World) (o : Obj) : Below w.heap.size w (w.alloc o) := (Below.refl _ _).alloc (Nat.le_refl _) o

/- lists of equally long lists -/
theorem flat_len {size : Nat} : ∀ (xs : List (List Value)), (∀ x ∈ xs, x.length = size) → xs.flatten.length = xs.length * size
  | [], _ => by simp
  | x :: r, h => by
    have h0 := h x (by simp)
    have := flat_len r fun y hy => h y (by simp [hy])
    simp only [List.flatten_cons, List.length_append, List.length_cons, h0, this, Nat.add_mul]; omega
theorem flat_get {size : Nat} : ∀ (xs : List (List Value)), (∀ x ∈ xs, x.length = size) → ∀ (i j : Nat) (x : List Value) (v : Value), xs[i]? = some x → x[j]? = some v → xs.flatten[i * size + j]? = some v
  | [], _, i, j, x, v, hx, _ => by simp at hx
  | y :: r, h, 0, j, x, v, hx, hv => by
    simp at hx
    subst hx
    simp only [List.flatten_cons, Nat.zero_mul, Nat.zero_add]
    rw [List.getElem?_append_left (by have := (List.getElem?_eq_some_iff.1 hv).1; exact this)]
    exact hv
  | y :: r, h, i + 1, j, x, v, hx, hv => by
    have h0 := h y (by simp)
    simp only [List.flatten_cons]
    rw [List.getElem?_append_right (by rw [h0, Nat.add_mul]; omega), h0]
    have e : (i + 1) * size + j - size = i * size + j := by rw [Nat.add_mul]; omega
    rw [e]
    exact flat_get r (fun z hz => h z (by simp [hz])) i j x v (by simpa using hx) hv
theorem flat_inv {size : Nat} : ∀ (xs : List (List Value)), (∀ x ∈ xs, x.length = size) → ∀ (k : Nat) (v : Value), xs.flatten[k]? = some v → ∃ i j x, xs[i]? = some x ∧ x[j]? = some v ∧ k = i * size + j
  | [], _, k, v, hv => by simp at hv
  | y :: r, h, k, v, hv => by
    have h0 := h y (by simp)
    simp only [List.flatten_cons] at hv
    by_cases hk : k < y.length
    · rw [List.getElem?_append_left hk] at hv
      exact ⟨0, k, y, rfl, hv, by omega⟩
    · rw [List.getElem?_append_right (by omega)] at hv
      obtain ⟨i, j, x, h1, h2, h3⟩ := flat_inv r (fun z hz => h z (by simp [hz])) _ v hv
      exact ⟨i + 1, j, x, by simpa using h1, h2, by rw [Nat.add_mul]; omega⟩

/-- The slice value v is the call's own (made from block 'base' on), and holds the elements xs. -/
def Own (w : World) (base : Nat) (e : TypeId) (size : Nat) (v : Value) (n : Nat) (xs : List (List Value)) : Prop :=
  w.ownsRow base e size v n xs.flatten ∧ (∀ x ∈ xs, x.length = size) ∧ xs.length = n

section
variable {w w' : World} {base : Nat} {e : TypeId} {size : Nat} {v : Value} {n : Nat} {xs : List (List Value)}
theorem Own.nil_ (w : World) (base : Nat) (e : TypeId) (size : Nat) : Own w base e size (.slice none 0 0) 0 [] := ⟨World.ownsRow_nil w base e size, by simp, rfl⟩
theorem Own.sl (h : Own w base e size v n xs) : ∃ A c, v = .slice A n c ∧ Sl w size A n xs := by
  obtain ⟨h1, h2, h3⟩ := h
  rcases h1.2 with ⟨rfl, rfl⟩ | ⟨g, cap, cur, rfl, hb, hg, hnc, hcm, hcs, htake⟩
  · have : xs = [] := List.eq_nil_of_length_eq_zero h3
    subst this
    exact ⟨none, 0, rfl, Sl.nil_ w size none⟩
  · refine ⟨_, cap, rfl, h3, fun i x hx => ⟨g, 0, rfl, (Array.getElem?_eq_some_iff.1 hg).1, fun j u hu => ?_⟩⟩
    have hf := flat_get xs h2 i j x u hx hu
    rw [← htake] at hf
    rw [cell_of_row w g _ cur e (0, 0) hg, Nat.zero_add]
    rw [List.getElem?_take] at hf
    split at hf
    · simpa using hf
    · cases hf
theorem Sl.new_ (w : World) (e : TypeId) (x : List Value) : Sl (w.alloc (.cells x.toArray e)) x.length (some ⟨w.heap.size, 0, none⟩) 1 [x] :=
  ⟨rfl, fun i y hy => by
    match i, hy with
    | 0, hy =>
      simp at hy
      subst hy
      exact ⟨w.heap.size, 0, rfl, by simp, fun j v hv => by rw [Nat.zero_mul, Nat.zero_add, World.cell?_alloc_new]; simpa using hv⟩⟩
/-- ownership is kept by whatever leaves this row alone -/
theorem Own.kept {row : Option Nat} (h : Own w base e size v n xs) (hg : w.grownBy w' row) (hne : v.ownBlock = none ∨ v.ownBlock ≠ row) : Own w' base e size v n xs := ⟨h.1.kept hg hne, h.2⟩
theorem Own.alloc (h : Own w base e size v n xs) (o : Obj) : Own (w.alloc o) base e size v n xs := ⟨h.1.alloc o, h.2⟩
theorem Own.drew (h : Own w base e size v n xs) : Own w.drew base e size v n xs := ⟨h.1.drew, h.2⟩
theorem Own.below (h : Own w base e size v n xs) (hb : Below w.heap.size w w') : Own w' base e size v n xs :=
  h.kept (row := none) ⟨hb.os, hb.tape, hb.output, hb.size, fun k hk _ => hb.block k hk⟩ (by cases hv : v.ownBlock <;> simp)
theorem Own.mono {base' : Nat} (h : Own w base e size v n xs) (hB : base' ≤ base) : Own w base' e size v n xs := by
  refine ⟨⟨h.1.1, ?_⟩, h.2⟩
  rcases h.1.2 with h' | ⟨g, cap, cur, hv, hb, r⟩
  · exact .inl h'
  · exact .inr ⟨g, cap, cur, hv, by omega, r⟩
theorem Own.setBelow (h : Own w base e size v n xs) {p : Addr} (hp : p.block < base) (u : Value) : Own (w.setCell p u) base e size v n xs := ⟨ownsRow_setCell_below h.1 hp u, h.2⟩
theorem Own.fresh {A : Option Addr} {m c : Nat} (h : Own w base e size (.slice A m c) n xs) : ∀ ad, A = some ad → base ≤ ad.block := by
  rintro ad rfl
  exact (h.1.lt ad.block rfl).1
/-- behind an append onto an own slice: what lies below its base is as it was -/
theorem Own.below_grown {B : Nat} {a : World} (h : Own w base e size v n xs) (hB : B ≤ base) (hs : B ≤ w.heap.size) (hb : Below B a w) (hg : w.grownBy w' v.ownBlock) : Below B a w' :=
  hb.grown hg hs fun k hk => Nat.le_trans hB (h.1.lt k hk).1
/-- an element of an own slice, to be written: where it lies, that it is not frozen, and what holds behind the store -/
theorem Own.at_ {i : Nat} {x : List Value} (h : Own w base e size v n xs) (hx : xs[i]? = some x) :
    ∃ g c, v = .slice (some ⟨g, 0, none⟩) n c ∧ base ≤ g ∧ g < w.heap.size ∧ (∀ j u, x[j]? = some u → w.cell? ⟨g, i * size + j, none⟩ = some u) ∧ (∀ j, w.frozen? ⟨g, j, none⟩ = false) := by
  obtain ⟨A, c, rfl, hsl⟩ := h.sl
  rcases h.1.2 with ⟨hv, rfl⟩ | ⟨g, cap, cur, hv, hb, hg, _⟩
  · have := h.2.2
    have : xs = [] := List.eq_nil_of_length_eq_zero this
    subst this
    simp at hx
  · simp only [Value.slice.injEq, true_and] at hv
    obtain ⟨rfl, rfl⟩ := hv
    obtain ⟨b, o, he, hbb, hc⟩ := hsl.2 i x hx
    simp only [Option.some.injEq, Addr.mk.injEq, and_true] at he
    obtain ⟨rfl, rfl⟩ := he
    exact ⟨g, c, rfl, hb, hbb, fun j u hu => by have := hc j u hu; rwa [Nat.zero_add] at this, fun j => frozen_of_row w g j cur e hg⟩
theorem flat_set {size : Nat} (j : Nat) (u : Value) (hj : j < size) : ∀ (xs : List (List Value)), (∀ x ∈ xs, x.length = size) → ∀ (i : Nat) (x : List Value), xs[i]? = some x → xs.flatten.set (i * size + j) u = (xs.set i (x.set j u)).flatten
  | [], _, i, x, hx => by simp at hx
  | y :: r, h, 0, x, hx => by
    simp at hx
    subst hx
    have h0 := h y (by simp)
    simp only [List.flatten_cons, Nat.zero_mul, Nat.zero_add, List.set_cons_zero]
    rw [List.set_append, if_pos (by omega)]
  | y :: r, h, i + 1, x, hx => by
    have h0 := h y (by simp)
    simp only [List.flatten_cons, List.set_cons_succ]
    rw [List.set_append, if_neg (by rw [h0, Nat.add_mul]; omega), h0]
    have e : (i + 1) * size + j - size = i * size + j := by rw [Nat.add_mul]; omega
    rw [e, flat_set j u hj r (fun z hz => h z (by simp [hz])) i x (by simpa using hx)]
theorem Own.stored {g c i j : Nat} {x : List Value} (h : Own w base e size (.slice (some ⟨g, 0, none⟩) n c) n xs) (hx : xs[i]? = some x) (hj : j < size) (u : Value) :
    Own (w.setCell ⟨g, i * size + j, none⟩ u) base e size (.slice (some ⟨g, 0, none⟩) n c) n (xs.set i (x.set j u)) := by
  obtain ⟨h1, h2, h3⟩ := h
  have hs := (h1.stored (i * size + j) u).1
  rw [flat_set j u hj xs h2 i x hx] at hs
  refine ⟨hs, fun y hy => ?_, by simpa using h3⟩
  rcases List.mem_or_eq_of_mem_set hy with hy | rfl
  · exact h2 y hy
  · rw [List.length_set]; exact h2 x (List.mem_of_getElem? hx)
end

section
variable {P : Program} (w : World)
/-- append onto a slice of the call's own, whatever slice is appended -/
theorem run_append_sl (base : Nat) (t ty e : TypeId) (i : TypeInfo) (z : Value) (size bytes : Nat) (ht : P.underlying t = some (.slice e)) (hi : P.info? e = some i) (hz : i.zero = some z)
    (hsize : i.size = size) (hby : i.bytes = bytes) (hzs : z.cells.size = size) (hsz : 0 < size)
    (v : Value) (n : Nat) (xs : List (List Value)) (hown : Own w base e size v n xs)
    (A : Option Addr) (m c : Nat) (news : List (List Value)) (hr : Sl w size A m news) (hl : ∀ x ∈ news, x.length = size) (h1 : ∀ x ∈ news, ∀ u ∈ x, u.oneCell' = true)
    (h63 : n + m ≤ maxLen) (hbytes : (n + m) * bytes ≤ 140737488355328) (hbase : base ≤ w.heap.size) :
    ∃ v' w', (Builtin.append_ #[t, t] ty #[v, .slice A m c]).run P w = .ok v' w' ∧ Own w' base e size v' (n + m) (xs ++ news) ∧ w.grownBy w' v.ownBlock ∧
      (v'.ownBlock = v.ownBlock ∨ v'.ownBlock = some w.heap.size) := by
  have hall : ∀ x ∈ xs ++ news, x.length = size := fun x hx => (List.mem_append.1 hx).elim (hown.2.1 x) (hl x)
  have hcount : (xs ++ news).length = n + m := by rw [List.length_append, hown.2.2, hr.1]
  have hf : news.flatten.length = m * size := by rw [flat_len news hl, hr.1]
  have hcells : ∀ ad, A = some ad → ∀ j u, news.flatten[j]? = some u → w.cell? (ad.add j) = some u := by
    intro ad hA j u hu
    obtain ⟨i', r, x, h2, h3, rfl⟩ := flat_inv news hl j u hu
    obtain ⟨b, o, he, _, hc⟩ := hr.2 i' x h2
    rw [hA] at he
    injection he with he
    subst he
    have hadd : (⟨b, o, none⟩ : Addr).add (i' * size + r) = ⟨b, o + i' * size + r, none⟩ := by
      rw [Nat.add_assoc]; unfold Addr.add; split <;> simp_all
    rw [hadd]
    exact hc r u h3
  rcases A with _ | ad
  · have hm : m = 0 := by
      rcases Nat.eq_zero_or_pos m with h0 | h0
      · exact h0
      · exfalso
        rcases hx : news[0]? with _ | x
        · rw [List.getElem?_eq_none_iff, hr.1] at hx; omega
        · obtain ⟨b, o, he, _⟩ := hr.2 0 x hx
          cases he
    subst hm
    have hn : news = [] := List.eq_nil_of_length_eq_zero hr.1
    subst hn
    refine ⟨v, w, ?_, by simpa using hown, World.grownBy.refl w _, .inl rfl⟩
    rcases hown.1.2 with ⟨rfl, rfl⟩ | ⟨g, cap, cur, rfl, _, _, hnc, _⟩
    · simp [Builtin.append_, run_underlying ht, sizeOf, typeInfo, hi, Builtin.lenOf, Builtin.firstCells]
    · simp [Builtin.append_, run_underlying ht, sizeOf, typeInfo, hi, Builtin.lenOf, Builtin.firstCells, hnc, storeCells]
  · obtain ⟨v', w', hrun, h2, h3, _, h5⟩ := run_append_own_at (P := P) w base t ty e i z size bytes ht hi hz hsize hby hzs hsz v n xs.flatten hown.1 ad m c news.flatten hf (hcells ad rfl) (fun u hu => by
      obtain ⟨x, hx, hux⟩ := List.mem_flatten.1 hu
      exact h1 x hx u hux) h63 hbytes hbase
    exact ⟨v', w', hrun, ⟨by rw [List.flatten_append]; exact h2, hall, hcount⟩, h3, h5⟩

/-- the same at the operation -/
theorem wpList_append_sl {ops : Array Oper} {rest : List Oper} {o : Oper} {a : Act} {Q : Exit → Act → World → Prop} (hgd : o.guard = none) (s x : Operand) (t : TypeId)
    (ho : o.op = .call { callee := .builtin .append, args := #[s, x], argTypes := #[t, t] })
    (base : Nat) (e : TypeId) (i : TypeInfo) (z : Value) (size bytes : Nat) (ht : P.underlying t = some (.slice e)) (hi : P.info? e = some i) (hz : i.zero = some z)
    (hsize : i.size = size) (hby : i.bytes = bytes) (hzs : z.cells.size = size) (hsz : 0 < size)
    (v : Value) (n : Nat) (xs : List (List Value)) (hs : a.eval s = v) (hown : Own w base e size v n xs)
    (A : Option Addr) (m c : Nat) (news : List (List Value)) (hx : a.eval x = .slice A m c) (hr : Sl w size A m news) (hl : ∀ x ∈ news, x.length = size) (h1 : ∀ x ∈ news, ∀ u ∈ x, u.oneCell' = true)
    (h63 : n + m ≤ maxLen) (hbytes : (n + m) * bytes ≤ 140737488355328) (hbase : base ≤ w.heap.size)
    (h : ∀ A' c' w', Own w' base e size (.slice A' (n + m) c') (n + m) (xs ++ news) → w.grownBy w' v.ownBlock → ((Value.slice A' (n + m) c').ownBlock = v.ownBlock ∨ (Value.slice A' (n + m) c').ownBlock = some w.heap.size) → wpList P ops Q rest (a.put o.dst (.slice A' (n + m) c')) w') :
    wpList P ops Q (o :: rest) a w := by
  refine wpList_plain hgd fun K hK => ?_
  obtain ⟨v', w', hrun, h2, h3, h4⟩ := run_append_sl (P := P) w base t o.type e i z size bytes ht hi hz hsize hby hzs hsz v n xs hown A m c news hr hl h1 h63 hbytes hbase
  obtain ⟨A', c', rfl, _⟩ := h2.sl
  unfold Oper.wp execOp
  simp only [ho, resolve, invoke, builtin, Sem.run_bind, Sem.run_pure, Result.andThen_ok, List.map_toArray, List.map_cons, List.map_nil, hs, hx, hrun]
  exact hK _ _ (h A' c' w' h2 h3 h4)
/-- the same as one step of a region that draws its order -/
theorem step_append_sl {ops : Array Oper} {o : Oper} {a : Act} {K : Act → World → Prop} {Q : Exit → Act → World → Prop} {E : Prop} (hgd : o.guard = none) (s x : Operand) (t : TypeId)
    (ho : o.op = .call { callee := .builtin .append, args := #[s, x], argTypes := #[t, t] })
    (base : Nat) (e : TypeId) (i : TypeInfo) (z : Value) (size bytes : Nat) (ht : P.underlying t = some (.slice e)) (hi : P.info? e = some i) (hz : i.zero = some z)
    (hsize : i.size = size) (hby : i.bytes = bytes) (hzs : z.cells.size = size) (hsz : 0 < size)
    (v : Value) (n : Nat) (xs : List (List Value)) (hs : a.eval s = v) (hown : Own w base e size v n xs)
    (A : Option Addr) (m c : Nat) (news : List (List Value)) (hx : a.eval x = .slice A m c) (hr : Sl w size A m news) (hl : ∀ x ∈ news, x.length = size) (h1 : ∀ x ∈ news, ∀ u ∈ x, u.oneCell' = true)
    (h63 : n + m ≤ maxLen) (hbytes : (n + m) * bytes ≤ 140737488355328) (hbase : base ≤ w.heap.size)
    (h : ∀ A' c' w', Own w' base e size (.slice A' (n + m) c') (n + m) (xs ++ news) → w.grownBy w' v.ownBlock → ((Value.slice A' (n + m) c').ownBlock = v.ownBlock ∨ (Value.slice A' (n + m) c').ownBlock = some w.heap.size) → K (a.put o.dst (.slice A' (n + m) c')) w') :
    if Region.wanted o (yielded ops a.tmps) = true then Oper.wp P o a w K Q else E := by
  have hw : Region.wanted o (yielded ops a.tmps) = true := by simp [Region.wanted, hgd]
  rw [if_pos hw]
  obtain ⟨v', w', hrun, h2, h3, h4⟩ := run_append_sl (P := P) w base t o.type e i z size bytes ht hi hz hsize hby hzs hsz v n xs hown A m c news hr hl h1 h63 hbytes hbase
  obtain ⟨A', c', rfl, _⟩ := h2.sl
  unfold Oper.wp execOp
  simp only [ho, resolve, invoke, builtin, Sem.run_bind, Sem.run_pure, Result.andThen_ok, List.map_toArray, List.map_cons, List.map_nil, hs, hx, hrun]
  exact h A' c' w' h2 h3 h4
end

end Go.Proofs.YtjncmlglhegnaaaGreatDoor
namespace Go.Proofs.YtjncmlglhegnaaaGreatDoor
open Go.RowKit

/-- A variable of the call's own: the block n holds just the cells X, to be read and written. -/
structure Loc (w : World) (n : Nat) (X : Array Value) : Prop where
  lt : n < w.heap.size
  cell : ∀ j, w.cell? ⟨n, j, none⟩ = X[j]?
  free : ∀ j, w.frozen? ⟨n, j, none⟩ = false
section
variable {w w' : World} {n : Nat} {X : Array Value}
theorem Loc.new_ (w : World) (X : Array Value) (t : TypeId) : Loc (w.alloc (.cells X t)) w.heap.size X :=
  ⟨by simp, fun j => World.cell?_alloc_at _ _ _ _ rfl, fun j => World.frozen?_alloc_at _ _ _ _ rfl⟩
theorem Loc.below (h : Loc w n X) (hb : Below w.heap.size w w') : Loc w' n X :=
  ⟨Nat.lt_of_lt_of_le h.lt hb.size, fun j => (hb.cell (p := ⟨n, j, none⟩) h.lt).trans (h.cell j), fun j => (hb.frozen (p := ⟨n, j, none⟩) h.lt).trans (h.free j)⟩
theorem Loc.drew (h : Loc w n X) : Loc w.drew n X := h.below ⟨rfl, rfl, rfl, Nat.le_refl _, fun _ _ => rfl⟩
theorem Loc.drewN (h : Loc w n X) (k : Nat) : Loc (w.drewN k) n X := h.below ⟨rfl, rfl, rfl, Nat.le_refl _, fun _ _ => rfl⟩
theorem Loc.alloc (h : Loc w n X) (o : Obj) : Loc (w.alloc o) n X := h.below (below_alloc w o)
theorem Loc.set_ (h : Loc w n X) (i : Nat) (v : Value) : Loc (w.setCell ⟨n, i, none⟩ v) n (X.setIfInBounds i v) := by
  refine ⟨by rw [World.size_setCell]; exact h.lt, fun j => ?_, fun j => by rw [World.frozen?_setCell]; exact h.free j⟩
  by_cases hij : i = j
  · subst hij
    by_cases hi : i < X.size
    · rw [World.cell?_setCell_same _ _ _ (u := X[i]) (by rw [h.cell]; exact Array.getElem?_eq_getElem hi)]
      simp [hi]
    · rw [Array.getElem?_eq_none (by simp; omega)]
      have hc := h.cell i
      rw [Array.getElem?_eq_none (by omega)] at hc
      rcases hx : (w.setCell ⟨n, i, none⟩ v).cell? ⟨n, i, none⟩ with _ | u
      · rfl
      · exfalso
        simp only [World.setCell, World.cell?, Array.getElem?_modify] at hx hc
        cases hb : w.heap[n]? with
        | none => simp [hb] at hx
        | some o => cases o <;> simp_all
  · rw [World.cell?_setCell_other _ _ _ _ (fun e => hij (by injection e)), h.cell]
    simp [hij]
theorem Loc.far (h : Loc w n X) {p : Addr} (hp : p.block ≠ n) (v : Value) : Loc (w.setCell p v) n X :=
  ⟨by rw [World.size_setCell]; exact h.lt, fun j => (World.cell?_setCell_other _ _ _ _ (fun e => hp (by rw [e]))).trans (h.cell j), fun j => by rw [World.frozen?_setCell]; exact h.free j⟩
end


theorem bdrewN {B : Nat} {w w' : World} (h : Below B w w') (k : Nat) : Below B w (w'.drewN k) := ⟨h.os, h.tape, h.output, h.size, h.block⟩
theorem Sl.drewN {w : World} {size n : Nat} {A : Option Addr} {xs : List (List Value)} (h : Sl w size A n xs) (k : Nat) : Sl (w.drewN k) size A n xs := h
/-- the post of a call behind which nothing that was there has turned -/
theorem below_of_calls {w : World} (o : Obj) {w' : World} (h : Below (w.alloc o).heap.size (w.alloc o) w') : Below w.heap.size w w' :=
  (below_alloc w o).trans (h.mono (by simp))
end Go.Proofs.YtjncmlglhegnaaaGreatDoor
namespace Go.Proofs.YtjncmlglhegnaaaGreatDoor
open Go.RowKit

theorem locs1 {w w1 : World} {x : Array Value} {t0 : TypeId} (hb : Below (w.alloc (.cells x t0)).heap.size (w.alloc (.cells x t0)) w1) : Loc w1 (w.heap.size) x ∧ Below w.heap.size w w1 := by
  have h0 : Loc (w.alloc (.cells x t0)) (w.heap.size) x := by
    have h := Loc.new_ w x t0
    exact h
  exact ⟨h0.below hb, (below_alloc w _).trans (hb.mono (by simp only [World.size_alloc]; omega))⟩

section
variable {w w' : World} {row : Option Nat}
theorem Loc.grown {n : Nat} {X : Array Value} (h : Loc w n X) (hg : w.grownBy w' row) (hne : row ≠ some n) : Loc w' n X := by
  have hb := hg.block n h.lt (fun e => hne e.symm)
  exact ⟨Nat.lt_of_lt_of_le h.lt hg.size, fun j => (World.cell?_of_block (w := w) (a := ⟨n, j, none⟩) hb).trans (h.cell j), fun j => (World.frozen?_of_block (w := w) (a := ⟨n, j, none⟩) hb).trans (h.free j)⟩
end
theorem own_ne {w : World} {base : Nat} {e : TypeId} {size n : Nat} {v : Value} {xs : List Value} (h : w.ownsRow base e size v n xs) {b : Nat} (hb : b < base) : v.ownBlock ≠ some b :=
  fun e => Nat.lt_irrefl _ (Nat.lt_of_lt_of_le hb (h.lt b e).1)
theorem Own.empty {w : World} {b base : Nat} {e : TypeId} {size : Nat} (h : w.heap.size = b) (hb : base ≤ b) : Own (w.alloc (.cells #[] e)) base e size (.slice (some ⟨b, 0, none⟩) 0 0) 0 [] := by
  subst h
  exact ⟨World.ownsRow_lit w #[] 0 hb (by simp [maxLen]) (by simp), by simp, rfl⟩
end Go.Proofs.YtjncmlglhegnaaaGreatDoor
namespace Go.Proofs.YtjncmlglhegnaaaGreatDoor
open Go.RowKit

/-- two slice values lie in two blocks -/
def Dis (x y : Value) : Prop := ∀ b, x.ownBlock = some b → y.ownBlock ≠ some b
theorem Dis.symm {x y : Value} (h : Dis x y) : Dis y x := fun b hy hx => h b hx hy
theorem Dis.none (y : Value) (n c : Nat) : Dis (.slice none n c) y := fun b h => by simp [Value.ownBlock] at h
/-- a fresh block is no old one -/
theorem Dis.fresh {x y : Value} {B : Nat} (hx : ∀ b, x.ownBlock = some b → B ≤ b) (hy : ∀ b, y.ownBlock = some b → b < B) : Dis x y := fun b h h' => Nat.lt_irrefl _ (Nat.lt_of_lt_of_le (hy b h') (hx b h))
theorem slice_block (D : Option Addr) (n cc : Nat) : (Value.slice D n cc).ownBlock = (Value.slice D 0 0).ownBlock := by cases D <;> rfl
theorem grownBy_setCell (w : World) (p : Addr) (v : Value) : w.grownBy (w.setCell p v) (some p.block) :=
  ⟨rfl, rfl, rfl, by rw [World.size_setCell]; exact Nat.le_refl _, fun k _ hne => Below.heap_setCell _ _ _ _ (fun e => hne (by rw [e]))⟩
theorem Own.sl' {w : World} {base : Nat} {e : TypeId} {size n m c : Nat} {A : Option Addr} {xs : List (List Value)} (h : Own w base e size (.slice A m c) n xs) : Sl w size A n xs := by
  obtain ⟨A', c', hv, hs⟩ := h.sl
  injection hv with h1 h2 h3
  subst h1
  exact hs
section
variable {w w' : World} {base : Nat} {e : TypeId} {size : Nat} {v : Value} {n : Nat} {xs : List (List Value)}
theorem Own.lt (h : Own w base e size v n xs) : ∀ b, v.ownBlock = some b → base ≤ b ∧ b < w.heap.size := fun b hb => h.1.lt b hb
theorem Own.other (h : Own w base e size v n xs) {p : Addr} (hp : v.ownBlock ≠ some p.block) (u : Value) : Own (w.setCell p u) base e size v n xs := h.kept (grownBy_setCell w p u) (.inr hp)
theorem Sl.grown {A : Option Addr} {row : Option Nat} (h : Sl w size A n xs) (hg : w.grownBy w' row) (hne : xs = [] ∨ ∀ ad, A = some ad → row ≠ some ad.block) : Sl w' size A n xs := by
  refine ⟨h.1, fun i x hx => ?_⟩
  obtain ⟨b, o, hA, hb, hc⟩ := h.2 i x hx
  rcases hne with rfl | hne
  · simp at hx
  refine ⟨b, o, hA, Nat.lt_of_lt_of_le hb hg.size, fun j v hv => ?_⟩
  exact (World.cell?_of_block (w := w) (a := ⟨b, _, none⟩) (hg.block b hb (fun e => hne _ hA e.symm))).trans (hc j v hv)
end
end Go.Proofs.YtjncmlglhegnaaaGreatDoor
