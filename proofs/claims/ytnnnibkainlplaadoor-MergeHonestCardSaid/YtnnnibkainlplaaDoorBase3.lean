/- Words for the line-writer: blocks made ahead of a call; what an append onto an own slice leaves alone. -/
import Derived.Test.YtnnnibkainlplaaDoorBase2
namespace Go.Proofs.YtnnnibkainlplaaDoor
open Go.RowKit

theorem locs1 {w w1 : World} {x : Array Value} {t0 : TypeId} (hb : Below (w.alloc (.cells x t0)).heap.size (w.alloc (.cells x t0)) w1) : Loc w1 (w.heap.size) x ∧ Below w.heap.size w w1 := by
  have h0 : Loc (w.alloc (.cells x t0)) (w.heap.size) x := by
    have h := Loc.new_ w x t0
    exact h
  exact ⟨h0.below hb, (below_alloc w _).trans (hb.mono (by simp only [World.size_alloc]; omega))⟩
theorem locs2 {w w1 : World} {x y : Array Value} {t0 t1 : TypeId} (hb : Below ((w.alloc (.cells x t0)).alloc (.cells y t1)).heap.size ((w.alloc (.cells x t0)).alloc (.cells y t1)) w1) : Loc w1 (w.heap.size) x ∧ Loc w1 (w.heap.size + 1) y ∧ Below w.heap.size w w1 := by
  have h0 : Loc (w.alloc (.cells x t0)) (w.heap.size) x := by
    have h := Loc.new_ w x t0
    exact h
  have h1 : Loc ((w.alloc (.cells x t0)).alloc (.cells y t1)) (w.heap.size + 1) y := by
    have h := Loc.new_ (w.alloc (.cells x t0)) y t1
    simpa only [World.size_alloc] using h
  exact ⟨(h0.alloc _).below hb, h1.below hb, ((below_alloc w _).alloc (by simp only [World.size_alloc]; omega) _).trans (hb.mono (by simp only [World.size_alloc]; omega))⟩
theorem locs3 {w w1 : World} {x y z : Array Value} {t0 t1 t2 : TypeId} (hb : Below (((w.alloc (.cells x t0)).alloc (.cells y t1)).alloc (.cells z t2)).heap.size (((w.alloc (.cells x t0)).alloc (.cells y t1)).alloc (.cells z t2)) w1) : Loc w1 (w.heap.size) x ∧ Loc w1 (w.heap.size + 1) y ∧ Loc w1 (w.heap.size + 1 + 1) z ∧ Below w.heap.size w w1 := by
  have h0 : Loc (w.alloc (.cells x t0)) (w.heap.size) x := by
    have h := Loc.new_ w x t0
    exact h
  have h1 : Loc ((w.alloc (.cells x t0)).alloc (.cells y t1)) (w.heap.size + 1) y := by
    have h := Loc.new_ (w.alloc (.cells x t0)) y t1
    simpa only [World.size_alloc] using h
  have h2 : Loc (((w.alloc (.cells x t0)).alloc (.cells y t1)).alloc (.cells z t2)) (w.heap.size + 1 + 1) z := by
    have h := Loc.new_ ((w.alloc (.cells x t0)).alloc (.cells y t1)) z t2
    simpa only [World.size_alloc] using h
  exact ⟨((h0.alloc _).alloc _).below hb, (h1.alloc _).below hb, h2.below hb, (((below_alloc w _).alloc (by simp only [World.size_alloc]; omega) _).alloc (by simp only [World.size_alloc]; omega) _).trans (hb.mono (by simp only [World.size_alloc]; omega))⟩
theorem locs4 {w w1 : World} {x y z u : Array Value} {t0 t1 t2 t3 : TypeId} (hb : Below ((((w.alloc (.cells x t0)).alloc (.cells y t1)).alloc (.cells z t2)).alloc (.cells u t3)).heap.size ((((w.alloc (.cells x t0)).alloc (.cells y t1)).alloc (.cells z t2)).alloc (.cells u t3)) w1) : Loc w1 (w.heap.size) x ∧ Loc w1 (w.heap.size + 1) y ∧ Loc w1 (w.heap.size + 1 + 1) z ∧ Loc w1 (w.heap.size + 1 + 1 + 1) u ∧ Below w.heap.size w w1 := by
  have h0 : Loc (w.alloc (.cells x t0)) (w.heap.size) x := by
    have h := Loc.new_ w x t0
    exact h
  have h1 : Loc ((w.alloc (.cells x t0)).alloc (.cells y t1)) (w.heap.size + 1) y := by
    have h := Loc.new_ (w.alloc (.cells x t0)) y t1
    simpa only [World.size_alloc] using h
  have h2 : Loc (((w.alloc (.cells x t0)).alloc (.cells y t1)).alloc (.cells z t2)) (w.heap.size + 1 + 1) z := by
    have h := Loc.new_ ((w.alloc (.cells x t0)).alloc (.cells y t1)) z t2
    simpa only [World.size_alloc] using h
  have h3 : Loc ((((w.alloc (.cells x t0)).alloc (.cells y t1)).alloc (.cells z t2)).alloc (.cells u t3)) (w.heap.size + 1 + 1 + 1) u := by
    have h := Loc.new_ (((w.alloc (.cells x t0)).alloc (.cells y t1)).alloc (.cells z t2)) u t3
    simpa only [World.size_alloc] using h
  exact ⟨(((h0.alloc _).alloc _).alloc _).below hb, ((h1.alloc _).alloc _).below hb, (h2.alloc _).below hb, h3.below hb, ((((below_alloc w _).alloc (by simp only [World.size_alloc]; omega) _).alloc (by simp only [World.size_alloc]; omega) _).alloc (by simp only [World.size_alloc]; omega) _).trans (hb.mono (by simp only [World.size_alloc]; omega))⟩
theorem locs5 {w w1 : World} {x y z u v : Array Value} {t0 t1 t2 t3 t4 : TypeId} (hb : Below (((((w.alloc (.cells x t0)).alloc (.cells y t1)).alloc (.cells z t2)).alloc (.cells u t3)).alloc (.cells v t4)).heap.size (((((w.alloc (.cells x t0)).alloc (.cells y t1)).alloc (.cells z t2)).alloc (.cells u t3)).alloc (.cells v t4)) w1) : Loc w1 (w.heap.size) x ∧ Loc w1 (w.heap.size + 1) y ∧ Loc w1 (w.heap.size + 1 + 1) z ∧ Loc w1 (w.heap.size + 1 + 1 + 1) u ∧ Loc w1 (w.heap.size + 1 + 1 + 1 + 1) v ∧ Below w.heap.size w w1 := by
  have h0 : Loc (w.alloc (.cells x t0)) (w.heap.size) x := by
    have h := Loc.new_ w x t0
    exact h
  have h1 : Loc ((w.alloc (.cells x t0)).alloc (.cells y t1)) (w.heap.size + 1) y := by
    have h := Loc.new_ (w.alloc (.cells x t0)) y t1
    simpa only [World.size_alloc] using h
  have h2 : Loc (((w.alloc (.cells x t0)).alloc (.cells y t1)).alloc (.cells z t2)) (w.heap.size + 1 + 1) z := by
    have h := Loc.new_ ((w.alloc (.cells x t0)).alloc (.cells y t1)) z t2
    simpa only [World.size_alloc] using h
  have h3 : Loc ((((w.alloc (.cells x t0)).alloc (.cells y t1)).alloc (.cells z t2)).alloc (.cells u t3)) (w.heap.size + 1 + 1 + 1) u := by
    have h := Loc.new_ (((w.alloc (.cells x t0)).alloc (.cells y t1)).alloc (.cells z t2)) u t3
    simpa only [World.size_alloc] using h
  have h4 : Loc (((((w.alloc (.cells x t0)).alloc (.cells y t1)).alloc (.cells z t2)).alloc (.cells u t3)).alloc (.cells v t4)) (w.heap.size + 1 + 1 + 1 + 1) v := by
    have h := Loc.new_ ((((w.alloc (.cells x t0)).alloc (.cells y t1)).alloc (.cells z t2)).alloc (.cells u t3)) v t4
    simpa only [World.size_alloc] using h
  exact ⟨((((h0.alloc _).alloc _).alloc _).alloc _).below hb, (((h1.alloc _).alloc _).alloc _).below hb, ((h2.alloc _).alloc _).below hb, (h3.alloc _).below hb, h4.below hb, (((((below_alloc w _).alloc (by simp only [World.size_alloc]; omega) _).alloc (by simp only [World.size_alloc]; omega) _).alloc (by simp only [World.size_alloc]; omega) _).alloc (by simp only [World.size_alloc]; omega) _).trans (hb.mono (by simp only [World.size_alloc]; omega))⟩
theorem locs6 {w w1 : World} {x y z u v s : Array Value} {t0 t1 t2 t3 t4 t5 : TypeId} (hb : Below ((((((w.alloc (.cells x t0)).alloc (.cells y t1)).alloc (.cells z t2)).alloc (.cells u t3)).alloc (.cells v t4)).alloc (.cells s t5)).heap.size ((((((w.alloc (.cells x t0)).alloc (.cells y t1)).alloc (.cells z t2)).alloc (.cells u t3)).alloc (.cells v t4)).alloc (.cells s t5)) w1) : Loc w1 (w.heap.size) x ∧ Loc w1 (w.heap.size + 1) y ∧ Loc w1 (w.heap.size + 1 + 1) z ∧ Loc w1 (w.heap.size + 1 + 1 + 1) u ∧ Loc w1 (w.heap.size + 1 + 1 + 1 + 1) v ∧ Loc w1 (w.heap.size + 1 + 1 + 1 + 1 + 1) s ∧ Below w.heap.size w w1 := by
  have h0 : Loc (w.alloc (.cells x t0)) (w.heap.size) x := by
    have h := Loc.new_ w x t0
    exact h
  have h1 : Loc ((w.alloc (.cells x t0)).alloc (.cells y t1)) (w.heap.size + 1) y := by
    have h := Loc.new_ (w.alloc (.cells x t0)) y t1
    simpa only [World.size_alloc] using h
  have h2 : Loc (((w.alloc (.cells x t0)).alloc (.cells y t1)).alloc (.cells z t2)) (w.heap.size + 1 + 1) z := by
    have h := Loc.new_ ((w.alloc (.cells x t0)).alloc (.cells y t1)) z t2
    simpa only [World.size_alloc] using h
  have h3 : Loc ((((w.alloc (.cells x t0)).alloc (.cells y t1)).alloc (.cells z t2)).alloc (.cells u t3)) (w.heap.size + 1 + 1 + 1) u := by
    have h := Loc.new_ (((w.alloc (.cells x t0)).alloc (.cells y t1)).alloc (.cells z t2)) u t3
    simpa only [World.size_alloc] using h
  have h4 : Loc (((((w.alloc (.cells x t0)).alloc (.cells y t1)).alloc (.cells z t2)).alloc (.cells u t3)).alloc (.cells v t4)) (w.heap.size + 1 + 1 + 1 + 1) v := by
    have h := Loc.new_ ((((w.alloc (.cells x t0)).alloc (.cells y t1)).alloc (.cells z t2)).alloc (.cells u t3)) v t4
    simpa only [World.size_alloc] using h
  have h5 : Loc ((((((w.alloc (.cells x t0)).alloc (.cells y t1)).alloc (.cells z t2)).alloc (.cells u t3)).alloc (.cells v t4)).alloc (.cells s t5)) (w.heap.size + 1 + 1 + 1 + 1 + 1) s := by
    have h := Loc.new_ (((((w.alloc (.cells x t0)).alloc (.cells y t1)).alloc (.cells z t2)).alloc (.cells u t3)).alloc (.cells v t4)) s t5
    simpa only [World.size_alloc] using h
  exact ⟨(((((h0.alloc _).alloc _).alloc _).alloc _).alloc _).below hb, ((((h1.alloc _).alloc _).alloc _).alloc _).below hb, (((h2.alloc _).alloc _).alloc _).below hb, ((h3.alloc _).alloc _).below hb, (h4.alloc _).below hb, h5.below hb, ((((((below_alloc w _).alloc (by simp only [World.size_alloc]; omega) _).alloc (by simp only [World.size_alloc]; omega) _).alloc (by simp only [World.size_alloc]; omega) _).alloc (by simp only [World.size_alloc]; omega) _).alloc (by simp only [World.size_alloc]; omega) _).trans (hb.mono (by simp only [World.size_alloc]; omega))⟩
theorem locs7 {w w1 : World} {x y z u v s r : Array Value} {t0 t1 t2 t3 t4 t5 t6 : TypeId} (hb : Below (((((((w.alloc (.cells x t0)).alloc (.cells y t1)).alloc (.cells z t2)).alloc (.cells u t3)).alloc (.cells v t4)).alloc (.cells s t5)).alloc (.cells r t6)).heap.size (((((((w.alloc (.cells x t0)).alloc (.cells y t1)).alloc (.cells z t2)).alloc (.cells u t3)).alloc (.cells v t4)).alloc (.cells s t5)).alloc (.cells r t6)) w1) : Loc w1 (w.heap.size) x ∧ Loc w1 (w.heap.size + 1) y ∧ Loc w1 (w.heap.size + 1 + 1) z ∧ Loc w1 (w.heap.size + 1 + 1 + 1) u ∧ Loc w1 (w.heap.size + 1 + 1 + 1 + 1) v ∧ Loc w1 (w.heap.size + 1 + 1 + 1 + 1 + 1) s ∧ Loc w1 (w.heap.size + 1 + 1 + 1 + 1 + 1 + 1) r ∧ Below w.heap.size w w1 := by
  have h0 : Loc (w.alloc (.cells x t0)) (w.heap.size) x := by
    have h := Loc.new_ w x t0
    exact h
  have h1 : Loc ((w.alloc (.cells x t0)).alloc (.cells y t1)) (w.heap.size + 1) y := by
    have h := Loc.new_ (w.alloc (.cells x t0)) y t1
    simpa only [World.size_alloc] using h
  have h2 : Loc (((w.alloc (.cells x t0)).alloc (.cells y t1)).alloc (.cells z t2)) (w.heap.size + 1 + 1) z := by
    have h := Loc.new_ ((w.alloc (.cells x t0)).alloc (.cells y t1)) z t2
    simpa only [World.size_alloc] using h
  have h3 : Loc ((((w.alloc (.cells x t0)).alloc (.cells y t1)).alloc (.cells z t2)).alloc (.cells u t3)) (w.heap.size + 1 + 1 + 1) u := by
    have h := Loc.new_ (((w.alloc (.cells x t0)).alloc (.cells y t1)).alloc (.cells z t2)) u t3
    simpa only [World.size_alloc] using h
  have h4 : Loc (((((w.alloc (.cells x t0)).alloc (.cells y t1)).alloc (.cells z t2)).alloc (.cells u t3)).alloc (.cells v t4)) (w.heap.size + 1 + 1 + 1 + 1) v := by
    have h := Loc.new_ ((((w.alloc (.cells x t0)).alloc (.cells y t1)).alloc (.cells z t2)).alloc (.cells u t3)) v t4
    simpa only [World.size_alloc] using h
  have h5 : Loc ((((((w.alloc (.cells x t0)).alloc (.cells y t1)).alloc (.cells z t2)).alloc (.cells u t3)).alloc (.cells v t4)).alloc (.cells s t5)) (w.heap.size + 1 + 1 + 1 + 1 + 1) s := by
    have h := Loc.new_ (((((w.alloc (.cells x t0)).alloc (.cells y t1)).alloc (.cells z t2)).alloc (.cells u t3)).alloc (.cells v t4)) s t5
    simpa only [World.size_alloc] using h
  have h6 : Loc (((((((w.alloc (.cells x t0)).alloc (.cells y t1)).alloc (.cells z t2)).alloc (.cells u t3)).alloc (.cells v t4)).alloc (.cells s t5)).alloc (.cells r t6)) (w.heap.size + 1 + 1 + 1 + 1 + 1 + 1) r := by
    have h := Loc.new_ ((((((w.alloc (.cells x t0)).alloc (.cells y t1)).alloc (.cells z t2)).alloc (.cells u t3)).alloc (.cells v t4)).alloc (.cells s t5)) r t6
    simpa only [World.size_alloc] using h
  exact ⟨((((((h0.alloc _).alloc _).alloc _).alloc _).alloc _).alloc _).below hb, (((((h1.alloc _).alloc _).alloc _).alloc _).alloc _).below hb, ((((h2.alloc _).alloc _).alloc _).alloc _).below hb, (((h3.alloc _).alloc _).alloc _).below hb, ((h4.alloc _).alloc _).below hb, (h5.alloc _).below hb, h6.below hb, (((((((below_alloc w _).alloc (by simp only [World.size_alloc]; omega) _).alloc (by simp only [World.size_alloc]; omega) _).alloc (by simp only [World.size_alloc]; omega) _).alloc (by simp only [World.size_alloc]; omega) _).alloc (by simp only [World.size_alloc]; omega) _).alloc (by simp only [World.size_alloc]; omega) _).trans (hb.mono (by simp only [World.size_alloc]; omega))⟩

section
variable {w w' : World} {row : Option Nat}
theorem Loc.grown {n : Nat} {X : Array Value} (h : Loc w n X) (hg : w.grownBy w' row) (hne : row ≠ some n) : Loc w' n X := by
  have hb := hg.block n h.lt (fun e => hne e.symm)
  exact ⟨Nat.lt_of_lt_of_le h.lt hg.size, fun j => (World.cell?_of_block (w := w) (a := ⟨n, j, none⟩) hb).trans (h.cell j), fun j => (World.frozen?_of_block (w := w) (a := ⟨n, j, none⟩) hb).trans (h.free j)⟩
end
theorem own_ne {w : World} {base : Nat} {e : TypeId} {size n : Nat} {v : Value} {xs : List Value} (h : w.ownsRow base e size v n xs) {b : Nat} (hb : b < base) : v.ownBlock ≠ some b :=
  fun e => Nat.lt_irrefl _ (Nat.lt_of_lt_of_le hb (h.lt b e).1)
theorem Own.empty {w : World} {b base : Nat} {e : TypeId} {size : Nat} (h : w.heap.size = b) (hb : base ≤ b) : Own (w.alloc (.cells #[] e)) base e size (.slice (some ⟨b, 0, none⟩) 0 0) 0 [] := by
  subst h
  exact ⟨World.ownsRow_lit w #[] 0 hb (by simp [maxLen]) (by simp), by simp, rfl⟩
end Go.Proofs.YtnnnibkainlplaaDoor
