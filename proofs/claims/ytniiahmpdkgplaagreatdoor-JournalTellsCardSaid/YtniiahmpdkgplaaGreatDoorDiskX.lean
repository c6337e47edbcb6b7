/- disk: New, a disk with its memory, what a call may write. -/
import Derived.Test.YtniiahmpdkgplaaGreatDoorDiskO
import Derived.Test.YtniiahmpdkgplaaGreatDoorDiskP2
import Derived.Test.YtniiahmpdkgplaaGreatDoorMapR
import Derived.Carry
namespace Go.Proofs.YtniiahmpdkgplaaGreatDoor
open Go.RowKit

/-- what a call may have written, and what belongs to the disk behind it -/
structure Ext (F F' : Nat → Prop) (w w' : World) : Prop where
  keeps : Keeps F w w'
  sub : ∀ k, F k → F' k
  sup : ∀ k, F' k → Plus F w w' k
theorem Ext.refl (F : Nat → Prop) (w : World) : Ext F F w w := ⟨Keeps.refl _ _, fun _ h => h, fun _ h => .inl h⟩
theorem Ext.trans {F F1 F2 : Nat → Prop} {w w1 w2 : World} (h : Ext F F1 w w1) (k : Ext F1 F2 w1 w2) : Ext F F2 w w2 :=
  ⟨h.keeps.trans (k.keeps.mono h.sup), fun i hi => k.sub i (h.sub i hi), fun i hi => by
    rcases k.sup i hi with h1 | ⟨h1, h2⟩
    · rcases h.sup i h1 with h3 | ⟨h3, h4⟩
      · exact .inl h3
      · exact .inr ⟨h3, Nat.lt_of_lt_of_le h4 k.keeps.size⟩
    · exact .inr ⟨Nat.le_trans h.keeps.size h1, h2⟩⟩
theorem Ext.same {F : Nat → Prop} {w w' : World} (h : Keeps F w w') : Ext F F w w' := ⟨h, fun _ h => h, fun _ h => .inl h⟩
def Dsk (w : World) (F : Nat → Prop) (B : Nat) (d : DV) : Prop := ∃ mf ms Q cq K ck, DiskAt w F B d mf ms Q cq K ck
/-- the disk's keep list lies where it lay, or in new memory -/
def KK (B : Nat) (w w' : World) : Prop := w'.cell? ⟨B, 6, none⟩ = w.cell? ⟨B, 6, none⟩ ∨ ∀ A n c, w'.cell? ⟨B, 6, none⟩ = some (.slice A n c) → ∀ ad, A = some ad → w.heap.size ≤ ad.block
theorem KK.refl (B : Nat) (w : World) : KK B w w := .inl rfl
theorem KK.trans {B : Nat} {w w1 w2 : World} (h : KK B w w1) (hz : w.heap.size ≤ w1.heap.size) (k : KK B w1 w2) : KK B w w2 := by
  rcases k with k | k
  · rcases h with h | h
    · exact .inl (k.trans h)
    · exact .inr fun A n c e => h A n c (by rw [← k]; exact e)
  · exact .inr fun A n c e ad he => Nat.le_trans hz (k A n c e ad he)
theorem KK.below {B : Nat} {w w' : World} (hb : Below w.heap.size w w') (hB : B < w.heap.size) : KK B w w' := .inl (hb.cell (p := ⟨B, 6, none⟩) hB)
theorem kk_of {w w' : World} {F F' : Nat → Prop} {B : Nat} {d d' : DV} {mf ms mf' ms' : Nat} {Q Q' : Option Addr} {cq cq' : Nat} {K : Option Addr} {ck : Nat} (h : DiskAt w F B d mf ms Q cq K ck) (h' : DiskAt w' F' B d' mf' ms' Q' cq' K ck) (e : d'.keep = d.keep) : KK B w w' := by
  have h1 := h.loc.cell 6
  have h2 := h'.loc.cell 6
  rw [e] at h2
  exact .inl (h2.trans h1.symm)
/-- behind a call: the disk is d -/
def DskTo (F : Nat → Prop) (w : World) (B : Nat) (d : DV) (w' : World) : Prop := ∃ F', Dsk w' F' B d ∧ Ext F F' w w' ∧ KK B w w'
theorem MapAt.new_ (w : World) : MapAt (w.alloc (.map #[] 0)) w.heap.size [] := ⟨#[], 0, (MapKept.heap_alloc w _).1, rfl, by simp, by simp⟩
theorem MapAt.below {w w' : World} {b : Nat} {es : List (Value × Value)} (h : MapAt w b es) (hb : Below w.heap.size w w') : MapAt w' b es := h.grown (row := none) ⟨hb.os, hb.tape, hb.output, hb.size, fun k hk _ => hb.block k hk⟩ (by simp)
theorem MapAt.alloc {w : World} {b : Nat} {es : List (Value × Value)} (h : MapAt w b es) (o : Obj) : MapAt (w.alloc o) b es := h.below (below_alloc w o)
set_option maxRecDepth 100000 in
set_option maxHeartbeats 400000 in
theorem New_any (w : World) :
    Calls Tryz.prog 6 #[] w fun e w' => ∃ B, e = .returned (.pointer (some ⟨B, 0, none⟩)) ∧ Dsk w' (fun k => w.heap.size ≤ k ∧ k < w'.heap.size) B newD ∧ Below w.heap.size w w' := by
  have hmm := @run_makeMap Tryz.prog
  go_enter Tryz.func6, Tryz.ntmps6
  go_wp2_with (fail)
  go_ret
  refine ⟨_, rfl, ⟨w.heap.size, w.heap.size + 1, none, 0, none, 0, ?_⟩, ((below_alloc w _).alloc (by first | omega | (simp <;> omega)) _).alloc (by first | omega | (simp <;> omega)) _⟩
  have h1 : MapAt (w.alloc (.map #[] 0)) w.heap.size [] := MapAt.new_ w
  have h2 : MapAt ((w.alloc (.map #[] 0)).alloc (.map #[] 0)) (w.heap.size + 1) [] := by
    have h := MapAt.new_ (w.alloc (.map #[] 0))
    simpa only [World.size_alloc] using h
  refine ⟨?_, ((h1.alloc _).alloc _), h2.alloc _, Own.nil_ _ _ _ _, Sl.nil_ _ _ _, (by first | omega | (simp <;> omega)), (by first | omega | (simp <;> omega)), (by first | omega | (simp <;> omega)), fun b hb => by simp [Value.ownBlock] at hb, fun h => absurd rfl h, by omega, by simp [Value.ownBlock], fun b hb => hb.2⟩
  have h := Loc.new_ ((w.alloc (.map #[] 0)).alloc (.map #[] 0)) #[.map (some w.heap.size), .slice none 0 0, .map (some (w.heap.size + 1)), .int .i64 0, .bool false, .int .i64 0, .slice none 0 0] 60
  simp only [World.size_alloc] at h
  exact h
end Go.Proofs.YtniiahmpdkgplaaGreatDoor
