/- Facts that are read alone, as a thing of Sep: they rest on some blocks. -/
import Derived.Test.YtjncmlglhegnaaaGreatDoorSep
namespace Go.Proofs.YtjncmlglhegnaaaGreatDoor
open Go.RowKit

/-- a fact of the world that rests on some blocks alone -/
def seesR (φ : World → Prop) : Res where
  P := fun w F => (∀ k, F k → k < w.heap.size) ∧ ∀ w', w.heap.size ≤ w'.heap.size → (∀ k, F k → w'.heap[k]? = w.heap[k]?) → φ w'
  lt := fun w F h => h.1
  keep := fun w w' F h hz hb => ⟨fun k hk => Nat.lt_of_lt_of_le (h.1 k hk) hz, fun w'' hz' hb' => h.2 w'' (Nat.le_trans hz hz') fun k hk => (hb' k hk).trans (hb k hk)⟩
/-- it rests on the blocks between lo and the end alone -/
def Rests (lo : Nat) (w : World) (φ : World → Prop) : Prop := ∀ w', w.heap.size ≤ w'.heap.size → (∀ k, lo ≤ k → k < w.heap.size → w'.heap[k]? = w.heap[k]?) → φ w'
theorem Rests.and {lo : Nat} {w : World} {φ ψ : World → Prop} (h1 : Rests lo w φ) (h2 : Rests lo w ψ) : Rests lo w fun W => φ W ∧ ψ W := fun w' hz hb => ⟨h1 w' hz hb, h2 w' hz hb⟩
theorem Rests.mono {lo lo' : Nat} {w : World} {φ : World → Prop} (h : Rests lo w φ) (hl : lo' ≤ lo) : Rests lo' w φ := fun w' hz hb => h w' hz fun k hk => hb k (Nat.le_trans hl hk)
theorem Rests.below {lo : Nat} {w w' : World} {φ : World → Prop} (h : Rests lo w φ) (hb : Below w.heap.size w w') : Rests lo w' φ := fun w'' hz hk => h w'' (Nat.le_trans hb.size hz) fun k h1 h2 => (hk k h1 (Nat.lt_of_lt_of_le h2 hb.size)).trans (hb.block k h2)
theorem Sep.sees {w0 w : World} {φ : World → Prop} {Rs : List Res} (h : Sep w0 w (seesR φ :: Rs)) : φ w := by
  obtain ⟨F, hF, _⟩ := h.get
  exact hF.2 w (Nat.le_refl _) fun _ _ => rfl
theorem Sep.seesAdd {w0 w w' : World} {φ ψ : World → Prop} {Rs : List Res} (h : Sep w0 w (seesR φ :: Rs)) (hb : Below w.heap.size w w') (hr : Rests w.heap.size w' ψ) : Sep w0 w' (seesR (fun W => φ W ∧ ψ W) :: Rs) :=
  h.step fun F hF => ⟨Plus F w w', ⟨fun k hk => by
      rcases hk with hk | hk
      · exact Nat.lt_of_lt_of_le (hF.1 k hk) hb.size
      · exact hk.2, fun w'' hz hk => ⟨hF.2 w'' (Nat.le_trans hb.size hz) fun k h1 => (hk k (.inl h1)).trans (hb.block k (hF.1 k h1)), hr w'' hz fun k h1 h2 => hk k (.inr ⟨h1, h2⟩)⟩⟩, fun _ hk => hk, Keeps.below hb⟩
theorem Sep.seesNew {w0 w : World} {φ : World → Prop} {Rs : List Res} (h : Sep w0 w Rs) (hφ : ∀ w', φ w') : Sep w0 w (seesR φ :: Rs) :=
  h.add (F := fun _ => False) (Below.refl _ _) ⟨fun _ hk => hk.elim, fun w' _ _ => hφ w'⟩ fun _ hk => hk.elim
theorem Sep.seesTurn {w0 w : World} {φ ψ : World → Prop} {Rs : List Res} (h : Sep w0 w (seesR φ :: Rs)) (hp : ∀ W, φ W → ψ W) : Sep w0 w (seesR ψ :: Rs) :=
  h.turn fun _ hF => ⟨hF.1, fun w' hz hb => hp _ (hF.2 w' hz hb)⟩
theorem Sl.rests {w w' : World} {size n : Nat} {A : Option Addr} {xs : List (List Value)} (h : SlF w w' size A n xs) : Rests w.heap.size w' (fun W => Sl W size A n xs) := fun w'' hz hk => by
  refine ⟨h.1.1, fun i x hx => ?_⟩
  obtain ⟨b, o, hA, hlb, hc⟩ := h.1.2 i x hx
  have hge : w.heap.size ≤ b := h.2 _ hA
  exact ⟨b, o, hA, Nat.lt_of_lt_of_le hlb hz, fun j v hv => (World.cell?_of_block (w := w') (a := ⟨b, _, none⟩) (hk b hge hlb)).trans (hc j v hv)⟩
end Go.Proofs.YtjncmlglhegnaaaGreatDoor
