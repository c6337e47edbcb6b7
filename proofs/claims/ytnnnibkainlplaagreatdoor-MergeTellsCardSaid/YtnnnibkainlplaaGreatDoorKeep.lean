/- What a call may have written: blocks of F, and new ones (plain Lean). -/
import Derived.Test.YtnnnibkainlplaaGreatDoorBase4
namespace Go.Proofs.YtnnnibkainlplaaGreatDoor
open Go.RowKit

/-- Nothing has turned but the blocks of F, and new ones. -/
structure Keeps (F : Nat → Prop) (w w' : World) : Prop where
  os : w'.os = w.os
  tape : w'.tape = w.tape
  output : w'.output = w.output
  size : w.heap.size ≤ w'.heap.size
  block : ∀ k, k < w.heap.size → ¬ F k → w'.heap[k]? = w.heap[k]?
/-- F, and what has been made since -/
def Plus (F : Nat → Prop) (w w' : World) (k : Nat) : Prop := F k ∨ (w.heap.size ≤ k ∧ k < w'.heap.size)
section
variable {F G : Nat → Prop} {w w' w'' : World}
theorem Keeps.refl (F : Nat → Prop) (w : World) : Keeps F w w := ⟨rfl, rfl, rfl, Nat.le_refl _, fun _ _ _ => rfl⟩
theorem Keeps.trans (h : Keeps F w w') (k : Keeps (Plus F w w') w' w'') : Keeps F w w'' :=
  ⟨k.os.trans h.os, k.tape.trans h.tape, k.output.trans h.output, Nat.le_trans h.size k.size, fun i hi hf => (k.block i (Nat.lt_of_lt_of_le hi h.size) (fun hp => by rcases hp with hp | hp; exact hf hp; omega)).trans (h.block i hi hf)⟩
theorem Keeps.mono (h : Keeps F w w') (hg : ∀ k, F k → G k) : Keeps G w w' := ⟨h.os, h.tape, h.output, h.size, fun k hk hn => h.block k hk (fun hf => hn (hg k hf))⟩
theorem Keeps.grown {row : Option Nat} (hg : w.grownBy w' row) (hr : ∀ b, row = some b → F b) : Keeps F w w' :=
  ⟨hg.os, hg.tape, hg.output, hg.size, fun k hk hn => hg.block k hk (fun e => hn (hr k e.symm))⟩
theorem Keeps.setCell {p : Addr} (hp : F p.block) (v : Value) : Keeps F w (w.setCell p v) := Keeps.grown (grownBy_setCell w p v) (fun b hb => by injection hb with hb; rw [← hb]; exact hp)
theorem Keeps.below (hb : Below w.heap.size w w') : Keeps F w w' := ⟨hb.os, hb.tape, hb.output, hb.size, fun k hk _ => hb.block k hk⟩
end
end Go.Proofs.YtnnnibkainlplaaGreatDoor
