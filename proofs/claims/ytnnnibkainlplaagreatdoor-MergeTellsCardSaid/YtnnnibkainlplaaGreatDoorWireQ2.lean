/- wire: how much a run of items reads; what a method of a reader leaves below a bound (plain Lean). -/
import Derived.Test.YtnnnibkainlplaaGreatDoorWireQ
namespace Go.Proofs.YtnnnibkainlplaaGreatDoor
open Go.RowKit Go.Lib

theorem ungrown {w w' : World} {row : Option Nat} (h : w.drew.grownBy w' row) : w.grownBy w' row := ⟨h.os, h.tape, h.output, h.size, h.block⟩
section
variable {α : Type} {one : RdV → α × RdV}
theorem runF_len (hs : Steps one) : ∀ (k : Nat) (r : RdV), r.ok → (runF one k r).1.length ≤ r.rest.length + 1 ∧ (runF one k r).2.ok ∧ (runF one k r).2.rest.length ≤ r.rest.length
  | 0, r, h => ⟨Nat.zero_le _, h, Nat.le_refl _⟩
  | k + 1, r, h => by
    unfold runF
    split
    · exact ⟨Nat.zero_le _, h, Nat.le_refl _⟩
    · obtain ⟨h1, h2⟩ := hs r h
      obtain ⟨h3, h4, h5⟩ := runF_len hs k (one r).2 h1
      rcases h2 with h2 | h2
      · simp only [List.length_cons]
        exact ⟨by omega, h4, by omega⟩
      · rw [h2] at h3 h4 h5 ⊢
        have hz : (runF one k RdV.fail).1 = [] := by cases k <;> simp [runF, RdV.fail]
        rw [hz]
        simp only [List.length_cons, List.length_nil]
        refine ⟨by omega, h4, ?_⟩
        have h6 : RdV.fail.rest.length = 0 := rfl
        omega
theorem itemsF_len (hs : Steps one) {r : RdV} (h : r.ok) : (itemsF one r).1.length ≤ r.rest.length + 1 ∧ (itemsF one r).2.ok ∧ (itemsF one r).2.rest.length ≤ r.rest.length := by
  obtain ⟨h1, h2⟩ := numF_keeps (e := 91) (least := 0) h
  obtain ⟨h3, h4, h5⟩ := runF_len hs (numF 91 0 r).1.toNat (numF 91 0 r).2 h1
  obtain ⟨h6, h7⟩ := closeF_keeps (e := 93) h4
  unfold itemsF
  split
  · exact ⟨Nat.zero_le _, h6, Nat.le_trans h7 (Nat.le_trans h5 h2)⟩
  · exact ⟨Nat.le_trans h3 (by omega), h6, Nat.le_trans h7 (Nat.le_trans h5 h2)⟩
end
theorem below_row {B b : Nat} {w w' : World} (hB : B ≤ b) (hs : B ≤ w.heap.size) (hg : w.grownBy w' (some b)) : Below B w w' := (Below.refl B w).grown hg hs fun k hk => by injection hk with hk; omega
theorem intF_rng {r : RdV} (h : r.ok) : inI (intF r).1 := by
  have h1 := numF_ok (e := 59) (least := -9223372036854775808) h
  unfold intF inI
  omega
theorem textF_len {r : RdV} (h : r.ok) : (textF r).1.length ≤ r.rest.length := by
  have h2 := numF_keeps (e := 58) (least := 0) h
  rcases textF_ways (r := r) (r1 := (numF 58 0 r).2) (n := (numF 58 0 r).1) rfl _ rfl h with ⟨_, _, h⟩ | ⟨k, h1, _, ⟨_, h⟩ | ⟨_, _, _, h⟩ | ⟨h3, h4, _, h⟩⟩
  · rw [h]; exact Nat.zero_le _
  · rw [h]; exact Nat.zero_le _
  · rw [h]; exact Nat.zero_le _
  · rw [h]
    show ((numF 58 0 r).2.rest.take k).length ≤ _
    rw [List.length_take]
    omega
section
variable {α : Type} {one : RdV → α × RdV}
theorem runF_all (hs : Steps one) (Q : Nat → α → Prop) (hQ : ∀ r : RdV, r.ok → Q r.rest.length (one r).1) (hm : ∀ a b x, a ≤ b → Q a x → Q b x) : ∀ (k : Nat) (r : RdV), r.ok → ∀ x ∈ (runF one k r).1, Q r.rest.length x
  | 0, r, h, x, hx => by cases hx
  | k + 1, r, h, x, hx => by
    unfold runF at hx
    split at hx
    · cases hx
    · obtain ⟨h1, h2⟩ := hs r h
      rcases List.mem_cons.1 hx with rfl | hx
      · exact hQ r h
      · refine hm _ _ _ ?_ (runF_all hs Q hQ hm k (one r).2 h1 x hx)
        rcases h2 with h2 | h2
        · omega
        · rw [h2]; exact Nat.zero_le _
theorem itemsF_all (hs : Steps one) (Q : Nat → α → Prop) (hQ : ∀ r : RdV, r.ok → Q r.rest.length (one r).1) (hm : ∀ a b x, a ≤ b → Q a x → Q b x) {r : RdV} (h : r.ok) : ∀ x ∈ (itemsF one r).1, Q r.rest.length x := by
  obtain ⟨h1, h2⟩ := numF_keeps (e := 91) (least := 0) h
  unfold itemsF
  split
  · intro x hx; cases hx
  · intro x hx
    exact hm _ _ _ h2 (runF_all hs Q hQ hm _ _ h1 x hx)
end
end Go.Proofs.YtnnnibkainlplaaGreatDoor
