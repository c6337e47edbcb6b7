/- A part of a slice (plain Lean); a slice that came in, with its capacity. -/
import Derived.Test.YtnnnibkainlplaaGreatDoorBase4
import Derived.Test.YtnnnibkainlplaaGreatDoorOpen
namespace Go.Proofs.YtnnnibkainlplaaGreatDoor
open Go.ChangeShapes Go.WideShapes Go.RowKit Go.Deep Go.Joins

theorem Sl.head {w : World} {size n k : Nat} {A : Option Addr} {xs : List (List Value)} (h : Sl w size A n xs) (hk : k ≤ n) : Sl w size A k (xs.take k) := by
  refine ⟨by rw [List.length_take, h.1]; omega, fun i x hx => ?_⟩
  rw [List.getElem?_take] at hx
  split at hx
  · exact h.2 i x hx
  · cases hx
theorem Sl.tail {w : World} {size n k b o : Nat} {xs : List (List Value)} (h : Sl w size (some ⟨b, o, none⟩) n xs) : Sl w size (some ⟨b, o + k * size, none⟩) (n - k) (xs.drop k) := by
  refine ⟨by rw [List.length_drop, h.1], fun i x hx => ?_⟩
  rw [List.getElem?_drop] at hx
  obtain ⟨b', o', hA, hb, hc⟩ := h.2 (k + i) x hx
  injection hA with hA
  injection hA with h1 h2
  subst h1 h2
  refine ⟨b, o + k * size, rfl, hb, fun j v hv => ?_⟩
  rw [show o + k * size + i * size + j = o + (k + i) * size + j by rw [Nat.add_mul]; omega]
  exact hc j v hv
theorem Sl.tailIf {w : World} {size n k c b o : Nat} {xs : List (List Value)} (h : Sl w size (some ⟨b, o, none⟩) n xs) (hc : n ≤ c) : Sl w size (if c = k then some ⟨b, o, none⟩ else some ⟨b, o + k * size, none⟩) (n - k) (xs.drop k) := by
  split
  · rename_i e
    have hz : n - k = 0 := by omega
    rw [hz, List.drop_eq_nil_of_le (by rw [h.1]; omega)]
    exact Sl.nil_ _ _ _
  · exact h.tail
section
variable {H : Type} {enc : TypeId × Value → H} {P : Program} {w : World} {base : Nat} {spare : Nat → Bool} {held : Bool}
/-- A slice that came in: its elements, and that its length is at most its capacity. -/
theorem open_elemsC {α : Type} {t e size : Nat} (ht : P.underlying t = some (.slice e)) (hC : P.cellsOf e = size) (hsz : 0 < size) (cells : α → List Value) (Q : α → Prop)
    (hel : ∀ (n : Nat) (cs : List Value) (x : DataW H × List MemPlace), DataW.trod enc P w base spare held n e cs = some x → cs.length = size → ∃ l : α, cs = cells l ∧ Q l)
    {fuel : Nat} {v : Value} {y : DataW H × List MemPlace} (h : DataW.trod enc P w base spare held fuel t [v] = some y) :
    ∃ (A : Option Addr) (n c : Nat) (ls : List α), v = .slice A n c ∧ Sl w size A n (ls.map cells) ∧ n ≤ maxLen ∧ n ≤ c ∧ ∀ l ∈ ls, Q l := by
  obtain ⟨A, n, c, ls, rfl, h1, h2, h3⟩ := open_elems ht hC hsz cells Q hel h
  refine ⟨A, n, c, ls, rfl, h1, h2, ?_, h3⟩
  rcases open_slice ht h with ⟨hcs, _⟩ | ⟨a, len, cap, m, k, D, Pl, hcs, _, hl, _⟩
  · simp only [List.cons.injEq, and_true, Value.slice.injEq] at hcs
    omega
  · simp only [List.cons.injEq, and_true, Value.slice.injEq] at hcs
    omega
end
end Go.Proofs.YtnnnibkainlplaaGreatDoor
