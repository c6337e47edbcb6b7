/- wire: a run of items, in plain Lean; words for the walks of both readers' lists. -/
import Derived.Test.YtmceahmngifcgaaDoorWireI
namespace Go.Proofs.YtmceahmngifcgaaDoor
open Go.RowKit Go.Sort Go.Lib

section
variable {α : Type} {one : RdV → α × RdV}
/-- what the reader of one item keeps -/
def Steps (one : RdV → α × RdV) : Prop := ∀ r : RdV, r.ok → (one r).2.ok ∧ ((one r).2.rest.length < r.rest.length ∨ (one r).2 = .fail)
structure RunAt (one : RdV → α × RdV) (N : Nat) (r1 : RdV) (i : Nat) (xs : List α) (ri : RdV) : Prop where
  le : i ≤ N
  ok : ri.ok
  run : runF one N r1 = (xs ++ (runF one (N - i) ri).1, (runF one (N - i) ri).2)
  few : xs.length ≤ r1.rest.length + 1
  more : ri.bad = false → xs.length + ri.rest.length ≤ r1.rest.length
  less : xs.length ≤ i
theorem RunAt.start {N : Nat} {r1 : RdV} (h : r1.ok) : RunAt one N r1 0 [] r1 := ⟨Nat.zero_le _, h, by simp, by simp, by simp, by simp⟩
theorem RunAt.next (hs : Steps one) {N : Nat} {r1 ri : RdV} {i : Nat} {xs : List α} (h : RunAt one N r1 i xs ri) (hi : i < N) (hb : ri.bad = false) : RunAt one N r1 (i + 1) (xs ++ [(one ri).1]) (one ri).2 := by
  have h1 := hs ri h.ok
  have h2 := h.more hb
  refine ⟨hi, h1.1, ?_, ?_, ?_, ?_⟩
  · rw [h.run, show N - i = (N - (i + 1)) + 1 by omega, runF, if_neg (by rw [hb]; simp)]
    simp
  · simp; omega
  · intro hb2
    rcases h1.2 with h3 | h3
    · simp; omega
    · rw [h3] at hb2
      cases hb2
  · have := h.less; simp; omega
theorem RunAt.stop {N : Nat} {r1 ri : RdV} {i : Nat} {xs : List α} (h : RunAt one N r1 i xs ri) (hi : i = N ∨ ri.bad = true) : runF one N r1 = (xs, ri) := by
  rw [h.run]
  rcases hi with rfl | hb
  · simp [runF]
  · cases hk : N - i with
    | zero => simp [runF]
    | succ k => simp [runF, hb]
theorem is_fail {r : RdV} (h : r.ok) (hb : r.bad = true) : r = .fail := by
  obtain ⟨l, x⟩ := r
  have := h hb
  simp only at this hb
  subst this hb
  rfl
theorem itemsF_ways {r r1 ri : RdV} {n : Int} {xs : List α} (hn : numF 91 0 r = (n, r1)) (hr : runF one n.toNat r1 = (xs, ri)) (hok : ri.ok) (x : List α × RdV) (hx : itemsF one r = x) :
    (ri = .fail ∧ x = ([], .fail)) ∨ (ri.bad = false ∧ closeB 93 ri = false ∧ closeF 93 ri = .fail ∧ x = ([], .fail)) ∨ (ri.bad = false ∧ closeB 93 ri = true ∧ (closeF 93 ri).bad = false ∧ x = (xs, closeF 93 ri)) := by
  unfold itemsF at hx
  rw [hn] at hx
  simp only [hr] at hx
  cases hb : ri.bad with
  | true =>
    have hf := is_fail hok hb
    subst hf
    exact .inl ⟨rfl, hx.symm⟩
  | false =>
    obtain ⟨l, bd⟩ := ri
    simp only at hb
    subst hb
    cases l with
    | nil => exact .inr (.inl ⟨rfl, rfl, rfl, hx.symm⟩)
    | cons c t =>
      by_cases hc : c = 93
      · subst hc
        exact .inr (.inr ⟨rfl, rfl, rfl, hx.symm⟩)
      · have h1 : closeF 93 ⟨c :: t, false⟩ = .fail := by simp [closeF, hc]
        rw [h1] at hx
        exact .inr (.inl ⟨rfl, by simp [closeB, hc], h1, hx.symm⟩)
end
theorem intF_steps : Steps intF := fun r h => by
  rcases numF_ok (e := 59) (least := -9223372036854775808) h with ⟨h1, _⟩ | ⟨h1, _, _, _, _, h2⟩
  · exact ⟨by unfold intF; rw [h1]; exact fail_ok, .inr h1⟩
  · exact ⟨ok_of h1, .inl h2⟩
theorem textF_steps : Steps textF := fun _ h => textF_keeps h
theorem nat_of_num {e : UInt8} {r r1 : RdV} {n : Int} (hok : r.ok) (hn : numF e 0 r = (n, r1)) : ∃ N : Nat, n = (N : Int) ∧ r1.ok ∧ r1.rest.length ≤ r.rest.length ∧ (N : Int) ≤ 9223372036854775807 := by
  have h1 := numF_ok (e := e) (least := 0) hok
  have h2 := numF_keeps (e := e) (least := 0) hok
  rw [hn] at h1 h2
  simp only at h1 h2
  exact ⟨n.toNat, by omega, h2.1, h2.2, by omega⟩
/-- what a reader of a list leaves -/
def ListPost {α : Type} (cells : α → List Value) (size : Nat) (w : World) (b : Nat) (x : List α × RdV) (e : Ending) (w' : World) : Prop :=
  ∃ A c, e = .returned (.slice A x.1.length c) ∧ SlF w w' size A x.1.length (x.1.map cells) ∧ RdAt w' b x.2 ∧ w.grownBy w' (some b)
def intC (n : Int) : List Value := [.int .i64 n]
def strC (s : List UInt8) : List Value := [.string ⟨s.toArray⟩]
theorem grown_over {w wa wb : World} {b : Nat} {e : TypeId} {size n : Nat} {v : Value} {xs : List (List Value)} (h : w.grownBy wa (some b)) (ho : Own wa w.heap.size e size v n xs) (hg : wa.grownBy wb v.ownBlock) : w.grownBy wb (some b) :=
  ⟨hg.os.trans h.os, hg.tape.trans h.tape, hg.output.trans h.output, Nat.le_trans h.size hg.size, fun k hk hne => (hg.block k (Nat.lt_of_lt_of_le hk h.size) (fun e => Nat.lt_irrefl _ (Nat.lt_of_lt_of_le hk (ho.lt k e.symm).1))).trans (h.block k hk hne)⟩
theorem RdAt.grown {w w' : World} {b : Nat} {r : RdV} {row : Option Nat} (h : RdAt w b r) (hg : w.grownBy w' row) (hne : row ≠ some b) : RdAt w' b r := Loc.grown h hg hne
theorem RdAt.alloc {w : World} {b : Nat} {r : RdV} (h : RdAt w b r) (o : Obj) : RdAt (w.alloc o) b r := Loc.alloc h o
theorem infoInt : (Tryd.prog.info? 3).map (fun i => (i.zero, i.size, i.bytes)) = some (some (.int .i64 0), 1, 8) := by kernel_rfl
theorem infoStr : (Tryd.prog.info? 9).map (fun i => (i.zero, i.size, i.bytes)) = some (some (.string ⟨#[]⟩), 1, 16) := by kernel_rfl
end Go.Proofs.YtmceahmngifcgaaDoor
