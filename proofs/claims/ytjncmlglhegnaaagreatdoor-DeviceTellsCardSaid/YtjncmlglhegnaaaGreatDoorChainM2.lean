/- chain: the reference's Few, the laws' seen and entry, walked. -/
/- chain: lists of entries that are few; a part of a list (plain Lean). -/
import Derived.Test.YtjncmlglhegnaaaGreatDoorChainK
namespace Go.Proofs.YtjncmlglhegnaaaGreatDoor
open Go.RowKit Go.Sort Go.Lib

/-- what Few leaves -/
def FewPost (w : World) (l : List EntC) (most : Nat) (e : Ending) (w' : World) : Prop := ∃ k : Bool, e = .returned (.bool k) ∧ (k = true → (∀ x ∈ l, plainB x.v = true) ∧ (l.length ≤ most ∨ (400 < l.length ∧ l.length ≤ 420))) ∧ Below w.heap.size w w'
theorem FewPost.no {w w' : World} {l : List EntC} {most : Nat} (h : Below w.heap.size w w') : FewPost w l most (.returned (.bool false)) w' := ⟨false, rfl, (fun h => by cases h), h⟩
end Go.Proofs.YtjncmlglhegnaaaGreatDoor
namespace Go.Proofs.YtjncmlglhegnaaaGreatDoor
open Go.RowKit Go.Sort Go.Lib

theorem plain_len {x : EntV} (h : plainB x = true) : x.seen.length ≤ 12 ∧ x.text.length ≤ 4010 := by
  unfold plainB at h
  simp only [Bool.and_eq_true, Bool.or_eq_true, decide_eq_true_eq] at h
  omega
theorem ChAt.of {w : World} {A : Option Addr} {n : Nat} {l : List EntC} (hs : Sl w 5 A n (l.map EntC.cells)) (ha : ∀ e ∈ l, EntAt w e) (hp : ∀ x ∈ l, plainB x.v = true) : ChAt w A n l :=
  ⟨hs, ha, fun e he => by have := plain_len (hp e he); omega⟩
/-- a list of entries of another one's, in memory -/
theorem ChAt.part {w w' : World} {A A' : Option Addr} {n n' : Nat} {l l' : List EntC} (h : ChAt w A n l) (hb : Below w.heap.size w w') (hs : Sl w' 5 A' n' (l'.map EntC.cells)) (hm : ∀ x ∈ l', x ∈ l) : ChAt w' A' n' l' :=
  ⟨hs, fun e he => (h.at_ e (hm e he)).below hb, fun e he => h.len e (hm e he)⟩
end Go.Proofs.YtjncmlglhegnaaaGreatDoor
