/- Opening arguments: slices of structs of plain cells. -/
/- A part of a slice (plain Lean); a slice that came in, with its capacity. -/
/- kerbsidelaw49: begins, walked. -/
/- kerbsidelaw49: the World of a device in memory; loan, open, walked. -/
import Derived.Test.YtjncmlglhegnaaaGreatDoorBase4
import Derived.ProofKit
import Derived.OpenShut
import Derived.Deep.Slices
import Derived.Deep.Fields
import Derived.Lib.SmallJoins
import Derived.Test.YtjncmlglhegnaaaGreatDoorDevR
import Derived.Test.YtjncmlglhegnaaaGreatDoorSameC
import Derived.Test.YtjncmlglhegnaaaGreatDoorChainM2
import Derived.Test.YtjncmlglhegnaaaGreatDoorOrdL
namespace Go.Proofs.YtjncmlglhegnaaaGreatDoor
open Go.ChangeShapes Go.WideShapes Go.RowKit Go.Deep Go.Joins

theorem list_of_lt {α : Type} {n : Nat} {p : Nat → α → Prop} (h : ∀ i, i < n → ∃ x, p i x) : ∃ l : List α, l.length = n ∧ ∀ i x, l[i]? = some x → p i x := by
  induction n with
  | zero => exact ⟨[], rfl, fun i x hx => by simp at hx⟩
  | succ n ih =>
    obtain ⟨l, hl, hp⟩ := ih fun i hi => h i (by omega)
    obtain ⟨y, hy⟩ := h n (by omega)
    refine ⟨l ++ [y], by simp [hl], fun i x hx => ?_⟩
    by_cases hi : i < n
    · rw [List.getElem?_append_left (by omega)] at hx
      exact hp i x hx
    · rw [List.getElem?_append_right (by omega), hl] at hx
      have : i = n := by
        rcases Nat.lt_or_ge n i with h1 | h1
        · rw [List.getElem?_eq_none (by simp; omega)] at hx; cases hx
        · omega
      subst this
      simp at hx
      subst hx
      exact hy

section
variable {H : Type} {enc : TypeId × Value → H} {P : Program} {w : World} {base : Nat} {spare : Nat → Bool} {held : Bool}
/-- A slice that came in: its elements, each opened by 'hel'. -/
theorem open_elems {α : Type} {t e size : Nat} (ht : P.underlying t = some (.slice e)) (hC : P.cellsOf e = size) (hsz : 0 < size) (cells : α → List Value) (Q : α → Prop)
    (hel : ∀ (n : Nat) (cs : List Value) (x : DataW H × List MemPlace), DataW.trod enc P w base spare held n e cs = some x → cs.length = size → ∃ l : α, cs = cells l ∧ Q l)
    {fuel : Nat} {v : Value} {y : DataW H × List MemPlace} (h : DataW.trod enc P w base spare held fuel t [v] = some y) :
    ∃ (A : Option Addr) (n c : Nat) (ls : List α), v = .slice A n c ∧ Sl w size A n (ls.map cells) ∧ n ≤ maxLen ∧ ∀ l ∈ ls, Q l := by
  rcases open_slice ht h with ⟨hcs, _⟩ | ⟨a, len, cap, m, k, D, Pl, hcs, hb, hl, hm, hmm, _, hi⟩
  · simp only [List.cons.injEq, and_true] at hcs
    subst hcs
    exact ⟨none, 0, 0, [], rfl, Sl.nil_ _ _ _, Nat.zero_le _, fun l hl => by cases hl⟩
  · simp only [List.cons.injEq, and_true] at hcs
    subst hcs
    have hlm : len ≤ m := by rw [hmm]; split <;> omega
    rw [hC] at hi
    obtain ⟨ls, hlen, hp⟩ := list_of_lt (α := α) (p := fun i l => Q l ∧ ∃ cs', w.cells? base (a.add (i * size)) size = some cs' ∧ cs' = cells l) (n := len) (fun i hil => by
      obtain ⟨cs', h1, h2⟩ := hi i (by omega)
      obtain ⟨_, h3, _⟩ := World.cells?_some h1
      obtain ⟨l, h4, h5⟩ := hel _ _ _ h2 h3
      exact ⟨l, h5, cs', h1, h4⟩)
    refine ⟨some a, len, cap, ls, rfl, ⟨by simpa using hlen, fun i x hx => ?_⟩, by omega, fun l hl' => ?_⟩
    · rw [List.getElem?_map] at hx
      rcases hl' : ls[i]? with _ | l
      · rw [hl'] at hx; cases hx
      · rw [hl'] at hx
        simp only [Option.map_some, Option.some.injEq] at hx
        subst hx
        obtain ⟨_, cs', h1, rfl⟩ := hp i l hl'
        obtain ⟨_, h3, h4⟩ := World.cells?_some h1
        obtain ⟨b, o, sp⟩ := a
        have hil : i < ls.length := (List.getElem?_eq_some_iff.1 hl').1
        have hspn : sp = none := by
          obtain ⟨_, cs0, h6, h7⟩ := hp 0 (ls[0]'(by omega)) (List.getElem?_eq_getElem _)
          obtain ⟨_, h8, h9⟩ := World.cells?_some h6
          have hc0 := h9 0 (by omega)
          rw [List.getElem?_eq_getElem (by omega), Nat.zero_mul] at hc0
          exact World.cell?_spot (a := ⟨b, o, sp⟩) hc0
        subst hspn
        have hadd : ∀ x y : Nat, ((⟨b, o, none⟩ : Addr).add x).add y = ⟨b, o + x + y, none⟩ := by
          intro x y
          simp only [Addr.add]
          split <;> split <;> simp_all
        have hc0 := h4 0 (by omega)
        rw [List.getElem?_eq_getElem (by omega)] at hc0
        have hbl := World.block_lt_of_cell? w _ hc0
        rw [hadd] at hbl
        refine ⟨b, o, rfl, hbl, fun j u' hu' => ?_⟩
        have h5 := h4 j (by rw [← h3]; exact (List.getElem?_eq_some_iff.1 hu').1)
        rw [hadd, hu'] at h5
        exact h5
    · obtain ⟨i, hi', rfl⟩ := List.mem_iff_getElem.1 hl'
      exact (hp i _ (List.getElem?_eq_getElem hi')).1
/-- an int that came in -/
theorem open_i64 {r : Reach} {b0 t : Nat} {v : Value} {d : DataW H} {p : List MemPlace} (ht : P.underlying t = some (.int .i64)) (hv : Value.okWide P w r b0 t v) (h : DataW.Trod enc P w base spare held t v d p) :
    ∃ a : Int, v = .int .i64 a ∧ -9223372036854775808 ≤ a ∧ a ≤ 9223372036854775807 := by
  obtain ⟨a, rfl, _, _, wf⟩ := open_int ht hv h
  have := bounds_i64 wf
  exact ⟨a, rfl, this.1, this.2⟩
end
end Go.Proofs.YtjncmlglhegnaaaGreatDoor
namespace Go.Proofs.YtjncmlglhegnaaaGreatDoor
open Go.ChangeShapes Go.WideShapes Go.RowKit Go.Deep Go.Joins

theorem Sl.tail {w : World} {size n k b o : Nat} {xs : List (List Value)} (h : Sl w size (some ⟨b, o, none⟩) n xs) : Sl w size (some ⟨b, o + k * size, none⟩) (n - k) (xs.drop k) := by
  refine ⟨by rw [List.length_drop, h.1], fun i x hx => ?_⟩
  rw [List.getElem?_drop] at hx
  obtain ⟨b', o', hA, hb, hc⟩ := h.2 (k + i) x hx
  injection hA with hA
  injection hA with h1 h2
  subst h1 h2
  refine ⟨b, o + k * size, rfl, hb, fun j v hv => ?_⟩
  rw [show o + k * size + i * size + j = o + (k + i) * size + j by rw [Nat.add_mul]; omega]
  exact hc j v hv
section
variable {H : Type} {enc : TypeId × Value → H} {P : Program} {w : World} {base : Nat} {spare : Nat → Bool} {held : Bool}
end
end Go.Proofs.YtjncmlglhegnaaaGreatDoor
namespace Go.Proofs.YtjncmlglhegnaaaGreatDoor
open Go.RowKit Go.Sort Go.Lib

end Go.Proofs.YtjncmlglhegnaaaGreatDoor
namespace Go.Proofs.YtjncmlglhegnaaaGreatDoor
open Go.RowKit Go.Sort Go.Lib

/-- a World, as long as nothing impossible has happened -/
structure WorV where
  d : DV
  x : Option DevV
  number : Int
  units : Int
  handed : List EntV
  durable : List EntV
  last : List EntV
  torn : List EntV
  spent : Int
  ex : List EntC
/-- a list of entries in memory -/
structure LsC where
  A : Option Addr
  c : Nat
  es : List EntC
abbrev LsC.val (l : LsC) : Value := .slice l.A l.es.length l.c
def LsC.at_ (l : LsC) (w : World) : Prop := ChAt w l.A l.es.length l.es
structure WorI where
  B : Nat
  X : Nat
  H : LsC
  D : LsC
  L : LsC
  T : LsC
def WorI.vs (i : WorI) (v : WorV) : Prop := vsOf i.H.es = v.handed ∧ vsOf i.D.es = v.durable ∧ vsOf i.L.es = v.last ∧ vsOf i.T.es = v.torn
def WorI.sees (i : WorI) (E : List EntC) (w : World) : Prop := (i.H.at_ w ∧ SeenAt E w ∧ i.H.es.length ≤ i.H.c) ∧ i.D.at_ w ∧ i.L.at_ w ∧ i.T.at_ w
section
variable {w0 w w' : World} {Rs : List Res} {W : Nat} {v : WorV}
/-- a list of one's own, and what its elements point to, is read alone from now on -/
theorem Sep.ownSees {e : TypeId} {A : Option Addr} {n c : Nat} {xs : List (List Value)} {φ : World → Prop} (h : Sep w0 w (ownR e 5 (.slice A n c) n xs :: seesR φ :: Rs)) : Sep w0 w (seesR (fun W => Sl W 5 A n xs ∧ φ W) :: Rs) :=
  h.join fun F1 F2 h1 h2 _ => ⟨fun k hk => hk.elim ((ownR e 5 (.slice A n c) n xs).lt w F1 h1 k) (h2.1 k), fun w'' hz hb => ⟨((ownR e 5 (.slice A n c) n xs).keep w w'' F1 h1 hz fun k hk => hb k (.inl hk)).1.sl', h2.2 w'' hz fun k hk => hb k (.inr hk)⟩⟩
theorem Sep.w1 {a b c d : Res} (h : Sep w0 w (a :: b :: c :: d :: Rs)) : Sep w0 w (d :: c :: a :: b :: Rs) := h.r4.r4.sw
theorem Sep.w2 {a b c d : Res} (h : Sep w0 w (d :: c :: a :: b :: Rs)) : Sep w0 w (a :: b :: c :: d :: Rs) := h.sw.r4.r4
end
theorem own_capE {w : World} {base n c size : Nat} {e : TypeId} {A : Option Addr} {xs : List (List Value)} (h : Own w base e size (.slice A n c) n xs) : n ≤ c ∧ c ≤ maxLen := by
  rcases h.1.2 with ⟨h', h2⟩ | ⟨g', cap, cur, hv, hb, hg, h1, h2, h3, _⟩
  · injection h' with e1 e2 e3
    subst e2 e3
    exact ⟨Nat.le_refl _, Nat.zero_le _⟩
  · injection hv with e1 e2 e3
    subst e3
    exact ⟨by simpa using h1, h2⟩
section
variable {w0 w w' : World} {Rs : List Res} {W : Nat} {v : WorV}
end
end Go.Proofs.YtjncmlglhegnaaaGreatDoor
