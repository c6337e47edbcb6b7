/- device: many things told as one; a device as a thing apart from others; what Open finds (plain Lean). -/
import Derived.Test.YtjncmlglhegnaaaGreatDoorDevB
namespace Go.Proofs.YtjncmlglhegnaaaGreatDoor
open Go.RowKit Go.Sort

theorem SepIn.split {w : World} : ∀ {Ss Rs : List Res} {G : Nat → Prop}, SepIn w (Ss ++ Rs) G → ∃ F : Nat → Prop, (∀ k, F k → G k) ∧ SepIn w Ss F ∧ SepIn w Rs (fun k => G k ∧ ¬ F k)
  | [], _, _, h => ⟨fun _ => False, fun _ hf => hf.elim, trivial, h.mono fun _ hk => ⟨hk, fun hf => hf⟩⟩
  | R :: Ss, Rs, G, h => by
    obtain ⟨F1, a, b, c⟩ := h
    obtain ⟨F2, d, e, f⟩ := SepIn.split (Ss := Ss) c
    refine ⟨fun k => F1 k ∨ F2 k, fun k hk => ?_, ⟨F1, a, fun k hk => .inl hk, e.mono fun k hk => ⟨.inr hk, (d k hk).2⟩⟩, f.mono fun k hk => ⟨hk.1.1, fun hf => ?_⟩⟩
    · rcases hk with hk | hk
      · exact b k hk
      · exact (d k hk).1
    · rcases hf with hf | hf
      · exact hk.1.2 hf
      · exact hk.2 hf
/-- many things, told as one: some case of them holds -/
def packR {ι : Type} (φ : ι → Prop) (ls : ι → List Res) : Res where
  P := fun w F => (∃ i, φ i ∧ SepIn w (ls i) F) ∧ ∀ k, F k → k < w.heap.size
  lt := fun _ _ h k hk => h.2 k hk
  keep := fun _ _ _ ⟨⟨i, h0, h1⟩, h2⟩ hz hb => ⟨⟨i, h0, h1.keep hz fun k hk _ => hb k hk⟩, fun k hk => Nat.lt_of_lt_of_le (h2 k hk) hz⟩
theorem Sep.unpack {ι : Type} {φ : ι → Prop} {ls : ι → List Res} {w0 w : World} {Rs : List Res} (h : Sep w0 w (packR φ ls :: Rs)) : ∃ i, φ i ∧ Sep w0 w (ls i ++ Rs) := by
  obtain ⟨⟨F, ⟨⟨i, h0, h1⟩, _⟩, h3, h4⟩, hb⟩ := h
  exact ⟨i, h0, (SepIn.append h1 h4 fun k hk hk2 => hk2.2 hk).mono fun k hk => by
    rcases hk with hk | hk
    · exact h3 k hk
    · exact hk.1, hb⟩
theorem Sep.pack {ι : Type} {φ : ι → Prop} {ls : ι → List Res} {w0 w : World} {Rs : List Res} (i : ι) (h0 : φ i) (h : Sep w0 w (ls i ++ Rs)) : Sep w0 w (packR φ ls :: Rs) := by
  obtain ⟨h1, hb⟩ := h
  obtain ⟨F, a, b, c⟩ := SepIn.split h1
  exact ⟨⟨F, ⟨⟨i, h0, b⟩, fun k hk => (a k hk).2⟩, a, c⟩, hb⟩

/-! ### a device -/
abbrev devX (J : Nat) (number : Int) (A : Option Addr) (n c : Nat) (l : LoanV) : Array Value := #[.int .i64 number, .pointer (some ⟨J, 0, none⟩), .slice A n c, .int .i64 l.device, .int .i64 l.units, .int .i64 l.spent, .bool l.back]
structure DevI where
  J : Nat
  A : Option Addr
  c : Nat
  es : List EntC
/-- a device in block X, its journal on the disk of block B -/
def devR (B X : Nat) (x : DevV) : Res :=
  packR (fun i : DevI => vsOf i.es = x.ents) fun i => [boxR X (devX i.J x.number i.A i.es.length i.c x.loan), ownR 32 5 (.slice i.A i.es.length i.c) i.es.length (i.es.map EntC.cells), seesR (SeenAt i.es), jourR B i.J x.j]
theorem Sep.devPack {w0 w : World} {Rs : List Res} {B X J c : Nat} {A : Option Addr} {es : List EntC} {x : DevV} (h : Sep w0 w (boxR X (devX J x.number A es.length c x.loan) :: ownR 32 5 (.slice A es.length c) es.length (es.map EntC.cells) :: seesR (SeenAt es) :: jourR B J x.j :: Rs)) (hx : vsOf es = x.ents) : Sep w0 w (devR B X x :: Rs) :=
  Sep.pack (φ := fun i : DevI => vsOf i.es = x.ents) (ls := fun i : DevI => [boxR X (devX i.J x.number i.A i.es.length i.c x.loan), ownR 32 5 (.slice i.A i.es.length i.c) i.es.length (i.es.map EntC.cells), seesR (SeenAt i.es), jourR B i.J x.j]) ⟨J, A, c, es⟩ hx h
theorem Sep.devPart {w0 w : World} {Rs : List Res} {B X : Nat} {x : DevV} (h : Sep w0 w (devR B X x :: Rs)) : ∃ (J : Nat) (A : Option Addr) (c : Nat) (es : List EntC), vsOf es = x.ents ∧ Sep w0 w (boxR X (devX J x.number A es.length c x.loan) :: ownR 32 5 (.slice A es.length c) es.length (es.map EntC.cells) :: seesR (SeenAt es) :: jourR B J x.j :: Rs) := by
  obtain ⟨⟨J, A, c, es⟩, h0, h1⟩ := Sep.unpack h
  exact ⟨J, A, c, es, h0, h1⟩
/-- what Open leaves -/
def DevPost (w0 : World) (Rs : List Res) (B : Nat) : DV × Option DevV × Int → Ending → World → Prop
  | (d, some x, er), e, w' => ∃ X, e = .returned (.tuple #[.pointer (some ⟨X, 0, none⟩), .int .i64 er]) ∧ Sep w0 w' (devR B X x :: diskR B d :: Rs)
  | (d, none, er), e, w' => e = .returned (.tuple #[.pointer none, .int .i64 er]) ∧ Sep w0 w' (diskR B d :: Rs)
/-! ### what Open finds -/
theorem decAll_right : ∀ {l : List (List UInt8)} {vs : List EntV}, decAll l = some vs → ∀ v ∈ vs, RightE v
  | [], vs, h, v, hv => by
    have : vs = [] := by simpa [decAll] using h.symm
    subst this
    simp at hv
  | s :: r, vs, h, v, hv => by
    simp only [decAll] at h
    by_cases hs : (decodeF s).2 = true
    · rw [if_pos hs] at h
      cases hr : decAll r with
      | none => rw [hr] at h; cases h
      | some us =>
        rw [hr] at h
        have : vs = (decodeF s).1 :: us := by simpa using h.symm
        subst this
        rcases List.mem_cons.1 hv with rfl | hv
        · unfold decodeF at hs ⊢
          by_cases hg : goodD s = true
          · rw [if_pos hg]; exact (enc_decE hg).2
          · rw [if_neg hg] at hs; cases hs
        · exact decAll_right hr v hv
    · rw [if_neg hs] at h; cases h
theorem decAll_len : ∀ {l : List (List UInt8)} {vs : List EntV}, decAll l = some vs → vs.length = l.length
  | [], vs, h => by
    have : vs = [] := by simpa [decAll] using h.symm
    subst this
    rfl
  | s :: r, vs, h => by
    simp only [decAll] at h
    by_cases hs : (decodeF s).2 = true
    · rw [if_pos hs] at h
      cases hr : decAll r with
      | none => rw [hr] at h; cases h
      | some us =>
        rw [hr] at h
        have : vs = (decodeF s).1 :: us := by simpa using h.symm
        subst this
        rw [List.length_cons, List.length_cons, decAll_len hr]
    · rw [if_neg hs] at h; cases h
theorem chAt_of {w : World} {A : Option Addr} {es : List EntC} {l : List (List UInt8)} (hd : decAll l = some (vsOf es)) (hs : Sl w 5 A es.length (es.map EntC.cells)) (hi : SeenAt es w) : ChAt w A es.length es :=
  ⟨hs, hi, fun e he => by
    have h := decAll_right hd e.v (List.mem_map.2 ⟨e, he, rfl⟩)
    have := h.len
    have := h.txt
    exact ⟨by omega, by omega⟩⟩
theorem openJ_some {d d' : DV} {f e : Int} {j : JV} (h : openJ d f = (d', some j, e)) : e = 0 ∧ j.broken = false ∧ j.file = f ∧ j.recs = recsF (((SyncF d f).1.file f).now) ∧ j.bytes = ((formsB j.recs).length : Int) := by
  unfold openJ at h
  split at h
  · simp at h
  · split at h
    · simp at h
    · dsimp only at h
      split at h
      · split at h
        · simp at h
        · simp only [Prod.mk.injEq, Option.some.injEq] at h
          obtain ⟨_, h2, h3⟩ := h
          subst h2
          exact ⟨h3.symm, rfl, rfl, rfl, rfl⟩
      · simp only [Prod.mk.injEq, Option.some.injEq] at h
        obtain ⟨_, h2, h3⟩ := h
        subst h2
        exact ⟨h3.symm, rfl, rfl, rfl, rfl⟩
theorem openJ_none {d d' : DV} {f e : Int} (h : openJ d f = (d', none, e)) : e ≠ 0 := by
  unfold openJ at h
  split at h
  · simp only [Prod.mk.injEq] at h
    omega
  · split at h
    · rename_i hs
      simp only [Prod.mk.injEq] at h
      rw [← h.2.2]; exact hs
    · dsimp only at h
      split at h
      · split at h
        · rename_i hs
          simp only [Prod.mk.injEq] at h
          rw [← h.2.2]; exact hs
        · simp at h
      · simp at h
end Go.Proofs.YtjncmlglhegnaaaGreatDoor
