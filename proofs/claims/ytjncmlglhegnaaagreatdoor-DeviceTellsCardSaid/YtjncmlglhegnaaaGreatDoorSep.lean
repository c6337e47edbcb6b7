/- What a call may have written: blocks of F, and new ones (plain Lean). -/
/- Several things in memory, apart from each other, made since the world w0: each call that works on the first one leaves the others (plain Lean). -/
import Derived.Test.YtjncmlglhegnaaaGreatDoorBase4
namespace Go.Proofs.YtjncmlglhegnaaaGreatDoor
open Go.RowKit

/-- Nothing has turned but the blocks of F, and new ones. -/
structure Keeps (F : Nat → Prop) (w w' : World) : Prop where
  os : w'.os = w.os
  tape : w'.tape = w.tape
  output : w'.output = w.output
  size : w.heap.size ≤ w'.heap.size
  block : ∀ k, k < w.heap.size → ¬ F k → w'.heap[k]? = w.heap[k]?
/-- F, and what has been made since -/
def Plus (F : Nat → Prop) (w w' : World) (k : Nat) : Prop := F k ∨ (w.heap.size ≤ k ∧ k < w'.heap.size)
section
variable {F G : Nat → Prop} {w w' w'' : World}
theorem Keeps.refl (F : Nat → Prop) (w : World) : Keeps F w w := ⟨rfl, rfl, rfl, Nat.le_refl _, fun _ _ _ => rfl⟩
theorem Keeps.trans (h : Keeps F w w') (k : Keeps (Plus F w w') w' w'') : Keeps F w w'' :=
  ⟨k.os.trans h.os, k.tape.trans h.tape, k.output.trans h.output, Nat.le_trans h.size k.size, fun i hi hf => (k.block i (Nat.lt_of_lt_of_le hi h.size) (fun hp => by rcases hp with hp | hp; exact hf hp; omega)).trans (h.block i hi hf)⟩
theorem Keeps.mono (h : Keeps F w w') (hg : ∀ k, F k → G k) : Keeps G w w' := ⟨h.os, h.tape, h.output, h.size, fun k hk hn => h.block k hk (fun hf => hn (hg k hf))⟩
theorem Keeps.grown {row : Option Nat} (hg : w.grownBy w' row) (hr : ∀ b, row = some b → F b) : Keeps F w w' :=
  ⟨hg.os, hg.tape, hg.output, hg.size, fun k hk hn => hg.block k hk (fun e => hn (hr k e.symm))⟩
theorem Keeps.setCell {p : Addr} (hp : F p.block) (v : Value) : Keeps F w (w.setCell p v) := Keeps.grown (grownBy_setCell w p v) (fun b hb => by injection hb with hb; rw [← hb]; exact hp)
theorem Keeps.below (hb : Below w.heap.size w w') : Keeps F w w' := ⟨hb.os, hb.tape, hb.output, hb.size, fun k hk _ => hb.block k hk⟩
end
end Go.Proofs.YtjncmlglhegnaaaGreatDoor
namespace Go.Proofs.YtjncmlglhegnaaaGreatDoor
open Go.RowKit

/-- a kind of thing: what it says of the world, and of the blocks that are its own -/
structure Res where
  P : World → (Nat → Prop) → Prop
  lt : ∀ w F, P w F → ∀ k, F k → k < w.heap.size
  keep : ∀ w w' F, P w F → w.heap.size ≤ w'.heap.size → (∀ k, F k → w'.heap[k]? = w.heap[k]?) → P w' F
def SepIn (w : World) : List Res → (Nat → Prop) → Prop
  | [], _ => True
  | R :: Rs, G => ∃ F : Nat → Prop, R.P w F ∧ (∀ k, F k → G k) ∧ SepIn w Rs (fun k => G k ∧ ¬ F k)
theorem SepIn.mono {w : World} : ∀ {Rs : List Res} {G G' : Nat → Prop}, SepIn w Rs G → (∀ k, G k → G' k) → SepIn w Rs G'
  | [], _, _, _, _ => trivial
  | _ :: _, _, _, ⟨F, h1, h2, h3⟩, h => ⟨F, h1, fun k hk => h k (h2 k hk), h3.mono fun k hk => ⟨h k hk.1, hk.2⟩⟩
theorem SepIn.keep {w w' : World} (hz : w.heap.size ≤ w'.heap.size) : ∀ {Rs : List Res} {G : Nat → Prop}, SepIn w Rs G → (∀ k, G k → k < w.heap.size → w'.heap[k]? = w.heap[k]?) → SepIn w' Rs G
  | [], _, _, _ => trivial
  | R :: _, _, ⟨F, h1, h2, h3⟩, h => ⟨F, R.keep w w' F h1 hz fun k hk => h k (h2 k hk) (R.lt w F h1 k hk), h2, SepIn.keep hz h3 fun k hk hl => h k hk.1 hl⟩
theorem SepIn.swap {w : World} {R1 R2 : Res} {Rs : List Res} {G : Nat → Prop} (h : SepIn w (R1 :: R2 :: Rs) G) : SepIn w (R2 :: R1 :: Rs) G := by
  obtain ⟨F1, a1, a2, F2, b1, b2, c⟩ := h
  exact ⟨F2, b1, fun k hk => (b2 k hk).1, F1, a1, fun k hk => ⟨a2 k hk, fun h2 => (b2 k h2).2 hk⟩, c.mono fun k hk => ⟨⟨hk.1.1, hk.2⟩, hk.1.2⟩⟩
theorem SepIn.cons {w : World} {R : Res} {Rs Rs' : List Res} {G : Nat → Prop} (h : SepIn w (R :: Rs) G) (hc : ∀ G, SepIn w Rs G → SepIn w Rs' G) : SepIn w (R :: Rs') G := by
  obtain ⟨F, a, b, c⟩ := h
  exact ⟨F, a, b, hc _ c⟩
theorem SepIn.perm {w : World} {Rs Rs' : List Res} (p : Rs.Perm Rs') : ∀ {G : Nat → Prop}, SepIn w Rs G → SepIn w Rs' G := by
  induction p with
  | nil => exact fun h => h
  | cons x _ ih => exact fun h => h.cons fun _ => ih
  | swap x y l => exact fun h => h.swap
  | trans _ _ ih1 ih2 => exact fun h => ih2 (ih1 h)
/-- the things of the list, apart from each other, made since w0 -/
def Sep (w0 w : World) (Rs : List Res) : Prop := SepIn w Rs (fun k => w0.heap.size ≤ k ∧ k < w.heap.size) ∧ Below w0.heap.size w0 w
namespace Sep
variable {w0 w w' : World} {R R' R1 R2 R3 R4 R5 R6 : Res} {Rs Rs' : List Res}
theorem base (h : Sep w0 w Rs) : Below w0.heap.size w0 w := h.2
theorem start (w : World) : Sep w w [] := ⟨trivial, Below.refl _ _⟩
theorem perm (h : Sep w0 w Rs) (p : Rs.Perm Rs') : Sep w0 w Rs' := ⟨h.1.perm p, h.2⟩
theorem sw (h : Sep w0 w (R1 :: R2 :: Rs)) : Sep w0 w (R2 :: R1 :: Rs) := ⟨h.1.swap, h.2⟩
theorem r3 (h : Sep w0 w (R1 :: R2 :: R3 :: Rs)) : Sep w0 w (R3 :: R1 :: R2 :: Rs) := h.perm (((List.Perm.swap _ _ _).cons _).trans (List.Perm.swap _ _ _))
theorem r4 (h : Sep w0 w (R1 :: R2 :: R3 :: R4 :: Rs)) : Sep w0 w (R4 :: R1 :: R2 :: R3 :: Rs) := ((h.perm ((((List.Perm.swap _ _ _).cons _).trans (List.Perm.swap _ _ _)).cons _)).sw)
theorem r5 (h : Sep w0 w (R1 :: R2 :: R3 :: R4 :: R5 :: Rs)) : Sep w0 w (R5 :: R1 :: R2 :: R3 :: R4 :: Rs) := by
  refine Sep.sw (h.perm (List.Perm.cons _ ?_))
  exact (((((List.Perm.swap _ _ _).cons _).trans (List.Perm.swap _ _ _)).cons _).trans (List.Perm.swap _ _ _))
theorem l3 (h : Sep w0 w (R1 :: R2 :: R3 :: Rs)) : Sep w0 w (R2 :: R3 :: R1 :: Rs) := h.r3.r3
theorem l4 (h : Sep w0 w (R1 :: R2 :: R3 :: R4 :: Rs)) : Sep w0 w (R2 :: R3 :: R4 :: R1 :: Rs) := h.r4.r4.r4
theorem drop (h : Sep w0 w (R :: Rs)) : Sep w0 w Rs := by
  obtain ⟨⟨F, _, _, h3⟩, hb⟩ := h
  exact ⟨h3.mono fun k hk => hk.1, hb⟩
theorem drop2 (h : Sep w0 w (R1 :: R2 :: Rs)) : Sep w0 w (R1 :: Rs) := h.sw.drop
/-- the world goes on, and nothing that was there is written -/
theorem below (h : Sep w0 w Rs) (hb : Below w.heap.size w w') : Sep w0 w' Rs :=
  ⟨(h.1.keep hb.size fun k _ hl => hb.block k hl).mono fun k hk => ⟨hk.1, Nat.lt_of_lt_of_le hk.2 hb.size⟩, h.2.trans (hb.mono h.2.size)⟩
theorem drew (h : Sep w0 w Rs) : Sep w0 w.drew Rs := h.below ⟨rfl, rfl, rfl, Nat.le_refl _, fun _ _ => rfl⟩
theorem drewN (h : Sep w0 w Rs) (n : Nat) : Sep w0 (w.drewN n) Rs := h.below ⟨rfl, rfl, rfl, Nat.le_refl _, fun _ _ => rfl⟩
theorem alloc (h : Sep w0 w Rs) (o : Obj) : Sep w0 (w.alloc o) Rs := h.below (below_alloc w o)
/-- the same, with a new thing -/
theorem add (h : Sep w0 w Rs) (hb : Below w.heap.size w w') {F : Nat → Prop} (hR : R.P w' F) (hF : ∀ k, F k → w.heap.size ≤ k) : Sep w0 w' (R :: Rs) :=
  ⟨⟨F, hR, fun k hk => ⟨Nat.le_trans h.2.size (hF k hk), R.lt _ _ hR k hk⟩, (h.1.keep hb.size fun k _ hl => hb.block k hl).mono fun k hk => ⟨⟨hk.1, Nat.lt_of_lt_of_le hk.2 hb.size⟩, fun hf => by have := hF k hf; omega⟩⟩, h.2.trans (hb.mono h.2.size)⟩
/-- the first thing is worked on -/
theorem step (h : Sep w0 w (R :: Rs)) (hs : ∀ F, R.P w F → ∃ F', R'.P w' F' ∧ (∀ k, F' k → Plus F w w' k) ∧ Keeps F w w') : Sep w0 w' (R' :: Rs) := by
  obtain ⟨⟨F, h1, h2, h3⟩, hb⟩ := h
  obtain ⟨F', a, b, c⟩ := hs F h1
  have hb' : Below w0.heap.size w0 w' := hb.trans ⟨c.os, c.tape, c.output, c.size, fun k hlt => c.block k (Nat.lt_of_lt_of_le hlt hb.size) (fun hf => by have := (h2 k hf).1; omega)⟩
  refine ⟨⟨F', a, fun k hk => ⟨?_, R'.lt _ _ a k hk⟩, ?_⟩, hb'⟩
  · rcases b k hk with h4 | h4
    · exact (h2 k h4).1
    · exact Nat.le_trans hb.size h4.1
  · refine (h3.keep c.size fun k hk hl => c.block k hl hk.2).mono fun k hk => ⟨⟨hk.1.1, Nat.lt_of_lt_of_le hk.1.2 c.size⟩, fun hf => ?_⟩
    rcases b k hf with h4 | h4
    · exact hk.2 h4
    · have := hk.1.2; omega
/-- a call that works on the first thing -/
theorem call {P : Program} {fn : FuncId} {args : Array Value} {ι : Type} {Q : Ending → ι → Prop} {R' : ι → Res} (h : Sep w0 w (R :: Rs))
    (hc : ∀ F, R.P w F → (∀ k, F k → w0.heap.size ≤ k) → Calls P fn args w fun e w' => ∃ i, Q e i ∧ ∃ F', (R' i).P w' F' ∧ (∀ k, F' k → Plus F w w' k) ∧ Keeps F w w') :
    Calls P fn args w fun e w' => ∃ i, Q e i ∧ Sep w0 w' (R' i :: Rs) := by
  obtain ⟨⟨F, h1, h2, h3⟩, hb⟩ := id h
  refine (hc F h1 fun k hk => (h2 k hk).1).mono fun e w' ⟨i, hq, F', a, b, c⟩ => ⟨i, hq, ?_⟩
  have hb' : Below w0.heap.size w0 w' := hb.trans ⟨c.os, c.tape, c.output, c.size, fun k hlt => c.block k (Nat.lt_of_lt_of_le hlt hb.size) (fun hf => by have := (h2 k hf).1; omega)⟩
  refine ⟨⟨F', a, fun k hk => ⟨?_, (R' i).lt _ _ a k hk⟩, ?_⟩, hb'⟩
  · rcases b k hk with h4 | h4
    · exact (h2 k h4).1
    · exact Nat.le_trans hb.size h4.1
  · refine (h3.keep c.size fun k hk hl => c.block k hl hk.2).mono fun k hk => ⟨⟨hk.1.1, Nat.lt_of_lt_of_le hk.1.2 c.size⟩, fun hf => ?_⟩
    rcases b k hf with h4 | h4
    · exact hk.2 h4
    · have := hk.1.2; omega
/-- what the first thing says -/
theorem get (h : Sep w0 w (R :: Rs)) : ∃ F, R.P w F ∧ ∀ k, F k → w0.heap.size ≤ k := by
  obtain ⟨⟨F, h1, h2, _⟩, _⟩ := h
  exact ⟨F, h1, fun k hk => (h2 k hk).1⟩
/-- the first thing is told in another way -/
theorem turn (h : Sep w0 w (R :: Rs)) (hs : ∀ F, R.P w F → R'.P w F) : Sep w0 w (R' :: Rs) :=
  h.step fun F hF => ⟨F, hs F hF, fun _ hk => .inl hk, Keeps.refl _ _⟩
/-- two things are told as one -/
theorem join (h : Sep w0 w (R1 :: R2 :: Rs)) (hs : ∀ F1 F2, R1.P w F1 → R2.P w F2 → (∀ k, F1 k → ¬ F2 k) → R.P w (fun k => F1 k ∨ F2 k)) : Sep w0 w (R :: Rs) := by
  obtain ⟨⟨F1, a1, a2, F2, b1, b2, c⟩, hb⟩ := h
  refine ⟨⟨_, hs F1 F2 a1 b1 (fun k hk hk2 => (b2 k hk2).2 hk), fun k hk => ?_, c.mono fun k hk => ⟨hk.1.1, fun hf => ?_⟩⟩, hb⟩
  · rcases hk with hk | hk
    · exact a2 k hk
    · exact (b2 k hk).1
  · rcases hf with hf | hf
    · exact hk.1.2 hf
    · exact hk.2 hf
/-- one thing is told as two -/
theorem part (h : Sep w0 w (R :: Rs)) (hs : ∀ F, R.P w F → ∃ F1 F2, R1.P w F1 ∧ R2.P w F2 ∧ (∀ k, F1 k → F k ∧ ¬ F2 k) ∧ (∀ k, F2 k → F k)) : Sep w0 w (R1 :: R2 :: Rs) := by
  obtain ⟨⟨F, a, b, c⟩, hb⟩ := h
  obtain ⟨F1, F2, e1, e2, e3, e4⟩ := hs F a
  exact ⟨⟨F1, e1, fun k hk => b k (e3 k hk).1, F2, e2, fun k hk => ⟨b k (e4 k hk), fun h1 => (e3 k h1).2 hk⟩, c.mono fun k hk => ⟨⟨hk.1, fun h1 => hk.2 (e3 k h1).1⟩, fun h2 => hk.2 (e4 k h2)⟩⟩, hb⟩
end Sep
/-! ### the kinds -/
theorem Loc.atBlock {w w' : World} {n : Nat} {X : Array Value} (h : Loc w n X) (hz : w.heap.size ≤ w'.heap.size) (hb : w'.heap[n]? = w.heap[n]?) : Loc w' n X :=
  ⟨Nat.lt_of_lt_of_le h.lt hz, fun j => (World.cell?_of_block (w := w) (a := ⟨n, j, none⟩) hb).trans (h.cell j), fun j => (World.frozen?_of_block (w := w) (a := ⟨n, j, none⟩) hb).trans (h.free j)⟩
/-- a variable, or a struct -/
def boxR (n : Nat) (X : Array Value) : Res where
  P := fun w F => Loc w n X ∧ ∀ k, F k ↔ k = n
  lt := fun w F h k hk => by rw [(h.2 k).1 hk]; exact h.1.lt
  keep := fun w w' F h hz hb => ⟨h.1.atBlock hz (hb n ((h.2 n).2 rfl)), h.2⟩
/-- a list of one's own -/
def ownR (e : TypeId) (size : Nat) (v : Value) (n : Nat) (xs : List (List Value)) : Res where
  P := fun w F => Own w 0 e size v n xs ∧ ∀ k, F k ↔ v.ownBlock = some k
  lt := fun w F h k hk => (h.1.1.lt k ((h.2 k).1 hk)).2
  keep := fun w w' F h hz hb => ⟨by
    refine ⟨⟨h.1.1.1, ?_⟩, h.1.2⟩
    rcases h.1.1.2 with h' | ⟨g, cap, cur, hv, hb', hg, r⟩
    · exact .inl h'
    · exact .inr ⟨g, cap, cur, hv, hb', (hb g ((h.2 g).2 (by rw [hv]; rfl))).trans hg, r⟩, h.2⟩
/-- a list that nobody writes -/
def slR (size : Nat) (A : Option Addr) (n : Nat) (xs : List (List Value)) : Res where
  P := fun w F => Sl w size A n xs ∧ ∀ k, F k ↔ xs ≠ [] ∧ (∃ ad, A = some ad ∧ ad.block = k) ∧ k < w.heap.size
  lt := fun w F h k hk => ((h.2 k).1 hk).2.2
  keep := fun w w' F h hz hb => by
    have hlt : ∀ k, (xs ≠ [] ∧ (∃ ad, A = some ad ∧ ad.block = k)) → k < w.heap.size := fun k ⟨h1, ad, h2, h3⟩ => by
      obtain ⟨x, hx⟩ : ∃ x, xs[0]? = some x := ⟨_, List.getElem?_eq_getElem (List.length_pos_iff.2 h1)⟩
      obtain ⟨b, o, hA, hb, _⟩ := h.1.2 0 x hx
      rw [hA] at h2
      injection h2 with h2
      rw [← h3, ← h2]
      exact hb
    refine ⟨⟨h.1.1, fun i x hx => ?_⟩, fun k => ⟨fun hk => ?_, fun hk => ?_⟩⟩
    · obtain ⟨b, o, hA, hlb, hc⟩ := h.1.2 i x hx
      refine ⟨b, o, hA, Nat.lt_of_lt_of_le hlb hz, fun j v hv => ?_⟩
      exact (World.cell?_of_block (w := w) (a := ⟨b, _, none⟩) (hb b ((h.2 b).2 ⟨fun e => by rw [e] at hx; simp at hx, ⟨_, hA, rfl⟩, hlb⟩))).trans (hc j v hv)
    · have h1 := (h.2 k).1 hk
      exact ⟨h1.1, h1.2.1, Nat.lt_of_lt_of_le h1.2.2 hz⟩
    · exact (h.2 k).2 ⟨hk.1, hk.2.1, hlt k ⟨hk.1, hk.2.1⟩⟩
namespace Sep
variable {w0 w w' : World} {R R' : Res} {Rs Rs' : List Res} {n b : Nat} {X : Array Value}
theorem loc (h : Sep w0 w (boxR b X :: Rs)) : Loc w b X := by obtain ⟨F, h1, _⟩ := h.get; exact h1.1
theorem set_ (h : Sep w0 w (boxR b X :: Rs)) (i : Nat) (v : Value) : Sep w0 (w.setCell ⟨b, i, none⟩ v) (boxR b (X.setIfInBounds i v) :: Rs) :=
  h.step fun F hF => ⟨F, ⟨hF.1.set_ i v, hF.2⟩, fun _ hk => .inl hk, Keeps.setCell ((hF.2 b).2 rfl) v⟩
theorem box (h : Sep w0 w Rs) (X : Array Value) (t : TypeId) : Sep w0 (w.alloc (.cells X t)) (boxR w.heap.size X :: Rs) :=
  h.add (below_alloc w _) (F := fun k => k = w.heap.size) ⟨Loc.new_ w X t, fun _ => Iff.rfl⟩ (fun k hk => by rw [hk]; exact Nat.le_refl _)
theorem boxAt (h : Sep w0 w Rs) (hb : Below w.heap.size w w') (hl : Loc w' b X) (hB : w.heap.size ≤ b) : Sep w0 w' (boxR b X :: Rs) :=
  h.add hb (F := fun k => k = b) ⟨hl, fun _ => Iff.rfl⟩ (fun k hk => by rw [hk]; exact hB)
variable {e : TypeId} {size : Nat} {v v' : Value} {xs xs' : List (List Value)} {n' : Nat} {A : Option Addr}
theorem own (h : Sep w0 w (ownR e size v n xs :: Rs)) : Own w w0.heap.size e size v n xs := by
  obtain ⟨F, h1, h2⟩ := h.get
  refine ⟨⟨h1.1.1.1, ?_⟩, h1.1.2⟩
  rcases h1.1.1.2 with h' | ⟨g, cap, cur, hv, hb, r⟩
  · exact .inl h'
  · exact .inr ⟨g, cap, cur, hv, h2 g ((h1.2 g).2 (by rw [hv]; rfl)), r⟩
/-- behind an append onto the list -/
theorem grown (h : Sep w0 w (ownR e size v n xs :: Rs)) {base : Nat} (ho : Own w' base e size v' n' xs') (hg : w.grownBy w' v.ownBlock) (hat : v'.ownBlock = v.ownBlock ∨ v'.ownBlock = some w.heap.size) : Sep w0 w' (ownR e size v' n' xs' :: Rs) :=
  h.step fun F hF => ⟨fun k => v'.ownBlock = some k, ⟨ho.mono (Nat.zero_le _), fun _ => Iff.rfl⟩, fun k hk => by
    rcases hat with h1 | h1
    · exact .inl ((hF.2 k).2 (by rw [← h1]; exact hk))
    · right
      rw [h1] at hk
      injection hk with hk
      have := (ho.1.lt k (by rw [h1, hk])).2
      omega, Keeps.grown hg fun b hb => (hF.2 b).2 hb⟩
theorem ownNew (h : Sep w0 w Rs) (hb : Below w.heap.size w w') (ho : Own w' w.heap.size e size v n xs) : Sep w0 w' (ownR e size v n xs :: Rs) :=
  h.add hb (F := fun k => v.ownBlock = some k) ⟨ho.mono (Nat.zero_le _), fun _ => Iff.rfl⟩ fun k hk => (ho.1.lt k hk).1
theorem ownNil (h : Sep w0 w Rs) (e : TypeId) (size : Nat) : Sep w0 w (ownR e size (.slice none 0 0) 0 [] :: Rs) :=
  h.add (Below.refl _ _) (F := fun k => (Value.slice none 0 0).ownBlock = some k) ⟨Own.nil_ _ _ _ _, fun _ => Iff.rfl⟩ fun k hk => by simp [Value.ownBlock] at hk
theorem sl (h : Sep w0 w (slR size A n xs :: Rs)) : Sl w size A n xs := by obtain ⟨F, h1, _⟩ := h.get; exact h1.1
end Sep
end Go.Proofs.YtjncmlglhegnaaaGreatDoor
