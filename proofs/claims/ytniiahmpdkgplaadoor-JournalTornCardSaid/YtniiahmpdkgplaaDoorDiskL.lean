/- disk: one disk, and two disks apart, in memory; the acts. -/
import Derived.Test.YtniiahmpdkgplaaDoorDiskJ
namespace Go.Proofs.YtniiahmpdkgplaaDoor
open Go.RowKit

section
variable {w w' : World} {F G G' : Nat → Prop} {B : Nat} {d d' : DV} {mf ms : Nat} {Q : Option Addr} {cq : Nat} {K : Option Addr} {ck : Nat}
theorem Loc.ofBlock {n : Nat} {X : Array Value} (h : Loc w n X) (hz : w.heap.size ≤ w'.heap.size) (hb : w'.heap[n]? = w.heap[n]?) : Loc w' n X :=
  ⟨Nat.lt_of_lt_of_le h.lt hz, fun j => (World.cell?_of_block (w := w) (a := ⟨n, j, none⟩) hb).trans (h.cell j), fun j => (World.frozen?_of_block (w := w) (a := ⟨n, j, none⟩) hb).trans (h.free j)⟩
theorem MapAt.ofBlock {b : Nat} {es : List (Value × Value)} (h : MapAt w b es) (hb : w'.heap[b]? = w.heap[b]?) : MapAt w' b es := by
  obtain ⟨arr, clock, h1, r⟩ := h
  exact ⟨arr, clock, hb.trans h1, r⟩
theorem Own.ofBlock {base : Nat} {e : TypeId} {size n : Nat} {v : Value} {xs : List (List Value)} (h : Own w base e size v n xs) (hb : ∀ b, v.ownBlock = some b → w'.heap[b]? = w.heap[b]?) : Own w' base e size v n xs := by
  refine ⟨⟨h.1.1, ?_⟩, h.2⟩
  rcases h.1.2 with h' | ⟨g, cap, cur, hv, hb', hg, r⟩
  · exact .inl h'
  · exact .inr ⟨g, cap, cur, hv, hb', (hb g (by rw [hv]; rfl)).trans hg, r⟩
/-- a disk stays while other blocks are written -/
theorem DiskAt.keeps (h : DiskAt w F B d mf ms Q cq K ck) (hk : Keeps G w w') (ha : ∀ k, F k → ¬ G k) (hK : d.keep ≠ [] → ∀ ad, K = some ad → ¬ G ad.block) : DiskAt w' F B d mf ms Q cq K ck := by
  have hb : ∀ k, F k → w'.heap[k]? = w.heap[k]? := fun k hf => hk.block k (h.lt k hf) (ha k hf)
  exact ⟨h.loc.ofBlock hk.size (hb B h.fB), h.files.ofBlock (hb mf h.ff), h.set.ofBlock (hb ms h.fs), h.queue.ofBlock (fun b hq => hb b (h.fq b (by rw [← slice_block Q d.queue.length cq]; exact hq))),
    h.keep.keeps hk (fun hne => hK (fun e => hne (by rw [e]; rfl))), h.fB, h.ff, h.fs, h.fq, h.fk, h.ne, h.nq, fun b hf => Nat.lt_of_lt_of_le (h.lt b hf) hk.size⟩
/-- a disk apart from the blocks of G -/
def DskX (G : Nat → Prop) (w : World) (F : Nat → Prop) (B : Nat) (d : DV) : Prop :=
  ∃ mf ms Q cq K ck, DiskAt w F B d mf ms Q cq K ck ∧ (∀ k, F k → ¬ G k) ∧ (d.keep ≠ [] → ∀ ad, K = some ad → ¬ G ad.block)
theorem DskX.dsk (h : DskX G w F B d) : Dsk w F B d := by
  obtain ⟨mf, ms, Q, cq, K, ck, h, _⟩ := h
  exact ⟨mf, ms, Q, cq, K, ck, h⟩
theorem DskX.lt (h : DskX G w F B d) : ∀ k, F k → k < w.heap.size := by
  obtain ⟨mf, ms, Q, cq, K, ck, h, _⟩ := h
  exact h.lt
/-- the others write -/
theorem DskX.keeps (h : DskX G w F B d) (hk : Keeps G w w') (hG : ∀ k, G' k → Plus G w w' k) : DskX G' w' F B d := by
  obtain ⟨mf, ms, Q, cq, K, ck, h, ha, hK⟩ := h
  refine ⟨mf, ms, Q, cq, K, ck, h.keeps hk ha hK, fun k hf hg => ?_, fun hne ad he hg => ?_⟩
  · rcases hG k hg with h1 | h1
    · exact ha k hf h1
    · have := h.lt k hf; omega
  · rcases hG _ hg with h1 | h1
    · exact hK hne ad he h1
    · have := h.keep_lt hne ad he; omega
/-- this disk is worked on -/
theorem DskX.step (h : DskX G w F B d) (hG : ∀ k, G k → k < w.heap.size) (ht : DskTo F w B d' w') : ∃ F', DskX G w' F' B d' ∧ Ext F F' w w' := by
  obtain ⟨mf, ms, Q, cq, K, ck, h, ha, hK⟩ := h
  obtain ⟨F', ⟨mf', ms', Q', cq', K', ck', h'⟩, hE, hkk⟩ := ht
  refine ⟨F', ⟨mf', ms', Q', cq', K', ck', h', fun k hf hg => ?_, fun hne ad he hg => ?_⟩, hE⟩
  · rcases hE.sup k hf with h1 | h1
    · exact ha k h1 hg
    · have := hG k hg; omega
  · have h6' := h'.loc.cell 6
    have h6 := h.loc.cell 6
    rcases hkk with hkk | hkk
    · rw [hkk, h6] at h6'
      have h7 : Value.slice K d.keep.length ck = .slice K' d'.keep.length ck' := by simpa using h6'
      injection h7 with h8 h9
      refine hK (fun e => hne ?_) ad (h8.trans he) hg
      rw [e] at h9
      exact List.eq_nil_of_length_eq_zero h9.symm
    · have h1 := hkk K' d'.keep.length ck' (by rw [h6']; rfl) ad he
      have h2 := hG _ hg
      omega

/-- one disk, made since w0 -/
def Has (w0 w : World) (B : Nat) (d : DV) : Prop := ∃ F, Dsk w F B d ∧ DOk d ∧ (∀ k, F k → w0.heap.size ≤ k) ∧ Below w0.heap.size w0 w
variable {w0 : World}
theorem keeps_below {w0 w w' : World} {F : Nat → Prop} (hb : Below w0.heap.size w0 w) (hk : Keeps F w w') (hn : ∀ k, F k → w0.heap.size ≤ k) : Below w0.heap.size w0 w' :=
  hb.trans ⟨hk.os, hk.tape, hk.output, hk.size, fun k hlt => hk.block k (Nat.lt_of_lt_of_le hlt hb.size) (fun hf => by have := hn k hf; omega)⟩
theorem Has.ok (h : Has w0 w B d) : DOk d := by obtain ⟨F, h1, h2, _⟩ := h; exact h2
theorem Has.base (h : Has w0 w B d) : Below w0.heap.size w0 w := by obtain ⟨F, h1, h2, h3, h4⟩ := h; exact h4
theorem Has.below (h : Has w0 w B d) (hb : Below w.heap.size w w') : Has w0 w' B d := by
  obtain ⟨F, ⟨mf, ms, Q, cq, K, ck, h1⟩, h2, h3, h4⟩ := h
  exact ⟨F, ⟨mf, ms, Q, cq, K, ck, h1.below hb⟩, h2, h3, h4.trans (hb.mono h4.size)⟩
/-- a call that works on the disk -/
theorem Has.call {P : Program} {fn : FuncId} {args : Array Value} {E : Ending} (h : Has w0 w B d) (hok : DOk d')
    (hc : ∀ F mf ms Q cq K ck, DiskAt w F B d mf ms Q cq K ck → (∀ k, F k → w0.heap.size ≤ k) → Calls P fn args w fun e w' => e = E ∧ DskTo F w B d' w') :
    Calls P fn args w fun e w' => e = E ∧ Has w0 w' B d' := by
  obtain ⟨F, ⟨mf, ms, Q, cq, K, ck, h1⟩, h2, h3, h4⟩ := h
  refine (hc F mf ms Q cq K ck h1 h3).mono fun e w' ⟨he, F', hD, hE, _⟩ => ⟨he, F', hD, hok, fun k hk => ?_, keeps_below h4 hE.keeps h3⟩
  rcases hE.sup k hk with h5 | h5
  · exact h3 k h5
  · have := h4.size; omega
/-- a call that only reads it -/
theorem Has.read {P : Program} {fn : FuncId} {args : Array Value} {R : Ending → World → Prop} (h : Has w0 w B d) (hc : ∀ F mf ms Q cq K ck, DiskAt w F B d mf ms Q cq K ck → Calls P fn args w R) : Calls P fn args w R := by
  obtain ⟨F, ⟨mf, ms, Q, cq, K, ck, h1⟩, _⟩ := h
  exact hc F mf ms Q cq K ck h1
/-- two disks, made since w0, that share no block that one of them writes -/
def Two (w0 w : World) (B1 : Nat) (d1 : DV) (B2 : Nat) (d2 : DV) : Prop :=
  ∃ F1 F2, DskX F2 w F1 B1 d1 ∧ DskX F1 w F2 B2 d2 ∧ DOk d1 ∧ DOk d2 ∧ (∀ k, F1 k → w0.heap.size ≤ k) ∧ (∀ k, F2 k → w0.heap.size ≤ k) ∧ Below w0.heap.size w0 w
variable {B1 B2 : Nat} {d1 d2 : DV}
theorem Two.swap (h : Two w0 w B1 d1 B2 d2) : Two w0 w B2 d2 B1 d1 := by
  obtain ⟨F1, F2, a, b, c, d, e, f, g⟩ := h
  exact ⟨F2, F1, b, a, d, c, f, e, g⟩
theorem Two.fst (h : Two w0 w B1 d1 B2 d2) : Has w0 w B1 d1 := by
  obtain ⟨F1, F2, a, b, c, d, e, f, g⟩ := h
  exact ⟨F1, a.dsk, c, e, g⟩
theorem Two.snd (h : Two w0 w B1 d1 B2 d2) : Has w0 w B2 d2 := h.swap.fst
theorem Two.below (h : Two w0 w B1 d1 B2 d2) (hb : Below w.heap.size w w') : Two w0 w' B1 d1 B2 d2 := by
  obtain ⟨F1, F2, a, b, c, d, e, f, g⟩ := h
  have hk : ∀ G : Nat → Prop, Keeps G w w' := fun G => Keeps.below hb
  exact ⟨F1, F2, a.keeps (hk F2) (fun k h => .inl h), b.keeps (hk F1) (fun k h => .inl h), c, d, e, f, g.trans (hb.mono g.size)⟩
theorem Two.call {P : Program} {fn : FuncId} {args : Array Value} {E : Ending} (h : Two w0 w B1 d1 B2 d2) (hok : DOk d')
    (hc : ∀ F mf ms Q cq K ck, DiskAt w F B1 d1 mf ms Q cq K ck → (∀ k, F k → w0.heap.size ≤ k) → Calls P fn args w fun e w' => e = E ∧ DskTo F w B1 d' w') :
    Calls P fn args w fun e w' => e = E ∧ Two w0 w' B1 d' B2 d2 := by
  obtain ⟨F1, F2, a, b, c, d, e, f, g⟩ := h
  obtain ⟨mf, ms, Q, cq, K, ck, h1, ha⟩ := id a
  refine (hc F1 mf ms Q cq K ck h1 e).mono fun e' w' ⟨he, ht⟩ => ?_
  obtain ⟨F1', h2, hE⟩ := a.step b.lt ht
  refine ⟨he, F1', F2, h2, b.keeps hE.keeps hE.sup, hok, d, fun k hk => ?_, f, keeps_below g hE.keeps e⟩
  rcases hE.sup k hk with h5 | h5
  · exact e k h5
  · have := g.size; omega
theorem Two.call2 {P : Program} {fn : FuncId} {args : Array Value} {E : Ending} (h : Two w0 w B1 d1 B2 d2) (hok : DOk d')
    (hc : ∀ F mf ms Q cq K ck, DiskAt w F B2 d2 mf ms Q cq K ck → (∀ k, F k → w0.heap.size ≤ k) → Calls P fn args w fun e w' => e = E ∧ DskTo F w B2 d' w') :
    Calls P fn args w fun e w' => e = E ∧ Two w0 w' B1 d1 B2 d' :=
  (h.swap.call hok hc).mono fun e w' ⟨he, ht⟩ => ⟨he, ht.swap⟩
/-- a new disk beside one that is there -/
theorem Has.beside (h : Has w0 w B1 d1) (hb : Below w.heap.size w w') (hd : Dsk w' (fun k => w.heap.size ≤ k ∧ k < w'.heap.size) B2 d2) (hok : DOk d2) (hK : d2.keep = [] ∨ d2.keep = d1.keep ∧ w'.cell? ⟨B2, 6, none⟩ = w.cell? ⟨B1, 6, none⟩) : Two w0 w' B1 d1 B2 d2 := by
  obtain ⟨F, ⟨mf, ms, Q, cq, K, ck, h1⟩, h2, h3, h4⟩ := h
  obtain ⟨mf2, ms2, Q2, cq2, K2, ck2, h5⟩ := hd
  have h1' := h1.below hb
  refine ⟨F, _, ⟨mf, ms, Q, cq, K, ck, h1', fun k hf hg => ?_, fun hne ad he hg => ?_⟩, ⟨mf2, ms2, Q2, cq2, K2, ck2, h5, fun k hf hg => ?_, fun hne ad he hg => ?_⟩, h2, hok, h3, fun k hk => Nat.le_trans h4.size hk.1, h4.trans (hb.mono h4.size)⟩
  · have := h1.lt k hf; omega
  · have := h1.keep_lt hne ad he; omega
  · have := h1.lt k hg; omega
  · rcases hK with hK | ⟨hK, hc⟩
    · exact hne hK
    · have h6 := h5.loc.cell 6
      have h7 := h1.loc.cell 6
      rw [hc, h7] at h6
      have h8 : Value.slice K d1.keep.length ck = .slice K2 d2.keep.length ck2 := by simpa using h6
      injection h8 with h8
      exact h1.fk (by rw [← hK]; exact hne) ad (h8.trans he) hg
end
end Go.Proofs.YtniiahmpdkgplaaDoor
