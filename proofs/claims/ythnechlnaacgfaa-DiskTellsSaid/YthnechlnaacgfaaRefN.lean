/- A disk and a reference's disk, apart in memory; the disk, its copy and a reference's disk. -/
import Derived.Test.YthnechlnaacgfaaRefL
namespace Go.Proofs.Ythnechlnaacgfaa
open Go.RowKit

/-- a disk and a reference's disk, made since w0, that share no block that one of them writes -/
def Both (w0 w : World) (B : Nat) (d : DV) (C : Nat) (r : DV) : Prop :=
  ∃ F G, DskX G w F B d ∧ Ref w G C r ∧ DOk d ∧ ROk r ∧ (∀ k, F k → w0.heap.size ≤ k) ∧ (∀ k, G k → w0.heap.size ≤ k) ∧ Below w0.heap.size w0 w
/-- two disks and a reference's disk -/
def Three (w0 w : World) (B1 : Nat) (d1 : DV) (B2 : Nat) (d2 : DV) (C : Nat) (r : DV) : Prop :=
  ∃ F1 F2 G, DskX (fun k => F2 k ∨ G k) w F1 B1 d1 ∧ DskX (fun k => F1 k ∨ G k) w F2 B2 d2 ∧ Ref w G C r ∧ DOk d1 ∧ DOk d2 ∧ ROk r ∧ (∀ k, F1 k → w0.heap.size ≤ k) ∧ (∀ k, F2 k → w0.heap.size ≤ k) ∧ (∀ k, G k → w0.heap.size ≤ k) ∧ Below w0.heap.size w0 w
section
variable {w0 w w' : World} {F G : Nat → Prop} {B B1 B2 C : Nat} {d d1 d2 d' r r' : DV}
theorem Ref.lt (h : Ref w F B r) : ∀ k, F k → k < w.heap.size := by obtain ⟨_, _, _, _, _, _, h⟩ := h; exact h.lt
theorem DskX.apart (h : DskX G w F B d) : ∀ k, F k → ¬ G k := by obtain ⟨_, _, _, _, _, _, _, h, _⟩ := h; exact h
theorem DskX.less {G' : Nat → Prop} (h : DskX G w F B d) (hs : ∀ k, G' k → G k) : DskX G' w F B d := by
  obtain ⟨mf, ms, Q, cq, K, ck, h, ha, hK⟩ := h
  exact ⟨mf, ms, Q, cq, K, ck, h, fun k hf hg => ha k hf (hs k hg), fun hne ad he hg => hK hne ad he (hs _ hg)⟩
theorem Ref.keeps (h : Ref w F B r) (hk : Keeps G w w') (ha : ∀ k, F k → ¬ G k) : Ref w' F B r := by
  obtain ⟨_, _, _, _, _, _, h⟩ := h
  exact ⟨_, _, _, _, _, _, h.keeps hk ha⟩
theorem Ref.below (h : Ref w F B r) (hb : Below w.heap.size w w') : Ref w' F B r := by
  obtain ⟨_, _, _, _, _, _, h⟩ := h
  exact ⟨_, _, _, _, _, _, h.below hb⟩
theorem Both.base (h : Both w0 w B d C r) : Below w0.heap.size w0 w := by obtain ⟨F, G, _, _, _, _, _, _, g⟩ := h; exact g
theorem Both.ok (h : Both w0 w B d C r) : DOk d := by obtain ⟨F, G, _, _, c, _⟩ := h; exact c
theorem Both.rok (h : Both w0 w B d C r) : ROk r := by obtain ⟨F, G, _, _, _, c, _⟩ := h; exact c
theorem Both.has (h : Both w0 w B d C r) : Has w0 w B d := by
  obtain ⟨F, G, a, b, c, e, f, g, i⟩ := h
  exact ⟨F, a.dsk, c, f, i⟩
theorem Both.below (h : Both w0 w B d C r) (hb : Below w.heap.size w w') : Both w0 w' B d C r := by
  obtain ⟨F, G, a, b, c, e, f, g, i⟩ := h
  exact ⟨F, G, a.keeps (Keeps.below hb) (fun k h => .inl h), b.below hb, c, e, f, g, i.trans (hb.mono i.size)⟩
/-- a call that works on the disk -/
theorem Both.call {P : Program} {fn : FuncId} {args : Array Value} {E : Ending} (h : Both w0 w B d C r) (hok : DOk d')
    (hc : ∀ F mf ms Q cq K ck, DiskAt w F B d mf ms Q cq K ck → (∀ k, F k → w0.heap.size ≤ k) → Calls P fn args w fun e w' => e = E ∧ DskTo F w B d' w') :
    Calls P fn args w fun e w' => e = E ∧ Both w0 w' B d' C r := by
  obtain ⟨F, G, a, b, c, e, f, g, i⟩ := h
  obtain ⟨mf, ms, Q, cq, K, ck, h1, ha⟩ := id a
  refine (hc F mf ms Q cq K ck h1 f).mono fun e' w' ⟨he, ht⟩ => ?_
  obtain ⟨F', h2, hE⟩ := a.step b.lt ht
  refine ⟨he, F', G, h2, b.keeps hE.keeps (fun k hk hf => a.apart k hf hk), hok, e, fun k hk => ?_, g, keeps_below i hE.keeps f⟩
  rcases hE.sup k hk with h5 | h5
  · exact f k h5
  · have := i.size; omega
/-- a call that works on the reference's disk -/
theorem Both.callR {P : Program} {fn : FuncId} {args : Array Value} {E : Ending} (h : Both w0 w B d C r) (hok : ROk r')
    (hc : ∀ G FA cf Q cq K ck, RefAt w G C r FA cf Q cq K ck → (∀ k, G k → w0.heap.size ≤ k) → Calls P fn args w fun e w' => e = E ∧ RefTo G w C r' w') :
    Calls P fn args w fun e w' => e = E ∧ Both w0 w' B d C r' := by
  obtain ⟨F, G, a, b, c, e, f, g, i⟩ := h
  obtain ⟨FA, cf, Q, cq, K, ck, h1⟩ := id b
  refine (hc G FA cf Q cq K ck h1 g).mono fun e' w' ⟨he, G', h2, hE⟩ => ?_
  refine ⟨he, F, G', a.keeps hE.keeps hE.sup, h2, c, hok, f, fun k hk => ?_, keeps_below i hE.keeps g⟩
  rcases hE.sup k hk with h5 | h5
  · exact g k h5
  · have := i.size; omega
theorem Both.readR {P : Program} {fn : FuncId} {args : Array Value} {R : Ending → World → Prop} (h : Both w0 w B d C r) (hc : ∀ G FA cf Q cq K ck, RefAt w G C r FA cf Q cq K ck → Calls P fn args w R) : Calls P fn args w R := by
  obtain ⟨F, G, _, ⟨_, _, _, _, _, _, h1⟩, _⟩ := h
  exact hc _ _ _ _ _ _ _ h1
/-- the copy beside both -/
theorem Both.copy (h : Both w0 w B d C r) (hb : Below w.heap.size w w') (hd : Dsk w' (fun k => w.heap.size ≤ k ∧ k < w'.heap.size) B2 d) (hcell : w'.cell? ⟨B2, 6, none⟩ = w.cell? ⟨B, 6, none⟩) : Three w0 w' B d B2 d C r := by
  obtain ⟨F, G, a, b, c, e, f, g, i⟩ := h
  obtain ⟨mf, ms, Q, cq, K, ck, h1, ha, hK⟩ := a
  obtain ⟨mf2, ms2, Q2, cq2, K2, ck2, h5⟩ := hd
  have h1' := h1.below hb
  have hcK : K = K2 := by
    have h6 := h5.loc.cell 6
    have h7 := h1.loc.cell 6
    rw [hcell, h7] at h6
    have h8 : Value.slice K d.keep.length ck = .slice K2 d.keep.length ck2 := by simpa using h6
    injection h8
  subst hcK
  refine ⟨F, _, G, ⟨mf, ms, Q, cq, K, ck, h1', fun k hf hg => ?_, fun hne ad he hg => ?_⟩, ⟨mf2, ms2, Q2, cq2, K, ck2, h5, fun k hf hg => ?_, fun hne ad he hg => ?_⟩, b.below hb, c, c, e, f, fun k hk => Nat.le_trans i.size hk.1, g, i.trans (hb.mono i.size)⟩
  · rcases hg with hg | hg
    · have := h1.lt k hf; omega
    · exact ha k hf hg
  · rcases hg with hg | hg
    · have := h1.keep_lt hne ad he; omega
    · exact hK hne ad he hg
  · rcases hg with hg | hg
    · have := h1.lt k hg; omega
    · have := b.lt k hg; omega
  · rcases hg with hg | hg
    · exact h1.fk hne ad he hg
    · exact hK hne ad he hg
/-- a call that works on the first disk -/
theorem Three.call {P : Program} {fn : FuncId} {args : Array Value} {E : Ending} (h : Three w0 w B1 d1 B2 d2 C r) (hok : DOk d')
    (hc : ∀ F mf ms Q cq K ck, DiskAt w F B1 d1 mf ms Q cq K ck → (∀ k, F k → w0.heap.size ≤ k) → Calls P fn args w fun e w' => e = E ∧ DskTo F w B1 d' w') :
    Calls P fn args w fun e w' => e = E ∧ Three w0 w' B1 d' B2 d2 C r := by
  obtain ⟨F1, F2, G, a, b, x, c1, c2, e, f1, f2, g, i⟩ := h
  obtain ⟨mf, ms, Q, cq, K, ck, h1, ha⟩ := id a
  refine (hc F1 mf ms Q cq K ck h1 f1).mono fun e' w' ⟨he, ht⟩ => ?_
  obtain ⟨F', h2, hE⟩ := a.step (fun k hk => hk.elim (b.lt k) (x.lt k)) ht
  refine ⟨he, F', F2, G, h2, b.keeps (hE.keeps.mono (G := fun k => F1 k ∨ G k) (fun k hk => Or.inl hk)) (fun k hk => ?_), x.keeps hE.keeps (fun k hk hf => a.apart k hf (.inr hk)), hok, c2, e, fun k hk => ?_, f2, g, keeps_below i hE.keeps f1⟩
  · rcases hk with hk | hk
    · rcases hE.sup k hk with h | h
      · exact .inl (.inl h)
      · exact .inr h
    · exact .inl (.inr hk)
  · rcases hE.sup k hk with h5 | h5
    · exact f1 k h5
    · have := i.size; omega
theorem Three.snd (h : Three w0 w B1 d1 B2 d2 C r) : Both w0 w B2 d2 C r := by
  obtain ⟨F1, F2, G, a, b, x, c1, c2, e, f1, f2, g, i⟩ := h
  exact ⟨F2, G, b.less (fun k hk => .inr hk), x, c2, e, f2, g, i⟩
theorem Three.ok (h : Three w0 w B1 d1 B2 d2 C r) : DOk d1 := by obtain ⟨F1, F2, G, a, b, x, c1, _⟩ := h; exact c1
theorem Three.base (h : Three w0 w B1 d1 B2 d2 C r) : Below w0.heap.size w0 w := h.snd.base
/-- the reference's new disk beside a disk -/
theorem Has.besideR (h : Has w0 w B d) (hb : Below w.heap.size w w') (hr : Ref w' (fun k => w.heap.size ≤ k ∧ k < w'.heap.size) C r) (hok : ROk r) : Both w0 w' B d C r := by
  obtain ⟨F, ⟨mf, ms, Q, cq, K, ck, h1⟩, h2, h3, h4⟩ := h
  refine ⟨F, _, ⟨mf, ms, Q, cq, K, ck, h1.below hb, fun k hf hg => ?_, fun hne ad he hg => ?_⟩, hr, h2, hok, h3, fun k hk => Nat.le_trans h4.size hk.1, h4.trans (hb.mono h4.size)⟩
  · have := h1.lt k hf; omega
  · have := h1.keep_lt hne ad he; omega
/-- the calls of the law -/
theorem Both.new (h : Has w0 w B d) : Calls Try.prog 11 #[] w fun e w' => ∃ C, e = .returned (.pointer (some ⟨C, 0, none⟩)) ∧ Both w0 w' B d C newD :=
  (New_ref w).mono fun e w' ⟨C, he, h1, hb⟩ => ⟨C, he, h.besideR hb h1 ROk.new⟩
theorem Both.do_ (h : Both w0 w B d C r) (a : ActC) (ha : a.ok) (hf : a.few) (hk : IntsAt w0 a.A a.keep) (x : DV × Int) (hx : doF d a = x) :
    Calls Try.prog 12 #[.pointer (some ⟨B, 0, none⟩), .agg #[.int .i64 a.do_, .int .i64 a.f, .int .i64 a.n, strV a.s, .slice a.A a.keep.length a.c]] w fun e w' => e = .returned (.int .i64 x.2) ∧ Both w0 w' B x.1 C r := by
  subst hx
  exact h.call (h.ok.do_ ha hf.2.1) fun F mf ms Q cq K ck hd hn => do_any hd h.ok a ha hf (hk.below h.base) (hk.far hn)
theorem Both.tell (h : Both w0 w B d C r) (a : ActC) (ha : a.ok) (hf : a.few) (hk : IntsAt w0 a.A a.keep) (x : DV × Int) (hx : tellF r a = x) :
    Calls Try.prog 13 #[.pointer (some ⟨C, 0, none⟩), .agg #[.int .i64 a.do_, .int .i64 a.f, .int .i64 a.n, strV a.s, .slice a.A a.keep.length a.c]] w fun e w' => e = .returned (.int .i64 x.2) ∧ Both w0 w' B d C x.1 := by
  subst hx
  exact h.callR (h.rok.tell ha hf.2.1) fun G FA cf Q cq K ck hd hn => tell_ref hd h.rok a ha hf (hk.below h.base) (hk.far hn)
theorem Both.down (h : Both w0 w B d C r) (x : Bool) (hx : r.down = x) : Calls Try.prog 15 #[.pointer (some ⟨C, 0, none⟩)] w fun e w' => e = .returned (.bool x) ∧ w = w' :=
  h.readR fun G FA cf Q cq K ck hd => (Down_ref hd x hx).mono fun e w' ⟨h1, h2⟩ => ⟨h1, h2.symm⟩
theorem Both.size (h : Both w0 w B d C r) (f x : Int) (hx : x = (r.file f).now.length) : Calls Try.prog 17 #[.pointer (some ⟨C, 0, none⟩), .int .i64 f] w fun e w' => e = .returned (.int .i64 x) ∧ Both w0 w' B d C r :=
  h.readR fun G FA cf Q cq K ck hd => (Size_ref hd h.rok.few f x hx).mono fun e w' ⟨h1, h2⟩ => ⟨h1, h.below h2⟩
theorem Both.read (h : Both w0 w B d C r) (f at_ n : Int) (x : List UInt8 × Int) (hx : ReadF r f at_ n = x) : Calls Try.prog 21 #[.pointer (some ⟨C, 0, none⟩), .int .i64 f, .int .i64 at_, .int .i64 n] w fun e w' => e = .returned (.tuple #[strV x.1, .int .i64 x.2]) ∧ Both w0 w' B d C r :=
  h.readR fun G FA cf Q cq K ck hd => (Read_ref hd h.rok f at_ n x hx).mono fun e w' ⟨h1, h2⟩ => ⟨h1, h.below h2⟩
theorem Both.copy_ (h : Both w0 w B d C r) : Calls Try.prog 18 #[.pointer (some ⟨B, 0, none⟩)] w fun e w' => ∃ B', e = .returned (.pointer (some ⟨B', 0, none⟩)) ∧ Three w0 w' B d B' d C r :=
  h.has.read fun F mf ms Q cq K ck hd => (Copy_any hd h.ok).mono fun e w' ⟨B', he, h1, h2, h3⟩ => ⟨B', he, h.copy h2 h1 h3⟩
theorem Three.do_ (h : Three w0 w B1 d1 B2 d2 C r) (a : ActC) (ha : a.ok) (hf : a.few) (hk : IntsAt w0 a.A a.keep) (x : DV × Int) (hx : doF d1 a = x) :
    Calls Try.prog 12 #[.pointer (some ⟨B1, 0, none⟩), .agg #[.int .i64 a.do_, .int .i64 a.f, .int .i64 a.n, strV a.s, .slice a.A a.keep.length a.c]] w fun e w' => e = .returned (.int .i64 x.2) ∧ Three w0 w' B1 x.1 B2 d2 C r := by
  subst hx
  exact h.call (h.ok.do_ ha hf.2.1) fun F mf ms Q cq K ck hd hn => do_any hd h.ok a ha hf (hk.below h.base) (hk.far hn)
theorem Three.sync (h : Three w0 w B1 d1 B2 d2 C r) (f : Int) (x : DV × Int) (hx : SyncF d1 f = x) :
    Calls Try.prog 19 #[.pointer (some ⟨B1, 0, none⟩), .int .i64 f] w fun e w' => e = .returned (.int .i64 x.2) ∧ Three w0 w' B1 x.1 B2 d2 C r := by
  subst hx
  exact h.call (h.ok.Sync _) fun F mf ms Q cq K ck hd hn => Sync_any hd h.ok f
end
end Go.Proofs.Ythnechlnaacgfaa
