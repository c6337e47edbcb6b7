/- kerbsidelaw02: acts: do, few, played, after, byteAt, same. -/
/- kerbsideref02: what the functions compute, in plain Lean; it answers as the disk does. -/
/- kerbsideref02: what holds of a reference's disk, in plain Lean. -/
/- kerbsideref02: how a reference's disk lies in memory; the small methods, walked. -/
/- kerbsideref02: get, Size, Read, pending, walked. -/
/- kerbsideref02: Read, walked. -/
/- kerbsideref02: Arm, walked. -/
/- kerbsideref02: set, walked. -/
/- kerbsideref02: settle, walked. -/
import Derived.Test.YtjncmlglhegnaaaGreatDoorWireQ
import Derived.Test.YtjncmlglhegnaaaGreatDoorDiskQ
import Derived.Deep.QuietTactic
import Derived.BigQuiet
namespace Go.Proofs.YtjncmlglhegnaaaGreatDoor
open Go.RowKit

/-- an act, with where its keep list lies -/
structure ActC where
  do_ : Int
  f : Int
  n : Int
  s : List UInt8
  keep : List Int
  A : Option Addr
  c : Nat
def ActC.cells (a : ActC) : List Value := [.int .i64 a.do_, .int .i64 a.f, .int .i64 a.n, strV a.s, .slice a.A a.keep.length a.c]
def ActC.ok (a : ActC) : Prop := inI a.do_ ∧ inI a.f ∧ inI a.n
def ActC.few (a : ActC) : Prop := a.s.length ≤ 300 ∧ a.keep.length ≤ 60 ∧ ¬ (3000 < a.n ∧ a.n < 16776916)
instance actFewDec (a : ActC) : Decidable a.few := by unfold ActC.few; exact inferInstance
/-- an int list that came in -/
abbrev IntsAt (w : World) (A : Option Addr) (ks : List Int) : Prop := Sl w 1 A ks.length (ks.map fun k => [.int .i64 k])
theorem IntsAt.below {w w' : World} {A : Option Addr} {ks : List Int} (h : IntsAt w A ks) (hb : Below w.heap.size w w') : IntsAt w' A ks := Sl.below h hb
theorem IntsAt.lt {w : World} {A : Option Addr} {ks : List Int} (h : IntsAt w A ks) (hk : ks ≠ []) : ∀ ad, A = some ad → ad.block < w.heap.size := fun ad he => by
  obtain ⟨k, r, e⟩ := List.exists_cons_of_ne_nil hk
  obtain ⟨b, o, hA, hb, _⟩ := h.2 0 [.int .i64 k] (by rw [e]; rfl)
  rw [he] at hA
  injection hA with hA
  rw [hA]
  exact hb
theorem IntsAt.far {w0 : World} {A : Option Addr} {ks : List Int} {F : Nat → Prop} (h : IntsAt w0 A ks) (hF : ∀ k, F k → w0.heap.size ≤ k) : ks ≠ [] → ∀ ad, A = some ad → ¬ F ad.block := fun hk ad he hf => by
  have := h.lt hk ad he
  have := hF _ hf
  omega
def doF (d : DV) (a : ActC) : DV × Int :=
  if a.do_ % 8 = 2 then SyncF d a.f else if a.do_ % 8 = 3 then TruncF d a.f a.n else if a.do_ % 8 = 4 then (LoseF d (a.n % 4), 0)
  else if a.do_ % 8 = 5 then (ArmF d a.n a.keep, 0) else if a.do_ % 8 = 6 then (crashF d a.keep, 0) else if a.do_ % 8 = 7 then (StartF d, 0) else WriteF d a.f a.n a.s
theorem DOk.do_ {d : DV} (h : DOk d) {a : ActC} (ha : a.ok) (hk : a.keep.length ≤ 60) : DOk (doF d a).1 := by
  unfold doF
  split
  · exact h.Sync _
  · split
    · exact h.Trunc _ _
    · split
      · exact h.Lose _ (by omega)
      · split
        · exact h.Arm _ ha.2.2.2 _ (by omega)
        · split
          · exact h.crash _
          · split
            · exact h.Start
            · exact h.Write _ _ _
section
variable {w : World} {F : Nat → Prop} {B : Nat} {d : DV} {mf ms : Nat} {Q : Option Addr} {cq : Nat} {K : Option Addr} {ck : Nat}
theorem DskTo.alloc {o : Obj} {w' : World} {d' : DV} (h : DiskAt w F B d mf ms Q cq K ck) (ht : DskTo F (w.alloc o) B d' w') : DskTo F w B d' w' :=
  ht.from (Ext.same (Keeps.below (below_alloc w o))) (KK.below (below_alloc w o) (h.lt B h.fB))
end
end Go.Proofs.YtjncmlglhegnaaaGreatDoor
namespace Go.Proofs.YtjncmlglhegnaaaGreatDoor

/-- the reference's files: a list, in which a file that is set comes last -/
def setL (f : Int) (x : FileV) (fs : List (Int × FileV)) : List (Int × FileV) := fs.filter (fun p => p.1 ≠ f) ++ [(f, x)]
def fitsR (at_ : Int) (s : List UInt8) : Bool := decide (0 ≤ at_) && decide (at_ ≤ 16777216) && decide (at_ + s.length ≤ 16777216)
def addR (r : DV) (f at_ : Int) (s : List UInt8) : DV :=
  if s = [] then r else { r with files := setL f ⟨putB (r.file f).now at_.toNat s, (r.file f).last⟩ r.files, queue := addQ r.queue (touched f at_.toNat s.length) }
def surviveR (fs : List (Int × FileV)) (p : Int × Int) : List (Int × FileV) :=
  let x := (getA p.1 fs).getD noFile
  setL p.1 (if 64 * p.2 < x.now.length then ⟨x.now, putB x.last (64 * p.2).toNat ((x.now.drop (64 * p.2).toNat).take 64)⟩ else x) fs
def surviveAllR (keep : List Int) : Nat → List (Int × Int) → List (Int × FileV) → List (Int × FileV)
  | _, [], fs => fs
  | i, p :: ps, fs => surviveAllR keep (i + 1) ps (if keep = [] ∨ (keep[i % keep.length]?).getD 0 % 2 = 0 then fs else surviveR fs p)
def crashR (r : DV) (keep : List Int) : DV :=
  if r.down then r else
  { r with files := (surviveAllR keep 0 r.queue r.files).map (fun p => (p.1, ⟨p.2.last, p.2.last⟩)), queue := [], down := true, armed := 0 }
def comesR (r : DV) (f at_ : Int) (s : List UInt8) : DV :=
  if r.down ∨ r.armed = 0 then r
  else if 0 < r.armed - 1 then { r with armed := r.armed - 1 }
  else crashR (if 0 ≤ f ∧ f ≤ 15 ∧ fitsR at_ s = true then addR { r with armed := r.armed - 1 } f at_ s else { r with armed := r.armed - 1 }) r.keep
def WriteR (r : DV) (f at_ : Int) (s : List UInt8) : DV × Int :=
  let r1 := comesR r f at_ s
  if mayF r1 f ≠ 0 then (r1, mayF r1 f) else if at_ < 0 then (r1, 1) else if fitsR at_ s = false then (r1, 6) else (addR r1 f at_ s, 0)
/-- Write, behind the crash that may come -/
def lastR (r1 : DV) (f at_ : Int) (s : List UInt8) : DV × Int := if mayF r1 f ≠ 0 then (r1, mayF r1 f) else if at_ < 0 then (r1, 1) else if fitsR at_ s = false then (r1, 6) else (addR r1 f at_ s, 0)
theorem WriteR_last (r : DV) (f at_ : Int) (s : List UInt8) : WriteR r f at_ s = lastR (comesR r f at_ s) f at_ s := rfl
def settleR (r : DV) (f : Int) (s : List UInt8) : DV := { r with files := setL f ⟨s, s⟩ r.files, queue := r.queue.filter fun p => p.1 ≠ f }
def SyncR (r : DV) (f : Int) : DV × Int :=
  let r1 := comesR r 0 0 []
  if mayF r1 f ≠ 0 then (r1, mayF r1 f) else if 0 < r1.lost then ({ r1 with lost := r1.lost - 1 }, 9) else (settleR r1 f (r1.file f).now, 0)
def TruncR (r : DV) (f n : Int) : DV × Int :=
  let r1 := comesR r 0 0 []
  if mayF r1 f ≠ 0 then (r1, mayF r1 f) else if n < 0 ∨ ((r1.file f).now.length : Int) < n then (r1, 1) else (settleR r1 f ((r1.file f).now.take n.toNat), 0)
def tellF (r : DV) (a : ActC) : DV × Int :=
  if a.do_ % 8 = 2 then SyncR r a.f else if a.do_ % 8 = 3 then TruncR r a.f a.n else if a.do_ % 8 = 4 then (LoseF r (a.n % 4), 0)
  else if a.do_ % 8 = 5 then (ArmF r a.n a.keep, 0) else if a.do_ % 8 = 6 then (crashR r a.keep, 0) else if a.do_ % 8 = 7 then (StartF r, 0) else WriteR r a.f a.n a.s

theorem getA_append {f : Int} (x : FileV) : ∀ fs : List (Int × FileV), (∀ p ∈ fs, p.1 ≠ f) → getA f (fs ++ [(f, x)]) = some x
  | [], _ => by simp [getA]
  | (g, v) :: fs, h => by
    have h1 : f ≠ g := fun e => h (g, v) (by simp) e.symm
    simp only [List.cons_append, getA, if_neg h1]
    exact getA_append x fs fun p hp => h p (by simp [hp])
theorem getA_set_same (f : Int) (x : FileV) (fs : List (Int × FileV)) : getA f (setL f x fs) = some x :=
  getA_append x _ fun p hp => by simpa using (List.mem_filter.1 hp).2
theorem getA_set_ne {f g : Int} (x : FileV) (hne : g ≠ f) : ∀ fs : List (Int × FileV), getA g (setL f x fs) = getA g fs
  | [] => by simp [setL, getA, hne]
  | (k, v) :: fs => by
    have ih := getA_set_ne x hne fs
    unfold setL at ih ⊢
    by_cases hk : k = f
    · subst hk
      rw [List.filter_cons_of_neg (by simp)]
      rw [ih]
      simp [getA, hne]
    · rw [List.filter_cons_of_pos (by simpa using hk)]
      simp only [List.cons_append, getA, ih]
/-- the reference's disk holds what the disk holds -/
structure RelD (d r : DV) : Prop where
  file : ∀ f, d.file f = r.file f
  queue : d.queue = r.queue
  lost : d.lost = r.lost
  down : d.down = r.down
  armed : d.armed = r.armed
  keep : d.keep = r.keep
def SameFiles (fs gs : List (Int × FileV)) : Prop := ∀ f, (getA f fs).getD noFile = (getA f gs).getD noFile
theorem SameFiles.put {fs gs : List (Int × FileV)} (h : SameFiles fs gs) (f : Int) (x : FileV) : SameFiles (putA f x fs) (setL f x gs) := fun g => by
  by_cases hg : g = f
  · subst hg; rw [getA_put_same, getA_set_same]
  · rw [getA_put_ne x hg, getA_set_ne x hg]; exact h g
theorem SameFiles.survive {fs gs : List (Int × FileV)} (h : SameFiles fs gs) (p : Int × Int) : SameFiles (surviveF fs p) (surviveR gs p) := by
  unfold surviveF surviveR
  dsimp only
  rw [h p.1, Int.mul_comm p.2 64]
  by_cases hc : 64 * p.2 < (((getA p.1 gs).getD noFile).now.length : Int)
  · rw [if_neg (by omega), if_pos hc]
    exact h.put _ _
  · rw [if_pos (by omega), if_neg hc]
    intro g
    by_cases hg : g = p.1
    · subst hg; rw [getA_set_same, h]; rfl
    · rw [getA_set_ne _ hg]; exact h g
theorem SameFiles.surviveAll (keep : List Int) : ∀ (q : List (Int × Int)) (i : Nat) {fs gs : List (Int × FileV)}, SameFiles fs gs → SameFiles (surviveAll keep i q fs) (surviveAllR keep i q gs)
  | [], _, _, _, h => h
  | p :: ps, i, fs, gs, h => by
    unfold Go.Proofs.YtjncmlglhegnaaaGreatDoor.surviveAll surviveAllR
    refine SameFiles.surviveAll keep ps (i + 1) ?_
    split
    · exact h
    · exact h.survive p
namespace RelD
variable {d r : DV}
theorem new : RelD newD newD := ⟨fun _ => rfl, rfl, rfl, rfl, rfl, rfl⟩
theorem may (h : RelD d r) (f : Int) : mayF d f = mayF r f := by unfold mayF; rw [h.down]
theorem same (h : RelD d r) : SameFiles d.files r.files := h.file
theorem turn (h : RelD d r) : RelD { d with armed := d.armed - 1 } { r with armed := r.armed - 1 } := ⟨h.file, h.queue, h.lost, h.down, by show d.armed - 1 = r.armed - 1; rw [h.armed], h.keep⟩
theorem at_rest (h : RelD d r) : (d.down = true ∨ d.armed = 0) ↔ (r.down = true ∨ r.armed = 0) := by rw [h.down, h.armed]
theorem crash (h : RelD d r) (keep : List Int) : RelD (crashF d keep) (crashR r keep) := by
  unfold crashF crashR
  rw [h.down]
  split
  · exact h
  · refine ⟨fun f => ?_, rfl, h.lost, rfl, rfl, h.keep⟩
    have := h.same.surviveAll keep d.queue 0 f
    show (getA f _).getD noFile = (getA f _).getD noFile
    rw [lost_file, lost_file, this, h.queue]
theorem crash_of (h : RelD d r) {k1 k2 : List Int} (e : k1 = k2) : RelD (crashF d k1) (crashR r k2) := by subst e; exact h.crash _
theorem add (h : RelD d r) (f at_ : Int) (s : List UInt8) (hs : s ≠ []) :
    RelD { d with files := putA f ⟨putB (d.file f).now at_.toNat s, (d.file f).last⟩ d.files, queue := addQ d.queue (touched f at_.toNat s.length) } (addR r f at_ s) := by
  unfold addR
  rw [if_neg hs]
  refine ⟨?_, by show addQ _ _ = addQ _ _; rw [h.queue], h.lost, h.down, h.armed, h.keep⟩
  rw [h.file f]
  exact h.same.put _ _
theorem fits {at_ : Int} {s : List UInt8} : fitsR at_ s = true ↔ 0 ≤ at_ ∧ ¬ (16777216 < at_ ∨ 16777216 - at_ < s.length) := by
  unfold fitsR
  simp only [Bool.and_eq_true, decide_eq_true_eq]
  omega
theorem write (h : RelD d r) (f at_ : Int) (s : List UInt8) : RelD (writeF d f at_ s).1 (if mayF r f = 0 ∧ fitsR at_ s = true then addR r f at_ s else r) := by
  unfold writeF
  rw [h.may]
  by_cases h1 : mayF r f = 0
  · rw [if_neg (by simpa using h1)]
    by_cases h2 : at_ < 0
    · rw [if_pos h2, if_neg (by rw [fits]; omega)]; exact h
    · rw [if_neg h2]
      by_cases h3 : 16777216 < at_ ∨ 16777216 - at_ < (s.length : Int)
      · rw [if_pos h3, if_neg (by rw [fits]; exact fun c => c.2.2 h3)]; exact h
      · rw [if_neg h3, if_pos (show mayF r f = 0 ∧ fitsR at_ s = true from ⟨h1, fits.2 ⟨by omega, h3⟩⟩)]
        by_cases h4 : s = []
        · rw [if_pos h4]; unfold addR; rw [if_pos h4]; exact h
        · rw [if_neg h4]; exact h.add f at_ s h4
  · rw [if_pos (by simpa using h1), if_neg (fun c => h1 c.1)]; exact h
theorem settle (h : RelD d r) (f : Int) (s : List UInt8) : RelD (settleF d f s) (settleR r f s) :=
  ⟨h.same.put _ _, by show List.filter _ _ = List.filter _ _; rw [h.queue], h.lost, h.down, h.armed, h.keep⟩
theorem begin_ (h : RelD d r) (ha : 0 ≤ d.armed) : RelD (beginF d) (comesR r 0 0 []) := by
  have ea := h.armed
  unfold beginF endsF comesR
  by_cases h1 : d.down = true ∨ d.armed = 0
  · rw [if_pos h1, if_pos (h.at_rest.1 h1)]; exact h
  · rw [if_neg h1, if_neg (fun c => h1 (h.at_rest.2 c))]
    have h2 : d.armed ≠ 0 := fun c => h1 (.inr c)
    by_cases h3 : 0 < r.armed - 1
    · rw [if_pos h3]
      have h4 : decide (d.armed - 1 = 0) = false := by simp; omega
      simp only [h4, Bool.false_eq_true, if_false]
      exact h.turn
    · rw [if_neg h3]
      have h4 : decide (d.armed - 1 = 0) = true := by simp; omega
      simp only [h4, if_true]
      have h5 : (if (0 : Int) ≤ 0 ∧ (0 : Int) ≤ 15 ∧ fitsR 0 [] = true then addR { r with armed := r.armed - 1 } 0 0 [] else { r with armed := r.armed - 1 }) = { r with armed := r.armed - 1 } := by
        split
        · unfold addR; rw [if_pos rfl]
        · rfl
      rw [h5]
      exact h.turn.crash_of h.keep
theorem Sync (h : RelD d r) (ha : 0 ≤ d.armed) (f : Int) : (SyncF d f).2 = (SyncR r f).2 ∧ RelD (SyncF d f).1 (SyncR r f).1 := by
  have hb := h.begin_ ha
  unfold SyncF SyncR
  dsimp only
  rw [hb.may, hb.lost]
  split
  · exact ⟨rfl, hb⟩
  · split
    · exact ⟨rfl, hb.file, hb.queue, rfl, hb.down, hb.armed, hb.keep⟩
    · rw [hb.file]; exact ⟨rfl, hb.settle _ _⟩
theorem Trunc (h : RelD d r) (ha : 0 ≤ d.armed) (f n : Int) : (TruncF d f n).2 = (TruncR r f n).2 ∧ RelD (TruncF d f n).1 (TruncR r f n).1 := by
  have hb := h.begin_ ha
  unfold TruncF TruncR
  dsimp only
  rw [hb.may, hb.file]
  split
  · exact ⟨rfl, hb⟩
  · split
    · exact ⟨rfl, hb⟩
    · exact ⟨rfl, hb.settle _ _⟩
theorem crashR_down (r : DV) (keep : List Int) : (crashR r keep).down = true := by
  unfold crashR
  split
  · assumption
  · rfl
theorem may_range {f : Int} : mayF r f = 0 ↔ r.down = false ∧ 0 ≤ f ∧ f ≤ 15 := by
  unfold mayF
  cases r.down
  · simp only [Bool.false_eq_true, if_false]
    split <;> simp <;> omega
  · simp
theorem Write (h : RelD d r) (ha : 0 ≤ d.armed) (f at_ : Int) (s : List UInt8) : (WriteF d f at_ s).2 = (WriteR r f at_ s).2 ∧ RelD (WriteF d f at_ s).1 (WriteR r f at_ s).1 := by
  have plain : ∀ d r : DV, RelD d r → (writeF d f at_ s).2 = (lastR r f at_ s).2 ∧ RelD (writeF d f at_ s).1 (lastR r f at_ s).1 := fun d r h => by
    have hw := h.write f at_ s
    unfold lastR
    by_cases h1 : mayF r f ≠ 0
    · rw [if_pos h1]
      rw [if_neg (fun c => h1 c.1)] at hw
      refine ⟨?_, hw⟩
      unfold writeF
      rw [h.may, if_pos h1]
    · rw [if_neg h1]
      by_cases h2 : at_ < 0
      · rw [if_pos h2]
        rw [if_neg (by rw [fits]; omega)] at hw
        refine ⟨?_, hw⟩
        unfold writeF
        rw [h.may, if_neg h1, if_pos h2]
      · rw [if_neg h2]
        by_cases h3 : 16777216 < at_ ∨ 16777216 - at_ < (s.length : Int)
        · have h5 : fitsR at_ s = false := by rw [Bool.eq_false_iff]; exact fun c => (fits.1 c).2 h3
          rw [if_pos h5]
          rw [if_neg (by rw [h5]; simp)] at hw
          refine ⟨?_, hw⟩
          unfold writeF
          rw [h.may, if_neg h1, if_neg h2, if_pos h3]
        · have h5 : fitsR at_ s = true := fits.2 ⟨by omega, h3⟩
          rw [if_neg (by rw [h5]; simp)]
          rw [if_pos ⟨by simpa using h1, h5⟩] at hw
          refine ⟨?_, hw⟩
          unfold writeF
          rw [h.may, if_neg h1, if_neg h2, if_neg h3]
          split <;> rfl
  rw [WriteR_last]
  unfold WriteF endsF comesR
  by_cases h1 : d.down = true ∨ d.armed = 0
  · rw [if_pos h1, if_pos (h.at_rest.1 h1)]
    exact plain d r h
  · rw [if_neg h1, if_neg (fun c => h1 (h.at_rest.2 c))]
    have h2 : d.armed ≠ 0 := fun c => h1 (.inr c)
    have hu : r.down = false := by
      cases hd : r.down
      · rfl
      · exact absurd (h.at_rest.2 (.inl hd)) h1
    have ea := h.armed
    by_cases h3 : 0 < r.armed - 1
    · rw [if_pos h3]
      have h4 : decide (d.armed - 1 = 0) = false := by simp; omega
      simp only [h4, Bool.false_eq_true, if_false]
      exact plain _ _ h.turn
    · rw [if_neg h3]
      have h4 : decide (d.armed - 1 = 0) = true := by simp; omega
      simp only [h4, if_true]
      have hw := h.turn.write f at_ s
      have h5 : (if 0 ≤ f ∧ f ≤ 15 ∧ fitsR at_ s = true then addR { r with armed := r.armed - 1 } f at_ s else { r with armed := r.armed - 1 }) = (if mayF { r with armed := r.armed - 1 } f = 0 ∧ fitsR at_ s = true then addR { r with armed := r.armed - 1 } f at_ s else { r with armed := r.armed - 1 }) := by
        have : (0 ≤ f ∧ f ≤ 15 ∧ fitsR at_ s = true) ↔ (mayF { r with armed := r.armed - 1 } f = 0 ∧ fitsR at_ s = true) := by
          rw [may_range]
          exact ⟨fun ⟨a, b, c⟩ => ⟨⟨hu, a, b⟩, c⟩, fun ⟨⟨_, a, b⟩, c⟩ => ⟨a, b, c⟩⟩
        simp only [this]
      rw [h5]
      have hk : (writeF { d with armed := d.armed - 1 } f at_ s).1.keep = r.keep := by
        rw [← h.keep]
        unfold writeF
        repeat' split
        all_goals rfl
      rw [hk]
      have hc := hw.crash r.keep
      generalize (if mayF { r with armed := r.armed - 1 } f = 0 ∧ fitsR at_ s = true then addR { r with armed := r.armed - 1 } f at_ s else { r with armed := r.armed - 1 }) = r2 at *
      have hm : mayF (crashR r2 r.keep) f = 8 := by unfold mayF; rw [crashR_down]; rfl
      unfold lastR
      rw [hm, if_pos (by decide)]
      exact ⟨rfl, hc⟩
theorem do_ (h : RelD d r) (ha : 0 ≤ d.armed) (a : ActC) : (doF d a).2 = (tellF r a).2 ∧ RelD (doF d a).1 (tellF r a).1 := by
  unfold doF tellF
  split
  · exact h.Sync ha _
  · split
    · exact h.Trunc ha _ _
    · split
      · exact ⟨rfl, h.file, h.queue, rfl, h.down, h.armed, h.keep⟩
      · split
        · exact ⟨rfl, h.file, h.queue, h.lost, h.down, rfl, rfl⟩
        · split
          · exact ⟨rfl, h.crash _⟩
          · split
            · exact ⟨rfl, h.file, h.queue, h.lost, rfl, h.armed, h.keep⟩
            · exact h.Write ha _ _ _
theorem read (h : RelD d r) (f at_ n : Int) : ReadF d f at_ n = ReadF r f at_ n := by unfold ReadF; rw [h.may, h.file]
end RelD
end Go.Proofs.YtjncmlglhegnaaaGreatDoor
namespace Go.Proofs.YtjncmlglhegnaaaGreatDoor

theorem mem_setL {f : Int} {x : FileV} {p : Int × FileV} {fs : List (Int × FileV)} (h : p ∈ setL f x fs) : p = (f, x) ∨ p ∈ fs := by
  unfold setL at h
  rcases List.mem_append.1 h with h | h
  · exact .inr (List.mem_filter.1 h).1
  · exact .inl (by simpa using h)
theorem setL_nodup {f : Int} {x : FileV} {fs : List (Int × FileV)} (h : (fs.map (·.1)).Nodup) : ((setL f x fs).map (·.1)).Nodup := by
  unfold setL
  rw [List.map_append, List.nodup_append]
  refine ⟨h.sublist (List.Sublist.map _ List.filter_sublist), by simp, fun a ha b hb => ?_⟩
  obtain ⟨p, hp, rfl⟩ := List.mem_map.1 ha
  have h1 : p.1 ≠ f := by simpa using (List.mem_filter.1 hp).2
  simp only [List.map_cons, List.map_nil, List.mem_singleton] at hb
  rw [hb]
  exact h1
/-- the reference's files -/
structure RFs (fs : List (Int × FileV)) : Prop where
  len : ∀ p ∈ fs, p.2.now.length ≤ 16777216 ∧ p.2.last.length ≤ 16777216
  keys : (fs.map (·.1)).Nodup
  rng : ∀ p ∈ fs, 0 ≤ p.1 ∧ p.1 < 16
namespace RFs
variable {fs : List (Int × FileV)}
theorem few (h : RFs fs) : fs.length ≤ 16 := by
  have h1 := pigeon 16 ((fs.map (·.1)).map Int.toNat) (by
    rw [List.nodup_iff_pairwise_ne, List.pairwise_map]
    refine (List.nodup_iff_pairwise_ne.1 h.keys).imp_of_mem fun {a b} ha hb hne e => hne ?_
    obtain ⟨p, hp, rfl⟩ := List.mem_map.1 ha
    obtain ⟨q, hq, rfl⟩ := List.mem_map.1 hb
    have h1 := h.rng p hp
    have h2 := h.rng q hq
    omega) (fun x hx => by
    obtain ⟨k, hk, rfl⟩ := List.mem_map.1 hx
    obtain ⟨p, hp, rfl⟩ := List.mem_map.1 hk
    have := h.rng p hp
    omega)
  simpa using h1
theorem get (h : RFs fs) (f : Int) : ((getA f fs).getD noFile).now.length ≤ 16777216 ∧ ((getA f fs).getD noFile).last.length ≤ 16777216 := FOk.get ⟨h.len, h.keys⟩ f
theorem set (h : RFs fs) {f : Int} (h0 : 0 ≤ f) (h1 : f < 16) {x : FileV} (hx : x.now.length ≤ 16777216 ∧ x.last.length ≤ 16777216) : RFs (setL f x fs) :=
  ⟨fun p hp => by
    rcases mem_setL hp with rfl | hp
    · exact hx
    · exact h.len p hp, setL_nodup h.keys, fun p hp => by
    rcases mem_setL hp with rfl | hp
    · exact ⟨h0, h1⟩
    · exact h.rng p hp⟩
theorem survive (h : RFs fs) (p : Int × Int) (h0 : 0 ≤ p.1) (h1 : p.1 < 16) (h2 : 0 ≤ p.2) : RFs (surviveR fs p) := by
  have hg := h.get p.1
  unfold surviveR
  dsimp only
  refine h.set h0 h1 ?_
  split
  · refine ⟨hg.1, putB_le _ _ _ _ hg.2 ?_⟩
    simp only [List.length_take, List.length_drop]
    omega
  · exact hg
theorem surviveAll {keep : List Int} : ∀ {ps : List (Int × Int)} {i : Nat} {fs : List (Int × FileV)}, (∀ p ∈ ps, (0 ≤ p.1 ∧ p.1 < 16) ∧ 0 ≤ p.2 ∧ p.2 ≤ 262144) → RFs fs → RFs (surviveAllR keep i ps fs)
  | [], _, _, _, h => h
  | p :: ps, i, fs, hq, h => by
    unfold surviveAllR
    refine surviveAll (fun q hq' => hq q (by simp [hq'])) ?_
    split
    · exact h
    · have := hq p (by simp)
      exact h.survive p this.1.1 this.1.2 this.2.1
theorem lost (h : RFs fs) : RFs (fs.map fun p => (p.1, (⟨p.2.last, p.2.last⟩ : FileV))) := by
  refine ⟨fun p hp => ?_, by simpa [Function.comp_def] using h.keys, fun p hp => ?_⟩
  · obtain ⟨q, hq, rfl⟩ := List.mem_map.1 hp
    exact ⟨(h.len q hq).2, (h.len q hq).2⟩
  · obtain ⟨q, hq, rfl⟩ := List.mem_map.1 hp
    exact h.rng q hq
end RFs
/-- the reference's disk -/
structure ROk (r : DV) : Prop where
  ok : DOk r
  rng : ∀ p ∈ r.files, 0 ≤ p.1 ∧ p.1 < 16
namespace ROk
variable {r : DV}
theorem fs (h : ROk r) : RFs r.files := ⟨h.ok.files, h.ok.keys, h.rng⟩
theorem few (h : ROk r) : r.files.length ≤ 16 := h.fs.few
theorem len (h : ROk r) : r.queue.length ≤ 4194320 := h.ok.len
theorem file (h : ROk r) (f : Int) : (r.file f).now.length ≤ 16777216 ∧ (r.file f).last.length ≤ 16777216 := h.ok.file f
theorem new : ROk newD := ⟨DOk.new, by simp [newD]⟩
theorem files (h : ROk r) {fs : List (Int × FileV)} (hf : RFs fs) : ROk { r with files := fs } :=
  ⟨⟨h.ok.armed, h.ok.lost, hf.len, hf.keys, h.ok.queue, h.ok.nodup, h.ok.klen⟩, hf.rng⟩
theorem queue (h : ROk r) {q : List (Int × Int)} (hq : ∀ p ∈ q, (0 ≤ p.1 ∧ p.1 < 16) ∧ 0 ≤ p.2 ∧ p.2 ≤ 262144) (hn : q.Nodup) : ROk { r with queue := q } :=
  ⟨⟨h.ok.armed, h.ok.lost, h.ok.files, h.ok.keys, hq, hn, h.ok.klen⟩, h.rng⟩
theorem fits {at_ : Int} {s : List UInt8} (h : fitsR at_ s = true) : 0 ≤ at_ ∧ at_ ≤ 16777216 ∧ at_ + s.length ≤ 16777216 := by
  unfold fitsR at h
  simp only [Bool.and_eq_true, decide_eq_true_eq] at h
  exact ⟨h.1.1, h.1.2, h.2⟩
theorem touch {f at_ : Int} {s : List UInt8} (h0 : 0 ≤ f) (h1 : f < 16) (hf : fitsR at_ s = true) (hs : s ≠ []) : ∀ p ∈ touched f at_.toNat s.length, (0 ≤ p.1 ∧ p.1 < 16) ∧ 0 ≤ p.2 ∧ p.2 ≤ 262144 := fun p hp => by
  have h2 := fits hf
  have h3 : 0 < s.length := List.length_pos_iff.2 hs
  obtain ⟨rfl, k, hk, h5, h6⟩ := touched_mem hp
  exact ⟨⟨h0, h1⟩, by omega, by omega⟩
theorem addQ_ok {q ps : List (Int × Int)} (hq : ∀ p ∈ q, (0 ≤ p.1 ∧ p.1 < 16) ∧ 0 ≤ p.2 ∧ p.2 ≤ 262144) (hp : ∀ p ∈ ps, (0 ≤ p.1 ∧ p.1 < 16) ∧ 0 ≤ p.2 ∧ p.2 ≤ 262144) : ∀ p ∈ addQ q ps, (0 ≤ p.1 ∧ p.1 < 16) ∧ 0 ≤ p.2 ∧ p.2 ≤ 262144 := fun p h => by
  rcases (addQ_mem _ _).1 h with h | h
  · exact hq p h
  · exact hp p h
theorem put (h : ROk r) {f at_ : Int} {s : List UInt8} (h0 : 0 ≤ f) (h1 : f < 16) (hf : fitsR at_ s = true) : ROk { r with files := setL f ⟨putB (r.file f).now at_.toNat s, (r.file f).last⟩ r.files } := by
  have h2 := fits hf
  have h3 := h.file f
  exact h.files (h.fs.set h0 h1 ⟨putB_le _ _ _ _ h3.1 (by omega), h3.2⟩)
theorem add (h : ROk r) {f at_ : Int} {s : List UInt8} (h0 : 0 ≤ f) (h1 : f < 16) (hf : fitsR at_ s = true) : ROk (addR r f at_ s) := by
  unfold addR
  split
  · exact h
  · rename_i hs
    exact (h.put h0 h1 hf).queue (addQ_ok h.ok.queue (touch h0 h1 hf hs)) (addQ_nodup _ _ h.ok.nodup)
theorem crash (h : ROk r) (keep : List Int) : ROk (crashR r keep) := by
  unfold crashR
  split
  · exact h
  · have hf := (h.fs.surviveAll (keep := keep) (i := 0) h.ok.queue).lost
    exact ⟨⟨by simp, h.ok.lost, hf.len, hf.keys, by simp, by simp, h.ok.klen⟩, hf.rng⟩
theorem turn (h : ROk r) (ha : r.armed ≠ 0) : ROk { r with armed := r.armed - 1 } := by
  have := h.ok.armed
  exact ⟨⟨by show 0 ≤ r.armed - 1 ∧ r.armed - 1 ≤ _; omega, h.ok.lost, h.ok.files, h.ok.keys, h.ok.queue, h.ok.nodup, h.ok.klen⟩, h.rng⟩
theorem comes (h : ROk r) (f at_ : Int) (s : List UInt8) : ROk (comesR r f at_ s) := by
  unfold comesR
  split
  · exact h
  · rename_i hc
    have ht := h.turn (fun c => hc (.inr c))
    split
    · exact ht
    · refine ROk.crash ?_ _
      split
      · rename_i hf
        exact ht.add hf.1 (by omega) hf.2.2
      · exact ht
theorem may_rng {f : Int} (h : ¬ mayF r f ≠ 0) : 0 ≤ f ∧ f < 16 := (DOk.may (by simpa using h)).2
theorem Write (h : ROk r) (f at_ : Int) (s : List UInt8) : ROk (WriteR r f at_ s).1 := by
  rw [WriteR_last]
  have hc := h.comes f at_ s
  unfold lastR
  split
  · exact hc
  · rename_i hm
    split
    · exact hc
    · split
      · exact hc
      · rename_i hf
        exact hc.add (may_rng hm).1 (may_rng hm).2 (by simpa using hf)
theorem settle (h : ROk r) {f : Int} (h0 : 0 ≤ f) (h1 : f < 16) (s : List UInt8) (hs : s.length ≤ 16777216) : ROk (settleR r f s) :=
  (h.files (h.fs.set h0 h1 (x := ⟨s, s⟩) ⟨hs, hs⟩)).queue (fun p hp => h.ok.queue p (List.mem_filter.1 hp).1) (h.ok.nodup.filter _)
theorem Sync (h : ROk r) (f : Int) : ROk (SyncR r f).1 := by
  have hc := h.comes 0 0 []
  unfold SyncR
  dsimp only
  split
  · exact hc
  · rename_i hm
    split
    · have := hc.ok.lost
      exact ⟨⟨hc.ok.armed, by show 0 ≤ _ - 1 ∧ _ - 1 ≤ _; omega, hc.ok.files, hc.ok.keys, hc.ok.queue, hc.ok.nodup, hc.ok.klen⟩, hc.rng⟩
    · exact hc.settle (may_rng hm).1 (may_rng hm).2 _ (hc.file f).1
theorem Trunc (h : ROk r) (f n : Int) : ROk (TruncR r f n).1 := by
  have hc := h.comes 0 0 []
  unfold TruncR
  dsimp only
  split
  · exact hc
  · rename_i hm
    split
    · exact hc
    · refine hc.settle (may_rng hm).1 (may_rng hm).2 _ ?_
      have := (hc.file f).1
      simp only [List.length_take]
      omega
end ROk
end Go.Proofs.YtjncmlglhegnaaaGreatDoor
namespace Go.Proofs.YtjncmlglhegnaaaGreatDoor
open Go.RowKit

def fileCells (p : Int × FileV) : List Value := [.int .i64 p.1, strV p.2.now, strV p.2.last]
/-- The struct lies in block B; all that it owns lies in blocks of F. -/
structure RefAt (w : World) (F : Nat → Prop) (B : Nat) (r : DV) (FA : Option Addr) (cf : Nat) (Q : Option Addr) (cq : Nat) (K : Option Addr) (ck : Nat) : Prop where
  loc : Loc w B #[.slice FA r.files.length cf, .slice Q r.queue.length cq, .int .i64 r.lost, .bool r.down, .int .i64 r.armed, .slice K r.keep.length ck]
  files : Sl w 3 FA r.files.length (r.files.map fileCells)
  queue : Own w 0 125 2 (.slice Q r.queue.length cq) r.queue.length (r.queue.map secCells)
  keep : Sl w 1 K r.keep.length (r.keep.map fun k => [.int .i64 k])
  fB : F B
  fq : ∀ b, (Value.slice Q 0 0).ownBlock = some b → F b
  ff : r.files ≠ [] → ∀ ad, FA = some ad → F ad.block ∧ ad.block ≠ B ∧ (Value.slice Q 0 0).ownBlock ≠ some ad.block
  fk : r.keep ≠ [] → ∀ ad, K = some ad → F ad.block ∧ ad.block ≠ B ∧ (Value.slice Q 0 0).ownBlock ≠ some ad.block
  nq : (Value.slice Q 0 0).ownBlock ≠ some B
  lt : ∀ b, F b → b < w.heap.size
def Ref (w : World) (F : Nat → Prop) (B : Nat) (r : DV) : Prop := ∃ FA cf Q cq K ck, RefAt w F B r FA cf Q cq K ck
/-- behind a call: the reference's disk is r -/
def RefTo (F : Nat → Prop) (w : World) (B : Nat) (r : DV) (w' : World) : Prop := ∃ F', Ref w' F' B r ∧ Ext F F' w w'
section
variable {w w' : World} {F G : Nat → Prop} {B : Nat} {r : DV} {FA : Option Addr} {cf : Nat} {Q : Option Addr} {cq : Nat} {K : Option Addr} {ck : Nat}
theorem RefAt.below (h : RefAt w F B r FA cf Q cq K ck) (hb : Below w.heap.size w w') : RefAt w' F B r FA cf Q cq K ck :=
  ⟨h.loc.below hb, h.files.below hb, h.queue.below hb, h.keep.below hb, h.fB, h.fq, h.ff, h.fk, h.nq, fun b hb' => Nat.lt_of_lt_of_le (h.lt b hb') hb.size⟩
/-- it stays while other blocks are written -/
theorem RefAt.keeps (h : RefAt w F B r FA cf Q cq K ck) (hk : Keeps G w w') (ha : ∀ k, F k → ¬ G k) : RefAt w' F B r FA cf Q cq K ck := by
  have hb : ∀ k, F k → w'.heap[k]? = w.heap[k]? := fun k hf => hk.block k (h.lt k hf) (ha k hf)
  refine ⟨h.loc.ofBlock hk.size (hb B h.fB), h.files.keeps hk (fun hne ad he => ha _ (h.ff (fun e => hne (by rw [e]; rfl)) ad he).1), h.queue.ofBlock (fun b hq => hb b (h.fq b (by rw [← slice_block Q r.queue.length cq]; exact hq))),
    h.keep.keeps hk (fun hne ad he => ha _ (h.fk (fun e => hne (by rw [e]; rfl)) ad he).1), h.fB, h.fq, h.ff, h.fk, h.nq, fun b hf => Nat.lt_of_lt_of_le (h.lt b hf) hk.size⟩
theorem RefAt.ref (h : RefAt w F B r FA cf Q cq K ck) : Ref w F B r := ⟨_, _, _, _, _, _, h⟩
/-- a number or a bool of the struct is stored -/
theorem RefAt.setField (h : RefAt w F B r FA cf Q cq K ck) (lost armed : Int) (down : Bool) {i : Nat} {v : Value} (hX : (#[.slice FA r.files.length cf, .slice Q r.queue.length cq, .int .i64 r.lost, .bool r.down, .int .i64 r.armed, .slice K r.keep.length ck] : Array Value).setIfInBounds i v = #[.slice FA r.files.length cf, .slice Q r.queue.length cq, .int .i64 lost, .bool down, .int .i64 armed, .slice K r.keep.length ck]) :
    RefAt (w.setCell ⟨B, i, none⟩ v) F B { r with lost := lost, armed := armed, down := down } FA cf Q cq K ck := by
  have hg := grownBy_setCell w ⟨B, i, none⟩ v
  have hl := h.loc.set_ i v
  rw [hX] at hl
  refine ⟨hl, h.files.grown hg ?_, h.queue.kept hg (.inr (fun e => h.nq (by rw [slice_block] at e; exact e))), h.keep.grown hg ?_, h.fB, h.fq, h.ff, h.fk, h.nq, fun b hb => by rw [World.size_setCell]; exact h.lt b hb⟩
  · by_cases hk : r.files = []
    · exact .inl (by rw [hk]; rfl)
    · exact .inr fun ad e e' => (h.ff hk ad e).2.1 (by injection e' with e'; exact e'.symm)
  · by_cases hk : r.keep = []
    · exact .inl (by rw [hk]; rfl)
    · exact .inr fun ad e e' => (h.fk hk ad e).2.1 (by injection e' with e'; exact e'.symm)
set_option maxRecDepth 100000 in
set_option maxHeartbeats 400000 in
theorem New_ref (w : World) :
    Calls Tryz.prog 16 #[] w fun e w' => ∃ B, e = .returned (.pointer (some ⟨B, 0, none⟩)) ∧ Ref w' (fun k => w.heap.size ≤ k ∧ k < w'.heap.size) B newD ∧ Below w.heap.size w w' := by
  go_enter Tryz.func16, Tryz.ntmps16
  go_wp2_with (fail)
  go_ret
  refine ⟨_, rfl, ⟨none, 0, none, 0, none, 0, ?_⟩, below_alloc w _⟩
  exact ⟨Loc.new_ w #[.slice none 0 0, .slice none 0 0, .int .i64 0, .bool false, .int .i64 0, .slice none 0 0] _, Sl.nil_ _ _ _, Own.nil_ _ _ _ _, Sl.nil_ _ _ _, ⟨Nat.le_refl _, by simp⟩, fun b hb => by simp [Value.ownBlock] at hb, fun h => absurd rfl h, fun h => absurd rfl h, by simp [Value.ownBlock], fun b hb => hb.2⟩
set_option maxRecDepth 100000 in
set_option maxHeartbeats 400000 in
theorem may_ref (h : RefAt w F B r FA cf Q cq K ck) (f : Int) (x : Int) (hx : mayF r f = x) :
    Calls Tryz.prog 159 #[.pointer (some ⟨B, 0, none⟩), .int .i64 f] w fun e w' => e = .returned (.int .i64 x) ∧ w' = w := by
  obtain ⟨zB, kB, fB⟩ := h.loc
  subst hx
  unfold mayF
  rcases hd : r.down with _ | _
  · rw [hd] at kB
    rw [if_neg (by simp)]
    clear h hd
    by_cases h1 : f < 0
    · rw [if_pos (Or.inl h1)]
      go_enter Tryz.func159, Tryz.ntmps159
      go_wp2_with (fail)
      go_ret
      exact ⟨rfl, rfl⟩
    · by_cases h2 : 16 ≤ f
      · rw [if_pos (Or.inr h2)]
        have h3 : 15 < f := by omega
        go_enter Tryz.func159, Tryz.ntmps159
        go_wp2_with (fail)
        go_ret
        exact ⟨rfl, rfl⟩
      · rw [if_neg (by omega)]
        have h3 : f ≤ 15 := by omega
        go_enter Tryz.func159, Tryz.ntmps159
        go_wp2_with (fail)
        go_ret
        exact ⟨rfl, rfl⟩
  · rw [hd] at kB
    rw [if_pos rfl]
    clear h hd
    go_enter Tryz.func159, Tryz.ntmps159
    go_wp2_with (fail)
    go_ret
    exact ⟨rfl, rfl⟩
set_option maxRecDepth 100000 in
set_option maxHeartbeats 400000 in
theorem Start_ref (h : RefAt w F B r FA cf Q cq K ck) :
    Calls Tryz.prog 26 #[.pointer (some ⟨B, 0, none⟩)] w fun e w' => e = .returned (.tuple #[]) ∧ RefTo F w B (StartF r) w' := by
  have HF := Lib.hid (h.setField r.lost r.armed false (i := 3) (v := .bool false) (by simp))
  have HB := Lib.hid h.fB
  obtain ⟨zB, kB, fB⟩ := h.loc
  clear h
  go_enter Tryz.func26, Tryz.ntmps26
  go_wp2_with (fail)
  go_end0
  exact ⟨rfl, F, HF.out.ref, Ext.same (Keeps.setCell HB.out _)⟩
set_option maxRecDepth 100000 in
set_option maxHeartbeats 400000 in
theorem Lose_ref (h : RefAt w F B r FA cf Q cq K ck) (n : Int) :
    Calls Tryz.prog 20 #[.pointer (some ⟨B, 0, none⟩), .int .i64 n] w fun e w' => e = .returned (.tuple #[]) ∧ RefTo F w B (LoseF r n) w' := by
  have HB := Lib.hid h.fB
  obtain ⟨zB, kB, fB⟩ := h.loc
  by_cases hn : n < 0
  · have e : LoseF r n = { r with lost := 0 } := by unfold LoseF; rw [show max n 0 = 0 by omega]
    rw [e]
    have HF := Lib.hid (h.setField 0 r.armed r.down (i := 2) (v := .int .i64 0) (by simp))
    clear h e
    go_enter Tryz.func20, Tryz.ntmps20
    go_wp2_with (fail)
    go_end0
    exact ⟨rfl, F, HF.out.ref, Ext.same (Keeps.setCell HB.out _)⟩
  · have e : LoseF r n = { r with lost := n } := by unfold LoseF; rw [show max n 0 = n by omega]
    rw [e]
    have HF := Lib.hid (h.setField n r.armed r.down (i := 2) (v := .int .i64 n) (by simp))
    have hn' : 0 ≤ n := by omega
    clear h e
    go_enter Tryz.func20, Tryz.ntmps20
    go_wp2_with (fail)
    go_end0
    exact ⟨rfl, F, HF.out.ref, Ext.same (Keeps.setCell HB.out _)⟩
set_option maxRecDepth 100000 in
set_option maxHeartbeats 400000 in
theorem fits_ref (w : World) (at_ : Int) (s : List UInt8) (hs : s.length ≤ 140737488351232) (hat : inI at_) (x : Bool) (hx : fitsR at_ s = x) :
    Calls Tryz.prog 194 #[.int .i64 at_, strV s] w fun e w' => e = .returned (.bool x) ∧ w' = w := by
  subst hx
  unfold fitsR
  unfold inI at hat
  have z1 := strV_len s
  have hs' : (s.length : Int) ≤ 140737488351232 := by omega
  unfold strV
  by_cases h1 : 0 ≤ at_
  · by_cases h2 : at_ ≤ 16777216
    · by_cases h3 : at_ + (s.length : Int) ≤ 16777216
      all_goals
        go_enter Tryz.func194, Tryz.ntmps194
        go_wp2_with (fail)
        go_ret
        exact ⟨ret_bool (by simp [h1, h2, h3]), rfl⟩
    · have h2' : 16777216 < at_ := by omega
      go_enter Tryz.func194, Tryz.ntmps194
      go_wp2_with (fail)
      go_ret
      exact ⟨ret_bool (by simp [h1, h2]; omega), rfl⟩
  · have h1' : at_ < 0 := by omega
    go_enter Tryz.func194, Tryz.ntmps194
    go_wp2_with (fail)
    go_ret
    exact ⟨ret_bool (by simp [h1]; omega), rfl⟩
end
end Go.Proofs.YtjncmlglhegnaaaGreatDoor
namespace Go.Proofs.YtjncmlglhegnaaaGreatDoor
open Go.RowKit

theorem getA_drop {f : Int} {fs : List (Int × FileV)} {k : Nat} {p : Int × FileV} (hp : fs[k]? = some p) : getA f (fs.drop k) = if f = p.1 then some p.2 else getA f (fs.drop (k + 1)) := by
  obtain ⟨hlt, rfl⟩ := List.getElem?_eq_some_iff.1 hp
  rw [List.drop_eq_getElem_cons hlt]
  rfl
section
variable {w w' : World} {F G : Nat → Prop} {B : Nat} {r : DV} {FA : Option Addr} {cf : Nat} {Q : Option Addr} {cq : Nat} {K : Option Addr} {ck : Nat}
theorem loadVar_file {W : World} {n : Nat} {f : Int} {x : FileV} (h : Loc W n #[.int .i64 f, .string ⟨x.now.toArray⟩, .string ⟨x.last.toArray⟩]) :
    (loadVar 127 ⟨n, 0, none⟩).run Tryz.prog W = .ok (.agg #[.int .i64 f, strV x.now, strV x.last]) W := by
  have c0 := h.cell 0
  have c1 := h.cell 1
  have c2 := h.cell 2
  simp at c0 c1 c2
  unfold strV
  simp [go_sem, c0, c1, c2]
theorem results_get {W : World} {n : Nat} {f : Int} {x : FileV} {tmps : Array Value} (h : Loc W n #[.int .i64 f, .string ⟨x.now.toArray⟩, .string ⟨x.last.toArray⟩]) (ht : tmps.getD 4 undef = .pointer (some ⟨n, 0, none⟩)) :
    (results Tryz.f122 tmps).run Tryz.prog W = .ok (.agg #[.int .i64 f, strV x.now, strV x.last]) W := by
  have ht' : tmps[4]?.getD undef = .pointer (some ⟨n, 0, none⟩) := by simpa using ht
  simp only [results, show Tryz.f122.results = #[.cell 4 127] from rfl]
  simp [ht', asAddr, loadVar_file h]
set_option maxRecDepth 100000 in
set_option maxHeartbeats 1000000 in
theorem get_ref (h : RefAt w F B r FA cf Q cq K ck) (hn : r.files.length ≤ 16) (f : Int) (x : FileV) (hx : r.file f = x) :
    Calls Tryz.prog 122 #[.pointer (some ⟨B, 0, none⟩), .int .i64 f] w fun e w' => e = .returned (.agg #[.int .i64 f, .string ⟨x.now.toArray⟩, .string ⟨x.last.toArray⟩]) ∧ Below w.heap.size w w' := by
  unfold DV.file at hx
  obtain ⟨n, hnn⟩ : ∃ n, r.files.length = n := ⟨_, rfl⟩
  have hfl := h.files
  have hlo := h.loc
  rw [hnn] at hn hfl hlo
  have HS := Lib.hid hfl
  have LB := Lib.hid hlo
  have HL := Lib.hid hnn
  have HX := Lib.hid hx
  obtain ⟨fs, hfs⟩ : ∃ fs, r.files = fs := ⟨_, rfl⟩
  rw [hfs] at HS HL HX
  clear h hfl hlo hnn hx
  go_enter Tryz.func122, Tryz.ntmps122
  go_wp2_with (fail)
  go_loopw [5] (fun i wr => ∃ k : Nat, k ≤ n ∧ i = .int .i64 (k : Int) ∧ Below w.heap.size w wr ∧ Loc wr w.heap.size #[.int .i64 0, .string ⟨#[]⟩, .string ⟨#[]⟩] ∧ getA f fs = getA f (fs.drop k)) (fun i _ => n - (intOf i).toNat)
  case atStart => exact ⟨0, Nat.zero_le _, rfl, below_alloc w _, Loc.new_ w _ _, by simp⟩
  case round =>
    obtain ⟨k, hk, rfl, hb, hl, hg⟩ := hrel
    obtain ⟨wo, rfl⟩ : ∃ wo : World, wo = wr := ⟨_, rfl⟩
    have HB := Lib.hid hb
    have HLO := Lib.hid hl
    have HG := Lib.hid hg
    obtain ⟨zL, kL, fL⟩ := hl
    obtain ⟨zB, kB, fB⟩ := LB.out.below hb
    clear hb hg
    by_cases hlt : k < n
    · obtain ⟨p, hp⟩ : ∃ p, fs[k]? = some p := ⟨_, List.getElem?_eq_getElem (by rw [HL.out]; exact hlt)⟩
      obtain ⟨b, o, rfl, hbl, hcell⟩ := (HS.out.below HB.out).2 k (fileCells p) (by rw [List.getElem?_map, hp]; rfl)
      have c0 := hcell 0 _ rfl
      have c1 := hcell 1 _ rfl
      have c2 := hcell 2 _ rfl
      rw [Nat.add_zero] at c0
      unfold strV at c1 c2
      have hki : (k : Int) < (n : Int) := by omega
      have hk0 : (0 : Int) ≤ (k : Int) := Int.natCast_nonneg _
      have hgd := getA_drop (f := f) hp
      have HLT := Lib.hid hlt
      clear hcell hp hlt
      by_cases heq : f = p.1
      · have heqb : (p.1 == f) = true := by simpa using heq.symm
        rw [if_pos heq] at hgd
        have HGD := Lib.hid hgd
        have hpf := heq.symm
        clear hgd heq
        go_wp2_with (fail)
        have hxx := HX.out
        rw [HG.out, HGD.out] at hxx
        subst hxx
        (try simp only [Exit.inBlock, Exit.then])
        have hL := ((HLO.out.set_ 0 (.int .i64 f)).set_ 1 (.string ⟨p.2.now.toArray⟩)).set_ 2 (.string ⟨p.2.last.toArray⟩)
        exact bodyPost_ret (results_get (x := p.2) (by simpa using hL) rfl) rfl ⟨rfl, ((HB.out.setCell (p := ⟨w.heap.size, 0, none⟩) (Nat.le_refl _) _).setCell (p := ⟨w.heap.size, 1, none⟩) (Nat.le_refl _) _).setCell (p := ⟨w.heap.size, 2, none⟩) (Nat.le_refl _) _⟩
      · have heqb : (p.1 == f) = false := by simpa using fun e => heq e.symm
        rw [if_neg heq] at hgd
        have HGD := Lib.hid hgd
        clear hgd heq
        go_wp2_with (fail)
        go_roundw
        case rel => exact ⟨k + 1, HLT.out, by go_num, HB.out, HLO.out, HG.out.trans HGD.out⟩
        case measure => have := HLT.out; simp [intOf]; omega
    · obtain rfl : k = n := by omega
      have hki : (k : Int) ≤ (k : Int) := Int.le_refl _
      go_wp2_with (fail)
      have hxx := HX.out
      rw [HG.out, List.drop_of_length_le (by rw [HL.out]; exact Nat.le_refl _)] at hxx
      subst hxx
      (try simp only [Exit.inBlock, Exit.then])
      have hL := ((HLO.out.set_ 0 (.int .i64 f)).set_ 1 (.string ⟨#[]⟩)).set_ 2 (.string ⟨#[]⟩)
      exact bodyPost_ret (results_get (x := noFile) (by simpa [noFile] using hL) rfl) rfl ⟨rfl, ((HB.out.setCell (p := ⟨w.heap.size, 0, none⟩) (Nat.le_refl _) _).setCell (p := ⟨w.heap.size, 1, none⟩) (Nat.le_refl _) _).setCell (p := ⟨w.heap.size, 2, none⟩) (Nat.le_refl _) _⟩
theorem part_now (f : Int) (a b : Value) (w : World) : (Instr.field 127 (.agg #[.int .i64 f, a, b]) 1).run Tryz.prog w = .ok a w := by
  simp [Instr.field, part, asAgg, go_sem]
set_option maxRecDepth 100000 in
set_option maxHeartbeats 1000000 in
theorem Size_ref (h : RefAt w F B r FA cf Q cq K ck) (hn : r.files.length ≤ 16) (f : Int) (x : Int) (hx : x = (r.file f).now.length) :
    Calls Tryz.prog 114 #[.pointer (some ⟨B, 0, none⟩), .int .i64 f] w fun e w' => e = .returned (.int .i64 x) ∧ Below w.heap.size w w' := by
  have hs := strV_len (r.file f).now
  have hpn := fun w => part_now f (.string ⟨(r.file f).now.toArray⟩) (.string ⟨(r.file f).last.toArray⟩) w
  subst hx
  have HG := Lib.hid (get_ref h hn f _ rfl)
  clear h
  go_enter Tryz.func114, Tryz.ntmps114
  go_wp2_with ((with_reducible refine (HG.out).mono ?_); rintro e w1 ⟨rfl, hb⟩; have HB := Lib.hid hb; clear hb)
  go_ret
  exact ⟨rfl, HB.out⟩
theorem mem_take_succ {α : Type} {l : List α} {k : Nat} {p : α} (hp : l[k]? = some p) (x : α) : x ∈ l.take (k + 1) ↔ x ∈ l.take k ∨ x = p := by
  rw [List.take_add_one, hp]
  simp
set_option maxRecDepth 100000 in
set_option maxHeartbeats 1000000 in
theorem pending_ref (h : RefAt w F B r FA cf Q cq K ck) (hn : r.queue.length ≤ 4194320) (f s : Int) (x : Bool) (hx : decide ((f, s) ∈ r.queue) = x) :
    Calls Tryz.prog 218 #[.pointer (some ⟨B, 0, none⟩), .int .i64 f, .int .i64 s] w fun e w' => e = .returned (.bool x) ∧ w' = w := by
  obtain ⟨n, hnn⟩ : ∃ n, r.queue.length = n := ⟨_, rfl⟩
  have hfl := h.queue.sl'
  have hlo := h.loc
  rw [hnn] at hn hfl hlo
  obtain ⟨q, hq⟩ : ∃ q, r.queue = q := ⟨_, rfl⟩
  rw [hq] at hfl hnn hx
  have HS := Lib.hid hfl
  have HL := Lib.hid hnn
  have HX := Lib.hid hx
  obtain ⟨zB, kB, fB⟩ := hlo
  clear h hfl hnn hx
  go_enter Tryz.func218, Tryz.ntmps218
  go_wp2_with (fail)
  go_loopw [7] (fun i wr => ∃ k : Nat, k ≤ n ∧ i = .int .i64 (k : Int) ∧ wr = w ∧ (f, s) ∉ q.take k) (fun i _ => n - (intOf i).toNat)
  case atStart => exact ⟨0, Nat.zero_le _, rfl, rfl, by simp⟩
  case round =>
    obtain ⟨k, hk, rfl, rfl, hg⟩ := hrel
    have HG := Lib.hid hg
    clear hg
    by_cases hlt : k < n
    · obtain ⟨p, hp⟩ : ∃ p, q[k]? = some p := ⟨_, List.getElem?_eq_getElem (by rw [HL.out]; exact hlt)⟩
      obtain ⟨b, o, rfl, hbl, hcell⟩ := HS.out.2 k (secCells p) (by rw [List.getElem?_map, hp]; rfl)
      have c0 := hcell 0 _ rfl
      have c1 := hcell 1 _ rfl
      rw [Nat.add_zero] at c0
      have hki : (k : Int) < (n : Int) := by omega
      have hk0 : (0 : Int) ≤ (k : Int) := Int.natCast_nonneg _
      have HLT := Lib.hid hlt
      have HP := Lib.hid hp
      obtain ⟨p1, p2⟩ := p
      simp only at c0 c1
      clear hcell hp hlt
      by_cases he1 : p1 = f
      · by_cases he2 : p2 = s
        · subst he1 he2
          go_wp2_with (fail)
          go_ret
          refine ⟨ret_bool ?_, rfl⟩
          rw [← HX.out]
          exact (decide_eq_true (List.mem_of_getElem? HP.out)).symm
        · subst he1
          have h2 : (p2 == s) = false := by simpa using he2
          have hnx : Hid ((p1, s) ∉ q.take (k + 1)) := by
            refine Lib.hid ?_
            rw [mem_take_succ HP.out]
            rintro (h | h)
            · exact HG.out h
            · exact he2 (by injection h with _ h; exact h.symm)
          clear he2
          go_wp2_with (fail)
          go_roundw
          case rel => exact ⟨k + 1, HLT.out, by go_num, trivial, hnx.out⟩
          case measure => have := HLT.out; simp [intOf]; omega
      · have h1 : (p1 == f) = false := by simpa using he1
        have hnx : Hid ((f, s) ∉ q.take (k + 1)) := by
          refine Lib.hid ?_
          rw [mem_take_succ HP.out]
          rintro (h | h)
          · exact HG.out h
          · exact he1 (by injection h with h _; exact h.symm)
        clear he1
        go_wp2_with (fail)
        go_roundw
        case rel => exact ⟨k + 1, HLT.out, by go_num, trivial, hnx.out⟩
        case measure => have := HLT.out; simp [intOf]; omega
    · obtain rfl : k = n := by omega
      have hki : (k : Int) ≤ (k : Int) := Int.le_refl _
      go_wp2_with (fail)
      go_ret
      refine ⟨ret_bool ?_, rfl⟩
      rw [← HX.out]
      have := HG.out
      rw [List.take_of_length_le (by rw [HL.out]; exact Nat.le_refl _)] at this
      exact (decide_eq_false this).symm
end
end Go.Proofs.YtjncmlglhegnaaaGreatDoor
namespace Go.Proofs.YtjncmlglhegnaaaGreatDoor
open Go.RowKit

section
variable {w w' : World} {F G : Nat → Prop} {B : Nat} {r : DV} {FA : Option Addr} {cf : Nat} {Q : Option Addr} {cq : Nat} {K : Option Addr} {ck : Nat}
set_option maxRecDepth 100000 in
set_option maxHeartbeats 2000000 in
theorem Read_ref (h : RefAt w F B r FA cf Q cq K ck) (hok : ROk r) (f at_ n : Int) (x : List UInt8 × Int) (hx : ReadF r f at_ n = x) :
    Calls Tryz.prog 113 #[.pointer (some ⟨B, 0, none⟩), .int .i64 f, .int .i64 at_, .int .i64 n] w fun e w' => e = .returned (.tuple #[strV x.1, .int .i64 x.2]) ∧ Below w.heap.size w w' := by
  have hfl := (hok.file f).1
  obtain ⟨y, hy⟩ : ∃ y, r.file f = y := ⟨_, rfl⟩
  have hs := strV_len y.now
  have hpn := fun w => part_now f (.string ⟨y.now.toArray⟩) (.string ⟨y.last.toArray⟩) w
  have HM := Lib.hid (fun m => may_ref h f m)
  have HG := Lib.hid (get_ref h hok.few f _ hy)
  subst hx
  unfold ReadF
  rw [hy] at hfl ⊢
  clear h hok
  by_cases hm : mayF r f = 0
  · have HM0 := Lib.hid (HM.out 0 hm)
    rw [if_neg (by simp [hm])]
    clear hm hy
    unfold strV
    by_cases ha : at_ < 0
    · rw [if_pos (Or.inl ha)]
      go_enter Tryz.func113, Tryz.ntmps113
      go_wp2_with ((with_reducible refine (HM0.out).mono ?_); rintro _ _ ⟨rfl, rfl⟩)
      go_ret2
      exact ⟨rfl, Below.refl _ _⟩
    · by_cases ha2 : n < 0
      · rw [if_pos (Or.inr ha2)]
        go_enter Tryz.func113, Tryz.ntmps113
        go_wp2_with ((with_reducible refine (HM0.out).mono ?_); rintro _ _ ⟨rfl, rfl⟩)
        go_ret2
        exact ⟨rfl, Below.refl _ _⟩
      · rw [if_neg (by omega)]
        have ha1 : 0 ≤ at_ := by omega
        have ha3 : 0 ≤ n := by omega
        have hfi : (y.now.length : Int) ≤ 16777216 := by omega
        by_cases hb : (y.now.length : Int) ≤ at_
        · go_enter Tryz.func113, Tryz.ntmps113
          go_wp2_with (first
            | ((with_reducible refine (HM0.out).mono ?_); rintro _ _ ⟨rfl, rfl⟩)
            | ((with_reducible refine (HG.out).mono ?_); rintro e w1 ⟨rfl, hb1⟩; have HB := Lib.hid hb1; clear hb1))
          go_ret2
          refine ⟨congrArg (fun q => Ending.returned (.tuple #[.string q, .int .i64 0])) ?_, HB.out⟩
          rw [List.drop_of_length_le (by omega), List.take_nil]
        · have hb' : at_ < (y.now.length : Int) := by omega
          obtain ⟨m, hmm⟩ : ∃ m, (if (y.now.length : Int) - at_ < n then (y.now.length : Int) - at_ else n) = m := ⟨_, rfl⟩
          have hm1 : at_ ≤ at_ + m := by split at hmm <;> omega
          have hm2 : at_ + m ≤ (y.now.length : Int) := by split at hmm <;> omega
          go_enter Tryz.func113, Tryz.ntmps113
          go_wp2_with (first
            | ((with_reducible refine (HM0.out).mono ?_); rintro _ _ ⟨rfl, rfl⟩)
            | ((with_reducible refine (HG.out).mono ?_); rintro e w1 ⟨rfl, hb1⟩; have HB := Lib.hid hb1; clear hb1))
          go_ret2
          refine ⟨congrArg (fun q => Ending.returned (.tuple #[.string q, .int .i64 0])) ?_, HB.out⟩
          rw [extract_list, show (at_ + m).toNat - at_.toNat = m.toNat by omega]
          split at hmm
          · rw [List.take_of_length_le (i := n.toNat) (by rw [List.length_drop]; omega), List.take_of_length_le (by rw [List.length_drop]; omega)]
          · rw [hmm]
  · rw [if_pos hm]
    have h1 : (mayF r f == 0) = false := by simpa using hm
    have h2 : (mayF r f != 0) = true := by simpa using hm
    have HM1 := Lib.hid (HM.out _ rfl)
    clear hm hy
    unfold strV
    generalize mayF r f = m at *
    go_enter Tryz.func113, Tryz.ntmps113
    go_wp2_with ((with_reducible refine (HM1.out).mono ?_); rintro _ _ ⟨rfl, rfl⟩)
    go_ret2
    exact ⟨rfl, Below.refl _ _⟩
end
end Go.Proofs.YtjncmlglhegnaaaGreatDoor
namespace Go.Proofs.YtjncmlglhegnaaaGreatDoor
open Go.RowKit

section
variable {w w' : World} {F G : Nat → Prop} {B : Nat} {r : DV} {FA : Option Addr} {cf : Nat} {Q : Option Addr} {cq : Nat} {K : Option Addr} {ck : Nat}
/-- a new keep list is laid -/
theorem RefAt.setKeep (h : RefAt w F B r FA cf Q cq K ck) {base : Nat} (hb : ∀ k, F k → k < base) {A : Option Addr} {c : Nat} {keep : List Int}
    (ho : Own w base 3 1 (.slice A keep.length c) keep.length (keep.map fun k => [.int .i64 k])) :
    RefAt (w.setCell ⟨B, 5, none⟩ (.slice A keep.length c)) (fun k => F k ∨ (base ≤ k ∧ k < w.heap.size)) B { r with keep := keep } FA cf Q cq A c := by
  have hg := grownBy_setCell w ⟨B, 5, none⟩ (.slice A keep.length c)
  have hl := h.loc.set_ 5 (.slice A keep.length c)
  have hB := hb B h.fB
  have hA : ∀ ad, A = some ad → base ≤ ad.block ∧ ad.block < w.heap.size := fun ad he => by subst he; exact ho.lt ad.block rfl
  refine ⟨by simpa using hl, h.files.grown hg ?_, h.queue.kept hg (.inr (fun e => h.nq (by rw [slice_block] at e; exact e))), (ho.setBelow (p := ⟨B, 5, none⟩) hB _).sl', .inl h.fB, fun b hq => .inl (h.fq b hq), fun hne ad he => ⟨.inl (h.ff hne ad he).1, (h.ff hne ad he).2⟩, fun _ ad he => ⟨.inr (hA ad he), ?_, fun e => ?_⟩, h.nq, fun b hf => ?_⟩
  · by_cases hk : r.files = []
    · exact .inl (by rw [hk]; rfl)
    · exact .inr fun ad e e' => (h.ff hk ad e).2.1 (by injection e' with e'; exact e'.symm)
  · have := (hA ad he).1; omega
  · have := hb _ (h.fq _ e); have := (hA ad he).1; omega
  · rw [World.size_setCell]
    rcases hf with hf | hf
    · exact h.lt b hf
    · exact hf.2
set_option maxRecDepth 100000 in
set_option maxHeartbeats 1000000 in
theorem Arm_ref (h : RefAt w F B r FA cf Q cq K ck) (n : Int) (keep : List Int) (A : Option Addr) (c : Nat) (hs : IntsAt w A keep) (hk : keep.length ≤ 60) (hkf : keep ≠ [] → ∀ ad, A = some ad → ¬ F ad.block) :
    Calls Tryz.prog 22 #[.pointer (some ⟨B, 0, none⟩), .int .i64 n, .slice A keep.length c] w fun e w' => e = .returned (.tuple #[]) ∧ RefTo F w B (ArmF r n keep) w' := by
  obtain ⟨i0, hi0, hi1, hi2, hi3⟩ := info_parts infoIntD
  have LB := Lib.hid h.loc
  have H := Lib.hid h
  have hSS : ∀ m : Int, IntsAt (w.setCell ⟨B, 4, none⟩ (.int .i64 m)) A keep := fun m => hs.grown (grownBy_setCell w ⟨B, 4, none⟩ _) (by
    by_cases he : keep = []
    · exact .inl (by rw [he]; rfl)
    · exact .inr fun ad e e' => hkf he ad e (by injection e' with e'; rw [← e']; exact h.fB))
  have HSS := Lib.hid hSS
  have fin : ∀ (m : Int) w1 A1 c1, max n 0 = m → ((w.setCell ⟨B, 4, none⟩ (.int .i64 m)).alloc (.cells #[] 3)).grownBy w1 (some w.heap.size) → Own w1 w.heap.size 3 1 (.slice A1 keep.length c1) keep.length (keep.map fun k => [.int .i64 k]) →
      RefTo F w B (ArmF r n keep) (w1.setCell ⟨B, 5, none⟩ (.slice A1 keep.length c1)) := fun m w1 A1 c1 hm hg ho => by
    unfold ArmF
    rw [hm]
    have h1 := h.setField r.lost m r.down (i := 4) (v := .int .i64 m) (by simp)
    have hbl : Below (w.setCell ⟨B, 4, none⟩ (.int .i64 m)).heap.size (w.setCell ⟨B, 4, none⟩ (.int .i64 m)) w1 := below_of_fresh (by rw [World.size_setCell]; exact hg)
    have h2 := (h1.below hbl).setKeep (fun k hf => h.lt k hf) ho
    have hk1 : Keeps F w w1 := (Keeps.setCell (p := ⟨B, 4, none⟩) h.fB _).trans (Keeps.below hbl)
    exact ⟨_, h2.ref, by
      have := (hk1.trans (Keeps.setCell (F := Plus F w w1) (p := ⟨B, 5, none⟩) (.inl h.fB) (.slice A1 keep.length c1)))
      refine ⟨this, fun _ h => .inl h, fun k h => ?_⟩
      unfold Plus
      rw [World.size_setCell]
      exact h⟩
  have HFin := Lib.hid fin
  obtain ⟨zB, kB, fB⟩ := h.loc
  clear h hs hSS fin
  by_cases hn : n < 0
  · have hm0 := Lib.hid (show max n 0 = (0 : Int) by omega)
    go_enter Tryz.func22, Tryz.ntmps22
    go_wp2_with (at_builtin; refine wpList_append_sl _ rfl (.tmp 12) (.tmp 13) 30 rfl w.heap.size 3 i0 _ 1 8 Tryz.underlying30 hi0 hi1 hi2 hi3 rfl (by omega) (.slice (some ⟨w.heap.size, 0, none⟩) 0 0) 0 [] rfl (Own.empty (by simp) (Nat.le_refl _)) A keep.length c (keep.map fun k => [.int .i64 k]) rfl ((HSS.out 0).alloc _) (int_len keep) (int_one keep) (by simp only [maxLen]; omega) (by omega) (by simp) ?_; intro A1 c1 w1 hown hg hat; rw [Nat.zero_add, List.nil_append] at hown; obtain ⟨zB1, kB1, fB1⟩ := (LB.out.set_ 4 (.int .i64 0)).below (below_of_fresh (by rw [World.size_setCell]; exact hg)))
    go_end0
    exact ⟨rfl, HFin.out _ _ _ _ hm0.out hg (by simpa using hown)⟩
  · have hn' : 0 ≤ n := by omega
    have hm0 := Lib.hid (show max n 0 = n by omega)
    go_enter Tryz.func22, Tryz.ntmps22
    go_wp2_with (at_builtin; refine wpList_append_sl _ rfl (.tmp 12) (.tmp 13) 30 rfl w.heap.size 3 i0 _ 1 8 Tryz.underlying30 hi0 hi1 hi2 hi3 rfl (by omega) (.slice (some ⟨w.heap.size, 0, none⟩) 0 0) 0 [] rfl (Own.empty (by simp) (Nat.le_refl _)) A keep.length c (keep.map fun k => [.int .i64 k]) rfl ((HSS.out n).alloc _) (int_len keep) (int_one keep) (by simp only [maxLen]; omega) (by omega) (by simp) ?_; intro A1 c1 w1 hown hg hat; rw [Nat.zero_add, List.nil_append] at hown; obtain ⟨zB1, kB1, fB1⟩ := (LB.out.set_ 4 (.int .i64 n)).below (below_of_fresh (by rw [World.size_setCell]; exact hg)))
    go_end0
    exact ⟨rfl, HFin.out _ _ _ _ hm0.out hg (by simpa using hown)⟩
end
end Go.Proofs.YtjncmlglhegnaaaGreatDoor
namespace Go.Proofs.YtjncmlglhegnaaaGreatDoor
open Go.RowKit

theorem infoFile : (Tryz.prog.info? 127).map (fun i => (i.zero, i.size, i.bytes)) = some (some (.agg #[.int .i64 0, .string ⟨#[]⟩, .string ⟨#[]⟩]), 3, 40) := by kernel_rfl
theorem sl_file (W : World) (p : Int × FileV) (t : TypeId) : Sl (W.alloc (.cells #[.int .i64 p.1, .string ⟨p.2.now.toArray⟩, .string ⟨p.2.last.toArray⟩] t)) 3 (some ⟨W.heap.size, 0, none⟩) 1 [fileCells p] := by
  refine ⟨rfl, fun i x hx => ⟨_, _, rfl, by simp, fun j v hv => ?_⟩⟩
  match i, hx with
  | 0, hx =>
    simp only [List.getElem?_cons_zero, Option.some.injEq] at hx
    subst hx
    rw [World.cell?_alloc_at _ _ _ _ rfl]
    simpa [fileCells, strV] using hv
  | i + 1, hx => simp at hx
theorem file_one (p : Int × FileV) : ∀ x ∈ [fileCells p], ∀ u ∈ x, u.oneCell' = true := by
  intro x hx u hu
  simp only [List.mem_singleton] at hx
  subst hx
  simp only [fileCells, strV, List.mem_cons, List.not_mem_nil, or_false] at hu
  rcases hu with rfl | rfl | rfl <;> rfl
theorem filter_next {f : Int} {fs : List (Int × FileV)} {k : Nat} {p : Int × FileV} (hp : fs[k]? = some p) :
    ((fs.take (k + 1)).filter (fun p => p.1 ≠ f)).map fileCells = ((fs.take k).filter (fun p => p.1 ≠ f)).map fileCells ++ (if p.1 = f then [] else [fileCells p]) := by
  rw [List.take_add_one, hp, List.filter_append, List.map_append]
  congr 1
  by_cases h : p.1 = f <;> simp [h]
section
variable {w w' : World} {F G : Nat → Prop} {B : Nat} {r : DV} {FA : Option Addr} {cf : Nat} {Q : Option Addr} {cq : Nat} {K : Option Addr} {ck : Nat}
/-- behind a call that leaves the keep list alone: the reference's disk is r -/
def RefToK (F : Nat → Prop) (w : World) (B : Nat) (r : DV) (K : Option Addr) (ck : Nat) (w' : World) : Prop := ∃ F' FA cf Q cq, RefAt w' F' B r FA cf Q cq K ck ∧ Ext F F' w w'
theorem RefToK.to (h : RefToK F w B r K ck w') : RefTo F w B r w' := by
  obtain ⟨F', FA, cf, Q, cq, h1, h2⟩ := h
  exact ⟨F', ⟨_, _, _, _, _, _, h1⟩, h2⟩
theorem RefToK.from {w1 w2 : World} (h : RefToK G w1 B r K ck w2) (hE : Ext F G w w1) : RefToK F w B r K ck w2 := by
  obtain ⟨F', FA, cf, Q, cq, h1, h2⟩ := h
  exact ⟨F', FA, cf, Q, cq, h1, hE.trans h2⟩
/-- a new list of files is laid -/
theorem RefAt.setFiles (h : RefAt w F B r FA cf Q cq K ck) {base : Nat} (hb : ∀ k, F k → k < base) {A : Option Addr} {c n : Nat} {fs : List (Int × FileV)}
    (ho : Own w base 127 3 (.slice A n c) n (fs.map fileCells)) :
    RefAt (w.setCell ⟨B, 0, none⟩ (.slice A n c)) (fun k => F k ∨ (base ≤ k ∧ k < w.heap.size)) B { r with files := fs } A c Q cq K ck := by
  obtain rfl : fs.length = n := by have := ho.2.2; rwa [List.length_map] at this
  have hg := grownBy_setCell w ⟨B, 0, none⟩ (.slice A fs.length c)
  have hl := h.loc.set_ 0 (.slice A fs.length c)
  have hB := hb B h.fB
  have hA : ∀ ad, A = some ad → base ≤ ad.block ∧ ad.block < w.heap.size := fun ad he => by subst he; exact ho.lt ad.block rfl
  refine ⟨by simpa using hl, (ho.setBelow (p := ⟨B, 0, none⟩) hB _).sl', h.queue.kept hg (.inr (fun e => h.nq (by rw [slice_block] at e; exact e))), h.keep.grown hg ?_, .inl h.fB, fun b hq => .inl (h.fq b hq), fun _ ad he => ⟨.inr (hA ad he), ?_, fun e => ?_⟩, fun hne ad he => ⟨.inl (h.fk hne ad he).1, (h.fk hne ad he).2⟩, h.nq, fun b hf => ?_⟩
  · by_cases hk : r.keep = []
    · exact .inl (by rw [hk]; rfl)
    · exact .inr fun ad e e' => (h.fk hk ad e).2.1 (by injection e' with e'; exact e'.symm)
  · have := (hA ad he).1; omega
  · have := hb _ (h.fq _ e); have := (hA ad he).1; omega
  · rw [World.size_setCell]
    rcases hf with hf | hf
    · exact h.lt b hf
    · exact hf.2
set_option maxRecDepth 100000 in
set_option maxHeartbeats 2000000 in
theorem set_ref (h : RefAt w F B r FA cf Q cq K ck) (hn : r.files.length ≤ 16) (f : Int) (x : FileV) :
    Calls Tryz.prog 124 #[.pointer (some ⟨B, 0, none⟩), .agg #[.int .i64 f, .string ⟨x.now.toArray⟩, .string ⟨x.last.toArray⟩]] w fun e w' => e = .returned (.tuple #[]) ∧ RefToK F w B { r with files := setL f x r.files } K ck w' := by
  obtain ⟨i0, hi0, hi1, hi2, hi3⟩ := info_parts infoFile
  obtain ⟨n, hnn⟩ : ∃ n, r.files.length = n := ⟨_, rfl⟩
  have hfl := h.files
  have hlo := h.loc
  rw [hnn] at hn hfl hlo
  have H := Lib.hid h
  obtain ⟨fs, hfs⟩ : ∃ fs, r.files = fs := ⟨_, rfl⟩
  rw [hfs] at hfl hnn
  have HS := Lib.hid hfl
  have LB := Lib.hid hlo
  have HL := Lib.hid hnn
  clear h hfl hlo hnn
  go_enter Tryz.func124, Tryz.ntmps124
  go_wp2_with (fail)
  go_loopw [4, 5] (fun v i wr => ∃ (k m : Nat) (A : Option Addr) (c : Nat), k ≤ n ∧ i = .int .i64 (k : Int) ∧ v = .slice A m c ∧ Below w.heap.size w wr ∧ Loc wr w.heap.size #[.int .i64 f, .string ⟨x.now.toArray⟩, .string ⟨x.last.toArray⟩] ∧
      Own wr (w.heap.size + 1) 127 3 (.slice A m c) m (((fs.take k).filter (fun p => p.1 ≠ f)).map fileCells)) (fun _ i _ => n - (intOf i).toNat)
  case atStart => exact ⟨0, 0, none, 0, Nat.zero_le _, rfl, rfl, below_alloc w _, Loc.new_ w _ _, Own.nil_ _ _ _ _⟩
  case round =>
    obtain ⟨k, m, A, c, hk, rfl, rfl, hb, hl, ho⟩ := hrel
    obtain ⟨wo, rfl⟩ : ∃ wo : World, wo = wr := ⟨_, rfl⟩
    have hm16 : m ≤ 16 := by
      have h1 := ho.2.2
      rw [List.length_map] at h1
      have h2 := List.length_filter_le (fun p : Int × FileV => p.1 ≠ f) (fs.take k)
      rw [List.length_take, HL.out] at h2
      omega
    have HB := Lib.hid hb
    have HLO := Lib.hid hl
    have HOW := Lib.hid ho
    obtain ⟨zL, kL, fL⟩ := hl
    obtain ⟨zB, kB, fB⟩ := LB.out.below hb
    clear hb ho
    by_cases hlt : k < n
    · obtain ⟨p, hp⟩ : ∃ p, fs[k]? = some p := ⟨_, List.getElem?_eq_getElem (by rw [HL.out]; exact hlt)⟩
      obtain ⟨b, o, rfl, hbl, hcell⟩ := (HS.out.below HB.out).2 k (fileCells p) (by rw [List.getElem?_map, hp]; rfl)
      have c0 := hcell 0 _ rfl
      have c1 := hcell 1 _ rfl
      have c2 := hcell 2 _ rfl
      rw [Nat.add_zero] at c0
      unfold strV at c1 c2
      have hki : (k : Int) < (n : Int) := by omega
      have hk0 : (0 : Int) ≤ (k : Int) := Int.natCast_nonneg _
      have HLT := Lib.hid hlt
      have HP := Lib.hid hp
      clear hcell hp hlt
      by_cases heq : p.1 = f
      · have heqb : (p.1 != f) = false := by simpa using heq
        go_wp2_with (fail)
        go_quiet (fail)
        go_wp2_with (fail)
        go_roundw
        case rel => exact ⟨k + 1, m, A, c, HLT.out, by go_num, rfl, bdrewN HB.out _, HLO.out.drewN _, by have h1 := filter_next (f := f) HP.out; rw [if_pos heq, List.append_nil] at h1; rw [h1]; exact HOW.out.below (bdrewN (Below.refl _ _) _)⟩
        case measure => have := HLT.out; simp [intOf]; omega
      · have heqb : (p.1 != f) = true := by simpa using heq
        go_wp2_with (fail)
        go_quiet (fail)
        have HBN := Lib.hid (bdrewN HB.out nq)
        have HLN := Lib.hid (HLO.out.drewN nq)
        have HON := Lib.hid (HOW.out.below (bdrewN (Below.refl wo.heap.size wo) nq))
        have hz : (wo.drewN nq).heap.size = wo.heap.size := rfl
        have hbz := HB.out.size
        have hzl := HLO.out.lt
        go_wp2_with (at_builtin; refine wpList_append_sl _ rfl (.tmp 26) (.tmp 34) 95 rfl (w.heap.size + 1) 127 i0 _ 3 40 Tryz.underlying95 hi0 hi1 hi2 hi3 rfl (by omega) (.slice A m c) m _ rfl (HON.out.alloc _) (some ⟨wo.heap.size, 0, none⟩) 1 1 [fileCells p] rfl (sl_file (wo.drewN nq) p _) (by simp [fileCells]) (file_one p) (by simp only [maxLen]; omega) (by omega) (by simp only [World.size_alloc, hz]; omega) ?_; intro A1 c1 w1 hown hg hat)
        have hbw := (HON.out.alloc _).below_grown (B := w.heap.size) (by omega) (by simp only [World.size_alloc, hz]; omega) (HBN.out.alloc (by rw [hz]; omega) _) hg
        have hlw := (HLN.out.alloc (.cells #[.int .i64 p.1, .string ⟨p.2.now.toArray⟩, .string ⟨p.2.last.toArray⟩] 127)).grown hg (fun e => by have := (HON.out.lt _ e).1; omega)
        have hfn := filter_next (f := f) HP.out
        rw [if_neg heq] at hfn
        rw [← hfn] at hown
        have HR := Lib.hid (And.intro hbw (And.intro hlw hown))
        clear hbw hlw hown
        go_roundw
        case rel => exact ⟨k + 1, m + 1, A1, c1, HLT.out, by go_num, rfl, HR.out.1, HR.out.2.1, HR.out.2.2⟩
        case measure => have := HLT.out; simp [intOf]; omega
    · obtain rfl : k = n := by omega
      have hki : (k : Int) ≤ (k : Int) := Int.le_refl _
      have hbz := HB.out.size
      have hzl := HLO.out.lt
      go_wp2_with (at_builtin; refine wpList_append_sl _ rfl (.tmp 37) (.tmp 39) 95 rfl (w.heap.size + 1) 127 i0 _ 3 40 Tryz.underlying95 hi0 hi1 hi2 hi3 rfl (by omega) (.slice A m c) m _ rfl (HOW.out.alloc _) (some ⟨wo.heap.size, 0, none⟩) 1 1 [fileCells (f, x)] rfl (sl_file wo (f, x) _) (by simp [fileCells]) (file_one (f, x)) (by simp only [maxLen]; omega) (by omega) (by simp only [World.size_alloc]; omega) ?_; intro A1 c1 w1 hown hg hat; have hbw := (HOW.out.alloc _).below_grown (B := w.heap.size) (by omega) (by simp only [World.size_alloc]; omega) (HB.out.alloc (by omega) _) hg; obtain ⟨zB1, kB1, fB1⟩ := LB.out.below hbw)
      go_end0
      rw [List.take_of_length_le (by rw [HL.out]; exact Nat.le_refl _)] at hown
      have h2 := (H.out.below hbw).setFiles (fs := setL f x r.files) (base := w.heap.size) (fun k hf => H.out.lt k hf) (A := A1) (c := c1) (n := m + 1) (by
        rw [hfs]
        have h3 := hown.mono (base' := w.heap.size) (by omega)
        unfold setL
        rw [List.map_append]
        exact h3)
      refine ⟨rfl, _, _, _, _, _, h2, (Keeps.below hbw).trans (Keeps.setCell (p := ⟨B, 0, none⟩) (.inl H.out.fB) _), fun _ h => .inl h, fun k h => ?_⟩
      unfold Plus
      rw [World.size_setCell]
      exact h
end
end Go.Proofs.YtjncmlglhegnaaaGreatDoor
namespace Go.Proofs.YtjncmlglhegnaaaGreatDoor
open Go.RowKit

theorem infoSec : (Tryz.prog.info? 125).map (fun i => (i.zero, i.size, i.bytes)) = some (some (.agg #[.int .i64 0, .int .i64 0]), 2, 16) := by kernel_rfl
theorem sl_sec (W : World) (p : Int × Int) (t : TypeId) : Sl (W.alloc (.cells #[.int .i64 p.1, .int .i64 p.2] t)) 2 (some ⟨W.heap.size, 0, none⟩) 1 [secCells p] := by
  refine ⟨rfl, fun i x hx => ⟨_, _, rfl, by simp, fun j v hv => ?_⟩⟩
  match i, hx with
  | 0, hx =>
    simp only [List.getElem?_cons_zero, Option.some.injEq] at hx
    subst hx
    rw [World.cell?_alloc_at _ _ _ _ rfl]
    simpa [secCells] using hv
  | i + 1, hx => simp at hx
theorem sec_one1 (p : Int × Int) : ∀ x ∈ [secCells p], ∀ u ∈ x, u.oneCell' = true := by
  intro x hx u hu
  simp only [List.mem_singleton] at hx
  subst hx
  simp only [secCells, List.mem_cons, List.not_mem_nil, or_false] at hu
  rcases hu with rfl | rfl <;> rfl
theorem filterQ_next {f : Int} {q : List (Int × Int)} {k : Nat} {p : Int × Int} (hp : q[k]? = some p) :
    ((q.take (k + 1)).filter (fun p => p.1 ≠ f)).map secCells = ((q.take k).filter (fun p => p.1 ≠ f)).map secCells ++ (if p.1 = f then [] else [secCells p]) := by
  rw [List.take_add_one, hp, List.filter_append, List.map_append]
  congr 1
  by_cases h : p.1 = f <;> simp [h]
section
variable {w w' : World} {F G : Nat → Prop} {B : Nat} {r : DV} {FA : Option Addr} {cf : Nat} {Q : Option Addr} {cq : Nat} {K : Option Addr} {ck : Nat}
/-- a new queue is laid -/
theorem RefAt.setQueue (h : RefAt w F B r FA cf Q cq K ck) {base : Nat} (hb : ∀ k, F k → k < base) {A : Option Addr} {c n : Nat} {q : List (Int × Int)}
    (ho : Own w base 125 2 (.slice A n c) n (q.map secCells)) :
    RefAt (w.setCell ⟨B, 1, none⟩ (.slice A n c)) (fun k => F k ∨ (base ≤ k ∧ k < w.heap.size)) B { r with queue := q } FA cf A c K ck := by
  obtain rfl : q.length = n := by have := ho.2.2; rwa [List.length_map] at this
  have hg := grownBy_setCell w ⟨B, 1, none⟩ (.slice A q.length c)
  have hl := h.loc.set_ 1 (.slice A q.length c)
  have hB := hb B h.fB
  have hA : ∀ b, (Value.slice A 0 0).ownBlock = some b → base ≤ b ∧ b < w.heap.size := fun b he => ho.lt b (by rw [slice_block]; exact he)
  refine ⟨by simpa using hl, h.files.grown hg ?_, (ho.setBelow (p := ⟨B, 1, none⟩) hB _).mono (Nat.zero_le _), h.keep.grown hg ?_, .inl h.fB, fun b hq => .inr (hA b hq), fun hne ad he => ⟨.inl (h.ff hne ad he).1, (h.ff hne ad he).2.1, fun e => ?_⟩, fun hne ad he => ⟨.inl (h.fk hne ad he).1, (h.fk hne ad he).2.1, fun e => ?_⟩, fun e => ?_, fun b hf => ?_⟩
  · by_cases hk : r.files = []
    · exact .inl (by rw [hk]; rfl)
    · exact .inr fun ad e e' => (h.ff hk ad e).2.1 (by injection e' with e'; exact e'.symm)
  · by_cases hk : r.keep = []
    · exact .inl (by rw [hk]; rfl)
    · exact .inr fun ad e e' => (h.fk hk ad e).2.1 (by injection e' with e'; exact e'.symm)
  · have := (hA _ e).1; have := hb _ (h.ff hne ad he).1; omega
  · have := (hA _ e).1; have := hb _ (h.fk hne ad he).1; omega
  · have := (hA _ e).1; omega
  · rw [World.size_setCell]
    rcases hf with hf | hf
    · exact h.lt b hf
    · exact hf.2
set_option maxRecDepth 100000 in
set_option maxHeartbeats 2000000 in
theorem settle_ref (h : RefAt w F B r FA cf Q cq K ck) (hn : r.files.length ≤ 16) (hq : r.queue.length ≤ 4194320) (f : Int) (s : List UInt8) :
    Calls Tryz.prog 160 #[.pointer (some ⟨B, 0, none⟩), .int .i64 f, .string ⟨s.toArray⟩] w fun e w' => e = .returned (.tuple #[]) ∧ RefTo F w B (settleR r f s) w' := by
  obtain ⟨i0, hi0, hi1, hi2, hi3⟩ := info_parts infoSec
  have HSET := Lib.hid (set_ref h hn f ⟨s, s⟩)
  clear h hn
  go_enter Tryz.func160, Tryz.ntmps160
  go_wp2_with ((with_reducible refine (HSET.out).mono ?_); rintro e w1 ⟨rfl, F1, FA1, cf1, Q1, cq1, h1, hE1⟩)
  have HE := Lib.hid hE1
  obtain ⟨n, hnn⟩ : ∃ n, r.queue.length = n := ⟨_, rfl⟩
  have hfl := h1.queue.sl'
  have hlo := h1.loc
  simp only at hfl hlo
  rw [hnn] at hq hfl hlo
  have H := Lib.hid h1
  obtain ⟨qs, hqs⟩ : ∃ qs, r.queue = qs := ⟨_, rfl⟩
  rw [hqs] at hfl hnn
  have HS := Lib.hid hfl
  have LB := Lib.hid hlo
  have HL := Lib.hid hnn
  clear h1 hE1 hfl hlo hnn
  go_loopw [6, 7] (fun v i wr => ∃ (k m : Nat) (A : Option Addr) (c : Nat), k ≤ n ∧ m ≤ k ∧ i = .int .i64 (k : Int) ∧ v = .slice A m c ∧ Below w1.heap.size w1 wr ∧
      Own wr w1.heap.size 125 2 (.slice A m c) m (((qs.take k).filter (fun p => p.1 ≠ f)).map secCells)) (fun _ i _ => n - (intOf i).toNat)
  case atStart => exact ⟨0, 0, none, 0, Nat.zero_le _, Nat.le_refl _, rfl, rfl, Below.refl _ _, Own.nil_ _ _ _ _⟩
  case round =>
    obtain ⟨k, m, A, c, hk, hmk, rfl, rfl, hb, ho⟩ := hrel
    obtain ⟨wo, rfl⟩ : ∃ wo : World, wo = wr := ⟨_, rfl⟩
    have HB := Lib.hid hb
    have HOW := Lib.hid ho
    obtain ⟨zB, kB, fB⟩ := LB.out.below hb
    have hbz := hb.size
    clear hb ho
    by_cases hlt : k < n
    · obtain ⟨p, hp⟩ : ∃ p, qs[k]? = some p := ⟨_, List.getElem?_eq_getElem (by rw [HL.out]; exact hlt)⟩
      obtain ⟨b, o, rfl, hbl, hcell⟩ := (HS.out.below HB.out).2 k (secCells p) (by rw [List.getElem?_map, hp]; rfl)
      have c0 := hcell 0 _ rfl
      have c1 := hcell 1 _ rfl
      rw [Nat.add_zero] at c0
      have hki : (k : Int) < (n : Int) := by omega
      have hk0 : (0 : Int) ≤ (k : Int) := Int.natCast_nonneg _
      have HLT := Lib.hid hlt
      have HP := Lib.hid hp
      clear hcell hp hlt
      by_cases heq : p.1 = f
      · have heqb : (p.1 != f) = false := by simpa using heq
        go_wp2_with (fail)
        go_roundw
        case rel => exact ⟨k + 1, m, A, c, HLT.out, by omega, by go_num, rfl, HB.out, by have h1 := filterQ_next (f := f) HP.out; rw [if_pos heq, List.append_nil] at h1; rw [h1]; exact HOW.out⟩
        case measure => have := HLT.out; simp [intOf]; omega
      · have heqb : (p.1 != f) = true := by simpa using heq
        go_wp2_with (at_builtin; refine wpList_append_sl _ rfl (.tmp 33) (.tmp 41) 96 rfl w1.heap.size 125 i0 _ 2 16 Tryz.underlying96 hi0 hi1 hi2 hi3 rfl (by omega) (.slice A m c) m _ rfl (HOW.out.alloc _) (some ⟨wo.heap.size, 0, none⟩) 1 1 [secCells p] rfl (sl_sec wo p _) (by simp [secCells]) (sec_one1 p) (by simp only [maxLen]; omega) (by omega) (by simp only [World.size_alloc]; omega) ?_; intro A1 c1 w2 hown hg hat)
        have hbw := (HOW.out.alloc _).below_grown (B := w1.heap.size) (Nat.le_refl _) (by simp only [World.size_alloc]; omega) (HB.out.alloc (by omega) _) hg
        have hfn := filterQ_next (f := f) HP.out
        rw [if_neg heq] at hfn
        rw [← hfn] at hown
        have HR := Lib.hid (And.intro hbw hown)
        clear hbw hown
        go_roundw
        case rel => exact ⟨k + 1, m + 1, A1, c1, HLT.out, by omega, by go_num, rfl, HR.out.1, HR.out.2⟩
        case measure => have := HLT.out; simp [intOf]; omega
    · obtain rfl : k = n := by omega
      have hki : (k : Int) ≤ (k : Int) := Int.le_refl _
      go_wp2_with (fail)
      go_end0
      have hown := HOW.out
      rw [List.take_of_length_le (by rw [HL.out]; exact Nat.le_refl _), ← hqs] at hown
      have h2 := (H.out.below HB.out).setQueue (base := w1.heap.size) (fun k hf => H.out.lt k hf) hown
      refine ⟨rfl, _, h2.ref, HE.out.trans ⟨(Keeps.below HB.out).trans (Keeps.setCell (p := ⟨B, 1, none⟩) (.inl H.out.fB) _), fun _ h => .inl h, fun k h => ?_⟩⟩
      unfold Plus
      rw [World.size_setCell]
      exact h
end
end Go.Proofs.YtjncmlglhegnaaaGreatDoor
