/- kerbsideref02: what the functions compute, in plain Lean; it answers as the disk does. -/
import Derived.Test.YthnechlnaacgfaaDiskQ
namespace Go.Proofs.Ythnechlnaacgfaa

/-- the reference's files: a list, in which a file that is set comes last -/
def setL (f : Int) (x : FileV) (fs : List (Int × FileV)) : List (Int × FileV) := fs.filter (fun p => p.1 ≠ f) ++ [(f, x)]
def fitsR (at_ : Int) (s : List UInt8) : Bool := decide (0 ≤ at_) && decide (at_ ≤ 16777216) && decide (at_ + s.length ≤ 16777216)
def addR (r : DV) (f at_ : Int) (s : List UInt8) : DV :=
  if s = [] then r else { r with files := setL f ⟨putB (r.file f).now at_.toNat s, (r.file f).last⟩ r.files, queue := addQ r.queue (touched f at_.toNat s.length) }
def surviveR (fs : List (Int × FileV)) (p : Int × Int) : List (Int × FileV) :=
  let x := (getA p.1 fs).getD noFile
  setL p.1 (if 64 * p.2 < x.now.length then ⟨x.now, putB x.last (64 * p.2).toNat ((x.now.drop (64 * p.2).toNat).take 64)⟩ else x) fs
def surviveAllR (keep : List Int) : Nat → List (Int × Int) → List (Int × FileV) → List (Int × FileV)
  | _, [], fs => fs
  | i, p :: ps, fs => surviveAllR keep (i + 1) ps (if keep = [] ∨ (keep[i % keep.length]?).getD 0 % 2 = 0 then fs else surviveR fs p)
def crashR (r : DV) (keep : List Int) : DV :=
  if r.down then r else
  { r with files := (surviveAllR keep 0 r.queue r.files).map (fun p => (p.1, ⟨p.2.last, p.2.last⟩)), queue := [], down := true, armed := 0 }
def comesR (r : DV) (f at_ : Int) (s : List UInt8) : DV :=
  if r.down ∨ r.armed = 0 then r
  else if 0 < r.armed - 1 then { r with armed := r.armed - 1 }
  else crashR (if 0 ≤ f ∧ f ≤ 15 ∧ fitsR at_ s = true then addR { r with armed := r.armed - 1 } f at_ s else { r with armed := r.armed - 1 }) r.keep
def WriteR (r : DV) (f at_ : Int) (s : List UInt8) : DV × Int :=
  let r1 := comesR r f at_ s
  if mayF r1 f ≠ 0 then (r1, mayF r1 f) else if at_ < 0 then (r1, 1) else if fitsR at_ s = false then (r1, 6) else (addR r1 f at_ s, 0)
/-- Write, behind the crash that may come -/
def lastR (r1 : DV) (f at_ : Int) (s : List UInt8) : DV × Int := if mayF r1 f ≠ 0 then (r1, mayF r1 f) else if at_ < 0 then (r1, 1) else if fitsR at_ s = false then (r1, 6) else (addR r1 f at_ s, 0)
theorem WriteR_last (r : DV) (f at_ : Int) (s : List UInt8) : WriteR r f at_ s = lastR (comesR r f at_ s) f at_ s := rfl
def settleR (r : DV) (f : Int) (s : List UInt8) : DV := { r with files := setL f ⟨s, s⟩ r.files, queue := r.queue.filter fun p => p.1 ≠ f }
def SyncR (r : DV) (f : Int) : DV × Int :=
  let r1 := comesR r 0 0 []
  if mayF r1 f ≠ 0 then (r1, mayF r1 f) else if 0 < r1.lost then ({ r1 with lost := r1.lost - 1 }, 9) else (settleR r1 f (r1.file f).now, 0)
def TruncR (r : DV) (f n : Int) : DV × Int :=
  let r1 := comesR r 0 0 []
  if mayF r1 f ≠ 0 then (r1, mayF r1 f) else if n < 0 ∨ ((r1.file f).now.length : Int) < n then (r1, 1) else (settleR r1 f ((r1.file f).now.take n.toNat), 0)
def tellF (r : DV) (a : ActC) : DV × Int :=
  if a.do_ % 8 = 2 then SyncR r a.f else if a.do_ % 8 = 3 then TruncR r a.f a.n else if a.do_ % 8 = 4 then (LoseF r (a.n % 4), 0)
  else if a.do_ % 8 = 5 then (ArmF r a.n a.keep, 0) else if a.do_ % 8 = 6 then (crashR r a.keep, 0) else if a.do_ % 8 = 7 then (StartF r, 0) else WriteR r a.f a.n a.s

theorem getA_append {f : Int} (x : FileV) : ∀ fs : List (Int × FileV), (∀ p ∈ fs, p.1 ≠ f) → getA f (fs ++ [(f, x)]) = some x
  | [], _ => by simp [getA]
  | (g, v) :: fs, h => by
    have h1 : f ≠ g := fun e => h (g, v) (by simp) e.symm
    simp only [List.cons_append, getA, if_neg h1]
    exact getA_append x fs fun p hp => h p (by simp [hp])
theorem getA_set_same (f : Int) (x : FileV) (fs : List (Int × FileV)) : getA f (setL f x fs) = some x :=
  getA_append x _ fun p hp => by simpa using (List.mem_filter.1 hp).2
theorem getA_set_ne {f g : Int} (x : FileV) (hne : g ≠ f) : ∀ fs : List (Int × FileV), getA g (setL f x fs) = getA g fs
  | [] => by simp [setL, getA, hne]
  | (k, v) :: fs => by
    have ih := getA_set_ne x hne fs
    unfold setL at ih ⊢
    by_cases hk : k = f
    · subst hk
      rw [List.filter_cons_of_neg (by simp)]
      rw [ih]
      simp [getA, hne]
    · rw [List.filter_cons_of_pos (by simpa using hk)]
      simp only [List.cons_append, getA, ih]
/-- the reference's disk holds what the disk holds -/
structure RelD (d r : DV) : Prop where
  file : ∀ f, d.file f = r.file f
  queue : d.queue = r.queue
  lost : d.lost = r.lost
  down : d.down = r.down
  armed : d.armed = r.armed
  keep : d.keep = r.keep
def SameFiles (fs gs : List (Int × FileV)) : Prop := ∀ f, (getA f fs).getD noFile = (getA f gs).getD noFile
theorem SameFiles.put {fs gs : List (Int × FileV)} (h : SameFiles fs gs) (f : Int) (x : FileV) : SameFiles (putA f x fs) (setL f x gs) := fun g => by
  by_cases hg : g = f
  · subst hg; rw [getA_put_same, getA_set_same]
  · rw [getA_put_ne x hg, getA_set_ne x hg]; exact h g
theorem SameFiles.survive {fs gs : List (Int × FileV)} (h : SameFiles fs gs) (p : Int × Int) : SameFiles (surviveF fs p) (surviveR gs p) := by
  unfold surviveF surviveR
  dsimp only
  rw [h p.1, Int.mul_comm p.2 64]
  by_cases hc : 64 * p.2 < (((getA p.1 gs).getD noFile).now.length : Int)
  · rw [if_neg (by omega), if_pos hc]
    exact h.put _ _
  · rw [if_pos (by omega), if_neg hc]
    intro g
    by_cases hg : g = p.1
    · subst hg; rw [getA_set_same, h]; rfl
    · rw [getA_set_ne _ hg]; exact h g
theorem SameFiles.surviveAll (keep : List Int) : ∀ (q : List (Int × Int)) (i : Nat) {fs gs : List (Int × FileV)}, SameFiles fs gs → SameFiles (surviveAll keep i q fs) (surviveAllR keep i q gs)
  | [], _, _, _, h => h
  | p :: ps, i, fs, gs, h => by
    unfold Go.Proofs.Ythnechlnaacgfaa.surviveAll surviveAllR
    refine SameFiles.surviveAll keep ps (i + 1) ?_
    split
    · exact h
    · exact h.survive p
namespace RelD
variable {d r : DV}
theorem new : RelD newD newD := ⟨fun _ => rfl, rfl, rfl, rfl, rfl, rfl⟩
theorem may (h : RelD d r) (f : Int) : mayF d f = mayF r f := by unfold mayF; rw [h.down]
theorem same (h : RelD d r) : SameFiles d.files r.files := h.file
theorem turn (h : RelD d r) : RelD { d with armed := d.armed - 1 } { r with armed := r.armed - 1 } := ⟨h.file, h.queue, h.lost, h.down, by show d.armed - 1 = r.armed - 1; rw [h.armed], h.keep⟩
theorem at_rest (h : RelD d r) : (d.down = true ∨ d.armed = 0) ↔ (r.down = true ∨ r.armed = 0) := by rw [h.down, h.armed]
theorem crash (h : RelD d r) (keep : List Int) : RelD (crashF d keep) (crashR r keep) := by
  unfold crashF crashR
  rw [h.down]
  split
  · exact h
  · refine ⟨fun f => ?_, rfl, h.lost, rfl, rfl, h.keep⟩
    have := h.same.surviveAll keep d.queue 0 f
    show (getA f _).getD noFile = (getA f _).getD noFile
    rw [lost_file, lost_file, this, h.queue]
theorem crash_of (h : RelD d r) {k1 k2 : List Int} (e : k1 = k2) : RelD (crashF d k1) (crashR r k2) := by subst e; exact h.crash _
theorem add (h : RelD d r) (f at_ : Int) (s : List UInt8) (hs : s ≠ []) :
    RelD { d with files := putA f ⟨putB (d.file f).now at_.toNat s, (d.file f).last⟩ d.files, queue := addQ d.queue (touched f at_.toNat s.length) } (addR r f at_ s) := by
  unfold addR
  rw [if_neg hs]
  refine ⟨?_, by show addQ _ _ = addQ _ _; rw [h.queue], h.lost, h.down, h.armed, h.keep⟩
  rw [h.file f]
  exact h.same.put _ _
theorem fits {at_ : Int} {s : List UInt8} : fitsR at_ s = true ↔ 0 ≤ at_ ∧ ¬ (16777216 < at_ ∨ 16777216 - at_ < s.length) := by
  unfold fitsR
  simp only [Bool.and_eq_true, decide_eq_true_eq]
  omega
theorem write (h : RelD d r) (f at_ : Int) (s : List UInt8) : RelD (writeF d f at_ s).1 (if mayF r f = 0 ∧ fitsR at_ s = true then addR r f at_ s else r) := by
  unfold writeF
  rw [h.may]
  by_cases h1 : mayF r f = 0
  · rw [if_neg (by simpa using h1)]
    by_cases h2 : at_ < 0
    · rw [if_pos h2, if_neg (by rw [fits]; omega)]; exact h
    · rw [if_neg h2]
      by_cases h3 : 16777216 < at_ ∨ 16777216 - at_ < (s.length : Int)
      · rw [if_pos h3, if_neg (by rw [fits]; exact fun c => c.2.2 h3)]; exact h
      · rw [if_neg h3, if_pos (show mayF r f = 0 ∧ fitsR at_ s = true from ⟨h1, fits.2 ⟨by omega, h3⟩⟩)]
        by_cases h4 : s = []
        · rw [if_pos h4]; unfold addR; rw [if_pos h4]; exact h
        · rw [if_neg h4]; exact h.add f at_ s h4
  · rw [if_pos (by simpa using h1), if_neg (fun c => h1 c.1)]; exact h
theorem settle (h : RelD d r) (f : Int) (s : List UInt8) : RelD (settleF d f s) (settleR r f s) :=
  ⟨h.same.put _ _, by show List.filter _ _ = List.filter _ _; rw [h.queue], h.lost, h.down, h.armed, h.keep⟩
theorem begin_ (h : RelD d r) (ha : 0 ≤ d.armed) : RelD (beginF d) (comesR r 0 0 []) := by
  have ea := h.armed
  unfold beginF endsF comesR
  by_cases h1 : d.down = true ∨ d.armed = 0
  · rw [if_pos h1, if_pos (h.at_rest.1 h1)]; exact h
  · rw [if_neg h1, if_neg (fun c => h1 (h.at_rest.2 c))]
    have h2 : d.armed ≠ 0 := fun c => h1 (.inr c)
    by_cases h3 : 0 < r.armed - 1
    · rw [if_pos h3]
      have h4 : decide (d.armed - 1 = 0) = false := by simp; omega
      simp only [h4, Bool.false_eq_true, if_false]
      exact h.turn
    · rw [if_neg h3]
      have h4 : decide (d.armed - 1 = 0) = true := by simp; omega
      simp only [h4, if_true]
      have h5 : (if (0 : Int) ≤ 0 ∧ (0 : Int) ≤ 15 ∧ fitsR 0 [] = true then addR { r with armed := r.armed - 1 } 0 0 [] else { r with armed := r.armed - 1 }) = { r with armed := r.armed - 1 } := by
        split
        · unfold addR; rw [if_pos rfl]
        · rfl
      rw [h5]
      exact h.turn.crash_of h.keep
theorem Sync (h : RelD d r) (ha : 0 ≤ d.armed) (f : Int) : (SyncF d f).2 = (SyncR r f).2 ∧ RelD (SyncF d f).1 (SyncR r f).1 := by
  have hb := h.begin_ ha
  unfold SyncF SyncR
  dsimp only
  rw [hb.may, hb.lost]
  split
  · exact ⟨rfl, hb⟩
  · split
    · exact ⟨rfl, hb.file, hb.queue, rfl, hb.down, hb.armed, hb.keep⟩
    · rw [hb.file]; exact ⟨rfl, hb.settle _ _⟩
theorem Trunc (h : RelD d r) (ha : 0 ≤ d.armed) (f n : Int) : (TruncF d f n).2 = (TruncR r f n).2 ∧ RelD (TruncF d f n).1 (TruncR r f n).1 := by
  have hb := h.begin_ ha
  unfold TruncF TruncR
  dsimp only
  rw [hb.may, hb.file]
  split
  · exact ⟨rfl, hb⟩
  · split
    · exact ⟨rfl, hb⟩
    · exact ⟨rfl, hb.settle _ _⟩
theorem crashR_down (r : DV) (keep : List Int) : (crashR r keep).down = true := by
  unfold crashR
  split
  · assumption
  · rfl
theorem may_range {f : Int} : mayF r f = 0 ↔ r.down = false ∧ 0 ≤ f ∧ f ≤ 15 := by
  unfold mayF
  cases r.down
  · simp only [Bool.false_eq_true, if_false]
    split <;> simp <;> omega
  · simp
theorem Write (h : RelD d r) (ha : 0 ≤ d.armed) (f at_ : Int) (s : List UInt8) : (WriteF d f at_ s).2 = (WriteR r f at_ s).2 ∧ RelD (WriteF d f at_ s).1 (WriteR r f at_ s).1 := by
  have plain : ∀ d r : DV, RelD d r → (writeF d f at_ s).2 = (lastR r f at_ s).2 ∧ RelD (writeF d f at_ s).1 (lastR r f at_ s).1 := fun d r h => by
    have hw := h.write f at_ s
    unfold lastR
    by_cases h1 : mayF r f ≠ 0
    · rw [if_pos h1]
      rw [if_neg (fun c => h1 c.1)] at hw
      refine ⟨?_, hw⟩
      unfold writeF
      rw [h.may, if_pos h1]
    · rw [if_neg h1]
      by_cases h2 : at_ < 0
      · rw [if_pos h2]
        rw [if_neg (by rw [fits]; omega)] at hw
        refine ⟨?_, hw⟩
        unfold writeF
        rw [h.may, if_neg h1, if_pos h2]
      · rw [if_neg h2]
        by_cases h3 : 16777216 < at_ ∨ 16777216 - at_ < (s.length : Int)
        · have h5 : fitsR at_ s = false := by rw [Bool.eq_false_iff]; exact fun c => (fits.1 c).2 h3
          rw [if_pos h5]
          rw [if_neg (by rw [h5]; simp)] at hw
          refine ⟨?_, hw⟩
          unfold writeF
          rw [h.may, if_neg h1, if_neg h2, if_pos h3]
        · have h5 : fitsR at_ s = true := fits.2 ⟨by omega, h3⟩
          rw [if_neg (by rw [h5]; simp)]
          rw [if_pos ⟨by simpa using h1, h5⟩] at hw
          refine ⟨?_, hw⟩
          unfold writeF
          rw [h.may, if_neg h1, if_neg h2, if_neg h3]
          split <;> rfl
  rw [WriteR_last]
  unfold WriteF endsF comesR
  by_cases h1 : d.down = true ∨ d.armed = 0
  · rw [if_pos h1, if_pos (h.at_rest.1 h1)]
    exact plain d r h
  · rw [if_neg h1, if_neg (fun c => h1 (h.at_rest.2 c))]
    have h2 : d.armed ≠ 0 := fun c => h1 (.inr c)
    have hu : r.down = false := by
      cases hd : r.down
      · rfl
      · exact absurd (h.at_rest.2 (.inl hd)) h1
    have ea := h.armed
    by_cases h3 : 0 < r.armed - 1
    · rw [if_pos h3]
      have h4 : decide (d.armed - 1 = 0) = false := by simp; omega
      simp only [h4, Bool.false_eq_true, if_false]
      exact plain _ _ h.turn
    · rw [if_neg h3]
      have h4 : decide (d.armed - 1 = 0) = true := by simp; omega
      simp only [h4, if_true]
      have hw := h.turn.write f at_ s
      have h5 : (if 0 ≤ f ∧ f ≤ 15 ∧ fitsR at_ s = true then addR { r with armed := r.armed - 1 } f at_ s else { r with armed := r.armed - 1 }) = (if mayF { r with armed := r.armed - 1 } f = 0 ∧ fitsR at_ s = true then addR { r with armed := r.armed - 1 } f at_ s else { r with armed := r.armed - 1 }) := by
        have : (0 ≤ f ∧ f ≤ 15 ∧ fitsR at_ s = true) ↔ (mayF { r with armed := r.armed - 1 } f = 0 ∧ fitsR at_ s = true) := by
          rw [may_range]
          exact ⟨fun ⟨a, b, c⟩ => ⟨⟨hu, a, b⟩, c⟩, fun ⟨⟨_, a, b⟩, c⟩ => ⟨a, b, c⟩⟩
        simp only [this]
      rw [h5]
      have hk : (writeF { d with armed := d.armed - 1 } f at_ s).1.keep = r.keep := by
        rw [← h.keep]
        unfold writeF
        repeat' split
        all_goals rfl
      rw [hk]
      have hc := hw.crash r.keep
      generalize (if mayF { r with armed := r.armed - 1 } f = 0 ∧ fitsR at_ s = true then addR { r with armed := r.armed - 1 } f at_ s else { r with armed := r.armed - 1 }) = r2 at *
      have hm : mayF (crashR r2 r.keep) f = 8 := by unfold mayF; rw [crashR_down]; rfl
      unfold lastR
      rw [hm, if_pos (by decide)]
      exact ⟨rfl, hc⟩
theorem do_ (h : RelD d r) (ha : 0 ≤ d.armed) (a : ActC) : (doF d a).2 = (tellF r a).2 ∧ RelD (doF d a).1 (tellF r a).1 := by
  unfold doF tellF
  split
  · exact h.Sync ha _
  · split
    · exact h.Trunc ha _ _
    · split
      · exact ⟨rfl, h.file, h.queue, rfl, h.down, h.armed, h.keep⟩
      · split
        · exact ⟨rfl, h.file, h.queue, h.lost, h.down, rfl, rfl⟩
        · split
          · exact ⟨rfl, h.crash _⟩
          · split
            · exact ⟨rfl, h.file, h.queue, h.lost, rfl, h.armed, h.keep⟩
            · exact h.Write ha _ _ _
theorem read (h : RelD d r) (f at_ n : Int) : ReadF d f at_ n = ReadF r f at_ n := by unfold ReadF; rw [h.may, h.file]
end RelD
end Go.Proofs.Ythnechlnaacgfaa
