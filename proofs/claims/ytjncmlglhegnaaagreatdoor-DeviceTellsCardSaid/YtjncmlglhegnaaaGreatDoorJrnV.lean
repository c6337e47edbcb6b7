/- kerbsideref03: what the reference's journal computes, in plain Lean; it answers as the journal does. -/
import Derived.Test.YtjncmlglhegnaaaGreatDoorJrnB
import Derived.Test.YtjncmlglhegnaaaGreatDoorRefE
namespace Go.Proofs.YtjncmlglhegnaaaGreatDoor
open Go.Lib

theorem stepJ_ref {s t : List UInt8} {n : Int} {r1 r2 : RdV} (h1 : textF ⟨s, false⟩ = (t, r1)) (h2 : natF r1 = (n, r2)) : stepJ s = if r2.bad = false ∧ t.length ≤ 20000 ∧ n = sumF t then some t else none := by
  by_cases h : r2.bad = false ∧ t.length ≤ 20000 ∧ n = sumF t
  · rw [if_pos h]
    obtain ⟨hb, hl, hn⟩ := h
    obtain ⟨e2, b2⟩ := natF_was _ _ _ h2 hb
    obtain ⟨e1, _⟩ := textF_was _ _ _ h1 b2
    refine stepJ_iff.2 ⟨hl, r2.rest, ?_⟩
    unfold formB
    rw [List.append_assoc, ← hn, ← e2]
    exact e1.symm
  · rw [if_neg h]
    cases hs : stepJ s with
    | none => rfl
    | some t' =>
      exfalso
      obtain ⟨hl, r, hr⟩ := stepJ_iff.1 hs
      obtain ⟨a1, a2⟩ := form_read (t := t') (by omega) r
      rw [hr, h1] at a1
      injection a1 with b1 b2
      rw [b2] at h2
      rw [a2] at h2
      injection h2 with c1 c2
      exact h ⟨by rw [← c2], by rw [b1]; exact hl, by rw [b1]; exact c1.symm⟩
theorem step_rest {s t : List UInt8} {n : Int} {r1 r2 : RdV} (h1 : textF ⟨s, false⟩ = (t, r1)) (h2 : natF r1 = (n, r2)) (h : stepJ s = some t) : r2 = ⟨s.drop (formB t).length, false⟩ := by
  obtain ⟨hl, r, hr⟩ := stepJ_iff.1 h
  obtain ⟨a1, a2⟩ := form_read (t := t) (by omega) r
  rw [hr, h1] at a1
  injection a1 with b1 b2
  rw [b2, a2] at h2
  injection h2 with c1 c2
  rw [← c2, ← hr, List.drop_left]
structure JR where
  file : Int
  recs : List (List UInt8)
  bad : Bool
def openR (r : DV) (f : Int) : DV × Option JR × Int :=
  if f < 0 ∨ 15 < f then (r, none, 1)
  else if (SyncR r f).2 ≠ 0 then ((SyncR r f).1, none, (SyncR r f).2)
  else
    let r1 := (SyncR r f).1
    let s := ((r1.file f).now)
    let j : JR := ⟨f, recsF s, false⟩
    if (formsB (recsF s)).length < s.length then
      if (TruncR r1 f ((formsB (recsF s)).length : Int)).2 ≠ 0 then ((TruncR r1 f ((formsB (recsF s)).length : Int)).1, none, (TruncR r1 f ((formsB (recsF s)).length : Int)).2)
      else ((TruncR r1 f ((formsB (recsF s)).length : Int)).1, some j, 0)
    else (r1, some j, 0)
def appendR (r : DV) (j : JR) (t : List UInt8) : DV × JR × Int :=
  if j.bad then (r, j, 7)
  else if 20000 < t.length then (r, j, 3)
  else if 1048576 < (formsB j.recs).length + (formB t).length then (r, j, 6)
  else
    if (WriteR r j.file ((formsB j.recs).length : Int) (formB t)).2 ≠ 0 then ((WriteR r j.file ((formsB j.recs).length : Int) (formB t)).1, { j with bad := true }, (WriteR r j.file ((formsB j.recs).length : Int) (formB t)).2)
    else ((WriteR r j.file ((formsB j.recs).length : Int) (formB t)).1, { j with recs := j.recs ++ [t] }, 0)
def syncRJ (r : DV) (j : JR) : DV × JR × Int :=
  if j.bad then (r, j, 7)
  else ((SyncR r j.file).1, { j with bad := decide ((SyncR r j.file).2 ≠ 0) }, (SyncR r j.file).2)
/-- the reference's journal holds what the journal holds -/
structure RelJ (j : JV) (k : JR) : Prop where
  file : j.file = k.file
  recs : j.recs = k.recs
  bad : j.broken = k.bad
  bytes : j.bytes = ((formsB j.recs).length : Int)
def RelO : Option JV → Option JR → Prop
  | none, none => True
  | some j, some k => RelJ j k
  | _, _ => False
section
variable {d r : DV} {j : JV} {k : JR}
theorem RelD.open_ (h : RelD d r) (hok : DOk d) (f : Int) : (openJ d f).2.2 = (openR r f).2.2 ∧ RelD (openJ d f).1 (openR r f).1 ∧ RelO (openJ d f).2.1 (openR r f).2.1 := by
  unfold openJ openR
  by_cases hf : f < 0 ∨ 15 < f
  · rw [if_pos hf, if_pos hf]
    exact ⟨rfl, h, trivial⟩
  rw [if_neg hf, if_neg hf]
  obtain ⟨e1, h1⟩ := h.Sync hok.armed.1 f
  rw [← e1]
  by_cases he : (SyncF d f).2 ≠ 0
  · rw [if_pos he, if_pos he]
    exact ⟨rfl, h1, trivial⟩
  rw [if_neg he, if_neg he]
  dsimp only
  rw [← h1.file f]
  obtain ⟨s, hs⟩ : ∃ s, (((SyncF d f).1).file f).now = s := ⟨_, rfl⟩
  rw [hs]
  by_cases hl : (formsB (recsF s)).length < s.length
  · rw [if_pos hl, if_pos hl]
    obtain ⟨e2, h2⟩ := h1.Trunc (hok.Sync f).armed.1 f ((formsB (recsF s)).length : Int)
    rw [← e2]
    by_cases he2 : (TruncF (SyncF d f).1 f ((formsB (recsF s)).length : Int)).2 ≠ 0
    · rw [if_pos he2, if_pos he2]
      exact ⟨rfl, h2, trivial⟩
    · rw [if_neg he2, if_neg he2]
      exact ⟨rfl, h2, rfl, rfl, rfl, rfl⟩
  · rw [if_neg hl, if_neg hl]
    exact ⟨rfl, h1, rfl, rfl, rfl, rfl⟩
theorem RelD.append (h : RelD d r) (hj : RelJ j k) (hok : DOk d) (t : List UInt8) : (appendJ d j t).2.2 = (appendR r k t).2.2 ∧ RelD (appendJ d j t).1 (appendR r k t).1 ∧ RelJ (appendJ d j t).2.1 (appendR r k t).2.1 := by
  obtain ⟨file, recs, bytes, broken⟩ := j
  obtain ⟨kf, kr, kb⟩ := k
  obtain ⟨h1, h2, h3, h4⟩ := hj
  simp only at h1 h2 h3 h4
  subst h1 h2 h3 h4
  unfold appendJ appendR
  cases broken
  case true => exact ⟨rfl, h, rfl, rfl, rfl, rfl⟩
  simp only [Bool.false_eq_true, if_false]
  by_cases hl : 20000 < t.length
  · rw [if_pos hl, if_pos hl]
    exact ⟨rfl, h, rfl, rfl, rfl, rfl⟩
  rw [if_neg hl, if_neg hl]
  by_cases hm : 1048576 < (formsB recs).length + (formB t).length
  · rw [if_pos hm, if_pos (by omega)]
    exact ⟨rfl, h, rfl, rfl, rfl, rfl⟩
  rw [if_neg hm, if_neg (by omega)]
  obtain ⟨e1, h1⟩ := h.Write hok.armed.1 file ((formsB recs).length : Int) (formB t)
  rw [← e1]
  by_cases he : (WriteF d file ((formsB recs).length : Int) (formB t)).2 ≠ 0
  · rw [if_pos he, if_pos he]
    exact ⟨rfl, h1, rfl, rfl, rfl, rfl⟩
  · rw [if_neg he, if_neg he]
    refine ⟨rfl, h1, rfl, rfl, rfl, ?_⟩
    show ((formsB recs).length : Int) + ((formB t).length : Int) = ((formsB (recs ++ [t])).length : Int)
    rw [formsB_app, formsB_one, List.length_append, Int.natCast_add]
theorem RelD.syncJ_ (h : RelD d r) (hj : RelJ j k) (hok : DOk d) : (syncJ d j).2.2 = (syncRJ r k).2.2 ∧ RelD (syncJ d j).1 (syncRJ r k).1 ∧ RelJ (syncJ d j).2.1 (syncRJ r k).2.1 := by
  obtain ⟨file, recs, bytes, broken⟩ := j
  obtain ⟨kf, kr, kb⟩ := k
  obtain ⟨h1, h2, h3, h4⟩ := hj
  simp only at h1 h2 h3 h4
  subst h1 h2 h3 h4
  unfold syncJ syncRJ
  cases broken
  case true => exact ⟨rfl, h, rfl, rfl, rfl, rfl⟩
  simp only [Bool.false_eq_true, if_false]
  obtain ⟨e1, h1⟩ := h.Sync hok.armed.1 file
  rw [← e1]
  exact ⟨rfl, h1, rfl, rfl, rfl, rfl⟩
end
end Go.Proofs.YtjncmlglhegnaaaGreatDoor
