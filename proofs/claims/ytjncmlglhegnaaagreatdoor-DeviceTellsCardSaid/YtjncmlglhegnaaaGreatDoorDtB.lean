/- kerbsideref49: what the reference's device computes, in plain Lean; it answers as the device does. -/
/- kerbsideref49: entries, units, Replay, walked. -/
/- kerbsideref49: Replay, walked. -/
import Derived.Test.YtjncmlglhegnaaaGreatDoorDevY
import Derived.Test.YtjncmlglhegnaaaGreatDoorJrnV
import Derived.Test.YtjncmlglhegnaaaGreatDoorDevB
import Derived.Test.YtjncmlglhegnaaaGreatDoorDevN
import Derived.Test.YtjncmlglhegnaaaGreatDoorWireJ
import Derived.Test.YtjncmlglhegnaaaGreatDoorDevO
import Derived.Test.YtjncmlglhegnaaaGreatDoorLendRT
import Derived.Deep.DeepCutAuto
namespace Go.Proofs.YtjncmlglhegnaaaGreatDoor
open Go.RowKit Go.Sort Go.Lib

structure RDevV where
  j : JR
  number : Int
  first : LoanV
def RDevV.ents (y : RDevV) : List EntV := (decAll y.j.recs).getD []
def RDevV.loan (y : RDevV) : LoanV := (replayF (textsOf y.ents) y.first).1
/-- a text's units, as the reference reads them -/
def unitsF (t : List UInt8) : Int × Bool := if t.take 2 = [33, 115] then ((natF ⟨t.drop 2, false⟩).1, doneB (natF ⟨t.drop 2, false⟩).2) else (0, false)
theorem stepL_units {t : List UInt8} {l : LoanV} (h : resB t = true) : stepL t l = if (unitsF t).2 = true then ((spendF l (unitsF t).1).1, decide ((spendF l (unitsF t).1).2 = 0)) else if t = backT then ((returnF l).1, decide ((returnF l).2 = 0)) else (noLoan, false) := by
  unfold stepL unitsF
  rw [if_neg (by rw [h]; simp)]
  by_cases hb : t = backT
  · subst hb
    rw [if_pos rfl]
    rfl
  · rw [if_neg hb]
    by_cases h2 : t.take 2 = [33, 115]
    · rw [if_pos h2, if_pos h2]
      simp only
      rw [if_neg hb]
    · rw [if_neg h2, if_neg h2, if_neg (by simp), if_neg hb]
theorem returnF_bad (l : LoanV) : (returnF l).2 ≠ 0 ↔ l.right = false ∨ l.back = true := by
  unfold returnF
  by_cases h1 : l.right = false
  · rw [if_pos h1]; simp [h1]
  · rw [if_neg h1]
    by_cases h2 : l.back = true
    · rw [if_pos h2]; simp [h2]
    · rw [if_neg h2]; simp [h1, h2]
def ropenD (r : DV) (number : Int) (loan : LoanV) : DV × Option RDevV × Int :=
  if number < 0 ∨ 8 ≤ number ∨ loan.right = false ∨ loan.device ≠ number ∨ loan.spent ≠ 0 ∨ loan.back = true then (r, none, 1)
  else match (openR r 0).2.1 with
    | none => ((openR r 0).1, none, (openR r 0).2.2)
    | some j => match decAll j.recs with
      | none => ((openR r 0).1, none, 2)
      | some l => if (replayF (textsOf l) loan).2 = true ∧ checkF l = 0 ∧ (∀ e, l.head? = some e → e.dev = number) then ((openR r 0).1, some ⟨j, number, loan⟩, 0) else ((openR r 0).1, none, 2)
def rputD (r : DV) (y : RDevV) (day : Int) (seen : List Int) (text : List UInt8) : DV × RDevV × Int :=
  if (nextF y.ents y.number day seen text).2 ≠ 0 then (r, y, (nextF y.ents y.number day seen text).2)
  else
    let a := appendR r y.j (encodeF (nextF y.ents y.number day seen text).1).1
    (a.1, { y with j := a.2.1 }, a.2.2)
def rwriteD (r : DV) (y : RDevV) (day : Int) (seen : List Int) (text : List UInt8) : DV × RDevV × Int :=
  if resB text = true then (r, y, 2) else if 3000 < text.length then (r, y, 3) else rputD r y day seen text
def rdurD (r : DV) (y : RDevV) (day : Int) (seen : List Int) (text : List UInt8) (e : Int) : DV × RDevV × Int :=
  if e ≠ 0 then (r, y, e)
  else if (rputD r y day seen text).2.2 ≠ 0 then rputD r y day seen text
  else
    let p := rputD r y day seen text
    let s := syncRJ p.1 p.2.1.j
    (s.1, { p.2.1 with j := s.2.1 }, s.2.2)
def rspendD (r : DV) (y : RDevV) (day : Int) (seen : List Int) (n : Int) : DV × RDevV × Int := rdurD r y day seen (spendT n) (spendF y.loan n).2
def rreturnD (r : DV) (y : RDevV) (day : Int) (seen : List Int) : DV × RDevV × Int := rdurD r y day seen backT (returnF y.loan).2
def rhandD (r : DV) (y : RDevV) : DV × RDevV × Int × List EntV :=
  let s := syncRJ r y.j
  (s.1, { y with j := s.2.1 }, s.2.2, if s.2.2 ≠ 0 then [] else y.ents)
theorem decAll_encs2 : ∀ {l : List (List UInt8)} {vs : List EntV}, decAll l = some vs → l = encs vs
  | [], vs, h => by
    have : vs = [] := by simpa [decAll] using h.symm
    subst this
    rfl
  | s :: r, vs, h => by
    simp only [decAll] at h
    by_cases hs : (decodeF s).2 = true
    · rw [if_pos hs] at h
      cases hr : decAll r with
      | none => rw [hr] at h; cases h
      | some us =>
        rw [hr] at h
        have : vs = (decodeF s).1 :: us := by simpa using h.symm
        subst this
        have he : (encodeF (decodeF s).1).1 = s := by
          unfold decodeF at hs ⊢
          by_cases hg : goodD s = true
          · rw [if_pos hg]
            have h2 := enc_decE hg
            rw [encodeF_rightD h2.2]
            exact h2.1
          · rw [if_neg hg] at hs; cases hs
        show s :: r = (encodeF (decodeF s).1).1 :: encs us
        rw [he, ← decAll_encs2 hr]
    · rw [if_neg hs] at h; cases h
/-- the reference's device holds what the device holds -/
structure RelDev (x : DevV) (y : RDevV) : Prop where
  num : x.number = y.number
  j : RelJ x.j y.j
  recs : x.j.recs = encs x.ents
  right : ∀ e ∈ x.ents, RightE e
  loan : replayF (textsOf x.ents) y.first = (x.loan, true)
theorem RelDev.ents {x : DevV} {y : RDevV} (h : RelDev x y) : y.ents = x.ents := by
  unfold RDevV.ents
  rw [← h.j.recs, h.recs, decAll_encs h.right]
  rfl
theorem RelDev.loan_ {x : DevV} {y : RDevV} (h : RelDev x y) : y.loan = x.loan := by
  unfold RDevV.loan
  rw [h.ents, h.loan]
/-- what DeviceTells keeps -/
structure TellD (i : Nat) (d r : DV) (po : Option (DevV × RDevV)) : Prop where
  last : ∃ all sure, LastI 0 i d all sure (po.map fun p => p.1.j)
  disk : RelD d r
  dev : ∀ p, po = some p → RelDev p.1 p.2
namespace TellD
variable {i : Nat} {d r : DV} {po : Option (DevV × RDevV)} {x : DevV} {y : RDevV}
theorem ok (h : TellD i d r po) : DOk d := by obtain ⟨⟨all, sure, h1⟩, _, _⟩ := h; exact h1.file.ok
theorem up (h : TellD i d r po) : TellD (i + 1) d r po := by
  obtain ⟨⟨all, sure, h1⟩, h2, h3⟩ := h
  exact ⟨⟨all, sure, h1.up⟩, h2, h3⟩
theorem lose (h : TellD i d r po) (n : Int) (hn : n ≤ 9223372036854775807) : TellD i (LoseF d n) (LoseF r n) po := by
  obtain ⟨⟨all, sure, h1⟩, h2, h3⟩ := h
  exact ⟨⟨all, sure, h1.lose n hn⟩, ⟨h2.file, h2.queue, rfl, h2.down, h2.armed, h2.keep⟩, h3⟩
theorem arm (h : TellD i d r po) (n : Int) (hn : n ≤ 9223372036854775807) (keep : List Int) (hk : keep.length ≤ 4194320) : TellD i (ArmF d n keep) (ArmF r n keep) po := by
  obtain ⟨⟨all, sure, h1⟩, h2, h3⟩ := h
  exact ⟨⟨all, sure, h1.arm n hn keep hk⟩, ⟨h2.file, h2.queue, h2.lost, h2.down, rfl, rfl⟩, h3⟩
theorem crash (h : TellD i d r po) (keep : List Int) : TellD i (crashF d keep) (crashR r keep) none := by
  obtain ⟨⟨all, sure, h1⟩, h2, h3⟩ := h
  exact ⟨⟨all, sure, h1.crash keep⟩, h2.crash keep, fun p e => by cases e⟩
theorem start (h : TellD i d r po) : TellD i (StartF d) (StartF r) none := by
  obtain ⟨⟨all, sure, h1⟩, h2, h3⟩ := h
  exact ⟨⟨all, sure, h1.start⟩, ⟨h2.file, h2.queue, h2.lost, rfl, h2.armed, h2.keep⟩, fun p e => by cases e⟩
theorem new : TellD 0 newD newD none := ⟨⟨[], [], LastI.new 0⟩, RelD.new, fun p e => by cases e⟩
theorem devOk (h : TellD i d r (some (x, y))) (hi : i ≤ 300) : DevOk x := by
  obtain ⟨⟨all, sure, h1⟩, _, h3⟩ := h
  have hr : RelDev x y := h3 _ rfl
  have hj := h1.jbytes (by omega)
  have hl := (h1.jou x.j rfl).2.2
  have he := congrArg List.length hr.recs
  rw [encs_len] at he
  exact ⟨by omega, hr.right, hj.1, by omega⟩
/-- both devices are opened, or neither is -/
theorem open_ (h : TellD i d r po) (hi : i ≤ 300) (number : Int) (loan : LoanV) :
    ∃ d' r' e, (∃ x y, openD d number loan = (d', some x, e) ∧ ropenD r number loan = (r', some y, e) ∧ TellD i d' r' (some (x, y)) ∧ y.first = loan) ∨
      (openD d number loan = (d', none, e) ∧ ropenD r number loan = (r', none, e) ∧ TellD i d' r' none) := by
  obtain ⟨⟨all, sure, h1⟩, h2, h3⟩ := id h
  unfold openD ropenD
  by_cases hc : number < 0 ∨ 8 ≤ number ∨ (returnF loan).2 ≠ 0 ∨ loan.device ≠ number ∨ loan.spent ≠ 0
  · have hc2 : number < 0 ∨ 8 ≤ number ∨ loan.right = false ∨ loan.device ≠ number ∨ loan.spent ≠ 0 ∨ loan.back = true := by
      rw [returnF_bad] at hc
      rcases hc with h | h | (h | h) | h | h
      · exact .inl h
      · exact .inr (.inl h)
      · exact .inr (.inr (.inl h))
      · exact .inr (.inr (.inr (.inr (.inr h))))
      · exact .inr (.inr (.inr (.inl h)))
      · exact .inr (.inr (.inr (.inr (.inl h))))
    rw [if_pos hc, if_pos hc2]
    refine ⟨d, r, 1, .inr ⟨rfl, rfl, ⟨all, sure, ⟨h1.file, h1.len, fun _ e => by cases e⟩⟩, h2, fun p e => by cases e⟩⟩
  have hc2 : ¬ (number < 0 ∨ 8 ≤ number ∨ loan.right = false ∨ loan.device ≠ number ∨ loan.spent ≠ 0 ∨ loan.back = true) := by
    rw [returnF_bad] at hc
    intro h
    apply hc
    rcases h with h | h | h | h | h | h
    · exact .inl h
    · exact .inr (.inl h)
    · exact .inr (.inr (.inl (.inl h)))
    · exact .inr (.inr (.inr (.inl h)))
    · exact .inr (.inr (.inr (.inr h)))
    · exact .inr (.inr (.inl (.inr h)))
  rw [if_neg hc, if_neg hc2]
  obtain ⟨e1, e2, e3⟩ := h2.open_ h.ok 0
  rcases h1.open_ (f := 0) (by decide) (by decide) (by omega) with ⟨d', j, ho, _, _, hL⟩ | ⟨d', e, ho, _, hL, _⟩
  · rw [ho] at e1 e2 e3
    obtain ⟨⟨r', ko, z⟩, hz⟩ : ∃ y, openR r 0 = y := ⟨_, rfl⟩
    rw [hz] at e1 e2 e3
    cases ko with
    | none => exact e3.elim
    | some k =>
      have e3 : RelJ j k := e3
      rw [ho, hz]
      simp only
      rw [← e3.recs]
      cases hd : decAll j.recs with
      | none => exact ⟨d', r', 2, .inr ⟨rfl, rfl, ⟨_, _, ⟨hL.file, hL.len, fun _ e => by cases e⟩⟩, e2, fun p e => by cases e⟩⟩
      | some l =>
        simp only
        by_cases hA : checkF l = 0 ∧ (l.all fun x => decide (x.dev = number)) = true ∧ (replayF (textsOf l) loan).2 = true
        · have hB : (replayF (textsOf l) loan).2 = true ∧ checkF l = 0 ∧ (∀ e, l.head? = some e → e.dev = number) := ⟨hA.2.2, hA.1, fun e he => by
            have h5 := hA.2.1
            rw [List.all_eq_true] at h5
            exact of_decide_eq_true (h5 e (List.mem_of_mem_head? he))⟩
          rw [if_pos hA, if_pos hB]
          exact ⟨d', r', 0, .inl ⟨_, _, rfl, rfl, ⟨⟨_, _, hL⟩, e2, fun p e => by
            cases e
            exact ⟨rfl, e3, decAll_encs2 hd, decAll_right hd, Prod.ext rfl hA.2.2⟩⟩, rfl⟩⟩
        · have hB : ¬ ((replayF (textsOf l) loan).2 = true ∧ checkF l = 0 ∧ (∀ e, l.head? = some e → e.dev = number)) := fun hB => hA ⟨hB.2.1, by
            rw [List.all_eq_true]
            intro v hv
            obtain ⟨n, hn⟩ := List.mem_iff_getElem?.1 hv
            have h6 := (check_at hB.2.1 hn).dev
            cases hh : l.head? with
            | none => rw [hh] at h6; cases h6
            | some e0 =>
              rw [hh] at h6
              have h7 := hB.2.2 e0 hh
              have h8 : e0.dev = v.dev := by simpa using h6
              exact decide_eq_true (by omega), hB.1⟩
          rw [if_neg hA, if_neg hB]
          exact ⟨d', r', 2, .inr ⟨rfl, rfl, ⟨_, _, ⟨hL.file, hL.len, fun _ e => by cases e⟩⟩, e2, fun p e => by cases e⟩⟩
  · rw [ho] at e1 e2 e3
    obtain ⟨⟨r', ko, z⟩, hz⟩ : ∃ y, openR r 0 = y := ⟨_, rfl⟩
    rw [hz] at e1 e2 e3
    cases ko with
    | some k => exact e3.elim
    | none =>
      rw [ho, hz]
      simp only
      have e1 : e = z := e1
      subst e1
      exact ⟨d', r', e, .inr ⟨rfl, rfl, ⟨_, _, hL⟩, e2, fun p e => by cases e⟩⟩
/-- put -/
theorem put (h : TellD i d r (some (x, y))) (hi : i ≤ 300) (day : Int) (seen : List Int) (text : List UInt8) (ht : text.length ≤ 3000) (hst : (stepL text x.loan).2 = true) :
    ∃ d' x' e r' y', putD d x day seen text = (d', x', e) ∧ rputD r y day seen text = (r', y', e) ∧ TellD (i + 1) d' r' (some (x', y')) ∧ y'.first = y.first := by
  obtain ⟨⟨all, sure, h1⟩, h2, h3⟩ := id h
  have hR : RelDev x y := h3 _ rfl
  obtain ⟨xn, ents, loan, j⟩ := x
  obtain ⟨k, yn, first⟩ := y
  have hE := hR.ents
  obtain ⟨rfl, hj, hrec, hright, hlo⟩ := hR
  simp only at hj hrec hright hlo hst hE h1
  unfold putD rputD
  simp only
  rw [hE]
  obtain ⟨⟨q, er⟩, hnx⟩ : ∃ z, nextF ents xn day seen text = z := ⟨_, rfl⟩
  rw [hnx]
  by_cases her : er = 0
  case neg =>
    rw [if_pos her, if_pos her]
    exact ⟨_, _, _, _, _, rfl, rfl, h.up, rfl⟩
  subst her
  have hz0 : ¬ ((q, (0 : Int)).2 ≠ 0) := by simp
  rw [if_neg hz0, if_neg hz0]
  have hq := nextF_right hnx
  have hqt : q.text = text := by
    unfold nextF at hnx
    split at hnx
    · split at hnx
      · simp only [Prod.mk.injEq] at hnx; rw [← hnx.1]; rfl
      · rename_i hc; simp only [Prod.mk.injEq] at hnx; exact absurd hnx.2 hc
    · simp at hnx
  have hql : (encodeF q).1.length ≤ 3400 := by
    rw [encodeF_rightD hq]
    have := encE_tight hq
    rw [hqt] at this
    omega
  obtain ⟨e1, e2, e3⟩ := h2.append hj h.ok (encodeF q).1
  obtain ⟨d', j', e, ha, hc⟩ := h1.append (f := 0) (by decide) (by decide) hi hql
  rw [ha] at e1 e2 e3
  obtain ⟨⟨r', k', z⟩, hz⟩ : ∃ y, appendR r k (encodeF q).1 = y := ⟨_, rfl⟩
  rw [hz] at e1 e2 e3
  have e1 : e = z := e1
  subst e1
  rw [ha, hz]
  simp only
  rcases hc with ⟨rfl, hd, hjj⟩ | ⟨rfl, hrc, hL⟩ | ⟨rfl, hrc, hL⟩
  · rw [if_pos (by decide)]
    refine ⟨d', _, 7, r', _, rfl, rfl, ⟨⟨all, sure, ?_⟩, e2, fun p ep => ?_⟩, rfl⟩
    · rw [hd, hjj]; exact h1.up
    · cases ep; exact ⟨rfl, e3, by rw [hjj]; exact hrec, hright, hlo⟩
  · rw [if_neg (by simp)]
    refine ⟨d', _, 0, r', _, rfl, rfl, ⟨⟨_, _, hL⟩, e2, fun p ep => ?_⟩, rfl⟩
    cases ep
    refine ⟨rfl, e3, ?_, fun v hv => ?_, ?_⟩
    · show j'.recs = encs (ents ++ [q])
      rw [hrc, hrec]; unfold encs; rw [List.map_append]; rfl
    · rcases List.mem_append.1 hv with g | g
      · exact hright v g
      · rw [List.mem_singleton.1 g]; exact hq
    · show replayF (textsOf (ents ++ [q])) first = ((stepL text loan).1, true)
      have h5 := replayF_right (ts := textsOf ents) (l := first) (by rw [hlo])
      rw [h5.2] at hlo
      rw [replayF_of h5.1, textsOf_app, replayGo_app, if_pos (by rw [hlo]), hlo]
      show (if (stepL q.text loan).2 = true then ((stepL q.text loan).1, true) else (noLoan, false)) = _
      rw [hqt, if_pos hst]
  · rw [if_pos (by decide)]
    refine ⟨d', _, 8, r', _, rfl, rfl, ⟨⟨_, _, hL⟩, e2, fun p ep => ?_⟩, rfl⟩
    cases ep; exact ⟨rfl, e3, by show j'.recs = _; rw [hrc]; exact hrec, hright, hlo⟩
theorem sync (h : TellD i d r (some (x, y))) :
    ∃ d' j' e r' k', syncJ d x.j = (d', j', e) ∧ syncRJ r y.j = (r', k', e) ∧ TellD i d' r' (some ({ x with j := j' }, { y with j := k' })) := by
  obtain ⟨⟨all, sure, h1⟩, h2, h3⟩ := id h
  have hR : RelDev x y := h3 _ rfl
  obtain ⟨e1, e2, e3⟩ := h2.syncJ_ hR.j h.ok
  obtain ⟨d', j', e, hs, hc⟩ := h1.sync (f := 0) (by decide) (by decide)
  have hrec : j'.recs = x.j.recs := by
    have h5 := congrArg (fun t => t.2.1.recs) hs
    simp only at h5
    rw [← h5]
    unfold syncJ
    split <;> rfl
  rw [hs] at e1 e2 e3
  refine ⟨d', j', e, (syncRJ r y.j).1, (syncRJ r y.j).2.1, hs, Prod.ext rfl (Prod.ext rfl e1.symm), ?_, e2, fun p ep => ?_⟩
  · rcases hc with ⟨_, _, _, hL⟩ | ⟨_, hL⟩
    · exact ⟨_, _, hL⟩
    · exact ⟨_, _, hL⟩
  · cases ep
    exact ⟨hR.num, e3, by show j'.recs = _; rw [hrec]; exact hR.recs, hR.right, hR.loan⟩
theorem durably (h : TellD i d r (some (x, y))) (hi : i ≤ 300) (day : Int) (seen : List Int) (text : List UInt8) (ht : text.length ≤ 3000) (e0 : Int) (hst : e0 = 0 → (stepL text x.loan).2 = true) :
    ∃ d' x' e r' y', durD d x day seen text e0 = (d', x', e) ∧ rdurD r y day seen text e0 = (r', y', e) ∧ TellD (i + 1) d' r' (some (x', y')) ∧ y'.first = y.first := by
  unfold durD rdurD
  by_cases h0 : e0 = 0
  case neg =>
    rw [if_pos h0, if_pos h0]
    exact ⟨_, _, _, _, _, rfl, rfl, h.up, rfl⟩
  rw [if_neg (show ¬ e0 ≠ 0 by simp [h0]), if_neg (show ¬ e0 ≠ 0 by simp [h0])]
  obtain ⟨d1, x1, e1, r1, y1, hp, hq, hT, hf⟩ := h.put hi day seen text ht (hst h0)
  rw [hp, hq]
  simp only
  by_cases he : e1 = 0
  case neg =>
    rw [if_pos he, if_pos he]
    exact ⟨_, _, _, _, _, rfl, rfl, hT, hf⟩
  rw [if_neg (show ¬ e1 ≠ 0 by simp [he]), if_neg (show ¬ e1 ≠ 0 by simp [he])]
  obtain ⟨d2, j2, e2, r2, k2, g1, g2, g3⟩ := hT.sync
  rw [g1, g2]
  exact ⟨_, _, _, _, _, rfl, rfl, g3, hf⟩
theorem write (h : TellD i d r (some (x, y))) (hi : i ≤ 300) (day : Int) (seen : List Int) (text : List UInt8) :
    ∃ d' x' e r' y', writeD d x day seen text = (d', x', e) ∧ rwriteD r y day seen text = (r', y', e) ∧ TellD (i + 1) d' r' (some (x', y')) ∧ y'.first = y.first := by
  unfold writeD rwriteD
  by_cases hb : resB text = true
  · rw [if_pos hb, if_pos hb]; exact ⟨_, _, _, _, _, rfl, rfl, h.up, rfl⟩
  rw [if_neg hb, if_neg hb]
  by_cases hl : 3000 < text.length
  · rw [if_pos hl, if_pos hl]; exact ⟨_, _, _, _, _, rfl, rfl, h.up, rfl⟩
  rw [if_neg hl, if_neg hl]
  exact h.put hi day seen text (by omega) (by rw [show stepL text x.loan = (x.loan, true) by unfold stepL; rw [if_pos (by simpa using hb)]])
theorem spend (h : TellD i d r (some (x, y))) (hi : i ≤ 300) (day : Int) (seen : List Int) (n : Int) (hn : -9223372036854775808 ≤ n ∧ n ≤ 9223372036854775807) :
    ∃ d' x' e r' y', spendD d x day seen n = (d', x', e) ∧ rspendD r y day seen n = (r', y', e) ∧ TellD (i + 1) d' r' (some (x', y')) ∧ y'.first = y.first := by
  unfold spendD rspendD
  rw [(h.dev _ rfl).loan_]
  refine h.durably hi day seen (spendT n) ?_ _ fun h0 => ?_
  · unfold spendT encN
    split
    · simp
    · have := encI_len (n := n) hn; simp; omega
  · rw [stepL_spend (by have := (spendF_yes h0).2.1; omega) hn.2]; exact decide_eq_true h0
theorem return_ (h : TellD i d r (some (x, y))) (hi : i ≤ 300) (day : Int) (seen : List Int) :
    ∃ d' x' e r' y', returnD d x day seen = (d', x', e) ∧ rreturnD r y day seen = (r', y', e) ∧ TellD (i + 1) d' r' (some (x', y')) ∧ y'.first = y.first := by
  unfold returnD rreturnD
  rw [(h.dev _ rfl).loan_]
  refine h.durably hi day seen backT (by decide) _ fun h0 => ?_
  have e1 : resB backT = true := rfl
  unfold stepL
  rw [if_neg (by rw [e1]; simp), if_pos rfl]
  exact decide_eq_true h0
theorem hand (h : TellD i d r (some (x, y))) :
    ∃ d' x' e r' y' l, handD d x = (d', x', e, l) ∧ rhandD r y = (r', y', e, l) ∧ TellD i d' r' (some (x', y')) ∧ y'.first = y.first := by
  have hE := (h.dev _ rfl).ents
  obtain ⟨d2, j2, e2, r2, k2, g1, g2, g3⟩ := h.sync
  unfold handD rhandD
  simp only
  rw [g1, g2]
  simp only at hE
  rw [hE]
  exact ⟨_, _, _, _, _, _, rfl, rfl, g3, rfl⟩
end TellD
end Go.Proofs.YtjncmlglhegnaaaGreatDoor
namespace Go.Proofs.YtjncmlglhegnaaaGreatDoor
open Go.RowKit Go.Sort Go.Lib

set_option maxRecDepth 100000 in
set_option maxHeartbeats 4000000 in
theorem rentries_any (w : World) (A : Option Addr) (n c : Nat) (recs : List (List UInt8)) (hs : Sl w 1 A n (recs.map strC)) (hn : n ≤ 20000000) (hsm : ∀ s ∈ recs, s.length ≤ 100000) :
    Calls Tryz.prog 69 #[.slice A n c] w (ReadP w recs) := by
  obtain ⟨ie, he0, he1, he2, he3⟩ := info_parts infoEnt
  have HS := Lib.hid hs
  have HSM := Lib.hid hsm
  have HLL : Hid (recs.length = n) := Lib.hid (by simpa using hs.1)
  have HS0 := Lib.hid (((Sep.start w).seesNew (φ := SeenAt []) fun _ u hu => by simp at hu).ownNil 32 5)
  clear hs hsm
  go_enter Tryz.func69, Tryz.ntmps69
  go_wp2_with (fail)
  go_loopw [4, 5] (fun ov iv wr => ∃ (k : Nat) (A' : Option Addr) (c' : Nat) (es : List EntC), ov = .slice A' k c' ∧ iv = .int .i64 (k : Int) ∧ k ≤ n ∧ es.length = k ∧ decAll (recs.take k) = some (vsOf es) ∧ Sep w wr (ownR 32 5 (.slice A' k c') k (es.map EntC.cells) :: seesR (SeenAt es) :: [])) (fun _ iv _ => n - (Go.RowKit.intOf iv).toNat)
  case atStart => exact ⟨0, none, 0, [], rfl, rfl, Nat.zero_le _, rfl, rfl, HS0.out⟩
  case round =>
    obtain ⟨k, A', c', es, rfl, rfl, hk, hel, hd, hS⟩ := hrel
    obtain ⟨wo, rfl⟩ : ∃ wo : World, wo = wr := ⟨_, rfl⟩
    have HSO := Lib.hid hS
    have HD := Lib.hid hd
    have HEL := Lib.hid hel
    clear hS hd hel HS0
    by_cases hlt : k < n
    · obtain ⟨s, hsx⟩ : ∃ v, recs[k]? = some v := ⟨_, List.getElem?_eq_getElem (by rw [HLL.out]; exact hlt)⟩
      obtain ⟨b, o, rfl, hbl, d0⟩ := (HS.out.below HSO.out.base).at1 (k := k) (v := .string ⟨s.toArray⟩) (by rw [List.getElem?_map, hsx]; rfl)
      have htk : recs.take (k + 1) = recs.take k ++ [s] := by rw [List.take_add_one, hsx]; rfl
      obtain ⟨⟨v, db⟩, hv⟩ : ∃ v, decodeF s = v := ⟨_, rfl⟩
      have hsn := decAll_snoc (s := s) HD.out
      rw [← htk, hv] at hsn
      simp only at hsn
      have HSN := Lib.hid hsn
      have HDE := Lib.hid (RDecode_any wo s (HSM.out s (List.mem_of_getElem? hsx)) _ hv)
      have HLT := Lib.hid hlt
      have hki : (k : Int) < (n : Int) := by omega
      have hk0 : (0 : Int) ≤ (k : Int) := by omega
      have hwk : IntKind.i64.wrap ((k : Int) + 1) = (k : Int) + 1 := IntWalk.i64_in _ (by omega)
      have HTK : Hid (recs = recs.take (k + 1) ++ recs.drop (k + 1)) := Lib.hid (List.take_append_drop _ _).symm
      clear hsx htk hv hsn hlt hk hbl
      go_wp2_with (fail)
      ((with_reducible refine HDE.out.mono ?_); rintro _ w2 ⟨⟨⟨xd, xn, xy, xs, xt⟩, xA, xc⟩, hxv, rfl, hxf, hb2⟩)
      simp only at hxv
      simp only [EntC.cells]
      have HXV := Lib.hid hxv
      have hsl2 : SlF wo w2 1 xA xs.length (xs.map intC) := hxf
      have HS2 := Lib.hid (((HSO.out.sw.seesAdd hb2 (Sl.rests hsl2)).seesTurn (ψ := SeenAt (es ++ [⟨⟨xd, xn, xy, xs, xt⟩, xA, xc⟩])) fun W h u hu => by
        rcases List.mem_append.1 hu with h1 | h1
        · exact h.1 u h1
        · rw [List.mem_singleton.1 h1]; exact h.2).sw.alloc (.cells #[.int .i64 xd, .int .i64 xn, .int .i64 xy, .slice xA xs.length xc, .string ⟨xt.toArray⟩] 32))
      have LX := Lib.hid (Loc.new_ w2 #[.int .i64 xd, .int .i64 xn, .int .i64 xy, .slice xA xs.length xc, .string ⟨xt.toArray⟩] 32)
      clear hxv hxf hb2 hsl2 HDE d0
      go_upto_region 6 with (fail)
      generalize hWX : w2.alloc (.cells #[.int .i64 xd, .int .i64 xn, .int .i64 xy, .slice xA xs.length xc, .string ⟨xt.toArray⟩] 32) = W at *
      generalize hbX : w2.heap.size = bX at *
      clear hWX hbX HSO
      cases db
      · have hno : decAll recs = none := by
          rw [HTK.out]
          refine decAll_no ?_
          rw [HSN.out, if_neg (by simp)]
        have HNO := Lib.hid hno
        clear hno
        go_wp2_with (fail)
        go_ret2
        exact .inr ⟨HNO.out, rfl, HS2.out.base⟩
      · have HDN : Hid (decAll (recs.take (k + 1)) = some (vsOf (es ++ [⟨⟨xd, xn, xy, xs, xt⟩, xA, xc⟩]))) := Lib.hid (by
          rw [HSN.out, if_pos rfl, ← HXV.out]
          simp [vsOf])
        obtain ⟨zX, kX, fX⟩ := LX.out
        have HS3 := Lib.hid (HS2.out.alloc (.cells #[.int .i64 xd, .int .i64 xn, .int .i64 xy, .slice xA xs.length xc, .string ⟨xt.toArray⟩] 32))
        have HN3 := Lib.hid (Sl.new_ W 32 (EntC.cells ⟨⟨xd, xn, xy, xs, xt⟩, xA, xc⟩))
        simp only [EntC.cells] at HN3
        have hk6 : k ≤ 20000000 := by have := HLT.out; omega
        go_wp2_with (at_builtin; (refine wpList_append_sl _ rfl (.tmp 24) (.tmp 26) _ rfl w.heap.size 32 ie _ 5 64 Tryz.underlying22 he0 he1 he2 he3 rfl (by omega) _ k (es.map EntC.cells) rfl HS3.out.own (some ⟨W.heap.size, 0, none⟩) 1 1 ([(⟨⟨xd, xn, xy, xs, xt⟩, xA, xc⟩ : EntC)].map EntC.cells) rfl HN3.out (ents_len _) (ents_one _) (by simp only [maxLen]; omega) (by omega) HS3.out.base.size ?_); intro A9 c9 w9 hown9 hg9 hat9
                     have HS9 := Lib.hid (HS3.out.grown hown9 hg9 hat9)
                     clear hown9 hg9 hat9)
        go_roundw
        case rel => exact ⟨k + 1, A9, c9, es ++ [⟨⟨xd, xn, xy, xs, xt⟩, xA, xc⟩], rfl, by go_num, HLT.out, by rw [List.length_append, HEL.out]; rfl, HDN.out, by rw [List.map_append]; exact HS9.out⟩
        case measure => have := HLT.out; simp [Go.RowKit.intOf]; omega
    · obtain rfl : k = n := by omega
      have hki : ¬ ((k : Int) < (k : Int)) := by omega
      have hd := HD.out
      rw [List.take_of_length_le (by rw [HLL.out]; exact Nat.le_refl _)] at hd
      have HD2 := Lib.hid hd
      clear hd hlt hk
      go_wp2_with (fail)
      go_ret2
      exact .inl ⟨A', c', es, HD2.out, by rw [HEL.out]; rfl, by rw [HEL.out]; exact HSO.out⟩
set_option maxRecDepth 100000 in
set_option maxHeartbeats 2000000 in
theorem runits_any (w : World) (t : List UInt8) (ht : t.length ≤ 140737488351232) (r : Int × Bool) (hr : unitsF t = r) :
    Calls Tryz.prog 119 #[.string ⟨t.toArray⟩] w fun e w' => e = .returned (.tuple #[.int .i64 r.1, .bool r.2]) ∧ Below w.heap.size w w' := by
  have hsz := str_size t
  have HB := Lib.hid (Below.refl w.heap.size w)
  obtain ⟨m, hm⟩ : ∃ m, t.length = m := ⟨_, rfl⟩
  rw [hm] at hsz ht
  unfold unitsF at hr
  by_cases h0 : m < 2
  · have hm0 : (m : Int) < 2 := by omega
    have hm2 : min (2 : Int) (m : Int) = (m : Int) := by omega
    rw [if_neg (fun h => by have := congrArg List.length h; rw [List.length_take, hm] at this; simp at this; omega)] at hr
    subst hr
    generalize (⟨t.toArray⟩ : ByteArray) = S at *
    clear hm h0 ht
    go_enter Tryz.func119, Tryz.ntmps119
    go_wp2_with (fail)
    go_ret2
    exact ⟨rfl, HB.out⟩
  have hm0 : (2 : Int) ≤ (m : Int) := by omega
  have hm2 : min (2 : Int) (m : Int) = 2 := by omega
  have hex : (⟨t.toArray⟩ : ByteArray).extract 0 2 = ⟨(t.take 2).toArray⟩ := by rw [str_ext]; rfl
  by_cases h2 : t.take 2 = [33, 115]
  case neg =>
    rw [if_neg h2] at hr
    subst hr
    have hne : ((⟨(t.take 2).toArray⟩ : ByteArray).toList == [33, 115]) = false := by
      rw [ByteArray.toList_mk, beq_eq_false_iff_ne]
      exact h2
    rw [← hex] at hne
    generalize (⟨t.toArray⟩ : ByteArray) = S at *
    clear hm h0 h2 ht hex
    go_enter Tryz.func119, Tryz.ntmps119
    go_wp2_with (fail)
    go_ret2
    exact ⟨rfl, HB.out⟩
  rw [if_pos h2] at hr
  obtain ⟨⟨n, r1⟩, hn⟩ : ∃ x, natF ⟨t.drop 2, false⟩ = x := ⟨_, rfl⟩
  obtain ⟨db, hdb⟩ : ∃ db, doneB r1 = db := ⟨_, rfl⟩
  rw [hn] at hr
  simp only [hdb] at hr
  subst hr
  have hex2 : (⟨t.toArray⟩ : ByteArray).extract 2 m = ⟨(t.drop 2).toArray⟩ := by rw [str_ext, ← hm, List.take_length]
  have hdl : (t.drop 2).length ≤ 140737488351232 := by rw [List.length_drop]; omega
  have HNU := Lib.hid (fun (W : World) (b : Nat) (h : RdAt W b ⟨t.drop 2, false⟩) => RNumM_any h hdl _ hn)
  have HDO := Lib.hid (fun (W : World) (b : Nat) (h : RdAt W b r1) => RDone_any h db hdb)
  have HOP := Lib.hid (fun W => ROpen_any W (t.drop 2))
  simp only at HNU
  rw [← hex2] at HOP
  have hne : ((⟨(t.take 2).toArray⟩ : ByteArray).toList == [33, 115]) = true := by rw [ByteArray.toList_mk, h2]; rfl
  rw [← hex] at hne
  generalize (⟨t.toArray⟩ : ByteArray) = S at *
  clear hm h0 h2 ht hex hex2 hn hdb hdl
  go_enter Tryz.func119, Tryz.ntmps119
  go_wp2_with (fail)
  ((with_reducible refine (HOP.out _).mono ?_); rintro _ wO ⟨rfl, hrd, hbO⟩)
  have HRD := Lib.hid hrd
  have HBO := Lib.hid hbO
  clear hrd hbO
  go_wp2_with (fail)
  ((with_reducible refine (HNU.out wO _ HRD.out).mono ?_); rintro _ wN ⟨rfl, hrd2, hg2⟩)
  have HBN := Lib.hid (HBO.out.grown hg2 HBO.out.size (fun k hk => by injection hk with hk; omega))
  have HRD2 := Lib.hid hrd2
  clear hrd2 hg2
  go_wp2_with (fail)
  ((with_reducible refine (HDO.out wN _ HRD2.out).mono ?_); rintro _ w9 ⟨rfl, hw9⟩; obtain rfl := hw9)
  go_wp2_with (fail)
  go_ret2
  exact ⟨rfl, HBN.out⟩
end Go.Proofs.YtjncmlglhegnaaaGreatDoor
namespace Go.Proofs.YtjncmlglhegnaaaGreatDoor
open Go.RowKit Go.Sort Go.Lib

theorem results_rreplay {W : World} {n : Nat} {l : LoanV} {b : Bool} {tmps : Array Value} (h : Loc W n (loanX l)) (ht : tmps.getD 4 undef = .pointer (some ⟨n, 0, none⟩)) (hb : tmps.getD 5 undef = .bool b) :
    (results Tryz.f70 tmps).run Tryz.prog W = .ok (.tuple #[.agg (loanX l), .bool b]) W := by
  have ht' : tmps[4]?.getD undef = .pointer (some ⟨n, 0, none⟩) := by simpa using ht
  have hb' : tmps[5]?.getD undef = .bool b := by simpa using hb
  simp only [results, show Tryz.f70.results = #[.cell 4 24, .tmp 5] from rfl]
  have hl := loadVar_loan h
  simp [ht', hb', asAddr, hl]
set_option maxRecDepth 100000 in
set_option maxHeartbeats 4000000 in
theorem rReplay_any (w : World) (A : Option Addr) (n c : Nat) (l : List EntC) (hs : ChAt w A n l) (hn : n ≤ 1099511627776) (loan : LoanV) (r : LoanV × Bool) (hr : replayF (textsOf (vsOf l)) loan = r) :
    Calls Tryz.prog 70 #[.slice A n c, .agg (loanX loan)] w (StepP w r) := by
  have HCH := Lib.hid hs
  have HLL : Hid (l.length = n) := Lib.hid (by simpa using hs.sl.1)
  obtain ⟨rb, hrb⟩ : ∃ rb, loan.right = rb := ⟨_, rfl⟩
  have HRT := Lib.hid (fun W => LoanR_any loan.device loan.units loan.spent loan.back rb hrb W)
  have HS0 := Lib.hid (((Sep.start w).box (loanX loan) 24).box #[.int .i64 0, .int .i64 0, .int .i64 0, .bool false] 24)
  rw [World.size_alloc] at HS0
  unfold replayF at hr
  have hre : (returnF loan).2 = 1 ↔ rb = false := by rw [← hrb]; exact returnF_1
  have HR := Lib.hid hr
  have HRE := Lib.hid hre
  simp only [loanX] at HRT HS0 ⊢
  clear hs hr hrb hre
  go_enter Tryz.func70, Tryz.ntmps70
  go_wp2_with (fail)
  generalize hg3 : w.heap.size = g3 at HS0 ⊢
  clear hg3
  generalize hWA : (w.alloc (.cells #[.int .i64 loan.device, .int .i64 loan.units, .int .i64 loan.spent, .bool loan.back] 24)).alloc (.cells #[.int .i64 0, .int .i64 0, .int .i64 0, .bool false] 24) = wA at HS0 ⊢
  clear hWA
  ((with_reducible refine (HRT.out _).mono ?_); rintro _ w1 ⟨rfl, hw1⟩)
  have hb1 : Below wA.heap.size wA w1 := by rw [← hw1]; exact below_alloc _ _
  have HS1 := Lib.hid (HS0.out.below hb1)
  clear hb1 hw1 HS0 HRT
  cases rb
  · have HR2 := HR.out
    rw [if_pos (HRE.out.2 rfl)] at HR2
    subst HR2
    obtain ⟨z4, k4, f4⟩ := HS1.out.loc
    go_wp2_with (fail)
    have HSE := Lib.hid (HS1.out.setLoan noLoan)
    exact bodyPost_ret (results_rreplay HSE.out.loc rfl rfl) rfl ⟨rfl, HSE.out.base⟩
  have HR2 : Hid (replayGo (textsOf (vsOf l)) loan = r) := Lib.hid (by have := HR.out; rwa [if_neg (fun h => by have := HRE.out.1 h; simp at this)] at this)
  clear HR HRE
  go_wp2_with (fail)
  go_loopw [6] (fun iv wr => ∃ (k : Nat) (l' : LoanV), k ≤ n ∧ iv = .int .i64 (k : Int) ∧ Sep w wr (boxR (g3 + 1) #[.int .i64 0, .int .i64 0, .int .i64 0, .bool false] :: boxR g3 (loanX l') :: []) ∧ replayGo ((textsOf (vsOf l)).drop k) l' = r) (fun iv _ => n - (Go.RowKit.intOf iv).toNat)
  case atStart => exact ⟨0, loan, Nat.zero_le _, rfl, HS1.out, by rw [List.drop_zero]; exact HR2.out⟩
  case round =>
    obtain ⟨k, l', hk, rfl, hS, hgo⟩ := hrel
    obtain ⟨wo, rfl⟩ : ∃ wo : World, wo = wr := ⟨_, rfl⟩
    have HSO := Lib.hid hS
    have HGO := Lib.hid hgo
    clear hS hgo HS1 HR2
    by_cases hlt : k < n
    · obtain ⟨x, hx⟩ : ∃ v, l[k]? = some v := ⟨_, List.getElem?_eq_getElem (by rw [HLL.out]; exact hlt)⟩
      obtain ⟨b, o, rfl, hbl, d0, d1, d2, d3, d4⟩ := ent_at (HCH.out.below HSO.out.base).sl hx
      have hxt := (HCH.out.len x (List.mem_of_getElem? hx)).2
      have htk : (textsOf (vsOf l))[k]? = some x.v.text := by rw [List.getElem?_map, vsOf_at hx]; rfl
      have hgo := HGO.out
      rw [replayGo_step htk] at hgo
      have hki : (k : Int) < (n : Int) := by omega
      have hk0 : (0 : Int) ≤ (k : Int) := by omega
      have hwk : IntKind.i64.wrap ((k : Int) + 1) = (k : Int) + 1 := IntWalk.i64_in _ (by omega)
      have HLT := Lib.hid hlt
      generalize x.v.text = t at *
      clear hx htk hlt hk d0 d1 d2 d3 HGO
      obtain ⟨rs, hrs⟩ : ∃ rs, resB t = rs := ⟨_, rfl⟩
      have HRS := Lib.hid (fun W => RReserved_any W t hxt rs hrs)
      cases rs
      · have hst : stepL t l' = (l', true) := by unfold stepL; rw [if_pos hrs]
        rw [hst] at hgo
        have HG2 : Hid (replayGo ((textsOf (vsOf l)).drop (k + 1)) l' = r) := Lib.hid (by simpa using hgo)
        clear hst hgo hrs hxt
        go_wp2_with (fail)
        ((with_reducible refine (HRS.out _).mono ?_); rintro _ w2 ⟨rfl, hw2⟩; obtain rfl := hw2)
        go_wp2_with (fail)
        go_roundw
        case rel => exact ⟨k + 1, l', HLT.out, by go_num, HSO.out, HG2.out⟩
        case measure => have := HLT.out; simp [Go.RowKit.intOf]; omega
      rw [stepL_units hrs] at hgo
      obtain ⟨⟨un, ub⟩, hu⟩ : ∃ q, unitsF t = q := ⟨_, rfl⟩
      have HUN := Lib.hid (fun W => runits_any W t hxt _ hu)
      rw [hu] at hgo
      simp only at hgo HUN
      clear hrs hu hxt
      go_wp2_with (fail)
      ((with_reducible refine (HRS.out _).mono ?_); rintro _ w2 ⟨rfl, hw2⟩; obtain rfl := hw2)
      go_wp2_with (fail)
      ((with_reducible refine (HUN.out _).mono ?_); rintro _ w2 ⟨rfl, hb2⟩)
      have HS2 := Lib.hid (HSO.out.below hb2)
      clear hb2 HSO HRS HUN d4 hbl
      simp only [loanX] at HS2
      cases ub
      case true =>
        rw [if_pos rfl] at hgo
        obtain ⟨⟨⟨sd, su, ss, sb⟩, sk⟩, hst⟩ : ∃ q, spendF l' un = q := ⟨_, rfl⟩
        have HSP := Lib.hid (fun W => SpendR_any l'.device l'.units l'.spent l'.back un _ hst W)
        rw [hst] at hgo
        simp only at hgo HSP
        have HGO := Lib.hid hgo
        obtain ⟨z3, k3, f3⟩ := HS2.out.sw.loc
        clear hst hgo
        go_wp2_with (fail)
        ((with_reducible refine (HSP.out _).mono ?_); rintro _ w3 ⟨rfl, hb3⟩)
        have HS3 := Lib.hid (HS2.out.below hb3)
        clear hb3 HS2 HSP z3 k3 f3
        obtain ⟨z3, k3, f3⟩ := HS3.out.sw.loc
        obtain ⟨z4, k4, f4⟩ := HS3.out.loc
        by_cases hk9 : sk = 0
        · subst hk9
          have HG2 : Hid (replayGo ((textsOf (vsOf l)).drop (k + 1)) ⟨sd, su, ss, sb⟩ = r) := Lib.hid (by have := HGO.out; simpa using this)
          go_wp2_with (fail)
          have HSE := Lib.hid (HS3.out.sw.setLoan ⟨sd, su, ss, sb⟩).sw
          go_roundw
          case rel => exact ⟨k + 1, ⟨sd, su, ss, sb⟩, HLT.out, by go_num, HSE.out, HG2.out⟩
          case measure => have := HLT.out; simp [Go.RowKit.intOf]; omega
        · have hr : (noLoan, false) = r := by have := HGO.out; rwa [if_neg (by simp [hk9])] at this
          subst hr
          have hb : (sk == 0) = false := by rw [beq_eq_false_iff_ne]; exact hk9
          have hn : (sk != 0) = true := by rw [bne_iff_ne]; exact hk9
          clear hk9 HGO
          go_wp2_with (fail)
          have HSE := Lib.hid ((HS3.out.sw.setLoan ⟨sd, su, ss, sb⟩).sw.setLoan noLoan)
          exact bodyPost_ret (results_rreplay HSE.out.loc rfl rfl) rfl ⟨rfl, HSE.out.base⟩
      simp only [Bool.false_eq_true, if_false] at hgo
      by_cases hbt : t = backT
      case neg =>
        have hr : (noLoan, false) = r := by rw [if_neg hbt] at hgo; simpa using hgo
        subst hr
        have hbq : (t == [33, 98]) = false := beq_eq_false_iff_ne.2 hbt
        obtain ⟨z4, k4, f4⟩ := HS2.out.loc
        clear hgo hbt
        go_wp2_with (fail)
        have HSE := Lib.hid (HS2.out.setLoan noLoan)
        exact bodyPost_ret (results_rreplay HSE.out.loc rfl rfl) rfl ⟨rfl, HSE.out.base⟩
      subst hbt
      rw [if_pos rfl] at hgo
      obtain ⟨⟨⟨sd, su, ss, sb⟩, sk⟩, hst⟩ : ∃ q, returnF l' = q := ⟨_, rfl⟩
      have HSP := Lib.hid (fun W => ReturnR_any l'.device l'.units l'.spent l'.back _ hst W)
      rw [hst] at hgo
      simp only at hgo HSP
      have HGO := Lib.hid hgo
      obtain ⟨z3, k3, f3⟩ := HS2.out.sw.loc
      clear hst hgo
      simp only [backT] at *
      go_wp2_with (fail)
      ((with_reducible refine (HSP.out _).mono ?_); rintro _ w3 ⟨rfl, hb3⟩)
      have HS3 := Lib.hid (HS2.out.below hb3)
      clear hb3 HS2 HSP z3 k3 f3
      obtain ⟨z3, k3, f3⟩ := HS3.out.sw.loc
      obtain ⟨z4, k4, f4⟩ := HS3.out.loc
      by_cases hk9 : sk = 0
      · subst hk9
        have HG2 : Hid (replayGo ((textsOf (vsOf l)).drop (k + 1)) ⟨sd, su, ss, sb⟩ = r) := Lib.hid (by have := HGO.out; simpa using this)
        go_wp2_with (fail)
        have HSE := Lib.hid (HS3.out.sw.setLoan ⟨sd, su, ss, sb⟩).sw
        go_roundw
        case rel => exact ⟨k + 1, ⟨sd, su, ss, sb⟩, HLT.out, by go_num, HSE.out, HG2.out⟩
        case measure => have := HLT.out; simp [Go.RowKit.intOf]; omega
      · have hr : (noLoan, false) = r := by have := HGO.out; rwa [if_neg (by simp [hk9])] at this
        subst hr
        have hb : (sk == 0) = false := by rw [beq_eq_false_iff_ne]; exact hk9
        have hn : (sk != 0) = true := by rw [bne_iff_ne]; exact hk9
        clear hk9 HGO
        go_wp2_with (fail)
        have HSE := Lib.hid ((HS3.out.sw.setLoan ⟨sd, su, ss, sb⟩).sw.setLoan noLoan)
        exact bodyPost_ret (results_rreplay HSE.out.loc rfl rfl) rfl ⟨rfl, HSE.out.base⟩
    · obtain rfl : k = n := by omega
      have hki : ¬ ((k : Int) < (k : Int)) := by omega
      have hgo := HGO.out
      rw [List.drop_eq_nil_of_le (by rw [List.length_map, vsOf_len, HLL.out]; exact Nat.le_refl _)] at hgo
      have hr : (l', true) = r := hgo
      subst hr
      simp only [loanX] at HSO
      obtain ⟨z3, k3, f3⟩ := HSO.out.sw.loc
      obtain ⟨z4, k4, f4⟩ := HSO.out.loc
      clear hgo hlt hk
      go_wp2_with (fail)
      have HSE := Lib.hid (HSO.out.setLoan l')
      exact bodyPost_ret (results_rreplay HSE.out.loc rfl rfl) rfl ⟨rfl, HSE.out.base⟩
end Go.Proofs.YtjncmlglhegnaaaGreatDoor
