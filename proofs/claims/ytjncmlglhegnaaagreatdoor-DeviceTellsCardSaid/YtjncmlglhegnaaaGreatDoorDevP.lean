/- journal: sums, forms, records, in plain Lean. -/
/- device: what its functions compute, in plain Lean. -/
import Derived.Test.YtjncmlglhegnaaaGreatDoorChainP
import Derived.Test.YtjncmlglhegnaaaGreatDoorDiskP
import Derived.Test.YtjncmlglhegnaaaGreatDoorChainJ
import Derived.Test.YtjncmlglhegnaaaGreatDoorLendB
import Derived.Test.YtjncmlglhegnaaaGreatDoorWireQ
namespace Go.Proofs.YtjncmlglhegnaaaGreatDoor
open Go.Lib

def sumGo : List UInt8 → Nat → Int → Int
  | [], _, n => n
  | c :: l, i, n => sumGo l (i + 1) ((n + (c.toNat : Int) * ((i : Int) + 1)) % 2147483647)
def sumF (s : List UInt8) : Int := sumGo s 0 0
theorem sumGo_rng : ∀ (l : List UInt8) (i : Nat) (n : Int), 0 ≤ n ∧ n < 2147483647 → 0 ≤ sumGo l i n ∧ sumGo l i n < 2147483647
  | [], _, _, h => h
  | _ :: l, i, n, _ => sumGo_rng l (i + 1) _ ⟨Int.emod_nonneg _ (by decide), Int.emod_lt_of_pos _ (by decide)⟩
theorem sumF_rng (s : List UInt8) : 0 ≤ sumF s ∧ sumF s < 2147483647 := sumGo_rng s 0 0 (by decide)
/-- the form of a record -/
def formB (s : List UInt8) : List UInt8 := encT s ++ encN (sumF s)
theorem formB_pos (s : List UInt8) : 0 < (formB s).length := by
  unfold formB encT
  simp
  omega
/-- the record at the beginning of a string -/
def stepJ (s : List UInt8) : Option (List UInt8) :=
  if (textF ⟨s, false⟩).1.length ≤ 20000 ∧ (natF (textF ⟨s, false⟩).2).1 = sumF (textF ⟨s, false⟩).1 ∧ s.take (formB (textF ⟨s, false⟩).1).length = formB (textF ⟨s, false⟩).1 then some (textF ⟨s, false⟩).1 else none
theorem form_read {t : List UInt8} (ht : t.length ≤ 140737488351232) (r : List UInt8) : textF ⟨formB t ++ r, false⟩ = (t, ⟨encN (sumF t) ++ r, false⟩) ∧ natF ⟨encN (sumF t) ++ r, false⟩ = (sumF t, ⟨r, false⟩) := by
  have h := sumF_rng t
  constructor
  · unfold formB
    rw [List.append_assoc]
    exact textF_read (by omega) _
  · exact natF_read h.1 (by omega) _ _
theorem stepJ_iff {s t : List UInt8} : stepJ s = some t ↔ t.length ≤ 20000 ∧ formB t <+: s := by
  constructor
  · intro h
    unfold stepJ at h
    split at h
    · rename_i hc
      have e := Option.some.inj h
      rw [e] at hc
      exact ⟨hc.1, by rw [← hc.2.2]; exact List.take_prefix _ _⟩
    · cases h
  · rintro ⟨h1, r, rfl⟩
    obtain ⟨e1, e2⟩ := form_read (t := t) (by omega) r
    unfold stepJ
    rw [if_pos (by rw [e1]; dsimp only; rw [e2]; exact ⟨h1, rfl, List.take_left⟩), e1]
theorem stepJ_form {t r : List UInt8} (h : t.length ≤ 20000) : stepJ (formB t ++ r) = some t := stepJ_iff.2 ⟨h, r, rfl⟩
theorem stepJ_nil : stepJ [] = none := by
  cases h : stepJ [] with
  | none => rfl
  | some t =>
    obtain ⟨_, r, h2⟩ := stepJ_iff.1 h
    have h3 := formB_pos t
    have h4 := congrArg List.length h2
    rw [List.length_append] at h4
    simp only [List.length_nil] at h4
    omega
/-- the records of a string -/
def readGo : Nat → List UInt8 → List (List UInt8)
  | 0, _ => []
  | k + 1, s => match stepJ s with
    | none => []
    | some t => t :: readGo k (s.drop (formB t).length)
def recsF (s : List UInt8) : List (List UInt8) := readGo s.length s
def formsB (l : List (List UInt8)) : List UInt8 := (l.map formB).flatten
theorem formsB_app (l m : List (List UInt8)) : formsB (l ++ m) = formsB l ++ formsB m := by unfold formsB; rw [List.map_append, List.flatten_append]
theorem formsB_cons (t : List UInt8) (l : List (List UInt8)) : formsB (t :: l) = formB t ++ formsB l := rfl
theorem formsB_one (t : List UInt8) : formsB [t] = formB t := by unfold formsB; simp
theorem formsB_len (l : List (List UInt8)) : l.length ≤ (formsB l).length := by
  induction l with
  | nil => simp [formsB]
  | cons t l ih => rw [formsB_cons, List.length_append, List.length_cons]; have := formB_pos t; omega
theorem step_len {s t : List UInt8} (h : stepJ s = some t) : (s.drop (formB t).length).length < s.length := by
  obtain ⟨_, r, h2⟩ := stepJ_iff.1 h
  have := formB_pos t
  rw [← h2, List.drop_left, List.length_append]
  omega
theorem readGo_more : ∀ (k m : Nat) (s : List UInt8), s.length ≤ k → s.length ≤ m → readGo k s = readGo m s
  | 0, 0, _, _, _ => rfl
  | 0, m + 1, s, h, _ => by
    obtain rfl : s = [] := List.length_eq_zero_iff.1 (by omega)
    simp only [readGo, stepJ_nil]
  | k + 1, 0, s, _, h => by
    obtain rfl : s = [] := List.length_eq_zero_iff.1 (by omega)
    simp only [readGo, stepJ_nil]
  | k + 1, m + 1, s, h1, h2 => by
    simp only [readGo]
    cases h : stepJ s with
    | none => rfl
    | some t =>
      have := step_len h
      simp only
      rw [readGo_more k m _ (by omega) (by omega)]
theorem recsF_none {s : List UInt8} (h : stepJ s = none) : recsF s = [] := by
  unfold recsF
  cases hl : s.length with
  | zero => rfl
  | succ k => simp only [readGo, h]
theorem recsF_some {s t : List UInt8} (h : stepJ s = some t) : recsF s = t :: recsF (s.drop (formB t).length) := by
  have h1 := step_len h
  unfold recsF
  obtain ⟨k, hk⟩ : ∃ k, s.length = k + 1 := ⟨s.length - 1, by omega⟩
  conv => lhs; rw [hk]
  simp only [readGo, h]
  rw [readGo_more k _ _ (by omega) (Nat.le_refl _)]
/-- records that can be written -/
def Small (l : List (List UInt8)) : Prop := ∀ t ∈ l, t.length ≤ 20000
theorem recsF_nil : recsF [] = [] := recsF_none stepJ_nil
theorem recsF_forms : ∀ (l : List (List UInt8)) (r : List UInt8), Small l → recsF (formsB l ++ r) = l ++ recsF r
  | [], r, _ => rfl
  | t :: l, r, h => by
    rw [formsB_cons, List.append_assoc, recsF_some (stepJ_form (h t (List.mem_cons_self ..))), List.drop_left, recsF_forms l r (fun x hx => h x (List.mem_cons_of_mem _ hx)), List.cons_append]
theorem recsF_small : ∀ (k : Nat) (s : List UInt8), s.length ≤ k → Small (recsF s) ∧ formsB (recsF s) <+: s
  | 0, s, h => by
    obtain rfl : s = [] := List.length_eq_zero_iff.1 (by omega)
    rw [recsF_nil]
    exact ⟨(fun t ht => by cases ht), List.nil_prefix⟩
  | k + 1, s, h => by
    cases hs : stepJ s with
    | none => rw [recsF_none hs]; exact ⟨(fun t ht => by cases ht), List.nil_prefix⟩
    | some t =>
      obtain ⟨h1, r, rfl⟩ := stepJ_iff.1 hs
      have h2 := step_len hs
      rw [List.drop_left] at h2
      have ih := recsF_small k r (by omega)
      rw [recsF_some hs, List.drop_left]
      refine ⟨fun x hx => ?_, ?_⟩
      · rcases List.mem_cons.1 hx with rfl | hx
        · exact h1
        · exact ih.1 x hx
      · rw [formsB_cons]
        exact (List.prefix_append_right_inj _).2 ih.2
theorem recs_small (s : List UInt8) : Small (recsF s) := (recsF_small s.length s (Nat.le_refl _)).1
theorem recs_prefix (s : List UInt8) : formsB (recsF s) <+: s := (recsF_small s.length s (Nat.le_refl _)).2
/-! ### the journal -/
structure JV where
  file : Int
  recs : List (List UInt8)
  bytes : Int
  broken : Bool
def openJ (d : DV) (f : Int) : DV × Option JV × Int :=
  if f < 0 ∨ 15 < f then (d, none, 1)
  else if (SyncF d f).2 ≠ 0 then ((SyncF d f).1, none, (SyncF d f).2)
  else
    let d1 := (SyncF d f).1
    let s := ((d1.file f).now)
    let j : JV := ⟨f, recsF s, ((formsB (recsF s)).length : Int), false⟩
    if (formsB (recsF s)).length < s.length then
      if (TruncF d1 f ((formsB (recsF s)).length : Int)).2 ≠ 0 then ((TruncF d1 f ((formsB (recsF s)).length : Int)).1, none, (TruncF d1 f ((formsB (recsF s)).length : Int)).2)
      else ((TruncF d1 f ((formsB (recsF s)).length : Int)).1, some j, 0)
    else (d1, some j, 0)
def appendJ (d : DV) (j : JV) (t : List UInt8) : DV × JV × Int :=
  if j.broken then (d, j, 7)
  else if 20000 < t.length then (d, j, 3)
  else if 1048576 < j.bytes + (formB t).length then (d, j, 6)
  else
    if (WriteF d j.file j.bytes (formB t)).2 ≠ 0 then ((WriteF d j.file j.bytes (formB t)).1, { j with broken := true }, (WriteF d j.file j.bytes (formB t)).2)
    else ((WriteF d j.file j.bytes (formB t)).1, { j with recs := j.recs ++ [t], bytes := j.bytes + (formB t).length }, 0)
def syncJ (d : DV) (j : JV) : DV × JV × Int :=
  if j.broken then (d, j, 7)
  else ((SyncF d j.file).1, { j with broken := decide ((SyncF d j.file).2 ≠ 0) }, (SyncF d j.file).2)
end Go.Proofs.YtjncmlglhegnaaaGreatDoor
namespace Go.Proofs.YtjncmlglhegnaaaGreatDoor

/-- a text that is reserved -/
def resB : List UInt8 → Bool
  | [] => false
  | c :: _ => c == 33
def spendT (n : Int) : List UInt8 := [33, 115] ++ encN n
def backT : List UInt8 := [33, 98]
/-- a text, replayed on a loan -/
def stepL (t : List UInt8) (l : LoanV) : LoanV × Bool :=
  if resB t = false then (l, true)
  else if t = backT then ((returnF l).1, decide ((returnF l).2 = 0))
  else if t.take 2 = [33, 115] then
    if doneB (natF ⟨t.drop 2, false⟩).2 = true then ((spendF l (natF ⟨t.drop 2, false⟩).1).1, decide ((spendF l (natF ⟨t.drop 2, false⟩).1).2 = 0)) else (noLoan, false)
  else (noLoan, false)
def replayGo : List (List UInt8) → LoanV → LoanV × Bool
  | [], l => (l, true)
  | t :: ts, l => if (stepL t l).2 = true then replayGo ts (stepL t l).1 else (noLoan, false)
def replayF (ts : List (List UInt8)) (l : LoanV) : LoanV × Bool := if (returnF l).2 = 1 then (noLoan, false) else replayGo ts l
abbrev textsOf (l : List EntV) : List (List UInt8) := l.map (·.text)
/-- the entries of records -/
def decAll : List (List UInt8) → Option (List EntV)
  | [] => some []
  | s :: r => if (decodeF s).2 = true then (decAll r).map ((decodeF s).1 :: ·) else none
structure DevV where
  number : Int
  ents : List EntV
  loan : LoanV
  j : JV
/-- a device, opened on a disk -/
def openD (d : DV) (number : Int) (loan : LoanV) : DV × Option DevV × Int :=
  if number < 0 ∨ 8 ≤ number ∨ (returnF loan).2 ≠ 0 ∨ loan.device ≠ number ∨ loan.spent ≠ 0 then (d, none, 1)
  else match (openJ d 0).2.1 with
    | none => ((openJ d 0).1, none, (openJ d 0).2.2)
    | some j => match decAll j.recs with
      | none => ((openJ d 0).1, none, 2)
      | some l => if checkF l = 0 ∧ (l.all fun x => decide (x.dev = number)) = true ∧ (replayF (textsOf l) loan).2 = true then ((openJ d 0).1, some ⟨number, l, (replayF (textsOf l) loan).1, j⟩, 0) else ((openJ d 0).1, none, 2)
/-- an entry is written, with any text -/
def putD (d : DV) (x : DevV) (day : Int) (seen : List Int) (text : List UInt8) : DV × DevV × Int :=
  if (nextF x.ents x.number day seen text).2 ≠ 0 then (d, x, (nextF x.ents x.number day seen text).2)
  else
    let v := (nextF x.ents x.number day seen text).1
    let a := appendJ d x.j (encodeF v).1
    if a.2.2 ≠ 0 then (a.1, { x with j := a.2.1 }, a.2.2)
    else (a.1, ⟨x.number, x.ents ++ [v], (stepL text x.loan).1, a.2.1⟩, 0)
def writeD (d : DV) (x : DevV) (day : Int) (seen : List Int) (text : List UInt8) : DV × DevV × Int :=
  if resB text = true then (d, x, 2) else if 3000 < text.length then (d, x, 3) else putD d x day seen text
def durD (d : DV) (x : DevV) (day : Int) (seen : List Int) (text : List UInt8) (e : Int) : DV × DevV × Int :=
  if e ≠ 0 then (d, x, e)
  else if (putD d x day seen text).2.2 ≠ 0 then putD d x day seen text
  else
    let p := putD d x day seen text
    let s := syncJ p.1 p.2.1.j
    (s.1, { p.2.1 with j := s.2.1 }, s.2.2)
def spendD (d : DV) (x : DevV) (day : Int) (seen : List Int) (n : Int) : DV × DevV × Int := durD d x day seen (spendT n) (spendF x.loan n).2
def returnD (d : DV) (x : DevV) (day : Int) (seen : List Int) : DV × DevV × Int := durD d x day seen backT (returnF x.loan).2
def handD (d : DV) (x : DevV) : DV × DevV × Int × List EntV :=
  let s := syncJ d x.j
  (s.1, { x with j := s.2.1 }, s.2.2, if s.2.2 ≠ 0 then [] else x.ents)
end Go.Proofs.YtjncmlglhegnaaaGreatDoor
