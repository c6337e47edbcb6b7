/- chain: entries, right chains, encodings, in plain Lean. -/
import Derived.Test.YtjncmlglhegnaaaGreatDoorWireP3
namespace Go.Proofs.YtjncmlglhegnaaaGreatDoor
open Go.Lib

structure EntV where
  dev : Int
  no : Int
  day : Int
  seen : List Int
  text : List UInt8
def EntV.zero : EntV := ⟨0, 0, 0, [], []⟩
def inSeen (l : List Int) : Bool := l.all fun n => decide (0 ≤ n) && decide (n ≤ 400)
def rightB (x : EntV) : Bool :=
  decide (0 ≤ x.dev) && decide (x.dev ≤ 7) && decide (0 ≤ x.no) && decide (x.no ≤ 399) && decide (0 ≤ x.day) && decide (x.day ≤ 100000) && decide (x.seen.length = 8) && inSeen x.seen && decide (x.seen[x.dev.toNat]? = some x.no) && decide (x.text.length ≤ 4000)
structure RightE (x : EntV) : Prop where
  d0 : 0 ≤ x.dev
  d1 : x.dev ≤ 7
  n0 : 0 ≤ x.no
  n1 : x.no ≤ 399
  y0 : 0 ≤ x.day
  y1 : x.day ≤ 100000
  len : x.seen.length = 8
  rng : ∀ n ∈ x.seen, 0 ≤ n ∧ n ≤ 400
  own : x.seen[x.dev.toNat]? = some x.no
  txt : x.text.length ≤ 4000
theorem inSeen_true {l : List Int} : inSeen l = true ↔ ∀ n ∈ l, 0 ≤ n ∧ n ≤ 400 := by
  unfold inSeen
  simp
theorem rightB_true {x : EntV} : rightB x = true ↔ RightE x := by
  unfold rightB
  simp only [Bool.and_eq_true, decide_eq_true_eq, inSeen_true]
  exact ⟨fun ⟨⟨⟨⟨⟨⟨⟨⟨⟨a, b⟩, c⟩, d⟩, e⟩, f⟩, g⟩, h⟩, i⟩, j⟩ => ⟨a, b, c, d, e, f, g, h, i, j⟩, fun h => ⟨⟨⟨⟨⟨⟨⟨⟨⟨h.d0, h.d1⟩, h.n0⟩, h.n1⟩, h.y0⟩, h.y1⟩, h.len⟩, h.rng⟩, h.own⟩, h.txt⟩⟩
def sameB (a b : EntV) : Bool := decide (a.dev = b.dev) && decide (a.no = b.no) && decide (a.day = b.day) && decide (a.seen = b.seen) && decide (a.text = b.text)
theorem sameB_true {a b : EntV} : sameB a b = true ↔ a = b := by
  obtain ⟨a1, a2, a3, a4, a5⟩ := a
  obtain ⟨b1, b2, b3, b4, b5⟩ := b
  simp [sameB]
  exact ⟨fun ⟨⟨⟨⟨a, b⟩, c⟩, d⟩, e⟩ => ⟨a, b, c, d, e⟩, fun ⟨a, b, c, d, e⟩ => ⟨⟨⟨⟨a, b⟩, c⟩, d⟩, e⟩⟩
/-- an element of the second list is less -/
def lessSome (a b : List Int) : Bool := (a.zip b).any fun p => decide (p.2 < p.1)
def followsF (a b : EntV) : Int := if b.day < a.day then 17 else if lessSome a.seen b.seen = true then 7 else 0
def errAt (l : List EntV) (i : Nat) : Int :=
  match l[i]? with
  | none => 0
  | some x =>
    if rightB x = true then
      if (l.head?.map (·.dev)) = some x.dev then
        if (i : Int) < x.no then 23 else if x.no < (i : Int) then 5
        else match i with
          | 0 => 0
          | j + 1 => match l[j]? with | none => 0 | some p => followsF p x
      else 21
    else 1
def scanE (f : Nat → Int) : Nat → Nat → Int
  | 0, _ => 0
  | k + 1, i => if f i = 0 then scanE f k (i + 1) else f i
def checkF (l : List EntV) : Int := if 400 < l.length then 6 else scanE (errAt l) l.length 0
theorem scanE_zero {f : Nat → Int} : ∀ {k i : Nat}, scanE f k i = 0 ↔ ∀ j, i ≤ j → j < i + k → f j = 0
  | 0, i => by simp [scanE]; intro j h1 h2; omega
  | k + 1, i => by
    simp only [scanE]
    by_cases h : f i = 0
    · rw [if_pos h, scanE_zero]
      constructor
      · intro h2 j h3 h4
        rcases Nat.lt_or_ge i j with h5 | h5
        · exact h2 j h5 (by omega)
        · obtain rfl : j = i := by omega
          exact h
      · intro h2 j h3 h4
        exact h2 j (by omega) (by omega)
    · rw [if_neg h]
      exact ⟨fun h2 => absurd h2 h, fun h2 => absurd (h2 i (Nat.le_refl _) (by omega)) h⟩
theorem checkF_zero {l : List EntV} : checkF l = 0 ↔ l.length ≤ 400 ∧ ∀ i, i < l.length → errAt l i = 0 := by
  unfold checkF
  split
  · rename_i h
    exact ⟨fun h2 => by omega, fun h2 => by omega⟩
  · rename_i h
    rw [scanE_zero]
    exact ⟨fun h2 => ⟨by omega, fun i hi => h2 i (Nat.zero_le _) (by omega)⟩, fun h2 j _ hj => h2.2 j (by omega)⟩
/-- an entry with no error at its place -/
structure OkAt (l : List EntV) (i : Nat) (x : EntV) : Prop where
  right : RightE x
  dev : l.head?.map (·.dev) = some x.dev
  no : x.no = (i : Int)
  day : ∀ j p, i = j + 1 → l[j]? = some p → p.day ≤ x.day
  seen : ∀ j p, i = j + 1 → l[j]? = some p → lessSome p.seen x.seen = false
theorem errAt_zero {l : List EntV} {i : Nat} {x : EntV} (hx : l[i]? = some x) : errAt l i = 0 ↔ OkAt l i x := by
  unfold errAt
  rw [hx]
  simp only
  constructor
  · intro h
    split at h
    · rename_i hr
      split at h
      · rename_i hd
        split at h
        · cases h
        · rename_i h1
          split at h
          · cases h
          · rename_i h2
            refine ⟨rightB_true.1 hr, hd, by omega, ?_, ?_⟩
            · rintro j p rfl hp
              simp only [hp] at h
              unfold followsF at h
              split at h
              · cases h
              · omega
            · rintro j p rfl hp
              simp only [hp] at h
              unfold followsF at h
              split at h
              · cases h
              · split at h
                · cases h
                · rename_i h3; simpa using h3
      · cases h
    · cases h
  · intro h
    rw [if_pos (rightB_true.2 h.right), if_pos h.dev, if_neg (by have := h.no; omega), if_neg (by have := h.no; omega)]
    cases i with
    | zero => rfl
    | succ j =>
      simp only
      cases hp : l[j]? with
      | none => rfl
      | some p =>
        simp only
        unfold followsF
        rw [if_neg (by have := h.day j p rfl hp; omega), if_neg (by rw [h.seen j p rfl hp]; simp)]
theorem check_at {l : List EntV} (h : checkF l = 0) {i : Nat} {x : EntV} (hx : l[i]? = some x) : OkAt l i x :=
  (errAt_zero hx).1 ((checkF_zero.1 h).2 i (List.getElem?_eq_some_iff.1 hx).1)

/-! the encoding -/
def encE (x : EntV) : List UInt8 := encN x.dev ++ (encN x.no ++ (encN x.day ++ (encIs x.seen ++ encT x.text)))
def decE (s : List UInt8) : EntV × RdV :=
  (⟨(natF ⟨s, false⟩).1, (natF (natF ⟨s, false⟩).2).1, (natF (natF (natF ⟨s, false⟩).2).2).1, (intsF (natF (natF (natF ⟨s, false⟩).2).2).2).1, (textF (intsF (natF (natF (natF ⟨s, false⟩).2).2).2).2).1⟩, (textF (intsF (natF (natF (natF ⟨s, false⟩).2).2).2).2).2)
def goodD (s : List UInt8) : Bool := (!(decE s).2.bad && decide ((decE s).2.rest = [])) && rightB (decE s).1
theorem decE_enc {x : EntV} (h : RightE x) : decE (encE x) = (x, ⟨[], false⟩) := by
  have e1 := natF_read h.d0 (by have := h.d1; omega) (encN x.no ++ (encN x.day ++ (encIs x.seen ++ encT x.text))) false
  have e2 := natF_read h.n0 (by have := h.n1; omega) (encN x.day ++ (encIs x.seen ++ encT x.text)) false
  have e3 := natF_read h.y0 (by have := h.y1; omega) (encIs x.seen ++ encT x.text) false
  have e4 := intsF_read (l := x.seen) (by have := h.len; omega) (fun n hn => by have := h.rng n hn; omega) (encT x.text)
  have e5 := textF_read (s := x.text) (by have := h.txt; omega) []
  rw [List.append_nil] at e5
  unfold decE encE
  simp only [e1, e2, e3, e4, e5]
theorem goodD_enc {x : EntV} (h : RightE x) : goodD (encE x) = true := by
  unfold goodD
  rw [decE_enc h]
  simp [rightB_true.2 h]
/-- what is read from a string is right, and has it as its encoding -/
theorem enc_decE {s : List UInt8} (h : goodD s = true) : encE (decE s).1 = s ∧ RightE (decE s).1 := by
  unfold goodD at h
  simp only [Bool.and_eq_true, Bool.not_eq_true', decide_eq_true_eq] at h
  obtain ⟨⟨hb, hr⟩, hx⟩ := h
  refine ⟨?_, rightB_true.1 hx⟩
  obtain ⟨d, r1, h1⟩ : ∃ d r, natF ⟨s, false⟩ = (d, r) := ⟨_, _, rfl⟩
  obtain ⟨n, r2, h2⟩ : ∃ d r, natF r1 = (d, r) := ⟨_, _, rfl⟩
  obtain ⟨y, r3, h3⟩ : ∃ d r, natF r2 = (d, r) := ⟨_, _, rfl⟩
  obtain ⟨l, r4, h4⟩ : ∃ d r, intsF r3 = (d, r) := ⟨_, _, rfl⟩
  obtain ⟨t, r5, h5⟩ : ∃ d r, textF r4 = (d, r) := ⟨_, _, rfl⟩
  unfold decE at hb hr ⊢
  simp only [h1, h2, h3, h4, h5] at hb hr ⊢
  obtain ⟨w5, b4⟩ := textF_was _ _ _ h5 hb
  obtain ⟨w4, b3⟩ := intsF_was _ _ _ h4 b4
  obtain ⟨w3, b2⟩ := natF_was _ _ _ h3 b3
  obtain ⟨w2, b1⟩ := natF_was _ _ _ h2 b2
  obtain ⟨w1, _⟩ := natF_was _ _ _ h1 b1
  simp only at w1
  rw [hr, List.append_nil] at w5
  unfold encE
  simp only
  rw [w1, w2, w3, w4, w5]
end Go.Proofs.YtjncmlglhegnaaaGreatDoor
