/- wire: what was written is read again, and what is read was written so: in plain Lean. -/
import Derived.Test.YtnnnibkainlplaaDoorWireP
namespace Go.Proofs.YtnnnibkainlplaaDoor
open Go.Lib

def closeF (e : UInt8) (r : RdV) : RdV :=
  match r.rest with
  | [] => .fail
  | c :: t => if c = e then ⟨t, r.bad⟩ else .fail
def intF (r : RdV) : Int × RdV := numF 59 (-9223372036854775808) r
def natF (r : RdV) : Int × RdV := numF 59 0 r
def textF (r : RdV) : List UInt8 × RdV :=
  if ((numF 58 0 r).2.rest.length : Int) < (numF 58 0 r).1 then ([], .fail)
  else if (closeF 44 ⟨(numF 58 0 r).2.rest.drop (numF 58 0 r).1.toNat, (numF 58 0 r).2.bad⟩).bad = true then ([], closeF 44 ⟨(numF 58 0 r).2.rest.drop (numF 58 0 r).1.toNat, (numF 58 0 r).2.bad⟩)
  else ((numF 58 0 r).2.rest.take (numF 58 0 r).1.toNat, closeF 44 ⟨(numF 58 0 r).2.rest.drop (numF 58 0 r).1.toNat, (numF 58 0 r).2.bad⟩)
section
variable {α : Type} (one : RdV → α × RdV)
/-- at most k items, while the reader has not failed -/
def runF : Nat → RdV → List α × RdV
  | 0, r => ([], r)
  | k + 1, r => if r.bad = true then ([], r) else ((one r).1 :: (runF k (one r).2).1, (runF k (one r).2).2)
def itemsF (r : RdV) : List α × RdV :=
  if (closeF 93 (runF one (numF 91 0 r).1.toNat (numF 91 0 r).2).2).bad = true then ([], closeF 93 (runF one (numF 91 0 r).1.toNat (numF 91 0 r).2).2)
  else ((runF one (numF 91 0 r).1.toNat (numF 91 0 r).2).1, closeF 93 (runF one (numF 91 0 r).1.toNat (numF 91 0 r).2).2)
end
def intsF : RdV → List Int × RdV := itemsF intF
def textsF : RdV → List (List UInt8) × RdV := itemsF textF

theorem closeF_read (e : UInt8) (t : List UInt8) (b : Bool) : closeF e ⟨e :: t, b⟩ = ⟨t, b⟩ := by simp [closeF]
theorem closeF_was {e : UInt8} {r r' : RdV} (h : closeF e r = r') (hb : r'.bad = false) : r.rest = e :: r'.rest ∧ r.bad = false := by
  unfold closeF at h
  split at h
  · rw [← h] at hb
    cases hb
  · rename_i c t he
    split at h
    · rename_i hc
      subst h
      exact ⟨by rw [he, hc], hb⟩
    · rw [← h] at hb
      cases hb
theorem intF_read {n : Int} (h0 : -9223372036854775808 ≤ n) (h1 : n ≤ 9223372036854775807) (t : List UInt8) (b : Bool) : intF ⟨encI n ++ t, b⟩ = (n, ⟨t, b⟩) := by
  unfold intF encI
  rw [List.append_assoc]
  exact numF_read ender_59 h0 h1 h0 t b
theorem natF_read {n : Int} (h0 : 0 ≤ n) (h1 : n ≤ 9223372036854775807) (t : List UInt8) (b : Bool) : natF ⟨encN n ++ t, b⟩ = (n, ⟨t, b⟩) := by
  unfold natF encN encI
  rw [if_neg (by omega), List.append_assoc]
  exact numF_read ender_59 (by omega) h1 h0 t b
theorem textF_read {s : List UInt8} (h1 : (s.length : Int) ≤ 9223372036854775807) (t : List UInt8) : textF ⟨encT s ++ t, false⟩ = (s, ⟨t, false⟩) := by
  have h := numF_read ender_58 (least := 0) (n := (s.length : Int)) (by omega) h1 (by omega) (s ++ 44 :: t) false
  have e : encT s ++ t = itoa (s.length : Int) ++ 58 :: (s ++ 44 :: t) := by unfold encT; simp
  unfold textF
  rw [e, h]
  simp only [Int.toNat_natCast]
  rw [if_neg (by simp; omega)]
  simp [closeF_read]
section
variable {α : Type} {one : RdV → α × RdV} {enc : α → List UInt8}
theorem runF_read : ∀ (l : List α) (t : List UInt8), (∀ x ∈ l, ∀ t, one ⟨enc x ++ t, false⟩ = (x, ⟨t, false⟩)) → runF one l.length ⟨(l.map enc).flatten ++ t, false⟩ = (l, ⟨t, false⟩)
  | [], t, _ => rfl
  | x :: l, t, h => by
    have h1 := h x (by simp) ((l.map enc).flatten ++ t)
    have h2 := runF_read l t fun y hy => h y (by simp [hy])
    simp only [List.length_cons, List.map_cons, List.flatten_cons, runF, Bool.false_eq_true, if_false, List.append_assoc, h1, h2]
theorem itemsF_read {l : List α} (hl : (l.length : Int) ≤ 9223372036854775807) (t : List UInt8) (h : ∀ x ∈ l, ∀ t, one ⟨enc x ++ t, false⟩ = (x, ⟨t, false⟩)) : itemsF one ⟨itoa (l.length : Int) ++ 91 :: ((l.map enc).flatten ++ 93 :: t), false⟩ = (l, ⟨t, false⟩) := by
  have h1 := numF_read ender_91 (least := 0) (n := (l.length : Int)) (by omega) hl (by omega) ((l.map enc).flatten ++ 93 :: t) false
  unfold itemsF
  rw [h1]
  simp only [Int.toNat_natCast, runF_read l (93 :: t) h, closeF_read, Bool.false_eq_true, if_false]
/-- what a reader of one value promises -/
def Was (one : RdV → α × RdV) (enc : α → List UInt8) : Prop := ∀ r x r', one r = (x, r') → r'.bad = false → r.rest = enc x ++ r'.rest ∧ r.bad = false
theorem runF_was (ho : Was one enc) : ∀ (k : Nat) (r : RdV) (l : List α) (r' : RdV), runF one k r = (l, r') → r'.bad = false → r.rest = (l.map enc).flatten ++ r'.rest ∧ r.bad = false ∧ l.length = k
  | 0, r, l, r', h, hb => by
    simp only [runF] at h
    injection h with h1 h2
    subst h1 h2
    exact ⟨rfl, hb, rfl⟩
  | k + 1, r, l, r', h, hb => by
    simp only [runF] at h
    split at h
    · rename_i hbad
      injection h with h1 h2
      subst h2
      rw [hbad] at hb
      cases hb
    · injection h with h1 h2
      obtain ⟨x, r1, h3⟩ : ∃ x r1, one r = (x, r1) := ⟨_, _, rfl⟩
      rw [h3] at h1 h2
      obtain ⟨l2, r2, h4⟩ : ∃ l2 r2, runF one k r1 = (l2, r2) := ⟨_, _, rfl⟩
      rw [h4] at h1 h2
      subst h1 h2
      obtain ⟨a1, a2, a3⟩ := runF_was ho k r1 l2 r2 h4 hb
      obtain ⟨b1, b2⟩ := ho r x r1 h3 a2
      exact ⟨by rw [b1, a1]; simp, b2, by simp [a3]⟩
theorem itemsF_was (ho : Was one enc) : Was (itemsF one) fun l => itoa (l.length : Int) ++ 91 :: ((l.map enc).flatten ++ [93]) := by
  intro r l r' h hb
  obtain ⟨n, r1, h1⟩ : ∃ n r1, numF 91 0 r = (n, r1) := ⟨_, _, rfl⟩
  obtain ⟨l2, r2, h2⟩ : ∃ l2 r2, runF one n.toNat r1 = (l2, r2) := ⟨_, _, rfl⟩
  unfold itemsF at h
  simp only [h1, h2] at h
  split at h
  · rename_i hbad
    injection h with _ h3
    subst h3
    rw [hbad] at hb
    cases hb
  · injection h with h3 h4
    subst h3
    obtain ⟨a1, a2⟩ := closeF_was h4 hb
    obtain ⟨b1, b2, b3⟩ := runF_was ho _ _ _ _ h2 a2
    rcases numF_was h1 with ⟨_, c2⟩ | ⟨c1, c2, c3, c4, c5⟩
    · rw [c2] at b2
      cases b2
    · refine ⟨?_, by rw [← c2]; exact b2⟩
      have e : ((l2.length : Nat) : Int) = n := by rw [b3]; omega
      show r.rest = (itoa (l2.length : Int) ++ 91 :: ((l2.map enc).flatten ++ [93])) ++ r'.rest
      rw [c1, b1, a1, e]
      simp
end
theorem intF_was : Was intF encI := by
  intro r n r' h hb
  rcases numF_was h with ⟨_, c2⟩ | ⟨c1, c2, _⟩
  · rw [c2] at hb
    cases hb
  · exact ⟨by rw [c1]; simp [encI], by rw [← c2]; exact hb⟩
theorem natF_was : Was natF encN := by
  intro r n r' h hb
  rcases numF_was h with ⟨_, c2⟩ | ⟨c1, c2, c3, _⟩
  · rw [c2] at hb
    cases hb
  · exact ⟨by rw [c1]; unfold encN encI; rw [if_neg (by omega)]; simp, by rw [← c2]; exact hb⟩
theorem textF_was : Was textF encT := by
  intro r s r' h hb
  obtain ⟨n, r1, h1⟩ : ∃ n r1, numF 58 0 r = (n, r1) := ⟨_, _, rfl⟩
  unfold textF at h
  simp only [h1] at h
  split at h
  · injection h with _ h
    rw [← h] at hb
    cases hb
  · rename_i hlen
    split at h
    · rename_i hbad
      injection h with _ h3
      subst h3
      rw [hbad] at hb
      cases hb
    · injection h with h3 h4
      obtain ⟨a1, a2⟩ := closeF_was h4 hb
      simp only at a1 a2
      rcases numF_was h1 with ⟨_, c2⟩ | ⟨c1, c2, c3, c4, c5⟩
      · rw [c2] at a2
        cases a2
      · refine ⟨?_, by rw [← c2]; exact a2⟩
        have e : (s.length : Int) = n := by rw [← h3, List.length_take]; omega
        have e2 : r1.rest = s ++ 44 :: r'.rest := by rw [← h3, ← a1, List.take_append_drop]
        rw [c1, e2]
        unfold encT
        rw [e]
        simp
theorem intsF_was : Was intsF encIs := itemsF_was intF_was
theorem textsF_was : Was textsF encTs := itemsF_was textF_was
theorem intsF_read {l : List Int} (hl : (l.length : Int) ≤ 9223372036854775807) (h : ∀ n ∈ l, -9223372036854775808 ≤ n ∧ n ≤ 9223372036854775807) (t : List UInt8) : intsF ⟨encIs l ++ t, false⟩ = (l, ⟨t, false⟩) := by
  have := itemsF_read (enc := encI) hl t fun n hn t => intF_read (h n hn).1 (h n hn).2 t false
  unfold intsF encIs
  simpa using this
theorem textsF_read {l : List (List UInt8)} (hl : (l.length : Int) ≤ 9223372036854775807) (h : ∀ s ∈ l, ((s.length : Nat) : Int) ≤ 9223372036854775807) (t : List UInt8) : textsF ⟨encTs l ++ t, false⟩ = (l, ⟨t, false⟩) := by
  have := itemsF_read (enc := encT) hl t fun s hs t => textF_read (h s hs) t
  unfold textsF encTs
  simpa using this

/-! a value to write -/
inductive WV where
  | nat (n : Int)
  | int (n : Int)
  | text (s : List UInt8)
  | ints (l : List Int)
  | texts (l : List (List UInt8))
def WV.kind : WV → Nat
  | .nat _ => 0
  | .int _ => 1
  | .text _ => 2
  | .ints _ => 3
  | .texts _ => 4
def WV.enc : WV → List UInt8
  | .nat n => encN n
  | .int n => encI n
  | .text s => encT s
  | .ints l => encIs l
  | .texts l => encTs l
def WV.ok : WV → Prop
  | .nat n => 0 ≤ n ∧ n ≤ 9223372036854775807
  | .int n => -9223372036854775808 ≤ n ∧ n ≤ 9223372036854775807
  | .text s => (s.length : Int) ≤ 9223372036854775807
  | .ints l => (l.length : Int) ≤ 9223372036854775807 ∧ ∀ n ∈ l, -9223372036854775808 ≤ n ∧ n ≤ 9223372036854775807
  | .texts l => (l.length : Int) ≤ 9223372036854775807 ∧ ∀ s ∈ l, ((s.length : Nat) : Int) ≤ 9223372036854775807
/-- what the reader of a kind reads -/
def readF : Nat → RdV → WV × RdV
  | 0, r => (.nat (natF r).1, (natF r).2)
  | 1, r => (.int (intF r).1, (intF r).2)
  | 2, r => (.text (textF r).1, (textF r).2)
  | 3, r => (.ints (intsF r).1, (intsF r).2)
  | _, r => (.texts (textsF r).1, (textsF r).2)
theorem readF_read {v : WV} (h : v.ok) (t : List UInt8) : readF v.kind ⟨v.enc ++ t, false⟩ = (v, ⟨t, false⟩) := by
  cases v with
  | nat n => simp only [WV.kind, WV.enc, readF, natF_read h.1 h.2]
  | int n => simp only [WV.kind, WV.enc, readF, intF_read h.1 h.2]
  | text s => simp only [WV.kind, WV.enc, readF, textF_read h t]
  | ints l => simp only [WV.kind, WV.enc, readF, intsF_read h.1 h.2]
  | texts l => simp only [WV.kind, WV.enc, readF, textsF_read h.1 h.2]
theorem readF_was : ∀ (k : Nat) (r : RdV) (x : WV) (r' : RdV), readF k r = (x, r') → r'.bad = false → r.rest = x.enc ++ r'.rest ∧ r.bad = false
  | 0, r, x, r', h, hb => by
    simp only [readF] at h
    injection h with h1 h2
    subst h1
    exact natF_was r _ r' (Prod.ext rfl h2) hb
  | 1, r, x, r', h, hb => by
    simp only [readF] at h
    injection h with h1 h2
    subst h1
    exact intF_was r _ r' (Prod.ext rfl h2) hb
  | 2, r, x, r', h, hb => by
    simp only [readF] at h
    injection h with h1 h2
    subst h1
    exact textF_was r _ r' (Prod.ext rfl h2) hb
  | 3, r, x, r', h, hb => by
    simp only [readF] at h
    injection h with h1 h2
    subst h1
    exact intsF_was r _ r' (Prod.ext rfl h2) hb
  | k + 4, r, x, r', h, hb => by
    simp only [readF] at h
    injection h with h1 h2
    subst h1
    exact textsF_was r _ r' (Prod.ext rfl h2) hb
/-- THE PREFIX LAW: of two values of a kind, if the one's encoding begins the other's, they are equal -/
theorem enc_prefix {v x : WV} (hv : v.ok) (hx : x.ok) (hk : v.kind = x.kind) {t : List UInt8} (h : x.enc = v.enc ++ t) : v = x ∧ t = [] := by
  have h1 := readF_read hv t
  have h2 := readF_read hx []
  rw [List.append_nil, h, ← hk, h1] at h2
  injection h2 with h3 h4
  injection h4 with h5
  exact ⟨h3, h5⟩
/-- behind a reader that has failed nothing is left -/
def RdV.ok (r : RdV) : Prop := r.bad = true → r.rest = []
end Go.Proofs.YtnnnibkainlplaaDoor
