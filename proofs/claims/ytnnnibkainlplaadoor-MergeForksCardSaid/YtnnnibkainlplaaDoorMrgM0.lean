/- merge: the plain law of MergeForks. -/
import Derived.Test.YtnnnibkainlplaaDoorMrgG0
namespace Go.Proofs.YtnnnibkainlplaaDoor
open Go.RowKit

/-- the first number for which there are two entries of a device, or 400 -/
structure FirstI (d : Int) (L : List EntV) (f : Int) : Prop where
  hi : f ≤ 400
  some_ : f < 400 → ∃ x y, x ∈ L ∧ y ∈ L ∧ convictsB x y = true ∧ x.dev = d ∧ x.no = f
  low : ∀ x y, x ∈ L → y ∈ L → convictsB x y = true → x.dev = d → f ≤ x.no
theorem firstI_nil (d : Int) : FirstI d [] 400 := ⟨by omega, fun h => by omega, fun x y h => by cases h⟩
theorem convicts_sym {x y : EntV} (h : convictsB x y = true) : convictsB y x = true := by
  obtain ⟨a, b, c, e, f⟩ := convicts_iff.1 h
  exact convicts_iff.2 ⟨b, a, c.symm, e.symm, Ne.symm f⟩
theorem FirstI.skip {d : Int} {L : List EntV} {f : Int} (h : FirstI d L f) {x : EntV} (hx : ¬ (RightE x ∧ x.dev = d)) : FirstI d (L ++ [x]) f := by
  refine ⟨h.hi, fun hf => ?_, fun a b ha hb hc hd => ?_⟩
  · obtain ⟨a, b, ha, hb, hc⟩ := h.some_ hf
    exact ⟨a, b, List.mem_append_left _ ha, List.mem_append_left _ hb, hc⟩
  · obtain ⟨ra, rb, e1, e2, e3⟩ := convicts_iff.1 hc
    rcases List.mem_append.1 ha with ha | ha
    · rcases List.mem_append.1 hb with hb | hb
      · exact h.low a b ha hb hc hd
      · rw [List.mem_singleton.1 hb] at rb e1
        exact absurd ⟨rb, by rw [← e1]; exact hd⟩ hx
    · rw [List.mem_singleton.1 ha] at ra hd
      exact absurd ⟨ra, hd⟩ hx
/-- of the entries of L so far looked at, one convicts x -/
def HitB (x : EntV) (L : List EntV) : Bool := L.any fun y => convictsB x y
theorem hitB_iff {x : EntV} {L : List EntV} : HitB x L = true ↔ ∃ y ∈ L, convictsB x y = true := by unfold HitB; rw [List.any_eq_true]
theorem FirstI.step {d : Int} {L : List EntV} {f : Int} (h : FirstI d L f) {x : EntV} (hx : RightE x) (hd : x.dev = d) : FirstI d (L ++ [x]) (if HitB x L = true then min f x.no else f) := by
  by_cases hh : HitB x L = true
  · rw [if_pos hh]
    obtain ⟨y, hy, hc⟩ := hitB_iff.1 hh
    refine ⟨by have := h.hi; omega, fun hf => ?_, fun a b ha hb hc2 hd2 => ?_⟩
    · by_cases hfx : f ≤ x.no
      · rw [show min f x.no = f by omega] at hf ⊢
        obtain ⟨a, b, ha, hb, hc⟩ := h.some_ hf
        exact ⟨a, b, List.mem_append_left _ ha, List.mem_append_left _ hb, hc⟩
      · rw [show min f x.no = x.no by omega]
        exact ⟨x, y, by simp, List.mem_append_left _ hy, hc, hd, rfl⟩
    · obtain ⟨ra, rb, e1, e2, e3⟩ := convicts_iff.1 hc2
      rcases List.mem_append.1 ha with ha | ha
      · rcases List.mem_append.1 hb with hb | hb
        · have := h.low a b ha hb hc2 hd2; omega
        · rw [List.mem_singleton.1 hb] at e2; omega
      · rw [List.mem_singleton.1 ha]; omega
  · rw [if_neg hh]
    refine ⟨h.hi, fun hf => ?_, fun a b ha hb hc2 hd2 => ?_⟩
    · obtain ⟨a, b, ha, hb, hc⟩ := h.some_ hf
      exact ⟨a, b, List.mem_append_left _ ha, List.mem_append_left _ hb, hc⟩
    · rcases List.mem_append.1 ha with ha | ha
      · rcases List.mem_append.1 hb with hb | hb
        · exact h.low a b ha hb hc2 hd2
        · rw [List.mem_singleton.1 hb] at hc2
          exact absurd (hitB_iff.2 ⟨a, ha, convicts_sym hc2⟩) hh
      · rw [List.mem_singleton.1 ha] at hc2 ⊢
        rcases List.mem_append.1 hb with hb | hb
        · exact absurd (hitB_iff.2 ⟨b, hb, hc2⟩) hh
        · rw [List.mem_singleton.1 hb] at hc2
          exact absurd rfl (convicts_iff.1 hc2).2.2.2.2
/-- the numbers that there are of a device -/
def ThereI (d : Int) (L : List EntV) (t : List Bool) : Prop := t.length = 401 ∧ ∀ n : Nat, n < 401 → (t.getD n false = true ↔ ∃ x ∈ L, RightE x ∧ x.dev = d ∧ x.no = (n : Int))
theorem thereI_nil (d : Int) : ThereI d [] (List.replicate 401 false) := ⟨List.length_replicate, fun n hn => by
  rw [List.getD_eq_getElem?_getD, List.getElem?_replicate, if_pos hn]
  exact ⟨fun h => (by cases h), fun ⟨x, hx, _⟩ => (by cases hx)⟩⟩
theorem ThereI.skip {d : Int} {L : List EntV} {t : List Bool} (h : ThereI d L t) {x : EntV} (hx : ¬ (RightE x ∧ x.dev = d)) : ThereI d (L ++ [x]) t := ⟨h.1, fun n hn => (h.2 n hn).trans ⟨fun ⟨y, hy, hr⟩ => ⟨y, List.mem_append_left _ hy, hr⟩, fun ⟨y, hy, hr, hd, hno⟩ => by
  rcases List.mem_append.1 hy with hy | hy
  · exact ⟨y, hy, hr, hd, hno⟩
  · rw [List.mem_singleton.1 hy] at hr hd
    exact absurd ⟨hr, hd⟩ hx⟩⟩
theorem ThereI.step {d : Int} {L : List EntV} {t : List Bool} (h : ThereI d L t) {x : EntV} {k : Nat} (hx : RightE x) (hd : x.dev = d) (hk : x.no = (k : Int)) : ThereI d (L ++ [x]) (t.set k true) := ⟨by rw [List.length_set]; exact h.1, fun n hn => by
  rw [List.getD_eq_getElem?_getD, List.getElem?_set]
  by_cases hkn : k = n
  · subst hkn
    rw [if_pos rfl, if_pos (by rw [h.1]; exact hn)]
    exact ⟨fun _ => ⟨x, by simp, hx, hd, hk⟩, fun _ => rfl⟩
  · rw [if_neg hkn, ← List.getD_eq_getElem?_getD, h.2 n hn]
    exact ⟨fun ⟨y, hy, hr⟩ => ⟨y, List.mem_append_left _ hy, hr⟩, fun ⟨y, hy, hr, hd, hno⟩ => by
      rcases List.mem_append.1 hy with hy | hy
      · exact ⟨y, hy, hr, hd, hno⟩
      · rw [List.mem_singleton.1 hy] at hno; omega⟩⟩
def needR (d : Nat) (L : List EntV) : Int := needGo d (L.filter rightB) 0
theorem needR_skip (d : Nat) (L : List EntV) {x : EntV} (hx : rightB x = false) : needR d (L ++ [x]) = needR d L := by
  unfold needR
  rw [List.filter_append, List.filter_cons_of_neg (by rw [hx]; simp)]
  simp
theorem needR_step (d : Nat) (L : List EntV) {x : EntV} (hx : rightB x = true) : needR d (L ++ [x]) = max (if x.dev = (d : Int) then max (needR d L) x.no else needR d L) (x.seen.getD d 0) := by
  unfold needR
  rw [List.filter_append, List.filter_cons_of_pos hx, List.filter_nil, needGo_snoc]
theorem needR_join (d : Nat) (V : List EntV) : needR d V = needGo d (joinF V) 0 := by
  have h1 : ∀ n : Nat, ((n : Int) < needR d V ↔ (n : Int) < needGo d (joinF V) 0) := fun n => by
    unfold needR
    rw [need_iff, need_iff]
    constructor
    · rintro ⟨x, hx, h⟩
      obtain ⟨h1, h2⟩ := List.mem_filter.1 hx
      exact ⟨x, mem_joinF.2 ⟨h1, rightB_true.1 h2⟩, h⟩
    · rintro ⟨x, hx, h⟩
      obtain ⟨h1, h2⟩ := mem_joinF.1 hx
      exact ⟨x, List.mem_filter.2 ⟨h1, rightB_true.2 h2⟩, h⟩
  have h0 : ∀ L : List EntV, 0 ≤ needGo d L 0 := fun L => (needGo_le.1 (Int.le_refl _)).1
  have a := h0 (V.filter rightB)
  have b := h0 (joinF V)
  have c := h1 ((needR d V).toNat - 1)
  have e := h1 ((needGo d (joinF V) 0).toNat - 1)
  have f := h1 (needR d V).toNat
  have g := h1 (needGo d (joinF V) 0).toNat
  unfold needR at *
  omega
theorem needR_le (d : Nat) (V : List EntV) : 0 ≤ needR d V ∧ needR d V ≤ 400 := by
  refine ⟨(needGo_le.1 (Int.le_refl _)).1, needGo_le.2 ⟨by omega, fun x hx => ?_⟩⟩
  have hr := rightB_true.1 (List.mem_filter.1 hx).2
  refine ⟨fun _ => by have := hr.n1; omega, ?_⟩
  rw [List.getD_eq_getElem?_getD]
  cases h : x.seen[d]? with
  | none => simp
  | some n => exact (hr.rng n (List.mem_of_getElem? h)).2
/-- the convicted ones -/
theorem first_forks {d : Nat} {V : List EntV} {f : Int} (h : FirstI (d : Int) V f) : (d : Int) ∈ forkO V ↔ f < 400 := by
  rw [mem_forkO, forkB_iff (joinF_asc V) (joinF_right V)]
  constructor
  · rintro ⟨x, y, hx, hy, hc, hd⟩
    have h1 := h.low x y (mem_joinF.1 hx).1 (mem_joinF.1 hy).1 hc hd
    have := (mem_joinF.1 hx).2.n1
    omega
  · intro hf
    obtain ⟨x, y, hx, hy, hc, hd, _⟩ := h.some_ hf
    obtain ⟨ra, rb, _⟩ := convicts_iff.1 hc
    exact ⟨x, y, mem_joinF.2 ⟨hx, ra⟩, mem_joinF.2 ⟨hy, rb⟩, hc, hd⟩
theorem heads_first {d : Nat} (hd8 : d < 8) {V : List EntV} {f : Int} (h : FirstI (d : Int) V f) : (((ordF V).1.getD d 0 : Nat) : Int) ≤ f := by
  have h1 := (run_ends V).1.le d hd8
  rw [pasts_at _ hd8] at h1
  by_cases hf : f < 400
  · obtain ⟨x, y, hx, hy, hc, hd, hno⟩ := h.some_ hf
    obtain ⟨ra, rb, _⟩ := convicts_iff.1 hc
    have h2 := past_below (joinF_asc V) (mem_joinF.2 ⟨hx, ra⟩) (mem_joinF.2 ⟨hy, rb⟩) hc hd
    omega
  · have h3 := past_len400 (joinF V) (d : Int)
    omega
/-- the least number below N that is not there, of those above n; or -1 -/
def GapI (t : List Bool) (N n gap : Int) : Prop := (gap = -1 ∧ ∀ m : Nat, n < (m : Int) → (m : Int) < N → t.getD m false = true) ∨ (∃ q : Nat, gap = (q : Int) ∧ n < (q : Int) ∧ (q : Int) < N ∧ t.getD q false = false ∧ ∀ m : Nat, n < (m : Int) → m < q → t.getD m false = true)
theorem gapI_start (t : List Bool) (N : Int) : GapI t N (N - 1) (-1) := .inl ⟨rfl, fun m h1 h2 => by omega⟩
theorem GapI.step {t : List Bool} {N gap : Int} {k : Nat} (h : GapI t N (k : Int) gap) (hk : (k : Int) < N) : GapI t N ((k : Int) - 1) (if t.getD k false = false then (k : Int) else gap) := by
  by_cases ht : t.getD k false = false
  · rw [if_pos ht]
    exact .inr ⟨k, rfl, by omega, hk, ht, fun m h1 h2 => by omega⟩
  · rw [if_neg ht]
    have ht' : t.getD k false = true := by simpa using ht
    rcases h with ⟨h1, h2⟩ | ⟨q, h1, h2, h3, h4, h5⟩
    · refine .inl ⟨h1, fun m a b => ?_⟩
      by_cases e : m = k
      · rw [e]; exact ht'
      · exact h2 m (by omega) b
    · refine .inr ⟨q, h1, by omega, h3, h4, fun m a b => ?_⟩
      by_cases e : m = k
      · rw [e]; exact ht'
      · exact h5 m (by omega) b
/-- what is missing of a device, or -1 -/
def foundF (J : List EntV) (d : Nat) : Int := if ((nextGo (d : Int) J 0 : Nat) : Int) < needGo d J 0 then ((nextGo (d : Int) J 0 : Nat) : Int) else -1
theorem gap_end {d : Nat} {V : List EntV} {t : List Bool} {gap : Int} (ht : ThereI (d : Int) V t) (h : GapI t (needR d V) (-1) gap) : gap = foundF (joinF V) d := by
  have hle := needR_le d V
  obtain ⟨_, n1, n2⟩ := nextGo_is (d := (d : Int)) (l := joinF V) (n := 0) (joinF_asc V) (fun x hx _ => by have := (joinF_right V x hx).n0; omega)
  have hin : ∀ n : Nat, n < 401 → (t.getD n false = true ↔ ∃ x ∈ joinF V, x.dev = (d : Int) ∧ x.no = (n : Int)) := fun n hn => (ht.2 n hn).trans
    ⟨fun ⟨x, a, b, c, e⟩ => ⟨x, mem_joinF.2 ⟨a, b⟩, c, e⟩, fun ⟨x, a, c, e⟩ => ⟨x, (mem_joinF.1 a).1, (mem_joinF.1 a).2, c, e⟩⟩
  unfold foundF
  rw [← needR_join]
  generalize nextGo (d : Int) (joinF V) 0 = q at *
  rcases h with ⟨rfl, h2⟩ | ⟨g, rfl, h2, h3, h4, h5⟩
  · rw [if_neg]
    intro hq
    exact n2 ((hin q (by omega)).1 (h2 q (by omega) hq))
  · have hgq : g = q := by
      rcases Nat.lt_trichotomy g q with a | a | a
      · have := (hin g (by omega)).2 (n1 g (by omega) a)
        rw [h4] at this; cases this
      · exact a
      · exact absurd ((hin q (by omega)).1 (h5 q (by omega) a)) n2
    subst hgq
    rw [if_pos h3]
def FoundI (d : Nat) (L : List (Nat × Nat)) (f : Int) : Prop := (f = -1 ∧ ∀ p ∈ L, p.1 ≠ d) ∨ (∃ no : Nat, (d, no) ∈ L ∧ f = (no : Int))
theorem FoundI.step {d : Nat} {L : List (Nat × Nat)} {f : Int} (h : FoundI d L f) (a b : Nat) : FoundI d (L ++ [(a, b)]) (if a = d then (b : Int) else f) := by
  by_cases e : a = d
  · rw [if_pos e]
    exact .inr ⟨b, by rw [e]; simp, rfl⟩
  · rw [if_neg e]
    rcases h with ⟨h1, h2⟩ | ⟨no, h1, h2⟩
    · refine .inl ⟨h1, fun p hp => ?_⟩
      rcases List.mem_append.1 hp with hp | hp
      · exact h2 p hp
      · rw [List.mem_singleton.1 hp]; exact e
    · exact .inr ⟨no, List.mem_append_left _ h1, h2⟩
theorem mem_missF {J : List EntV} {d no : Nat} : (d, no) ∈ missF J ↔ d < 8 ∧ ((nextGo (d : Int) J 0 : Nat) : Int) < needGo d J 0 ∧ no = nextGo (d : Int) J 0 := by
  unfold missF
  rw [List.mem_filterMap]
  constructor
  · rintro ⟨a, ha, h⟩
    split at h
    · rename_i hc
      injection h with h
      injection h with h1 h2
      subst h1
      exact ⟨List.mem_range.1 ha, hc, h2.symm⟩
    · cases h
  · rintro ⟨h1, h2, rfl⟩
    exact ⟨d, List.mem_range.2 h1, by rw [if_pos h2]⟩
theorem found_end {J : List EntV} {d : Nat} (hd : d < 8) {f : Int} (h : FoundI d (missF J) f) : f = foundF J d := by
  unfold foundF
  rcases h with ⟨rfl, h2⟩ | ⟨no, h1, rfl⟩
  · rw [if_neg]
    intro hc
    exact h2 _ (mem_missF.2 ⟨hd, hc, rfl⟩) rfl
  · obtain ⟨_, h2, rfl⟩ := mem_missF.1 h1
    rw [if_pos h2]
theorem miss_le8 (J : List EntV) : (missF J).length ≤ 8 := Nat.le_trans (List.length_filterMap_le _ _) (by simp)
end Go.Proofs.YtnnnibkainlplaaDoor
