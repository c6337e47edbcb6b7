/- merge: the order of entries, joined lists, in plain Lean. -/
/- merge: the past of a device, in plain Lean. -/
/- merge: the order in which entries count, in plain Lean. -/
/- merge: what counts goes on counting when more is joined, in plain Lean. -/
/- merge: what the reference says of pasts and of what is missing; what is convicted counts only below its first number, in plain Lean. -/
/- merge: what honest devices write counts as a whole, in plain Lean. -/
/- merge: an honest device writes, in plain Lean. -/
import Derived.Test.YtjncmlglhegnaaaGreatDoorChainLP
namespace Go.Proofs.YtjncmlglhegnaaaGreatDoor
open Go.Lib

/-- an entry comes before another one in a joined list -/
def ltE (x y : EntV) : Prop := x.dev < y.dev ∨ (x.dev = y.dev ∧ (x.no < y.no ∨ (x.no = y.no ∧ encE x < encE y)))
instance ltEDec (x y : EntV) : Decidable (ltE x y) := by unfold ltE; exact inferInstance
theorem ltE_irrefl (x : EntV) : ¬ ltE x x := fun h => by
  rcases h with h | ⟨_, h | ⟨_, h⟩⟩
  · omega
  · omega
  · exact List.lt_irrefl _ h
theorem ltE_trans {x y z : EntV} (h1 : ltE x y) (h2 : ltE y z) : ltE x z := by
  unfold ltE at *
  rcases h1 with h1 | ⟨e1, h1 | ⟨f1, h1⟩⟩ <;> rcases h2 with h2 | ⟨e2, h2 | ⟨f2, h2⟩⟩
  · left; omega
  · left; omega
  · left; omega
  · left; omega
  · right; exact ⟨by omega, .inl (by omega)⟩
  · right; exact ⟨by omega, .inl (by omega)⟩
  · left; omega
  · right; exact ⟨by omega, .inl (by omega)⟩
  · right; exact ⟨by omega, .inr ⟨by omega, List.lt_trans h1 h2⟩⟩
theorem ltE_asymm {x y : EntV} (h1 : ltE x y) (h2 : ltE y x) : False := ltE_irrefl x (ltE_trans h1 h2)
theorem encE_inj {x y : EntV} (hx : RightE x) (hy : RightE y) (h : encE x = encE y) : x = y := by
  have h1 := decE_enc hx
  have h2 := decE_enc hy
  rw [h, h2] at h1
  exact (congrArg (fun p => p.1) h1).symm
theorem bytes_tri (a b : List UInt8) : a < b ∨ a = b ∨ b < a := by
  by_cases h1 : a < b
  · exact .inl h1
  · by_cases h2 : b < a
    · exact .inr (.inr h2)
    · exact .inr (.inl (List.le_antisymm (List.not_lt.1 h2) (List.not_lt.1 h1)))
theorem ltE_tri {x y : EntV} (hx : RightE x) (hy : RightE y) : ltE x y ∨ x = y ∨ ltE y x := by
  by_cases h1 : x.dev < y.dev
  · exact .inl (.inl h1)
  by_cases h2 : y.dev < x.dev
  · exact .inr (.inr (.inl h2))
  by_cases h3 : x.no < y.no
  · exact .inl (.inr ⟨by omega, .inl h3⟩)
  by_cases h4 : y.no < x.no
  · exact .inr (.inr (.inr ⟨by omega, .inl h4⟩))
  rcases bytes_tri (encE x) (encE y) with h | h | h
  · exact .inl (.inr ⟨by omega, .inr ⟨by omega, h⟩⟩)
  · exact .inr (.inl (encE_inj hx hy h))
  · exact .inr (.inr (.inr ⟨by omega, .inr ⟨by omega, h⟩⟩))
/-- ascending, each once -/
def Asc (l : List EntV) : Prop := l.Pairwise ltE
def AllR (l : List EntV) : Prop := ∀ x ∈ l, RightE x
theorem asc_unique : ∀ {l m : List EntV}, Asc l → Asc m → (∀ x, x ∈ l ↔ x ∈ m) → l = m
  | [], [], _, _, _ => rfl
  | [], y :: m, _, _, h => by have := (h y).2 (by simp); simp at this
  | x :: l, [], _, _, h => by have := (h x).1 (by simp); simp at this
  | x :: l, y :: m, hl, hm, h => by
    have hl' := List.pairwise_cons.1 hl
    have hm' := List.pairwise_cons.1 hm
    have e : x = y := by
      rcases List.mem_cons.1 ((h x).1 (by simp)) with e | e
      · exact e
      · rcases List.mem_cons.1 ((h y).2 (by simp)) with e2 | e2
        · exact e2.symm
        · exact (ltE_asymm (hl'.1 y e2) (hm'.1 x e)).elim
    subst e
    rw [asc_unique hl'.2 hm'.2 fun z => ?_]
    constructor
    · intro hz
      rcases List.mem_cons.1 ((h z).1 (List.mem_cons_of_mem _ hz)) with e | e
      · subst e; exact (ltE_irrefl _ (hl'.1 _ hz)).elim
      · exact e
    · intro hz
      rcases List.mem_cons.1 ((h z).2 (List.mem_cons_of_mem _ hz)) with e | e
      · subst e; exact (ltE_irrefl _ (hm'.1 _ hz)).elim
      · exact e
/-- an entry is put in its place -/
def putE (x : EntV) : List EntV → List EntV
  | [] => [x]
  | y :: l => if y = x then y :: l else if ltE x y then x :: y :: l else y :: putE x l
theorem mem_putE {x y : EntV} : ∀ {l : List EntV}, y ∈ putE x l ↔ y = x ∨ y ∈ l
  | [] => by simp [putE]
  | z :: l => by
    unfold putE
    by_cases h1 : z = x
    · rw [if_pos h1]
      subst h1
      exact ⟨fun h => .inr h, fun h => h.elim (fun e => by subst e; simp) id⟩
    · rw [if_neg h1]
      by_cases h2 : ltE x z
      · rw [if_pos h2]; exact List.mem_cons
      · rw [if_neg h2]
        simp only [List.mem_cons, mem_putE (l := l)]
        exact ⟨fun h => h.elim (fun e => .inr (.inl e)) (fun h => h.elim .inl fun h => .inr (.inr h)), fun h => h.elim (fun e => .inr (.inl e)) (fun h => h.elim .inl fun h => .inr (.inr h))⟩
theorem putE_asc {x : EntV} (hx : RightE x) : ∀ {l : List EntV}, Asc l → AllR l → Asc (putE x l)
  | [], _, _ => by simp [putE, Asc]
  | z :: l, ha, hr => by
    have ha' := List.pairwise_cons.1 ha
    unfold putE
    by_cases h1 : z = x
    · rw [if_pos h1]; exact ha
    · rw [if_neg h1]
      by_cases h2 : ltE x z
      · rw [if_pos h2]
        refine List.pairwise_cons.2 ⟨fun y hy => ?_, ha⟩
        rcases List.mem_cons.1 hy with e | e
        · rw [e]; exact h2
        · exact ltE_trans h2 (ha'.1 y e)
      · rw [if_neg h2]
        refine List.pairwise_cons.2 ⟨fun y hy => ?_, putE_asc hx ha'.2 fun y hy => hr y (List.mem_cons_of_mem _ hy)⟩
        rcases mem_putE.1 hy with e | e
        · rw [e]
          rcases ltE_tri (hr z (by simp)) hx with h | h | h
          · exact h
          · exact (h1 h).elim
          · exact (h2 h).elim
        · exact ha'.1 y e
/-- the joined list of a list -/
def joinF : List EntV → List EntV
  | [] => []
  | x :: l => if rightB x = true then putE x (joinF l) else joinF l
theorem mem_joinF {y : EntV} : ∀ {l : List EntV}, y ∈ joinF l ↔ y ∈ l ∧ RightE y
  | [] => by simp [joinF]
  | x :: l => by
    unfold joinF
    by_cases h : rightB x = true
    · rw [if_pos h, mem_putE, mem_joinF (l := l), List.mem_cons]
      constructor
      · rintro (e | ⟨h1, h2⟩)
        · subst e; exact ⟨.inl rfl, rightB_true.1 h⟩
        · exact ⟨.inr h1, h2⟩
      · rintro ⟨e | h1, h2⟩
        · exact .inl e
        · exact .inr ⟨h1, h2⟩
    · rw [if_neg h, mem_joinF (l := l), List.mem_cons]
      constructor
      · rintro ⟨h1, h2⟩; exact ⟨.inr h1, h2⟩
      · rintro ⟨e | h1, h2⟩
        · subst e; exact (h (rightB_true.2 h2)).elim
        · exact ⟨h1, h2⟩
theorem joinF_right (l : List EntV) : AllR (joinF l) := fun _ hx => (mem_joinF.1 hx).2
theorem joinF_asc : ∀ l : List EntV, Asc (joinF l)
  | [] => List.Pairwise.nil
  | x :: l => by
    unfold joinF
    by_cases h : rightB x = true
    · rw [if_pos h]; exact putE_asc (rightB_true.1 h) (joinF_asc l) (joinF_right l)
    · rw [if_neg h]; exact joinF_asc l
/-- what joins a list: ascending, each once, all that is right -/
theorem joinF_is {l m : List EntV} (ha : Asc m) (hm : ∀ x, x ∈ m ↔ x ∈ l ∧ RightE x) : m = joinF l := asc_unique ha (joinF_asc l) fun x => (hm x).trans mem_joinF.symm
theorem joinF_len : ∀ l : List EntV, (joinF l).length ≤ l.length
  | [] => Nat.le_refl _
  | x :: l => by
    have hp : ∀ m : List EntV, (putE x m).length ≤ m.length + 1 := by
      intro m
      induction m with
      | nil => simp [putE]
      | cons y m ih => unfold putE; split; · simp
                       split
                       · simp
                       · simp only [List.length_cons]; omega
    unfold joinF
    have := joinF_len l
    split
    · have := hp (joinF l); simp only [List.length_cons]; omega
    · simp only [List.length_cons]; omega
/-! ### who is convicted -/
def forkB (l : List EntV) (d : Int) : Bool := (l.zip l.tail).any fun p => convictsB p.1 p.2 && decide (p.2.dev = d)
theorem convicts_iff {x y : EntV} : convictsB x y = true ↔ RightE x ∧ RightE y ∧ x.dev = y.dev ∧ x.no = y.no ∧ x ≠ y := by
  unfold convictsB
  simp only [Bool.and_eq_true, rightB_true, decide_eq_true_eq, Bool.not_eq_true', ← Bool.not_eq_true, sameB_true]
  exact ⟨fun ⟨⟨⟨⟨a, b⟩, c⟩, d⟩, e⟩ => ⟨a, b, c, d, e⟩, fun ⟨a, b, c, d, e⟩ => ⟨⟨⟨⟨a, b⟩, c⟩, d⟩, e⟩⟩
theorem convicts_symm {x y : EntV} (h : convictsB x y = true) : convictsB y x = true := by
  obtain ⟨a, b, c, d, e⟩ := convicts_iff.1 h
  exact convicts_iff.2 ⟨b, a, c.symm, d.symm, fun h => e h.symm⟩
/-- what lies between two entries of the same place has that place -/
theorem ltE_between {x y z : EntV} (h1 : ltE x y) (h2 : ltE y z) (hd : x.dev = z.dev) (hn : x.no = z.no) : y.dev = x.dev ∧ y.no = x.no := by
  unfold ltE at *
  rcases h1 with h1 | ⟨e1, h1 | ⟨f1, h1⟩⟩ <;> rcases h2 with h2 | ⟨e2, h2 | ⟨f2, h2⟩⟩ <;> omega
theorem forkB_iff : ∀ {l : List EntV} {d : Int}, Asc l → AllR l → (forkB l d = true ↔ ∃ x y, x ∈ l ∧ y ∈ l ∧ convictsB x y = true ∧ x.dev = d)
  | [], d, _, _ => by simp [forkB]
  | [x], d, _, _ => by
    simp only [forkB, List.tail_cons, List.zip_nil_right, List.any_nil, Bool.false_eq_true, false_iff]
    rintro ⟨a, b, ha, hb, hc, _⟩
    obtain ⟨_, _, _, _, h⟩ := convicts_iff.1 hc
    exact h ((List.mem_singleton.1 ha).trans (List.mem_singleton.1 hb).symm)
  | x :: z :: l, d, ha, hr => by
    have ha' := List.pairwise_cons.1 ha
    have ih := forkB_iff (l := z :: l) (d := d) ha'.2 fun y hy => hr y (List.mem_cons_of_mem _ hy)
    have e : forkB (x :: z :: l) d = ((convictsB x z && decide (z.dev = d)) || forkB (z :: l) d) := rfl
    rw [e, Bool.or_eq_true, ih, Bool.and_eq_true, decide_eq_true_eq]
    constructor
    · rintro (⟨h1, h2⟩ | ⟨a, b, h1, h2, h3, h4⟩)
      · exact ⟨x, z, by simp, by simp, h1, by rw [(convicts_iff.1 h1).2.2.1]; exact h2⟩
      · exact ⟨a, b, List.mem_cons_of_mem _ h1, List.mem_cons_of_mem _ h2, h3, h4⟩
    · rintro ⟨a, b, h1, h2, h3, h4⟩
      obtain ⟨r1, r2, r3, r4, r5⟩ := convicts_iff.1 h3
      have key : ∀ b, b ∈ z :: l → convictsB x b = true → x.dev = d → convictsB x z = true ∧ z.dev = d := by
        intro b hb hc hd
        obtain ⟨s1, s2, s3, s4, s5⟩ := convicts_iff.1 hc
        have hxz := ha'.1 z (by simp)
        rcases List.mem_cons.1 hb with e | e
        · subst e; exact ⟨hc, by rw [← s3]; exact hd⟩
        · have hzb := (List.pairwise_cons.1 ha'.2).1 b e
          obtain ⟨t1, t2⟩ := ltE_between hxz hzb s3 s4
          exact ⟨convicts_iff.2 ⟨s1, hr z (by simp), t1.symm, t2.symm, fun h => ltE_irrefl z (by rw [h] at hxz; exact hxz)⟩, by rw [t1]; exact hd⟩
      rcases List.mem_cons.1 h1 with e1 | e1
      · subst e1
        rcases List.mem_cons.1 h2 with e2 | e2
        · exact (r5 e2.symm).elim
        · exact .inl (key b e2 h3 h4)
      · rcases List.mem_cons.1 h2 with e2 | e2
        · subst e2
          exact .inl (key a e1 (convicts_symm h3) (by rw [← r3]; exact h4))
        · exact .inr ⟨a, b, e1, e2, h3, h4⟩
end Go.Proofs.YtjncmlglhegnaaaGreatDoor
namespace Go.Proofs.YtjncmlglhegnaaaGreatDoor

/-- the entries of a device -/
def ownF (l : List EntV) (d : Int) : List EntV := l.filter fun x => decide (x.dev = d)
theorem ownF_asc {l : List EntV} (h : Asc l) (d : Int) : Asc (ownF l d) := List.Pairwise.filter _ h
theorem mem_ownF {l : List EntV} {d : Int} {x : EntV} : x ∈ ownF l d ↔ x ∈ l ∧ x.dev = d := by unfold ownF; rw [List.mem_filter, decide_eq_true_eq]
/-- the entry in place n has the number n, and the next one a greater number -/
def soloB (own : List EntV) (n : Nat) : Bool :=
  match own[n]? with
  | none => false
  | some x => decide (x.no = (n : Int)) && (match own[n + 1]? with | none => true | some y => decide ((n : Int) < y.no))
def soloGo (own : List EntV) : Nat → Nat → Nat
  | 0, n => n
  | k + 1, n => if soloB own n = true then soloGo own k (n + 1) else n
def soloN (own : List EntV) : Nat := soloGo own own.length 0
def cutGo (own : List EntV) : Nat → Nat
  | 0 => 0
  | n + 1 => if checkF (own.take (n + 1)) = 0 then n + 1 else cutGo own n
def pastN (own : List EntV) : Nat := cutGo own (soloN own)
def pastF (l : List EntV) (d : Int) : List EntV := (ownF l d).take (pastN (ownF l d))
theorem soloB_lt {own : List EntV} {n : Nat} (h : soloB own n = true) : n < own.length := by
  unfold soloB at h
  rcases Nat.lt_or_ge n own.length with h1 | h1
  · exact h1
  · rw [List.getElem?_eq_none h1] at h; cases h
theorem soloGo_le {own : List EntV} : ∀ {k n : Nat}, n ≤ own.length → n ≤ soloGo own k n ∧ soloGo own k n ≤ own.length ∧ ∀ j, n ≤ j → j < soloGo own k n → soloB own j = true
  | 0, n, h => ⟨Nat.le_refl _, h, fun j h1 h2 => by simp only [soloGo] at h2; omega⟩
  | k + 1, n, h => by
    simp only [soloGo]
    by_cases hs : soloB own n = true
    · rw [if_pos hs]
      have hl := soloB_lt hs
      obtain ⟨h1, h2, h3⟩ := soloGo_le (own := own) (k := k) (n := n + 1) hl
      refine ⟨by omega, h2, fun j h4 h5 => ?_⟩
      by_cases e : j = n
      · rw [e]; exact hs
      · exact h3 j (by omega) h5
    · rw [if_neg hs]
      exact ⟨Nat.le_refl _, h, fun j h4 h5 => by omega⟩
theorem soloGo_max {own : List EntV} : ∀ {k n m : Nat}, own.length ≤ n + k → (∀ j, n ≤ j → j < m → soloB own j = true) → n ≤ m → m ≤ soloGo own k n
  | 0, n, m, hk, h, hm => by
    simp only [soloGo]
    by_cases e : n = m
    · omega
    · have := soloB_lt (h n (Nat.le_refl _) (by omega)); omega
  | k + 1, n, m, hk, h, hm => by
    simp only [soloGo]
    by_cases e : n = m
    · subst e
      split
      · rename_i hs
        have := (soloGo_le (own := own) (k := k) (n := n + 1) (soloB_lt hs)).1
        omega
      · exact Nat.le_refl _
    · rw [if_pos (h n (Nat.le_refl _) (by omega))]
      exact soloGo_max (by omega) (fun j h1 h2 => h j (by omega) h2) (by omega)
theorem soloN_le (own : List EntV) : soloN own ≤ own.length := (soloGo_le (Nat.zero_le _)).2.1
theorem soloN_max {own : List EntV} {m : Nat} (h : ∀ j, j < m → soloB own j = true) : m ≤ soloN own := soloGo_max (by omega) (fun j _ h2 => h j h2) (Nat.zero_le _)
theorem check_nil : checkF [] = 0 := by decide
theorem cutGo_le {own : List EntV} : ∀ n, cutGo own n ≤ n ∧ checkF (own.take (cutGo own n)) = 0
  | 0 => ⟨Nat.le_refl _, by rw [cutGo, List.take_zero]; exact check_nil⟩
  | n + 1 => by
    simp only [cutGo]
    by_cases h : checkF (own.take (n + 1)) = 0
    · rw [if_pos h]; exact ⟨Nat.le_refl _, h⟩
    · rw [if_neg h]
      have := cutGo_le (own := own) n
      exact ⟨by omega, this.2⟩
theorem cutGo_max {own : List EntV} : ∀ {n m : Nat}, m ≤ n → checkF (own.take m) = 0 → m ≤ cutGo own n
  | 0, m, h, _ => by simp only [cutGo]; exact h
  | n + 1, m, h, hc => by
    simp only [cutGo]
    by_cases h1 : checkF (own.take (n + 1)) = 0
    · rw [if_pos h1]; exact h
    · rw [if_neg h1]
      by_cases e : m = n + 1
      · subst e; exact (h1 hc).elim
      · exact cutGo_max (by omega) hc
theorem pastN_le (own : List EntV) : pastN own ≤ own.length := Nat.le_trans (cutGo_le _).1 (soloN_le own)
theorem pastN_max {own : List EntV} {m : Nat} (h : ∀ j, j < m → soloB own j = true) (hc : checkF (own.take m) = 0) : m ≤ pastN own := cutGo_max (soloN_max h) hc
end Go.Proofs.YtjncmlglhegnaaaGreatDoor
namespace Go.Proofs.YtjncmlglhegnaaaGreatDoor

/-- how many entries of the device d an entry wants to be taken before it -/
def demandF (P : List (List EntV)) (F : List Bool) (x : EntV) (d : Nat) : Int := if F.getD d false = true then min (x.seen.getD d 0) ((P.getD d []).length : Int) else x.seen.getD d 0
def blockedB (P : List (List EntV)) (F : List Bool) (t : List Nat) (dev : Nat) (x : EntV) : Bool := (List.range x.seen.length).any fun d => decide (d ≠ dev) && decide (((t.getD d 0 : Nat) : Int) < demandF P F x d)
/-- the next entry of a device, if it is ready -/
def readyF (P : List (List EntV)) (F : List Bool) (t : List Nat) (dev : Nat) : Option EntV :=
  match (P.getD dev [])[t.getD dev 0]? with
  | none => none
  | some x => if blockedB P F t dev x = true then none else some x
def betterF (b : Option EntV) (r : Option EntV) : Option EntV :=
  match r with
  | none => b
  | some x => match b with | none => some x | some y => if x.day < y.day then some x else b
def pickGo (P : List (List EntV)) (F : List Bool) (t : List Nat) : Nat → Nat → Option EntV → Option EntV
  | 0, _, b => b
  | k + 1, d, b => pickGo P F t k (d + 1) (betterF b (readyF P F t d))
def pickF (P : List (List EntV)) (F : List Bool) (t : List Nat) : Option EntV := pickGo P F t 8 0 none
def pastsF (J : List EntV) : List (List EntV) := (List.range 8).map fun d : Nat => pastF J (d : Int)
def forksF (J : List EntV) : List Bool := (List.range 8).map fun d : Nat => forkB J (d : Int)
theorem pasts_at (J : List EntV) {d : Nat} (h : d < 8) : (pastsF J).getD d [] = pastF J (d : Int) := by
  unfold pastsF
  rw [List.getD_eq_getElem?_getD, List.getElem?_map, List.getElem?_range h]
  rfl
theorem forks_at (J : List EntV) {d : Nat} (h : d < 8) : (forksF J).getD d false = forkB J (d : Int) := by
  unfold forksF
  rw [List.getD_eq_getElem?_getD, List.getElem?_map, List.getElem?_range h]
  rfl
theorem blocked_iff {P : List (List EntV)} {F : List Bool} {t : List Nat} {dev : Nat} {x : EntV} : blockedB P F t dev x = false ↔ ∀ d : Nat, d < x.seen.length → d ≠ dev → demandF P F x d ≤ ((t.getD d 0 : Nat) : Int) := by
  unfold blockedB
  rw [List.any_eq_false]
  constructor
  · intro h d hd hne
    have := h d (List.mem_range.2 hd)
    simp only [Bool.and_eq_true, decide_eq_true_eq, not_and, Int.not_lt] at this
    exact this hne
  · intro h d hd
    simp only [Bool.and_eq_true, decide_eq_true_eq, not_and, Int.not_lt]
    exact fun hne => h d (List.mem_range.1 hd) hne
theorem ready_iff {P : List (List EntV)} {F : List Bool} {t : List Nat} {dev : Nat} {x : EntV} : readyF P F t dev = some x ↔ (P.getD dev [])[t.getD dev 0]? = some x ∧ blockedB P F t dev x = false := by
  unfold readyF
  cases h : (P.getD dev [])[t.getD dev 0]? with
  | none => simp
  | some y =>
    simp only
    by_cases hb : blockedB P F t dev y = true
    · rw [if_pos hb]
      constructor
      · intro h2; cases h2
      · rintro ⟨h1, h2⟩
        have e := Option.some.inj h1
        rw [e, h2] at hb
        cases hb
    · rw [if_neg hb]
      have hb' : blockedB P F t dev y = false := by simpa using hb
      exact ⟨fun h2 => by have e := Option.some.inj h2; rw [← e]; exact ⟨rfl, hb'⟩, fun h2 => h2.1⟩
theorem better_none {b r : Option EntV} (h : betterF b r = none) : b = none ∧ r = none := by
  unfold betterF at h
  cases r with
  | none => exact ⟨h, rfl⟩
  | some y =>
    cases b with
    | none => cases h
    | some z => simp only at h; split at h <;> cases h
theorem pickGo_none {P : List (List EntV)} {F : List Bool} {t : List Nat} : ∀ {k d : Nat} {b : Option EntV}, pickGo P F t k d b = none → b = none ∧ ∀ e, d ≤ e → e < d + k → readyF P F t e = none
  | 0, d, b, h => ⟨h, fun e h1 h2 => by omega⟩
  | k + 1, d, b, h => by
    simp only [pickGo] at h
    obtain ⟨h1, h2⟩ := pickGo_none h
    obtain ⟨h3, h4⟩ := better_none h1
    refine ⟨h3, fun e h5 h6 => ?_⟩
    by_cases he : e = d
    · rw [he]; exact h4
    · exact h2 e (by omega) (by omega)
theorem pick_none {P : List (List EntV)} {F : List Bool} {t : List Nat} (h : pickF P F t = none) {e : Nat} (he : e < 8) : readyF P F t e = none := (pickGo_none h).2 e (Nat.zero_le _) (by omega)
def countF (out : List EntV) (d : Nat) : Nat := (ownF out (d : Int)).length
/-- what the run keeps: of each device the first entries of its past are taken, each behind all that it wants -/
structure RunI (P : List (List EntV)) (F : List Bool) (t : List Nat) (out : List EntV) : Prop where
  len : t.length = 8
  le : ∀ d : Nat, d < 8 → t.getD d 0 ≤ (P.getD d []).length
  own : ∀ d : Nat, d < 8 → ownF out (d : Int) = (P.getD d []).take (t.getD d 0)
  wants : ∀ i x, out[i]? = some x → ∀ d : Nat, d < x.seen.length → (d : Int) ≠ x.dev → demandF P F x d ≤ ((countF (out.take i) d : Nat) : Int)
  dev : ∀ x ∈ out, 0 ≤ x.dev ∧ x.dev ≤ 7
end Go.Proofs.YtjncmlglhegnaaaGreatDoor
namespace Go.Proofs.YtjncmlglhegnaaaGreatDoor

/-- the numbers ascend -/
def NoUp (l : List EntV) : Prop := l.Pairwise fun x y => x.no < y.no
theorem noUp_at {l : List EntV} (h : NoUp l) {i j : Nat} {x y : EntV} (hi : l[i]? = some x) (hj : l[j]? = some y) (hij : i < j) : x.no < y.no := by
  obtain ⟨h1, e1⟩ := List.getElem?_eq_some_iff.1 hi
  obtain ⟨h2, e2⟩ := List.getElem?_eq_some_iff.1 hj
  have := List.pairwise_iff_getElem.1 h i j h1 h2 hij
  rw [e1, e2] at this
  exact this
theorem noUp_own {l : List EntV} {d : Int} (ha : Asc l) (hr : AllR l) (hf : forkB l d = false) : NoUp (ownF l d) := by
  refine List.Pairwise.imp_of_mem ?_ (ownF_asc ha d)
  intro x y hx hy hlt
  obtain ⟨hx1, hx2⟩ := mem_ownF.1 hx
  obtain ⟨hy1, hy2⟩ := mem_ownF.1 hy
  rcases hlt with h | ⟨_, h | ⟨h1, h2⟩⟩
  · omega
  · exact h
  · exfalso
    have : forkB l d = true := (forkB_iff ha hr).2 ⟨x, y, hx1, hy1, convicts_iff.2 ⟨hr x hx1, hr y hy1, by omega, h1, fun e => List.lt_irrefl _ (by rw [e] at h2; exact h2)⟩, hx2⟩
    rw [hf] at this
    cases this
theorem noUp_ge {l : List EntV} (h : NoUp l) (h0 : ∀ x ∈ l, 0 ≤ x.no) : ∀ (i : Nat) (x : EntV), l[i]? = some x → (i : Int) ≤ x.no
  | 0, x, hx => h0 x (List.mem_of_getElem? hx)
  | i + 1, x, hx => by
    obtain ⟨h1, _⟩ := List.getElem?_eq_some_iff.1 hx
    have h2 := noUp_ge h h0 i l[i] (List.getElem?_eq_getElem (by omega))
    have h3 := noUp_at h (List.getElem?_eq_getElem (by omega)) hx (Nat.lt_succ_self i)
    omega
section
variable {l more : List EntV}
end
end Go.Proofs.YtjncmlglhegnaaaGreatDoor
namespace Go.Proofs.YtjncmlglhegnaaaGreatDoor

/-! ### the reference's past -/
/-! ### what is missing -/
end Go.Proofs.YtjncmlglhegnaaaGreatDoor
namespace Go.Proofs.YtjncmlglhegnaaaGreatDoor

/-- what honest devices have written, in the order in which they wrote it -/
structure Hon (A : List EntV) : Prop where
  right : AllR A
  once : ∀ (i j : Nat) (x y : EntV), A[i]? = some x → A[j]? = some y → x.dev = y.dev → x.no = y.no → i = j
  seen : ∀ (i : Nat) (x : EntV), A[i]? = some x → ∀ e : Nat, e < 8 → ∀ k : Nat, (k : Int) < x.seen.getD e 0 → ∃ (j : Nat) (y : EntV), j < i ∧ A[j]? = some y ∧ y.dev = (e : Int) ∧ y.no = (k : Int)
  chain : ∀ e : Nat, e < 8 → checkF (ownF A (e : Int)) = 0
/-- a list that holds all that its entries had seen -/
structure Closed (A K : List EntV) : Prop where
  asc : Asc K
  sub : ∀ x ∈ K, x ∈ A
  seen : ∀ x ∈ K, ∀ e : Nat, e < 8 → ∀ k : Nat, (k : Int) < x.seen.getD e 0 → ∃ y ∈ K, y.dev = (e : Int) ∧ y.no = (k : Int)
section
variable {A K : List EntV}
theorem Closed.right (hA : Hon A) (h : Closed A K) : AllR K := fun x hx => hA.right x (h.sub x hx)
theorem Hon.same (hA : Hon A) {x y : EntV} (hx : x ∈ A) (hy : y ∈ A) (hd : x.dev = y.dev) (hn : x.no = y.no) : x = y := by
  obtain ⟨i, hi⟩ := List.getElem?_of_mem hx
  obtain ⟨j, hj⟩ := List.getElem?_of_mem hy
  have e := hA.once i j x y hi hj hd hn
  rw [e, hj] at hi
  exact (Option.some.inj hi).symm
theorem seen_own {x : EntV} (h : RightE x) {e : Nat} (he : x.dev = (e : Int)) : x.seen.getD e 0 = x.no := by
  have := h.own
  rw [he, Int.toNat_natCast] at this
  rw [List.getD_eq_getElem?_getD, this]
  rfl
theorem Closed.fork (hA : Hon A) (h : Closed A K) (d : Int) : forkB K d = false := by
  cases hf : forkB K d with
  | false => rfl
  | true =>
    obtain ⟨x, y, hx, hy, hc, _⟩ := (forkB_iff h.asc (h.right hA)).1 hf
    obtain ⟨_, _, h1, h2, h3⟩ := convicts_iff.1 hc
    exact (h3 (hA.same (h.sub x hx) (h.sub y hy) h1 h2)).elim
/-- the entries of a device, in the place of their number -/
theorem own_at_no (hA : Hon A) (h : Closed A K) {e : Nat} (he : e < 8) : ∀ (i : Nat) (x : EntV), (ownF K (e : Int))[i]? = some x → x.no = (i : Int) := by
  have hup : NoUp (ownF K (e : Int)) := noUp_own h.asc (h.right hA) (h.fork hA _)
  have h0 : ∀ x ∈ ownF K (e : Int), 0 ≤ x.no := fun x hx => (h.right hA x (mem_ownF.1 hx).1).n0
  intro i x hx
  have hge := noUp_ge hup h0 i x hx
  rcases Int.lt_or_le (i : Int) x.no with hlt | hle
  · exfalso
    obtain ⟨hxK, hxd⟩ := mem_ownF.1 (List.mem_of_getElem? hx)
    obtain ⟨y, hy, hyd, hyn⟩ := h.seen x hxK e he i (by rw [seen_own (h.right hA x hxK) hxd]; exact hlt)
    obtain ⟨p, hp⟩ := List.getElem?_of_mem (mem_ownF.2 ⟨hy, hyd⟩)
    have h1 := noUp_ge hup h0 p y hp
    rcases Nat.eq_or_lt_of_le (show p ≤ i by omega) with e1 | e1
    · rw [e1, hx] at hp
      have := Option.some.inj hp
      rw [this] at hlt
      omega
    · -- the entry p has the number i, and the entries below i are too few
      have key : ∀ (m : Nat) (z : EntV), m ≤ i → (ownF K (e : Int))[m]? = some z → m < i → z.no = (m : Int) := by
        intro m
        induction m using Nat.strongRecOn with
        | ind m ih =>
          intro z hm hz hmi
          have h2 := noUp_ge hup h0 m z hz
          rcases Int.lt_or_le (m : Int) z.no with h3 | h3
          · exfalso
            obtain ⟨hzK, hzd⟩ := mem_ownF.1 (List.mem_of_getElem? hz)
            obtain ⟨u, hu, hud, hun⟩ := h.seen z hzK e he m (by rw [seen_own (h.right hA z hzK) hzd]; exact h3)
            obtain ⟨q, hq⟩ := List.getElem?_of_mem (mem_ownF.2 ⟨hu, hud⟩)
            have h4 := noUp_ge hup h0 q u hq
            rcases Nat.eq_or_lt_of_le (show q ≤ m by omega) with h5 | h5
            · rw [h5, hz] at hq
              have := Option.some.inj hq
              rw [this] at h3
              omega
            · have := ih q h5 u (by omega) hq (by omega)
              omega
          · omega
      have := key p y (by omega) hp e1
      omega
  · omega
/-- the first entries of two lists of a device are the same -/
theorem own_pre (hA : Hon A) (h : Closed A K) {e : Nat} (he : e < 8) (hc : ∀ (i : Nat) (x : EntV), (ownF A (e : Int))[i]? = some x → x.no = (i : Int)) : ownF K (e : Int) = (ownF A (e : Int)).take (ownF K (e : Int)).length := by
  apply List.ext_getElem?
  intro i
  rw [List.getElem?_take]
  split
  · rename_i hi
    have hx := List.getElem?_eq_getElem hi
    have hm := mem_ownF.1 (List.getElem_mem hi)
    have hn := own_at_no hA h he i _ hx
    obtain ⟨p, hp⟩ := List.getElem?_of_mem (mem_ownF.2 ⟨h.sub _ hm.1, hm.2⟩)
    have hp2 := hc p _ hp
    have e1 : p = i := by omega
    rw [hx]
    rw [e1] at hp
    exact hp.symm
  · rename_i hi
    rw [List.getElem?_eq_none (by omega)]
theorem chain_no {l : List EntV} (h : checkF l = 0) : ∀ (i : Nat) (x : EntV), l[i]? = some x → x.no = (i : Int) := fun i x hx => (check_at h hx).no
/-- all that a closed list has of a device is its past -/
theorem Closed.past (hA : Hon A) (h : Closed A K) {e : Nat} (he : e < 8) : pastF K (e : Int) = ownF K (e : Int) := by
  have hat := own_at_no hA h he
  have hck : checkF (ownF K (e : Int)) = 0 := by
    rw [own_pre hA h he (chain_no (hA.chain e he))]
    exact check_take (hA.chain e he) _
  have hn : pastN (ownF K (e : Int)) = (ownF K (e : Int)).length := by
    refine Nat.le_antisymm (pastN_le _) (pastN_max (fun j hj => ?_) (by rw [List.take_length]; exact hck))
    obtain ⟨x, hx⟩ : ∃ x, (ownF K (e : Int))[j]? = some x := ⟨_, List.getElem?_eq_getElem hj⟩
    unfold soloB
    rw [hx]
    simp only [Bool.and_eq_true, decide_eq_true_eq]
    refine ⟨hat j x hx, ?_⟩
    cases hy : (ownF K (e : Int))[j + 1]? with
    | none => rfl
    | some y => have := hat (j + 1) y hy; simp only [decide_eq_true_eq]; omega
  unfold pastF
  rw [hn, List.take_length]
/-- of a closed list everything counts -/
theorem Closed.all (hA : Hon A) (h : Closed A K) {t : List Nat} {out : List EntV} (hr : RunI (pastsF K) (forksF K) t out) (hp : pickF (pastsF K) (forksF K) t = none) : ∀ e : Nat, e < 8 → t.getD e 0 = (ownF K (e : Int)).length := by
  have hP : ∀ e : Nat, e < 8 → (pastsF K).getD e [] = ownF K (e : Int) := fun e he => by rw [pasts_at _ he, h.past hA he]
  -- an entry of A in place i that lies in K is taken
  have key : ∀ (i : Nat) (x : EntV), A[i]? = some x → x ∈ K → ∀ e : Nat, e < 8 → x.dev = (e : Int) → x.no < ((t.getD e 0 : Nat) : Int) := by
    intro i
    induction i using Nat.strongRecOn with
    | ind i ih =>
      intro x hx hxK e he hxe
      apply Classical.byContradiction
      intro hnot
      have hxr := h.right hA x hxK
      obtain ⟨p, hpx⟩ := List.getElem?_of_mem (mem_ownF.2 ⟨hxK, hxe⟩)
      have hpn := own_at_no hA h he p x hpx
      -- x is the next entry of its device
      have hte : t.getD e 0 = p := by
        rcases Nat.lt_or_ge (t.getD e 0) p with h1 | h1
        · exfalso
          obtain ⟨y, hy, hyd, hyn⟩ := h.seen x hxK e he (t.getD e 0) (by rw [seen_own hxr hxe]; omega)
          obtain ⟨j, z, hj, hz, hzd, hzn⟩ := hA.seen i x hx e he (t.getD e 0) (by rw [seen_own hxr hxe]; omega)
          have hyz : y = z := hA.same (h.sub y hy) (List.mem_of_getElem? hz) (by rw [hyd, hzd]) (by rw [hyn, hzn])
          subst hyz
          have := ih j hj y hz hy e he hyd
          omega
        · omega
      have hready : readyF (pastsF K) (forksF K) t e = some x := by
        refine ready_iff.2 ⟨by rw [hP e he, hte]; exact hpx, blocked_iff.2 fun d hd hne => ?_⟩
        have hd8 : d < 8 := by have := hxr.len; omega
        unfold demandF
        rw [forks_at _ hd8, h.fork hA, if_neg (by simp)]
        apply Classical.byContradiction
        intro hlt
        obtain ⟨y, hy, hyd, hyn⟩ := h.seen x hxK d hd8 (t.getD d 0) (by omega)
        obtain ⟨j, z, hj, hz, hzd, hzn⟩ := hA.seen i x hx d hd8 (t.getD d 0) (by omega)
        have hyz : y = z := hA.same (h.sub y hy) (List.mem_of_getElem? hz) (by rw [hyd, hzd]) (by rw [hyn, hzn])
        subst hyz
        have := ih j hj y hz hy d hd8 hyd
        omega
      rw [pick_none hp he] at hready
      cases hready
  intro e he
  have h1 := hr.le e he
  rw [hP e he] at h1
  rcases Nat.eq_or_lt_of_le h1 with h2 | h2
  · exact h2
  · exfalso
    obtain ⟨x, hx⟩ : ∃ x, (ownF K (e : Int))[t.getD e 0]? = some x := ⟨_, List.getElem?_eq_getElem h2⟩
    obtain ⟨hxK, hxd⟩ := mem_ownF.1 (List.mem_of_getElem? hx)
    obtain ⟨i, hi⟩ := List.getElem?_of_mem (h.sub x hxK)
    have h3 := key i x hi hxK e he hxd
    have h4 := own_at_no hA h he _ x hx
    omega
/-- how many entries of each device a closed list has: more than each of its entries had seen -/
theorem Closed.ge (hA : Hon A) (h : Closed A K) {x : EntV} (hx : x ∈ K) {e : Nat} (he : e < 8) : x.seen.getD e 0 ≤ ((ownF K (e : Int)).length : Int) := by
  apply Classical.byContradiction
  intro hlt
  obtain ⟨y, hy, hyd, hyn⟩ := h.seen x hx e he (ownF K (e : Int)).length (by omega)
  obtain ⟨p, hp⟩ := List.getElem?_of_mem (mem_ownF.2 ⟨hy, hyd⟩)
  have h1 := own_at_no hA h he p y hp
  have h2 := (List.getElem?_eq_some_iff.1 hp).1
  omega
/-- two closed lists, joined -/
theorem Closed.join (hA : Hon A) {K1 K2 : List EntV} (h1 : Closed A K1) (h2 : Closed A K2) : Closed A (joinF (K1 ++ K2)) := by
  refine ⟨joinF_asc _, fun x hx => ?_, fun x hx e he k hk => ?_⟩
  · rcases List.mem_append.1 (mem_joinF.1 hx).1 with h | h
    · exact h1.sub x h
    · exact h2.sub x h
  · rcases List.mem_append.1 (mem_joinF.1 hx).1 with h | h
    · obtain ⟨y, hy, hyd, hyn⟩ := h1.seen x h e he k hk
      exact ⟨y, mem_joinF.2 ⟨List.mem_append_left _ hy, h1.right hA y hy⟩, hyd, hyn⟩
    · obtain ⟨y, hy, hyd, hyn⟩ := h2.seen x h e he k hk
      exact ⟨y, mem_joinF.2 ⟨List.mem_append_right _ hy, h2.right hA y hy⟩, hyd, hyn⟩
theorem Closed.empty (A : List EntV) : Closed A [] := ⟨List.Pairwise.nil, fun x h => by simp at h, fun x h => by simp at h⟩
theorem Closed.more (h : Closed A K) (x : EntV) : Closed (A ++ [x]) K := ⟨h.asc, fun y hy => List.mem_append_left _ (h.sub y hy), h.seen⟩
end
end Go.Proofs.YtjncmlglhegnaaaGreatDoor
namespace Go.Proofs.YtjncmlglhegnaaaGreatDoor

section
variable {A K : List EntV}
/-- the entry that a device writes that knows K -/
abbrev writes (K : List EntV) (d : Nat) (day : Int) (m : List Int) (text : List UInt8) : EntV := ⟨(d : Int), ((ownF K (d : Int)).length : Int), day, m, text⟩
end
end Go.Proofs.YtjncmlglhegnaaaGreatDoor
