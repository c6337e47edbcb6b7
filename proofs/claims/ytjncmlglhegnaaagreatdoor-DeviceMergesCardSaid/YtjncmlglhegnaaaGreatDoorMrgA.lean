/- merge: the order of entries, joined lists, in plain Lean. -/
/- merge: the past of a device, in plain Lean. -/
/- merge: the order in which entries count, in plain Lean. -/
/- merge: what counts goes on counting when more is joined, in plain Lean. -/
/- merge: what the reference says of pasts and of what is missing; what is convicted counts only below its first number, in plain Lean. -/
/- merge: what honest devices write counts as a whole, in plain Lean. -/
/- merge: an honest device writes, in plain Lean. -/
/- merge: cmp.Compare, cmp.Or, how two items are compared, walked. -/
import Derived.Test.YtjncmlglhegnaaaGreatDoorChainLP
import Derived.Deep.RegionHeld3
import Derived.Sort.Walk0
namespace Go.Proofs.YtjncmlglhegnaaaGreatDoor
open Go.Lib

/-- an entry comes before another one in a joined list -/
def ltE (x y : EntV) : Prop := x.dev < y.dev ∨ (x.dev = y.dev ∧ (x.no < y.no ∨ (x.no = y.no ∧ encE x < encE y)))
instance ltEDec (x y : EntV) : Decidable (ltE x y) := by unfold ltE; exact inferInstance
theorem ltE_irrefl (x : EntV) : ¬ ltE x x := fun h => by
  rcases h with h | ⟨_, h | ⟨_, h⟩⟩
  · omega
  · omega
  · exact List.lt_irrefl _ h
theorem ltE_trans {x y z : EntV} (h1 : ltE x y) (h2 : ltE y z) : ltE x z := by
  unfold ltE at *
  rcases h1 with h1 | ⟨e1, h1 | ⟨f1, h1⟩⟩ <;> rcases h2 with h2 | ⟨e2, h2 | ⟨f2, h2⟩⟩
  · left; omega
  · left; omega
  · left; omega
  · left; omega
  · right; exact ⟨by omega, .inl (by omega)⟩
  · right; exact ⟨by omega, .inl (by omega)⟩
  · left; omega
  · right; exact ⟨by omega, .inl (by omega)⟩
  · right; exact ⟨by omega, .inr ⟨by omega, List.lt_trans h1 h2⟩⟩
theorem ltE_asymm {x y : EntV} (h1 : ltE x y) (h2 : ltE y x) : False := ltE_irrefl x (ltE_trans h1 h2)
theorem encE_inj {x y : EntV} (hx : RightE x) (hy : RightE y) (h : encE x = encE y) : x = y := by
  have h1 := decE_enc hx
  have h2 := decE_enc hy
  rw [h, h2] at h1
  exact (congrArg (fun p => p.1) h1).symm
theorem bytes_tri (a b : List UInt8) : a < b ∨ a = b ∨ b < a := by
  by_cases h1 : a < b
  · exact .inl h1
  · by_cases h2 : b < a
    · exact .inr (.inr h2)
    · exact .inr (.inl (List.le_antisymm (List.not_lt.1 h2) (List.not_lt.1 h1)))
theorem ltE_tri {x y : EntV} (hx : RightE x) (hy : RightE y) : ltE x y ∨ x = y ∨ ltE y x := by
  by_cases h1 : x.dev < y.dev
  · exact .inl (.inl h1)
  by_cases h2 : y.dev < x.dev
  · exact .inr (.inr (.inl h2))
  by_cases h3 : x.no < y.no
  · exact .inl (.inr ⟨by omega, .inl h3⟩)
  by_cases h4 : y.no < x.no
  · exact .inr (.inr (.inr ⟨by omega, .inl h4⟩))
  rcases bytes_tri (encE x) (encE y) with h | h | h
  · exact .inl (.inr ⟨by omega, .inr ⟨by omega, h⟩⟩)
  · exact .inr (.inl (encE_inj hx hy h))
  · exact .inr (.inr (.inr ⟨by omega, .inr ⟨by omega, h⟩⟩))
/-- ascending, each once -/
def Asc (l : List EntV) : Prop := l.Pairwise ltE
def AllR (l : List EntV) : Prop := ∀ x ∈ l, RightE x
theorem asc_unique : ∀ {l m : List EntV}, Asc l → Asc m → (∀ x, x ∈ l ↔ x ∈ m) → l = m
  | [], [], _, _, _ => rfl
  | [], y :: m, _, _, h => by have := (h y).2 (by simp); simp at this
  | x :: l, [], _, _, h => by have := (h x).1 (by simp); simp at this
  | x :: l, y :: m, hl, hm, h => by
    have hl' := List.pairwise_cons.1 hl
    have hm' := List.pairwise_cons.1 hm
    have e : x = y := by
      rcases List.mem_cons.1 ((h x).1 (by simp)) with e | e
      · exact e
      · rcases List.mem_cons.1 ((h y).2 (by simp)) with e2 | e2
        · exact e2.symm
        · exact (ltE_asymm (hl'.1 y e2) (hm'.1 x e)).elim
    subst e
    rw [asc_unique hl'.2 hm'.2 fun z => ?_]
    constructor
    · intro hz
      rcases List.mem_cons.1 ((h z).1 (List.mem_cons_of_mem _ hz)) with e | e
      · subst e; exact (ltE_irrefl _ (hl'.1 _ hz)).elim
      · exact e
    · intro hz
      rcases List.mem_cons.1 ((h z).2 (List.mem_cons_of_mem _ hz)) with e | e
      · subst e; exact (ltE_irrefl _ (hm'.1 _ hz)).elim
      · exact e
/-- an entry is put in its place -/
def putE (x : EntV) : List EntV → List EntV
  | [] => [x]
  | y :: l => if y = x then y :: l else if ltE x y then x :: y :: l else y :: putE x l
theorem mem_putE {x y : EntV} : ∀ {l : List EntV}, y ∈ putE x l ↔ y = x ∨ y ∈ l
  | [] => by simp [putE]
  | z :: l => by
    unfold putE
    by_cases h1 : z = x
    · rw [if_pos h1]
      subst h1
      exact ⟨fun h => .inr h, fun h => h.elim (fun e => by subst e; simp) id⟩
    · rw [if_neg h1]
      by_cases h2 : ltE x z
      · rw [if_pos h2]; exact List.mem_cons
      · rw [if_neg h2]
        simp only [List.mem_cons, mem_putE (l := l)]
        exact ⟨fun h => h.elim (fun e => .inr (.inl e)) (fun h => h.elim .inl fun h => .inr (.inr h)), fun h => h.elim (fun e => .inr (.inl e)) (fun h => h.elim .inl fun h => .inr (.inr h))⟩
theorem putE_asc {x : EntV} (hx : RightE x) : ∀ {l : List EntV}, Asc l → AllR l → Asc (putE x l)
  | [], _, _ => by simp [putE, Asc]
  | z :: l, ha, hr => by
    have ha' := List.pairwise_cons.1 ha
    unfold putE
    by_cases h1 : z = x
    · rw [if_pos h1]; exact ha
    · rw [if_neg h1]
      by_cases h2 : ltE x z
      · rw [if_pos h2]
        refine List.pairwise_cons.2 ⟨fun y hy => ?_, ha⟩
        rcases List.mem_cons.1 hy with e | e
        · rw [e]; exact h2
        · exact ltE_trans h2 (ha'.1 y e)
      · rw [if_neg h2]
        refine List.pairwise_cons.2 ⟨fun y hy => ?_, putE_asc hx ha'.2 fun y hy => hr y (List.mem_cons_of_mem _ hy)⟩
        rcases mem_putE.1 hy with e | e
        · rw [e]
          rcases ltE_tri (hr z (by simp)) hx with h | h | h
          · exact h
          · exact (h1 h).elim
          · exact (h2 h).elim
        · exact ha'.1 y e
/-- the joined list of a list -/
def joinF : List EntV → List EntV
  | [] => []
  | x :: l => if rightB x = true then putE x (joinF l) else joinF l
theorem mem_joinF {y : EntV} : ∀ {l : List EntV}, y ∈ joinF l ↔ y ∈ l ∧ RightE y
  | [] => by simp [joinF]
  | x :: l => by
    unfold joinF
    by_cases h : rightB x = true
    · rw [if_pos h, mem_putE, mem_joinF (l := l), List.mem_cons]
      constructor
      · rintro (e | ⟨h1, h2⟩)
        · subst e; exact ⟨.inl rfl, rightB_true.1 h⟩
        · exact ⟨.inr h1, h2⟩
      · rintro ⟨e | h1, h2⟩
        · exact .inl e
        · exact .inr ⟨h1, h2⟩
    · rw [if_neg h, mem_joinF (l := l), List.mem_cons]
      constructor
      · rintro ⟨h1, h2⟩; exact ⟨.inr h1, h2⟩
      · rintro ⟨e | h1, h2⟩
        · subst e; exact (h (rightB_true.2 h2)).elim
        · exact ⟨h1, h2⟩
theorem joinF_right (l : List EntV) : AllR (joinF l) := fun _ hx => (mem_joinF.1 hx).2
theorem joinF_asc : ∀ l : List EntV, Asc (joinF l)
  | [] => List.Pairwise.nil
  | x :: l => by
    unfold joinF
    by_cases h : rightB x = true
    · rw [if_pos h]; exact putE_asc (rightB_true.1 h) (joinF_asc l) (joinF_right l)
    · rw [if_neg h]; exact joinF_asc l
/-- what joins a list: ascending, each once, all that is right -/
theorem joinF_is {l m : List EntV} (ha : Asc m) (hm : ∀ x, x ∈ m ↔ x ∈ l ∧ RightE x) : m = joinF l := asc_unique ha (joinF_asc l) fun x => (hm x).trans mem_joinF.symm
theorem joinF_congr {l m : List EntV} (h : ∀ x, RightE x → (x ∈ l ↔ x ∈ m)) : joinF l = joinF m :=
  asc_unique (joinF_asc l) (joinF_asc m) fun x => by
    rw [mem_joinF, mem_joinF]
    exact ⟨fun ⟨a, b⟩ => ⟨(h x b).1 a, b⟩, fun ⟨a, b⟩ => ⟨(h x b).2 a, b⟩⟩
theorem joinF_self {l : List EntV} (ha : Asc l) (hr : AllR l) : joinF l = l := (joinF_is ha fun x => ⟨fun h => ⟨h, hr x h⟩, fun h => h.1⟩).symm
theorem joinF_len : ∀ l : List EntV, (joinF l).length ≤ l.length
  | [] => Nat.le_refl _
  | x :: l => by
    have hp : ∀ m : List EntV, (putE x m).length ≤ m.length + 1 := by
      intro m
      induction m with
      | nil => simp [putE]
      | cons y m ih => unfold putE; split; · simp
                       split
                       · simp
                       · simp only [List.length_cons]; omega
    unfold joinF
    have := joinF_len l
    split
    · have := hp (joinF l); simp only [List.length_cons]; omega
    · simp only [List.length_cons]; omega
/-! ### who is convicted -/
def forkB (l : List EntV) (d : Int) : Bool := (l.zip l.tail).any fun p => convictsB p.1 p.2 && decide (p.2.dev = d)
theorem convicts_iff {x y : EntV} : convictsB x y = true ↔ RightE x ∧ RightE y ∧ x.dev = y.dev ∧ x.no = y.no ∧ x ≠ y := by
  unfold convictsB
  simp only [Bool.and_eq_true, rightB_true, decide_eq_true_eq, Bool.not_eq_true', ← Bool.not_eq_true, sameB_true]
  exact ⟨fun ⟨⟨⟨⟨a, b⟩, c⟩, d⟩, e⟩ => ⟨a, b, c, d, e⟩, fun ⟨a, b, c, d, e⟩ => ⟨⟨⟨⟨a, b⟩, c⟩, d⟩, e⟩⟩
theorem convicts_symm {x y : EntV} (h : convictsB x y = true) : convictsB y x = true := by
  obtain ⟨a, b, c, d, e⟩ := convicts_iff.1 h
  exact convicts_iff.2 ⟨b, a, c.symm, d.symm, fun h => e h.symm⟩
/-- what lies between two entries of the same place has that place -/
theorem ltE_between {x y z : EntV} (h1 : ltE x y) (h2 : ltE y z) (hd : x.dev = z.dev) (hn : x.no = z.no) : y.dev = x.dev ∧ y.no = x.no := by
  unfold ltE at *
  rcases h1 with h1 | ⟨e1, h1 | ⟨f1, h1⟩⟩ <;> rcases h2 with h2 | ⟨e2, h2 | ⟨f2, h2⟩⟩ <;> omega
theorem forkB_iff : ∀ {l : List EntV} {d : Int}, Asc l → AllR l → (forkB l d = true ↔ ∃ x y, x ∈ l ∧ y ∈ l ∧ convictsB x y = true ∧ x.dev = d)
  | [], d, _, _ => by simp [forkB]
  | [x], d, _, _ => by
    simp only [forkB, List.tail_cons, List.zip_nil_right, List.any_nil, Bool.false_eq_true, false_iff]
    rintro ⟨a, b, ha, hb, hc, _⟩
    obtain ⟨_, _, _, _, h⟩ := convicts_iff.1 hc
    exact h ((List.mem_singleton.1 ha).trans (List.mem_singleton.1 hb).symm)
  | x :: z :: l, d, ha, hr => by
    have ha' := List.pairwise_cons.1 ha
    have ih := forkB_iff (l := z :: l) (d := d) ha'.2 fun y hy => hr y (List.mem_cons_of_mem _ hy)
    have e : forkB (x :: z :: l) d = ((convictsB x z && decide (z.dev = d)) || forkB (z :: l) d) := rfl
    rw [e, Bool.or_eq_true, ih, Bool.and_eq_true, decide_eq_true_eq]
    constructor
    · rintro (⟨h1, h2⟩ | ⟨a, b, h1, h2, h3, h4⟩)
      · exact ⟨x, z, by simp, by simp, h1, by rw [(convicts_iff.1 h1).2.2.1]; exact h2⟩
      · exact ⟨a, b, List.mem_cons_of_mem _ h1, List.mem_cons_of_mem _ h2, h3, h4⟩
    · rintro ⟨a, b, h1, h2, h3, h4⟩
      obtain ⟨r1, r2, r3, r4, r5⟩ := convicts_iff.1 h3
      have key : ∀ b, b ∈ z :: l → convictsB x b = true → x.dev = d → convictsB x z = true ∧ z.dev = d := by
        intro b hb hc hd
        obtain ⟨s1, s2, s3, s4, s5⟩ := convicts_iff.1 hc
        have hxz := ha'.1 z (by simp)
        rcases List.mem_cons.1 hb with e | e
        · subst e; exact ⟨hc, by rw [← s3]; exact hd⟩
        · have hzb := (List.pairwise_cons.1 ha'.2).1 b e
          obtain ⟨t1, t2⟩ := ltE_between hxz hzb s3 s4
          exact ⟨convicts_iff.2 ⟨s1, hr z (by simp), t1.symm, t2.symm, fun h => ltE_irrefl z (by rw [h] at hxz; exact hxz)⟩, by rw [t1]; exact hd⟩
      rcases List.mem_cons.1 h1 with e1 | e1
      · subst e1
        rcases List.mem_cons.1 h2 with e2 | e2
        · exact (r5 e2.symm).elim
        · exact .inl (key b e2 h3 h4)
      · rcases List.mem_cons.1 h2 with e2 | e2
        · subst e2
          exact .inl (key a e1 (convicts_symm h3) (by rw [← r3]; exact h4))
        · exact .inr ⟨a, b, e1, e2, h3, h4⟩
end Go.Proofs.YtjncmlglhegnaaaGreatDoor
namespace Go.Proofs.YtjncmlglhegnaaaGreatDoor

/-- the entries of a device -/
def ownF (l : List EntV) (d : Int) : List EntV := l.filter fun x => decide (x.dev = d)
theorem ownF_asc {l : List EntV} (h : Asc l) (d : Int) : Asc (ownF l d) := List.Pairwise.filter _ h
theorem mem_ownF {l : List EntV} {d : Int} {x : EntV} : x ∈ ownF l d ↔ x ∈ l ∧ x.dev = d := by unfold ownF; rw [List.mem_filter, decide_eq_true_eq]
/-- the entry in place n has the number n, and the next one a greater number -/
def soloB (own : List EntV) (n : Nat) : Bool :=
  match own[n]? with
  | none => false
  | some x => decide (x.no = (n : Int)) && (match own[n + 1]? with | none => true | some y => decide ((n : Int) < y.no))
def soloGo (own : List EntV) : Nat → Nat → Nat
  | 0, n => n
  | k + 1, n => if soloB own n = true then soloGo own k (n + 1) else n
def soloN (own : List EntV) : Nat := soloGo own own.length 0
def cutGo (own : List EntV) : Nat → Nat
  | 0 => 0
  | n + 1 => if checkF (own.take (n + 1)) = 0 then n + 1 else cutGo own n
def pastN (own : List EntV) : Nat := cutGo own (soloN own)
def pastF (l : List EntV) (d : Int) : List EntV := (ownF l d).take (pastN (ownF l d))
theorem soloB_lt {own : List EntV} {n : Nat} (h : soloB own n = true) : n < own.length := by
  unfold soloB at h
  rcases Nat.lt_or_ge n own.length with h1 | h1
  · exact h1
  · rw [List.getElem?_eq_none h1] at h; cases h
theorem soloGo_le {own : List EntV} : ∀ {k n : Nat}, n ≤ own.length → n ≤ soloGo own k n ∧ soloGo own k n ≤ own.length ∧ ∀ j, n ≤ j → j < soloGo own k n → soloB own j = true
  | 0, n, h => ⟨Nat.le_refl _, h, fun j h1 h2 => by simp only [soloGo] at h2; omega⟩
  | k + 1, n, h => by
    simp only [soloGo]
    by_cases hs : soloB own n = true
    · rw [if_pos hs]
      have hl := soloB_lt hs
      obtain ⟨h1, h2, h3⟩ := soloGo_le (own := own) (k := k) (n := n + 1) hl
      refine ⟨by omega, h2, fun j h4 h5 => ?_⟩
      by_cases e : j = n
      · rw [e]; exact hs
      · exact h3 j (by omega) h5
    · rw [if_neg hs]
      exact ⟨Nat.le_refl _, h, fun j h4 h5 => by omega⟩
theorem soloGo_max {own : List EntV} : ∀ {k n m : Nat}, own.length ≤ n + k → (∀ j, n ≤ j → j < m → soloB own j = true) → n ≤ m → m ≤ soloGo own k n
  | 0, n, m, hk, h, hm => by
    simp only [soloGo]
    by_cases e : n = m
    · omega
    · have := soloB_lt (h n (Nat.le_refl _) (by omega)); omega
  | k + 1, n, m, hk, h, hm => by
    simp only [soloGo]
    by_cases e : n = m
    · subst e
      split
      · rename_i hs
        have := (soloGo_le (own := own) (k := k) (n := n + 1) (soloB_lt hs)).1
        omega
      · exact Nat.le_refl _
    · rw [if_pos (h n (Nat.le_refl _) (by omega))]
      exact soloGo_max (by omega) (fun j h1 h2 => h j (by omega) h2) (by omega)
theorem soloN_le (own : List EntV) : soloN own ≤ own.length := (soloGo_le (Nat.zero_le _)).2.1
theorem soloN_at {own : List EntV} {j : Nat} (h : j < soloN own) : soloB own j = true := (soloGo_le (Nat.zero_le _)).2.2 j (Nat.zero_le _) h
theorem soloN_max {own : List EntV} {m : Nat} (h : ∀ j, j < m → soloB own j = true) : m ≤ soloN own := soloGo_max (by omega) (fun j _ h2 => h j h2) (Nat.zero_le _)
theorem check_nil : checkF [] = 0 := by decide
theorem cutGo_le {own : List EntV} : ∀ n, cutGo own n ≤ n ∧ checkF (own.take (cutGo own n)) = 0
  | 0 => ⟨Nat.le_refl _, by rw [cutGo, List.take_zero]; exact check_nil⟩
  | n + 1 => by
    simp only [cutGo]
    by_cases h : checkF (own.take (n + 1)) = 0
    · rw [if_pos h]; exact ⟨Nat.le_refl _, h⟩
    · rw [if_neg h]
      have := cutGo_le (own := own) n
      exact ⟨by omega, this.2⟩
theorem cutGo_max {own : List EntV} : ∀ {n m : Nat}, m ≤ n → checkF (own.take m) = 0 → m ≤ cutGo own n
  | 0, m, h, _ => by simp only [cutGo]; exact h
  | n + 1, m, h, hc => by
    simp only [cutGo]
    by_cases h1 : checkF (own.take (n + 1)) = 0
    · rw [if_pos h1]; exact h
    · rw [if_neg h1]
      by_cases e : m = n + 1
      · subst e; exact (h1 hc).elim
      · exact cutGo_max (by omega) hc
theorem pastN_le (own : List EntV) : pastN own ≤ own.length := Nat.le_trans (cutGo_le _).1 (soloN_le own)
theorem pastN_solo {own : List EntV} {j : Nat} (h : j < pastN own) : soloB own j = true := soloN_at (Nat.lt_of_lt_of_le h (cutGo_le _).1)
theorem pastN_max {own : List EntV} {m : Nat} (h : ∀ j, j < m → soloB own j = true) (hc : checkF (own.take m) = 0) : m ≤ pastN own := cutGo_max (soloN_max h) hc
theorem past_check (l : List EntV) (d : Int) : checkF (pastF l d) = 0 := (cutGo_le _).2
theorem past_at {l : List EntV} {d : Int} {i : Nat} {x : EntV} (h : (pastF l d)[i]? = some x) : (ownF l d)[i]? = some x ∧ i < pastN (ownF l d) := by
  unfold pastF at h
  rw [List.getElem?_take] at h
  split at h
  · rename_i hi; exact ⟨h, hi⟩
  · cases h
theorem past_no {l : List EntV} {d : Int} {i : Nat} {x : EntV} (h : (pastF l d)[i]? = some x) : x.no = (i : Int) ∧ x.dev = d ∧ RightE x := by
  obtain ⟨h1, h2⟩ := past_at h
  have hs := pastN_solo h2
  unfold soloB at hs
  rw [h1] at hs
  simp only [Bool.and_eq_true, decide_eq_true_eq] at hs
  exact ⟨hs.1, (mem_ownF.1 (List.mem_of_getElem? h1)).2, (check_at (past_check l d) h).right⟩
theorem past_len400 (l : List EntV) (d : Int) : (pastF l d).length ≤ 400 := (checkF_zero.1 (past_check l d)).1
end Go.Proofs.YtjncmlglhegnaaaGreatDoor
namespace Go.Proofs.YtjncmlglhegnaaaGreatDoor

/-- how many entries of the device d an entry wants to be taken before it -/
def demandF (P : List (List EntV)) (F : List Bool) (x : EntV) (d : Nat) : Int := if F.getD d false = true then min (x.seen.getD d 0) ((P.getD d []).length : Int) else x.seen.getD d 0
def blockedB (P : List (List EntV)) (F : List Bool) (t : List Nat) (dev : Nat) (x : EntV) : Bool := (List.range x.seen.length).any fun d => decide (d ≠ dev) && decide (((t.getD d 0 : Nat) : Int) < demandF P F x d)
/-- the next entry of a device, if it is ready -/
def readyF (P : List (List EntV)) (F : List Bool) (t : List Nat) (dev : Nat) : Option EntV :=
  match (P.getD dev [])[t.getD dev 0]? with
  | none => none
  | some x => if blockedB P F t dev x = true then none else some x
def betterF (b : Option EntV) (r : Option EntV) : Option EntV :=
  match r with
  | none => b
  | some x => match b with | none => some x | some y => if x.day < y.day then some x else b
def pickGo (P : List (List EntV)) (F : List Bool) (t : List Nat) : Nat → Nat → Option EntV → Option EntV
  | 0, _, b => b
  | k + 1, d, b => pickGo P F t k (d + 1) (betterF b (readyF P F t d))
def pickF (P : List (List EntV)) (F : List Bool) (t : List Nat) : Option EntV := pickGo P F t 8 0 none
def bump (t : List Nat) (d : Nat) : List Nat := t.set d (t.getD d 0 + 1)
def ordGo (P : List (List EntV)) (F : List Bool) : Nat → List Nat → List EntV → List Nat × List EntV
  | 0, t, out => (t, out)
  | k + 1, t, out => match pickF P F t with | none => (t, out) | some x => ordGo P F k (bump t x.dev.toNat) (out ++ [x])
def pastsF (J : List EntV) : List (List EntV) := (List.range 8).map fun d : Nat => pastF J (d : Int)
def forksF (J : List EntV) : List Bool := (List.range 8).map fun d : Nat => forkB J (d : Int)
def zero8 : List Nat := List.replicate 8 0
/-- all entries that count, and how many there are of each device -/
def ordF (l : List EntV) : List Nat × List EntV := ordGo (pastsF (joinF l)) (forksF (joinF l)) 3201 zero8 []
theorem pasts_at (J : List EntV) {d : Nat} (h : d < 8) : (pastsF J).getD d [] = pastF J (d : Int) := by
  unfold pastsF
  rw [List.getD_eq_getElem?_getD, List.getElem?_map, List.getElem?_range h]
  rfl
theorem forks_at (J : List EntV) {d : Nat} (h : d < 8) : (forksF J).getD d false = forkB J (d : Int) := by
  unfold forksF
  rw [List.getD_eq_getElem?_getD, List.getElem?_map, List.getElem?_range h]
  rfl
theorem blocked_iff {P : List (List EntV)} {F : List Bool} {t : List Nat} {dev : Nat} {x : EntV} : blockedB P F t dev x = false ↔ ∀ d : Nat, d < x.seen.length → d ≠ dev → demandF P F x d ≤ ((t.getD d 0 : Nat) : Int) := by
  unfold blockedB
  rw [List.any_eq_false]
  constructor
  · intro h d hd hne
    have := h d (List.mem_range.2 hd)
    simp only [Bool.and_eq_true, decide_eq_true_eq, not_and, Int.not_lt] at this
    exact this hne
  · intro h d hd
    simp only [Bool.and_eq_true, decide_eq_true_eq, not_and, Int.not_lt]
    exact fun hne => h d (List.mem_range.1 hd) hne
theorem ready_iff {P : List (List EntV)} {F : List Bool} {t : List Nat} {dev : Nat} {x : EntV} : readyF P F t dev = some x ↔ (P.getD dev [])[t.getD dev 0]? = some x ∧ blockedB P F t dev x = false := by
  unfold readyF
  cases h : (P.getD dev [])[t.getD dev 0]? with
  | none => simp
  | some y =>
    simp only
    by_cases hb : blockedB P F t dev y = true
    · rw [if_pos hb]
      constructor
      · intro h2; cases h2
      · rintro ⟨h1, h2⟩
        have e := Option.some.inj h1
        rw [e, h2] at hb
        cases hb
    · rw [if_neg hb]
      have hb' : blockedB P F t dev y = false := by simpa using hb
      exact ⟨fun h2 => by have e := Option.some.inj h2; rw [← e]; exact ⟨rfl, hb'⟩, fun h2 => h2.1⟩
theorem better_some {b r : Option EntV} {x : EntV} (h : betterF b r = some x) : b = some x ∨ r = some x := by
  unfold betterF at h
  cases r with
  | none => exact .inl h
  | some y =>
    cases b with
    | none => exact .inr h
    | some z =>
      simp only at h
      split at h
      · exact .inr h
      · exact .inl h
theorem better_none {b r : Option EntV} (h : betterF b r = none) : b = none ∧ r = none := by
  unfold betterF at h
  cases r with
  | none => exact ⟨h, rfl⟩
  | some y =>
    cases b with
    | none => cases h
    | some z => simp only at h; split at h <;> cases h
theorem pickGo_some {P : List (List EntV)} {F : List Bool} {t : List Nat} : ∀ {k d : Nat} {b : Option EntV} {x : EntV}, pickGo P F t k d b = some x → b = some x ∨ ∃ e, d ≤ e ∧ e < d + k ∧ readyF P F t e = some x
  | 0, d, b, x, h => .inl h
  | k + 1, d, b, x, h => by
    simp only [pickGo] at h
    rcases pickGo_some h with h1 | ⟨e, h1, h2, h3⟩
    · rcases better_some h1 with h2 | h2
      · exact .inl h2
      · exact .inr ⟨d, Nat.le_refl _, by omega, h2⟩
    · exact .inr ⟨e, by omega, by omega, h3⟩
theorem pickGo_none {P : List (List EntV)} {F : List Bool} {t : List Nat} : ∀ {k d : Nat} {b : Option EntV}, pickGo P F t k d b = none → b = none ∧ ∀ e, d ≤ e → e < d + k → readyF P F t e = none
  | 0, d, b, h => ⟨h, fun e h1 h2 => by omega⟩
  | k + 1, d, b, h => by
    simp only [pickGo] at h
    obtain ⟨h1, h2⟩ := pickGo_none h
    obtain ⟨h3, h4⟩ := better_none h1
    refine ⟨h3, fun e h5 h6 => ?_⟩
    by_cases he : e = d
    · rw [he]; exact h4
    · exact h2 e (by omega) (by omega)
theorem pick_some {P : List (List EntV)} {F : List Bool} {t : List Nat} {x : EntV} (h : pickF P F t = some x) : ∃ e, e < 8 ∧ readyF P F t e = some x := by
  rcases pickGo_some h with h1 | ⟨e, _, h2, h3⟩
  · cases h1
  · exact ⟨e, by omega, h3⟩
theorem pick_none {P : List (List EntV)} {F : List Bool} {t : List Nat} (h : pickF P F t = none) {e : Nat} (he : e < 8) : readyF P F t e = none := (pickGo_none h).2 e (Nat.zero_le _) (by omega)
/-- lists of entries of the devices 0 to 7, with the numbers 0, 1, 2 and so on -/
structure PastsOk (P : List (List EntV)) : Prop where
  at_ : ∀ d : Nat, d < 8 → ∀ (i : Nat) (x : EntV), (P.getD d [])[i]? = some x → x.no = (i : Int) ∧ x.dev = (d : Int) ∧ RightE x
  len : ∀ d : Nat, d < 8 → (P.getD d []).length ≤ 400
theorem pasts_ok (J : List EntV) : PastsOk (pastsF J) := ⟨fun d hd i x h => by rw [pasts_at J hd] at h; exact past_no h, fun d hd => by rw [pasts_at J hd]; exact past_len400 J d⟩
def countF (out : List EntV) (d : Nat) : Nat := (ownF out (d : Int)).length
/-- what the run keeps: of each device the first entries of its past are taken, each behind all that it wants -/
structure RunI (P : List (List EntV)) (F : List Bool) (t : List Nat) (out : List EntV) : Prop where
  len : t.length = 8
  le : ∀ d : Nat, d < 8 → t.getD d 0 ≤ (P.getD d []).length
  own : ∀ d : Nat, d < 8 → ownF out (d : Int) = (P.getD d []).take (t.getD d 0)
  wants : ∀ i x, out[i]? = some x → ∀ d : Nat, d < x.seen.length → (d : Int) ≠ x.dev → demandF P F x d ≤ ((countF (out.take i) d : Nat) : Int)
  dev : ∀ x ∈ out, 0 ≤ x.dev ∧ x.dev ≤ 7
theorem runI_start (P : List (List EntV)) (F : List Bool) : RunI P F zero8 [] :=
  ⟨rfl, fun d hd => by
    have : zero8.getD d 0 = 0 := by unfold zero8; rw [List.getD_eq_getElem?_getD, List.getElem?_replicate]; split <;> rfl
    omega, fun d hd => by
    have : zero8.getD d 0 = 0 := by unfold zero8; rw [List.getD_eq_getElem?_getD, List.getElem?_replicate]; split <;> rfl
    rw [this]; rfl, fun i x h => by simp at h, fun x h => by simp at h⟩
theorem bump_at {t : List Nat} (ht : t.length = 8) {d e : Nat} (he : e < 8) : (bump t d).getD e 0 = if d = e then t.getD e 0 + 1 else t.getD e 0 := by
  unfold bump
  rw [List.getD_eq_getElem?_getD, List.getElem?_set]
  by_cases h : d = e
  · subst h
    rw [if_pos rfl, if_pos rfl, if_pos (by omega)]
    rfl
  · rw [if_neg h, if_neg h, ← List.getD_eq_getElem?_getD]
theorem runI_step {P : List (List EntV)} {F : List Bool} {t : List Nat} {out : List EntV} (hP : PastsOk P) (h : RunI P F t out) {x : EntV} {e : Nat} (he : e < 8) (hr : readyF P F t e = some x) :
    x.dev = (e : Int) ∧ RunI P F (bump t x.dev.toNat) (out ++ [x]) := by
  obtain ⟨h1, h2⟩ := ready_iff.1 hr
  obtain ⟨hno, hdev, hri⟩ := hP.at_ e he _ _ h1
  have hlt : t.getD e 0 < (P.getD e []).length := (List.getElem?_eq_some_iff.1 h1).1
  refine ⟨hdev, ?_⟩
  rw [hdev, Int.toNat_natCast]
  have hcnt : ∀ d : Nat, d < 8 → countF out d = t.getD d 0 := fun d hd => by
    unfold countF
    rw [h.own d hd, List.length_take, Nat.min_eq_left (h.le d hd)]
  refine ⟨by unfold bump; rw [List.length_set]; exact h.len, fun d hd => ?_, fun d hd => ?_, fun i y hy d hd hne => ?_, fun y hy => ?_⟩
  · rw [bump_at h.len hd]
    split
    · rename_i e1; rw [← e1]; exact hlt
    · exact h.le d hd
  · rw [bump_at h.len hd]
    have happ : ownF (out ++ [x]) (d : Int) = ownF out (d : Int) ++ ownF [x] (d : Int) := by unfold ownF; rw [List.filter_append]
    rw [happ, h.own d hd]
    by_cases e1 : e = d
    · subst e1
      rw [if_pos rfl, List.take_add_one, h1]
      unfold ownF
      rw [List.filter_cons_of_pos (by rw [decide_eq_true_eq]; exact hdev)]
      rfl
    · rw [if_neg e1]
      unfold ownF
      rw [List.filter_cons_of_neg (by rw [decide_eq_true_eq, hdev]; omega)]
      simp
  · rw [List.getElem?_append] at hy
    split at hy
    · rename_i hi
      rw [List.take_append_of_le_length (by omega)]
      exact h.wants i y hy d hd hne
    · rename_i hi
      have hi0 : i = out.length := by
        rcases Nat.eq_or_lt_of_le (Nat.not_lt.1 hi) with e1 | e1
        · exact e1.symm
        · rw [List.getElem?_eq_none (by simp; omega)] at hy; cases hy
      subst hi0
      rw [Nat.sub_self] at hy
      have e1 : x = y := Option.some.inj hy
      subst e1
      have hs8 := hri.len
      rw [List.take_left, hcnt d (by omega)]
      exact blocked_iff.1 h2 d hd (by omega)
  · rcases List.mem_append.1 hy with h3 | h3
    · exact h.dev y h3
    · rw [List.mem_singleton.1 h3, hdev]; omega
def left8 (P : List (List EntV)) (t : List Nat) : Nat → Nat
  | 0 => 0
  | d + 1 => left8 P t d + ((P.getD d []).length - t.getD d 0)
theorem left8_pos {P : List (List EntV)} {t : List Nat} {e : Nat} (hlt : t.getD e 0 < (P.getD e []).length) : ∀ n, e < n → 1 ≤ left8 P t n
  | 0, h => by omega
  | n + 1, h => by
    simp only [left8]
    by_cases e1 : e = n
    · subst e1; omega
    · have := left8_pos hlt n (by omega); omega
theorem left8_bump {P : List (List EntV)} {t : List Nat} (ht : t.length = 8) {e : Nat} (hlt : t.getD e 0 < (P.getD e []).length) : ∀ n, n ≤ 8 → left8 P (bump t e) n = if e < n then left8 P t n - 1 else left8 P t n
  | 0, _ => by simp [left8]
  | n + 1, hn => by
    have ih := left8_bump ht hlt n (by omega)
    have hpos : e < n → 1 ≤ left8 P t n := left8_pos hlt n
    simp only [left8]
    rw [ih, bump_at ht (by omega)]
    by_cases e1 : e = n
    · subst e1
      rw [if_neg (Nat.lt_irrefl _), if_pos rfl, if_pos (by omega)]
      omega
    · rw [if_neg e1]
      by_cases e2 : e < n
      · rw [if_pos e2, if_pos (by omega)]
        have := hpos e2
        omega
      · rw [if_neg e2, if_neg (by omega)]
theorem left8_le (P : List (List EntV)) (hP : PastsOk P) (t : List Nat) : ∀ n, n ≤ 8 → left8 P t n ≤ 400 * n
  | 0, _ => by simp [left8]
  | n + 1, hn => by
    simp only [left8]
    have h1 := left8_le P hP t n (by omega)
    have h2 := hP.len n (by omega)
    omega
/-- the run ends where nothing is ready -/
theorem ordGo_ends {P : List (List EntV)} {F : List Bool} (hP : PastsOk P) : ∀ {k : Nat} {t : List Nat} {out : List EntV}, RunI P F t out → left8 P t 8 < k → RunI P F (ordGo P F k t out).1 (ordGo P F k t out).2 ∧ pickF P F (ordGo P F k t out).1 = none
  | 0, t, out, h, hk => by omega
  | k + 1, t, out, h, hk => by
    simp only [ordGo]
    cases hp : pickF P F t with
    | none => exact ⟨h, hp⟩
    | some x =>
      obtain ⟨e, he, hr⟩ := pick_some hp
      obtain ⟨h1, h2⟩ := runI_step hP h he hr
      refine ordGo_ends hP h2 ?_
      have hlt : t.getD e 0 < (P.getD e []).length := (List.getElem?_eq_some_iff.1 (ready_iff.1 hr).1).1
      have h3 : left8 P (bump t e) 8 = if e < 8 then left8 P t 8 - 1 else left8 P t 8 := left8_bump h.len hlt 8 (Nat.le_refl _)
      rw [if_pos he] at h3
      have h4 := left8_pos hlt 8 he
      rw [h1, Int.toNat_natCast, h3]
      omega
theorem run_ends (l : List EntV) : RunI (pastsF (joinF l)) (forksF (joinF l)) (ordF l).1 (ordF l).2 ∧ pickF (pastsF (joinF l)) (forksF (joinF l)) (ordF l).1 = none :=
  ordGo_ends (pasts_ok _) (runI_start _ _) (by have := left8_le _ (pasts_ok (joinF l)) zero8 8 (Nat.le_refl _); omega)
end Go.Proofs.YtjncmlglhegnaaaGreatDoor
namespace Go.Proofs.YtjncmlglhegnaaaGreatDoor

/-- the numbers ascend -/
def NoUp (l : List EntV) : Prop := l.Pairwise fun x y => x.no < y.no
theorem noUp_at {l : List EntV} (h : NoUp l) {i j : Nat} {x y : EntV} (hi : l[i]? = some x) (hj : l[j]? = some y) (hij : i < j) : x.no < y.no := by
  obtain ⟨h1, e1⟩ := List.getElem?_eq_some_iff.1 hi
  obtain ⟨h2, e2⟩ := List.getElem?_eq_some_iff.1 hj
  have := List.pairwise_iff_getElem.1 h i j h1 h2 hij
  rw [e1, e2] at this
  exact this
theorem noUp_own {l : List EntV} {d : Int} (ha : Asc l) (hr : AllR l) (hf : forkB l d = false) : NoUp (ownF l d) := by
  refine List.Pairwise.imp_of_mem ?_ (ownF_asc ha d)
  intro x y hx hy hlt
  obtain ⟨hx1, hx2⟩ := mem_ownF.1 hx
  obtain ⟨hy1, hy2⟩ := mem_ownF.1 hy
  rcases hlt with h | ⟨_, h | ⟨h1, h2⟩⟩
  · omega
  · exact h
  · exfalso
    have : forkB l d = true := (forkB_iff ha hr).2 ⟨x, y, hx1, hy1, convicts_iff.2 ⟨hr x hx1, hr y hy1, by omega, h1, fun e => List.lt_irrefl _ (by rw [e] at h2; exact h2)⟩, hx2⟩
    rw [hf] at this
    cases this
theorem noUp_ge {l : List EntV} (h : NoUp l) (h0 : ∀ x ∈ l, 0 ≤ x.no) : ∀ (i : Nat) (x : EntV), l[i]? = some x → (i : Int) ≤ x.no
  | 0, x, hx => h0 x (List.mem_of_getElem? hx)
  | i + 1, x, hx => by
    obtain ⟨h1, _⟩ := List.getElem?_eq_some_iff.1 hx
    have h2 := noUp_ge h h0 i l[i] (List.getElem?_eq_getElem (by omega))
    have h3 := noUp_at h (List.getElem?_eq_getElem (by omega)) hx (Nat.lt_succ_self i)
    omega
section
variable {l more : List EntV}
end
end Go.Proofs.YtjncmlglhegnaaaGreatDoor
namespace Go.Proofs.YtjncmlglhegnaaaGreatDoor

/-! ### the reference's past -/
/-! ### what is missing -/
def nextGo (d : Int) : List EntV → Nat → Nat
  | [], n => n
  | x :: l, n => nextGo d l (if x.dev = d ∧ x.no = (n : Int) then n + 1 else n)
def needGo (d : Nat) : List EntV → Int → Int
  | [], m => m
  | x :: l, m => needGo d l (max (if x.dev = (d : Int) then max m x.no else m) (x.seen.getD d 0))
def missF (J : List EntV) : List (Nat × Nat) := (List.range 8).filterMap fun d : Nat => if ((nextGo (d : Int) J 0 : Nat) : Int) < needGo d J 0 then some (d, nextGo (d : Int) J 0) else none
theorem needGo_le {d : Nat} : ∀ {l : List EntV} {m k : Int}, needGo d l m ≤ k ↔ m ≤ k ∧ ∀ x ∈ l, (x.dev = (d : Int) → x.no ≤ k) ∧ x.seen.getD d 0 ≤ k
  | [], m, k => by simp [needGo]
  | x :: l, m, k => by
    simp only [needGo]
    rw [needGo_le]
    constructor
    · rintro ⟨h1, h2⟩
      have h3 : (x.dev = (d : Int) → x.no ≤ k) ∧ x.seen.getD d 0 ≤ k ∧ m ≤ k := by
        by_cases e : x.dev = (d : Int)
        · rw [if_pos e] at h1; exact ⟨fun _ => by omega, by omega, by omega⟩
        · rw [if_neg e] at h1; exact ⟨fun h => absurd h e, by omega, by omega⟩
      refine ⟨h3.2.2, fun y hy => ?_⟩
      rcases List.mem_cons.1 hy with e | e
      · rw [e]; exact ⟨h3.1, h3.2.1⟩
      · exact h2 y e
    · rintro ⟨h1, h2⟩
      have h3 := h2 x (by simp)
      refine ⟨?_, fun y hy => h2 y (List.mem_cons_of_mem _ hy)⟩
      by_cases e : x.dev = (d : Int)
      · rw [if_pos e]; have := h3.1 e; omega
      · rw [if_neg e]; omega
/-- the reference's question -/
theorem need_iff {d : Nat} {l : List EntV} {n : Nat} : ((n : Int) < needGo d l 0) ↔ ∃ x ∈ l, (x.dev = (d : Int) ∧ (n : Int) < x.no) ∨ (n : Int) < x.seen.getD d 0 := by
  rw [← Int.not_le, needGo_le]
  constructor
  · intro h
    apply Classical.byContradiction
    intro h2
    refine h ⟨by omega, fun x hx => ⟨fun e => ?_, ?_⟩⟩
    · apply Classical.byContradiction
      intro h3
      exact h2 ⟨x, hx, .inl ⟨e, by omega⟩⟩
    · apply Classical.byContradiction
      intro h3
      exact h2 ⟨x, hx, .inr (by omega)⟩
  · rintro ⟨x, hx, h⟩ ⟨_, h2⟩
    have h3 := h2 x hx
    rcases h with ⟨e, h⟩ | h
    · have := h3.1 e; omega
    · omega
/-- the first number of a device that is not there -/
theorem nextGo_is {d : Int} : ∀ {l : List EntV} {n : Nat}, Asc l → (∀ x ∈ l, x.dev = d → (n : Int) - 1 ≤ x.no) → n ≤ nextGo d l n ∧ (∀ k : Nat, n ≤ k → k < nextGo d l n → ∃ x ∈ l, x.dev = d ∧ x.no = (k : Int)) ∧ ¬ ∃ x ∈ l, x.dev = d ∧ x.no = ((nextGo d l n : Nat) : Int)
  | [], n, _, _ => ⟨Nat.le_refl _, fun k h1 h2 => by simp only [nextGo] at h2; omega, by simp⟩
  | x :: l, n, ha, hlow => by
    have ha' := List.pairwise_cons.1 ha
    simp only [nextGo]
    by_cases hx : x.dev = d ∧ x.no = (n : Int)
    · rw [if_pos hx]
      obtain ⟨h1, h2, h3⟩ := nextGo_is (d := d) (l := l) (n := n + 1) ha'.2 (fun y hy hyd => by
        rcases ha'.1 y hy with h | ⟨_, h | ⟨h, _⟩⟩ <;> omega)
      refine ⟨by omega, fun k hk1 hk2 => ?_, ?_⟩
      · rcases Nat.eq_or_lt_of_le hk1 with e | e
        · exact ⟨x, by simp, hx.1, by rw [← e]; exact hx.2⟩
        · obtain ⟨y, hy, h4⟩ := h2 k e hk2
          exact ⟨y, List.mem_cons_of_mem _ hy, h4⟩
      · rintro ⟨y, hy, hyd, hyn⟩
        rcases List.mem_cons.1 hy with e | e
        · rw [e, hx.2] at hyn; omega
        · exact h3 ⟨y, e, hyd, hyn⟩
    · rw [if_neg hx]
      by_cases hd : x.dev = d
      · by_cases hlo : x.no = (n : Int) - 1
        · obtain ⟨h1, h2, h3⟩ := nextGo_is (d := d) (l := l) (n := n) ha'.2 (fun y hy => hlow y (List.mem_cons_of_mem _ hy))
          refine ⟨h1, fun k hk1 hk2 => by obtain ⟨y, hy, h4⟩ := h2 k hk1 hk2; exact ⟨y, List.mem_cons_of_mem _ hy, h4⟩, ?_⟩
          rintro ⟨y, hy, hyd, hyn⟩
          rcases List.mem_cons.1 hy with e | e
          · rw [e, hlo] at hyn; omega
          · exact h3 ⟨y, e, hyd, hyn⟩
        · have hbig : (n : Int) < x.no := by
            have h4 := hlow x (by simp) hd
            have h5 : x.no ≠ (n : Int) := fun e => hx ⟨hd, e⟩
            omega
          have hrest : ∀ y ∈ l, ¬ (y.dev = d ∧ y.no = (n : Int)) := fun y hy h => by
            rcases ha'.1 y hy with h6 | ⟨_, h6 | ⟨h6, _⟩⟩ <;> omega
          have hstay : ∀ m : List EntV, (∀ y ∈ m, ¬ (y.dev = d ∧ y.no = (n : Int))) → nextGo d m n = n := by
            intro m
            induction m with
            | nil => intro _; rfl
            | cons z m ih =>
              intro hm
              simp only [nextGo]
              rw [if_neg (hm z (by simp))]
              exact ih fun y hy => hm y (List.mem_cons_of_mem _ hy)
          rw [hstay l hrest]
          refine ⟨Nat.le_refl _, fun k h7 h8 => by omega, ?_⟩
          rintro ⟨y, hy, hyd, hyn⟩
          rcases List.mem_cons.1 hy with e | e
          · rw [e] at hyn; omega
          · exact hrest y e ⟨hyd, hyn⟩
      · obtain ⟨h1, h2, h3⟩ := nextGo_is (d := d) (l := l) (n := n) ha'.2 (fun y hy => hlow y (List.mem_cons_of_mem _ hy))
        refine ⟨h1, fun k hk1 hk2 => by obtain ⟨y, hy, h4⟩ := h2 k hk1 hk2; exact ⟨y, List.mem_cons_of_mem _ hy, h4⟩, ?_⟩
        rintro ⟨y, hy, hyd, hyn⟩
        rcases List.mem_cons.1 hy with e | e
        · rw [e] at hyd; exact hd hyd
        · exact h3 ⟨y, e, hyd, hyn⟩
end Go.Proofs.YtjncmlglhegnaaaGreatDoor
namespace Go.Proofs.YtjncmlglhegnaaaGreatDoor

/-- what honest devices have written, in the order in which they wrote it -/
structure Hon (A : List EntV) : Prop where
  right : AllR A
  once : ∀ (i j : Nat) (x y : EntV), A[i]? = some x → A[j]? = some y → x.dev = y.dev → x.no = y.no → i = j
  seen : ∀ (i : Nat) (x : EntV), A[i]? = some x → ∀ e : Nat, e < 8 → ∀ k : Nat, (k : Int) < x.seen.getD e 0 → ∃ (j : Nat) (y : EntV), j < i ∧ A[j]? = some y ∧ y.dev = (e : Int) ∧ y.no = (k : Int)
  chain : ∀ e : Nat, e < 8 → checkF (ownF A (e : Int)) = 0
/-- a list that holds all that its entries had seen -/
structure Closed (A K : List EntV) : Prop where
  asc : Asc K
  sub : ∀ x ∈ K, x ∈ A
  seen : ∀ x ∈ K, ∀ e : Nat, e < 8 → ∀ k : Nat, (k : Int) < x.seen.getD e 0 → ∃ y ∈ K, y.dev = (e : Int) ∧ y.no = (k : Int)
section
variable {A K : List EntV}
theorem Closed.right (hA : Hon A) (h : Closed A K) : AllR K := fun x hx => hA.right x (h.sub x hx)
theorem Hon.same (hA : Hon A) {x y : EntV} (hx : x ∈ A) (hy : y ∈ A) (hd : x.dev = y.dev) (hn : x.no = y.no) : x = y := by
  obtain ⟨i, hi⟩ := List.getElem?_of_mem hx
  obtain ⟨j, hj⟩ := List.getElem?_of_mem hy
  have e := hA.once i j x y hi hj hd hn
  rw [e, hj] at hi
  exact (Option.some.inj hi).symm
theorem seen_own {x : EntV} (h : RightE x) {e : Nat} (he : x.dev = (e : Int)) : x.seen.getD e 0 = x.no := by
  have := h.own
  rw [he, Int.toNat_natCast] at this
  rw [List.getD_eq_getElem?_getD, this]
  rfl
theorem Closed.fork (hA : Hon A) (h : Closed A K) (d : Int) : forkB K d = false := by
  cases hf : forkB K d with
  | false => rfl
  | true =>
    obtain ⟨x, y, hx, hy, hc, _⟩ := (forkB_iff h.asc (h.right hA)).1 hf
    obtain ⟨_, _, h1, h2, h3⟩ := convicts_iff.1 hc
    exact (h3 (hA.same (h.sub x hx) (h.sub y hy) h1 h2)).elim
/-- the entries of a device, in the place of their number -/
theorem own_at_no (hA : Hon A) (h : Closed A K) {e : Nat} (he : e < 8) : ∀ (i : Nat) (x : EntV), (ownF K (e : Int))[i]? = some x → x.no = (i : Int) := by
  have hup : NoUp (ownF K (e : Int)) := noUp_own h.asc (h.right hA) (h.fork hA _)
  have h0 : ∀ x ∈ ownF K (e : Int), 0 ≤ x.no := fun x hx => (h.right hA x (mem_ownF.1 hx).1).n0
  intro i x hx
  have hge := noUp_ge hup h0 i x hx
  rcases Int.lt_or_le (i : Int) x.no with hlt | hle
  · exfalso
    obtain ⟨hxK, hxd⟩ := mem_ownF.1 (List.mem_of_getElem? hx)
    obtain ⟨y, hy, hyd, hyn⟩ := h.seen x hxK e he i (by rw [seen_own (h.right hA x hxK) hxd]; exact hlt)
    obtain ⟨p, hp⟩ := List.getElem?_of_mem (mem_ownF.2 ⟨hy, hyd⟩)
    have h1 := noUp_ge hup h0 p y hp
    rcases Nat.eq_or_lt_of_le (show p ≤ i by omega) with e1 | e1
    · rw [e1, hx] at hp
      have := Option.some.inj hp
      rw [this] at hlt
      omega
    · -- the entry p has the number i, and the entries below i are too few
      have key : ∀ (m : Nat) (z : EntV), m ≤ i → (ownF K (e : Int))[m]? = some z → m < i → z.no = (m : Int) := by
        intro m
        induction m using Nat.strongRecOn with
        | ind m ih =>
          intro z hm hz hmi
          have h2 := noUp_ge hup h0 m z hz
          rcases Int.lt_or_le (m : Int) z.no with h3 | h3
          · exfalso
            obtain ⟨hzK, hzd⟩ := mem_ownF.1 (List.mem_of_getElem? hz)
            obtain ⟨u, hu, hud, hun⟩ := h.seen z hzK e he m (by rw [seen_own (h.right hA z hzK) hzd]; exact h3)
            obtain ⟨q, hq⟩ := List.getElem?_of_mem (mem_ownF.2 ⟨hu, hud⟩)
            have h4 := noUp_ge hup h0 q u hq
            rcases Nat.eq_or_lt_of_le (show q ≤ m by omega) with h5 | h5
            · rw [h5, hz] at hq
              have := Option.some.inj hq
              rw [this] at h3
              omega
            · have := ih q h5 u (by omega) hq (by omega)
              omega
          · omega
      have := key p y (by omega) hp e1
      omega
  · omega
/-- the first entries of two lists of a device are the same -/
theorem own_pre (hA : Hon A) (h : Closed A K) {e : Nat} (he : e < 8) (hc : ∀ (i : Nat) (x : EntV), (ownF A (e : Int))[i]? = some x → x.no = (i : Int)) : ownF K (e : Int) = (ownF A (e : Int)).take (ownF K (e : Int)).length := by
  apply List.ext_getElem?
  intro i
  rw [List.getElem?_take]
  split
  · rename_i hi
    have hx := List.getElem?_eq_getElem hi
    have hm := mem_ownF.1 (List.getElem_mem hi)
    have hn := own_at_no hA h he i _ hx
    obtain ⟨p, hp⟩ := List.getElem?_of_mem (mem_ownF.2 ⟨h.sub _ hm.1, hm.2⟩)
    have hp2 := hc p _ hp
    have e1 : p = i := by omega
    rw [hx]
    rw [e1] at hp
    exact hp.symm
  · rename_i hi
    rw [List.getElem?_eq_none (by omega)]
theorem chain_no {l : List EntV} (h : checkF l = 0) : ∀ (i : Nat) (x : EntV), l[i]? = some x → x.no = (i : Int) := fun i x hx => (check_at h hx).no
/-- all that a closed list has of a device is its past -/
theorem Closed.past (hA : Hon A) (h : Closed A K) {e : Nat} (he : e < 8) : pastF K (e : Int) = ownF K (e : Int) := by
  have hat := own_at_no hA h he
  have hck : checkF (ownF K (e : Int)) = 0 := by
    rw [own_pre hA h he (chain_no (hA.chain e he))]
    exact check_take (hA.chain e he) _
  have hn : pastN (ownF K (e : Int)) = (ownF K (e : Int)).length := by
    refine Nat.le_antisymm (pastN_le _) (pastN_max (fun j hj => ?_) (by rw [List.take_length]; exact hck))
    obtain ⟨x, hx⟩ : ∃ x, (ownF K (e : Int))[j]? = some x := ⟨_, List.getElem?_eq_getElem hj⟩
    unfold soloB
    rw [hx]
    simp only [Bool.and_eq_true, decide_eq_true_eq]
    refine ⟨hat j x hx, ?_⟩
    cases hy : (ownF K (e : Int))[j + 1]? with
    | none => rfl
    | some y => have := hat (j + 1) y hy; simp only [decide_eq_true_eq]; omega
  unfold pastF
  rw [hn, List.take_length]
/-- of a closed list everything counts -/
theorem Closed.all (hA : Hon A) (h : Closed A K) {t : List Nat} {out : List EntV} (hr : RunI (pastsF K) (forksF K) t out) (hp : pickF (pastsF K) (forksF K) t = none) : ∀ e : Nat, e < 8 → t.getD e 0 = (ownF K (e : Int)).length := by
  have hP : ∀ e : Nat, e < 8 → (pastsF K).getD e [] = ownF K (e : Int) := fun e he => by rw [pasts_at _ he, h.past hA he]
  -- an entry of A in place i that lies in K is taken
  have key : ∀ (i : Nat) (x : EntV), A[i]? = some x → x ∈ K → ∀ e : Nat, e < 8 → x.dev = (e : Int) → x.no < ((t.getD e 0 : Nat) : Int) := by
    intro i
    induction i using Nat.strongRecOn with
    | ind i ih =>
      intro x hx hxK e he hxe
      apply Classical.byContradiction
      intro hnot
      have hxr := h.right hA x hxK
      obtain ⟨p, hpx⟩ := List.getElem?_of_mem (mem_ownF.2 ⟨hxK, hxe⟩)
      have hpn := own_at_no hA h he p x hpx
      -- x is the next entry of its device
      have hte : t.getD e 0 = p := by
        rcases Nat.lt_or_ge (t.getD e 0) p with h1 | h1
        · exfalso
          obtain ⟨y, hy, hyd, hyn⟩ := h.seen x hxK e he (t.getD e 0) (by rw [seen_own hxr hxe]; omega)
          obtain ⟨j, z, hj, hz, hzd, hzn⟩ := hA.seen i x hx e he (t.getD e 0) (by rw [seen_own hxr hxe]; omega)
          have hyz : y = z := hA.same (h.sub y hy) (List.mem_of_getElem? hz) (by rw [hyd, hzd]) (by rw [hyn, hzn])
          subst hyz
          have := ih j hj y hz hy e he hyd
          omega
        · omega
      have hready : readyF (pastsF K) (forksF K) t e = some x := by
        refine ready_iff.2 ⟨by rw [hP e he, hte]; exact hpx, blocked_iff.2 fun d hd hne => ?_⟩
        have hd8 : d < 8 := by have := hxr.len; omega
        unfold demandF
        rw [forks_at _ hd8, h.fork hA, if_neg (by simp)]
        apply Classical.byContradiction
        intro hlt
        obtain ⟨y, hy, hyd, hyn⟩ := h.seen x hxK d hd8 (t.getD d 0) (by omega)
        obtain ⟨j, z, hj, hz, hzd, hzn⟩ := hA.seen i x hx d hd8 (t.getD d 0) (by omega)
        have hyz : y = z := hA.same (h.sub y hy) (List.mem_of_getElem? hz) (by rw [hyd, hzd]) (by rw [hyn, hzn])
        subst hyz
        have := ih j hj y hz hy d hd8 hyd
        omega
      rw [pick_none hp he] at hready
      cases hready
  intro e he
  have h1 := hr.le e he
  rw [hP e he] at h1
  rcases Nat.eq_or_lt_of_le h1 with h2 | h2
  · exact h2
  · exfalso
    obtain ⟨x, hx⟩ : ∃ x, (ownF K (e : Int))[t.getD e 0]? = some x := ⟨_, List.getElem?_eq_getElem h2⟩
    obtain ⟨hxK, hxd⟩ := mem_ownF.1 (List.mem_of_getElem? hx)
    obtain ⟨i, hi⟩ := List.getElem?_of_mem (h.sub x hxK)
    have h3 := key i x hi hxK e he hxd
    have h4 := own_at_no hA h he _ x hx
    omega
/-- how many entries of each device a closed list has: more than each of its entries had seen -/
theorem Closed.ge (hA : Hon A) (h : Closed A K) {x : EntV} (hx : x ∈ K) {e : Nat} (he : e < 8) : x.seen.getD e 0 ≤ ((ownF K (e : Int)).length : Int) := by
  apply Classical.byContradiction
  intro hlt
  obtain ⟨y, hy, hyd, hyn⟩ := h.seen x hx e he (ownF K (e : Int)).length (by omega)
  obtain ⟨p, hp⟩ := List.getElem?_of_mem (mem_ownF.2 ⟨hy, hyd⟩)
  have h1 := own_at_no hA h he p y hp
  have h2 := (List.getElem?_eq_some_iff.1 hp).1
  omega
/-- two closed lists, joined -/
theorem Closed.join (hA : Hon A) {K1 K2 : List EntV} (h1 : Closed A K1) (h2 : Closed A K2) : Closed A (joinF (K1 ++ K2)) := by
  refine ⟨joinF_asc _, fun x hx => ?_, fun x hx e he k hk => ?_⟩
  · rcases List.mem_append.1 (mem_joinF.1 hx).1 with h | h
    · exact h1.sub x h
    · exact h2.sub x h
  · rcases List.mem_append.1 (mem_joinF.1 hx).1 with h | h
    · obtain ⟨y, hy, hyd, hyn⟩ := h1.seen x h e he k hk
      exact ⟨y, mem_joinF.2 ⟨List.mem_append_left _ hy, h1.right hA y hy⟩, hyd, hyn⟩
    · obtain ⟨y, hy, hyd, hyn⟩ := h2.seen x h e he k hk
      exact ⟨y, mem_joinF.2 ⟨List.mem_append_right _ hy, h2.right hA y hy⟩, hyd, hyn⟩
theorem Closed.self (hA : Hon A) : Closed A (joinF A) :=
  ⟨joinF_asc _, fun x hx => (mem_joinF.1 hx).1, fun x hx e he k hk => by
    obtain ⟨i, hi⟩ := List.getElem?_of_mem (mem_joinF.1 hx).1
    obtain ⟨j, y, _, hy, hyd, hyn⟩ := hA.seen i x hi e he k hk
    exact ⟨y, mem_joinF.2 ⟨List.mem_of_getElem? hy, hA.right y (List.mem_of_getElem? hy)⟩, hyd, hyn⟩⟩
theorem Closed.empty (A : List EntV) : Closed A [] := ⟨List.Pairwise.nil, fun x h => by simp at h, fun x h => by simp at h⟩
theorem Closed.more (h : Closed A K) (x : EntV) : Closed (A ++ [x]) K := ⟨h.asc, fun y hy => List.mem_append_left _ (h.sub y hy), h.seen⟩
end
end Go.Proofs.YtjncmlglhegnaaaGreatDoor
namespace Go.Proofs.YtjncmlglhegnaaaGreatDoor

theorem check_snocM {l : List EntV} {v : EntV} : checkF (l ++ [v]) = 0 ↔ checkF l = 0 ∧ l.length < 400 ∧ OkAt (l ++ [v]) l.length v := by
  have hx : (l ++ [v])[l.length]? = some v := by simp
  constructor
  · intro h
    refine ⟨?_, ?_, check_at h hx⟩
    · have h2 := check_take h l.length
      rwa [List.take_append_of_le_length (Nat.le_refl _), List.take_length] at h2
    · have h2 := (checkF_zero.1 h).1
      simp at h2
      omega
  · rintro ⟨h1, h2, h3⟩
    refine checkF_zero.2 ⟨by simp; omega, fun i hi => ?_⟩
    simp at hi
    rcases Nat.lt_or_ge i l.length with h4 | h4
    · rw [← check_err h1 i]
      exact errAt_pre (k := l.length) h4 (fun j hj => List.getElem?_append_left hj)
    · obtain rfl : i = l.length := by omega
      exact (errAt_zero hx).2 h3
section
variable {A K : List EntV}
theorem own_whole (hA : Hon A) (hK : Closed A K) {d : Nat} (hd : d < 8) (hown : ∀ x ∈ A, x.dev = (d : Int) → x ∈ K) : ownF K (d : Int) = ownF A (d : Int) := by
  have h1 := own_pre hA hK hd (chain_no (hA.chain d hd))
  rcases Nat.lt_or_ge (ownF K (d : Int)).length (ownF A (d : Int)).length with h2 | h2
  · exfalso
    obtain ⟨x, hx⟩ : ∃ x, (ownF A (d : Int))[(ownF K (d : Int)).length]? = some x := ⟨_, List.getElem?_eq_getElem h2⟩
    have hn := chain_no (hA.chain d hd) _ x hx
    obtain ⟨hxA, hxd⟩ := mem_ownF.1 (List.mem_of_getElem? hx)
    obtain ⟨p, hp⟩ := List.getElem?_of_mem (mem_ownF.2 ⟨hown x hxA hxd, hxd⟩)
    have h3 := own_at_no hA hK hd p x hp
    have h4 := (List.getElem?_eq_some_iff.1 hp).1
    omega
  · rw [h1, List.take_of_length_le h2]
theorem own_len_le (hA : Hon A) (hK : Closed A K) {e : Nat} (he : e < 8) : (ownF K (e : Int)).length ≤ A.length := by
  have h1 := own_pre hA hK he (chain_no (hA.chain e he))
  have h2 : (ownF A (e : Int)).length ≤ A.length := by unfold ownF; exact List.length_filter_le ..
  have h3 := congrArg List.length h1
  rw [List.length_take] at h3
  omega
/-- the entry that a device writes that knows K -/
abbrev writes (K : List EntV) (d : Nat) (day : Int) (m : List Int) (text : List UInt8) : EntV := ⟨(d : Int), ((ownF K (d : Int)).length : Int), day, m, text⟩
theorem hon_step (hA : Hon A) (hK : Closed A K) {d : Nat} (hd : d < 8) (hown : ∀ x ∈ A, x.dev = (d : Int) → x ∈ K) {day : Int} (hday : ∀ x ∈ A, x.dev = (d : Int) → x.day ≤ day) (h0 : 0 ≤ day) (h1 : day ≤ 100000) (hlen : A.length < 400)
    {m : List Int} (hm8 : m.length = 8) (hm : ∀ e : Nat, e < 8 → m.getD e 0 = ((ownF K (e : Int)).length : Int)) {text : List UInt8} (ht : text.length ≤ 4000) :
    checkF (ownF K (d : Int) ++ [writes K d day m text]) = 0 ∧ Hon (A ++ [writes K d day m text]) ∧ Closed (A ++ [writes K d day m text]) (joinF (K ++ [writes K d day m text])) := by
  have hat : ∀ e : Nat, e < 8 → m[e]? = some ((ownF K (e : Int)).length : Int) := fun e he => by
    have h2 := hm e he
    rw [List.getD_eq_getElem?_getD, List.getElem?_eq_getElem (by omega)] at h2
    rw [List.getElem?_eq_getElem (by omega)]
    exact congrArg some h2
  have hwhole := own_whole hA hK hd hown
  have hxr : RightE (writes K d day m text) := by
    refine ⟨by show (0 : Int) ≤ (d : Int); omega, by show (d : Int) ≤ 7; omega, by show (0 : Int) ≤ ((ownF K (d : Int)).length : Int); omega, ?_, h0, h1, hm8, fun n hn => ?_, ?_, ht⟩
    · show ((ownF K (d : Int)).length : Int) ≤ 399
      have := own_len_le hA hK hd
      omega
    · obtain ⟨e, he⟩ := List.getElem?_of_mem hn
      have he8 : e < 8 := by have h2 : e < m.length := (List.getElem?_eq_some_iff.1 he).1; omega
      rw [hat e he8] at he
      have := own_len_le hA hK he8
      have h3 := Option.some.inj he
      omega
    · show m[((d : Int)).toNat]? = some ((ownF K (d : Int)).length : Int)
      rw [Int.toNat_natCast]
      exact hat d hd
  have hck : checkF (ownF K (d : Int) ++ [writes K d day m text]) = 0 := by
    refine check_snocM.2 ⟨by rw [hwhole]; exact hA.chain d hd, by have := own_len_le hA hK hd; omega, hxr, ?_, rfl, fun j p hj hp => ?_, fun j p hj hp => ?_⟩
    · cases hC : ownF K (d : Int) with
      | nil => simp
      | cons y r =>
        have hy : y ∈ ownF K (d : Int) := by rw [hC]; simp
        have := (mem_ownF.1 hy).2
        simp [this]
    · rw [List.getElem?_append_left (by omega)] at hp
      obtain ⟨hpK, hpd⟩ := mem_ownF.1 (List.mem_of_getElem? hp)
      exact hday p (hK.sub p hpK) hpd
    · rw [List.getElem?_append_left (by omega)] at hp
      obtain ⟨hpK, hpd⟩ := mem_ownF.1 (List.mem_of_getElem? hp)
      refine lessSome_false.2 fun i u v hu hv => ?_
      have hi8 : i < 8 := by have := (List.getElem?_eq_some_iff.1 hv).1; show i < 8; rw [← hm8]; exact this
      have h3 := hK.ge hA hpK hi8
      rw [List.getD_eq_getElem?_getD, hu] at h3
      have h4 : m[i]? = some v := hv
      rw [hat i hi8] at h4
      have h5 := Option.some.inj h4
      rw [← h5]
      exact h3
  have hAx : Hon (A ++ [writes K d day m text]) := by
    have hnew : ∀ (j : Nat) (y : EntV), A[j]? = some y → y.dev = (d : Int) → y.no < ((ownF K (d : Int)).length : Int) := fun j y hy hyd => by
      obtain ⟨p, hp⟩ := List.getElem?_of_mem (mem_ownF.2 ⟨hown y (List.mem_of_getElem? hy) hyd, hyd⟩)
      have h3 := own_at_no hA hK hd p y hp
      have h4 := (List.getElem?_eq_some_iff.1 hp).1
      omega
    have hget : ∀ (i : Nat) (y : EntV), (A ++ [writes K d day m text])[i]? = some y → A[i]? = some y ∨ (i = A.length ∧ y = writes K d day m text) := fun i y hy => by
      rcases Nat.lt_or_ge i A.length with h3 | h3
      · rw [List.getElem?_append_left h3] at hy; exact .inl hy
      · rw [List.getElem?_append_right h3] at hy
        rcases Nat.eq_or_lt_of_le h3 with h4 | h4
        · rw [← h4, Nat.sub_self] at hy
          exact .inr ⟨h4.symm, (Option.some.inj hy).symm⟩
        · rw [List.getElem?_eq_none (by simp; omega)] at hy; cases hy
    refine ⟨fun y hy => ?_, fun i j x y hx hy hdv hno => ?_, fun i x hx e he k hk => ?_, fun e he => ?_⟩
    · rcases List.mem_append.1 hy with h3 | h3
      · exact hA.right y h3
      · rw [List.mem_singleton.1 h3]; exact hxr
    · rcases hget i x hx with h3 | ⟨h3, h4⟩ <;> rcases hget j y hy with h5 | ⟨h5, h6⟩
      · exact hA.once i j x y h3 h5 hdv hno
      · exfalso
        rw [h6] at hdv hno
        have := hnew i x h3 hdv
        rw [hno] at this
        exact Int.lt_irrefl _ this
      · exfalso
        rw [h4] at hdv hno
        have := hnew j y h5 hdv.symm
        rw [← hno] at this
        exact Int.lt_irrefl _ this
      · omega
    · rcases hget i x hx with h3 | ⟨h3, h4⟩
      · obtain ⟨j, y, hj, hy, hyd, hyn⟩ := hA.seen i x h3 e he k hk
        exact ⟨j, y, hj, by rw [List.getElem?_append_left (List.getElem?_eq_some_iff.1 hy).1]; exact hy, hyd, hyn⟩
      · rw [h4] at hk
        have hk2 : (k : Int) < m.getD e 0 := hk
        rw [hm e he] at hk2
        obtain ⟨y, hy⟩ : ∃ y, (ownF K (e : Int))[k]? = some y := ⟨_, List.getElem?_eq_getElem (by omega)⟩
        obtain ⟨hyK, hyd⟩ := mem_ownF.1 (List.mem_of_getElem? hy)
        obtain ⟨j, hj⟩ := List.getElem?_of_mem (hK.sub y hyK)
        have hjl := (List.getElem?_eq_some_iff.1 hj).1
        exact ⟨j, y, by omega, by rw [List.getElem?_append_left hjl]; exact hj, hyd, own_at_no hA hK he k y hy⟩
    · have happ : ownF (A ++ [writes K d day m text]) (e : Int) = ownF A (e : Int) ++ ownF [writes K d day m text] (e : Int) := by unfold ownF; rw [List.filter_append]
      rw [happ]
      by_cases hed : d = e
      · subst hed
        have : ownF [writes K d day m text] (d : Int) = [writes K d day m text] := by unfold ownF; rw [List.filter_cons_of_pos (by rw [decide_eq_true_eq])]; rfl
        rw [this, ← hwhole]
        exact hck
      · have : ownF [writes K d day m text] (e : Int) = [] := by unfold ownF; rw [List.filter_cons_of_neg (by rw [decide_eq_true_eq]; show ¬ (d : Int) = (e : Int); omega)]; rfl
        rw [this, List.append_nil]
        exact hA.chain e he
  refine ⟨hck, hAx, joinF_asc _, fun y hy => ?_, fun y hy e he k hk => ?_⟩
  · rcases List.mem_append.1 (mem_joinF.1 hy).1 with h3 | h3
    · exact List.mem_append_left _ (hK.sub y h3)
    · exact List.mem_append_right _ h3
  · rcases List.mem_append.1 (mem_joinF.1 hy).1 with h3 | h3
    · obtain ⟨z, hz, hzd, hzn⟩ := hK.seen y h3 e he k hk
      exact ⟨z, mem_joinF.2 ⟨List.mem_append_left _ hz, hK.right hA z hz⟩, hzd, hzn⟩
    · rw [List.mem_singleton.1 h3] at hk
      have hk2 : (k : Int) < m.getD e 0 := hk
      rw [hm e he] at hk2
      obtain ⟨z, hz⟩ : ∃ z, (ownF K (e : Int))[k]? = some z := ⟨_, List.getElem?_eq_getElem (by omega)⟩
      obtain ⟨hzK, hzd⟩ := mem_ownF.1 (List.mem_of_getElem? hz)
      exact ⟨z, mem_joinF.2 ⟨List.mem_append_left _ hzK, hK.right hA z hzK⟩, hzd, own_at_no hA hK he k z hz⟩
end
end Go.Proofs.YtjncmlglhegnaaaGreatDoor
namespace Go.Proofs.YtjncmlglhegnaaaGreatDoor
open Go.RowKit Go.Sort Go.Lib

def cmp3 (x y : Int) : Int := if x < y then -1 else if y < x then 1 else 0
def cmpS (a b : List UInt8) : Int := if a < b then -1 else if b < a then 1 else 0
def or3 (a b c : Int) : Int := if a = 0 then (if b = 0 then c else b) else a
set_option maxRecDepth 100000 in
set_option maxHeartbeats 1000000 in
theorem nan_int (x : Int) (w : World) : Calls Tryz.prog 182 #[.int .i64 x] w fun e w' => e = .returned (.bool false) ∧ w = w' := by
  go_enter Tryz.func182, Tryz.ntmps182
  go_wp2_with (fail)
  go_ret
  exact ⟨ret_bool (by simp), rfl⟩
set_option maxRecDepth 100000 in
set_option maxHeartbeats 1000000 in
theorem cmp_int (x y r : Int) (w : World) (hr : cmp3 x y = r) : Calls Tryz.prog 144 #[.int .i64 x, .int .i64 y] w fun e w' => e = .returned (.int .i64 r) ∧ w = w' := by
  subst hr
  unfold cmp3
  by_cases h1 : x < y
  · rw [if_pos h1]
    go_enter Tryz.func144, Tryz.ntmps144
    go_wp2_with (first
      | ((with_reducible refine (nan_int x w).mono ?_); rintro _ w9 ⟨rfl, hw9⟩; obtain rfl := hw9)
      | ((with_reducible refine (nan_int y w).mono ?_); rintro _ w9 ⟨rfl, hw9⟩; obtain rfl := hw9))
    go_ret
    exact ⟨rfl, rfl⟩
  · rw [if_neg h1]
    by_cases h2 : y < x
    · rw [if_pos h2]
      have h1' : y ≤ x := by omega
      go_enter Tryz.func144, Tryz.ntmps144
      go_wp2_with (first
        | ((with_reducible refine (nan_int x w).mono ?_); rintro _ w9 ⟨rfl, hw9⟩; obtain rfl := hw9)
        | ((with_reducible refine (nan_int y w).mono ?_); rintro _ w9 ⟨rfl, hw9⟩; obtain rfl := hw9))
      go_ret
      exact ⟨rfl, rfl⟩
    · rw [if_neg h2]
      obtain rfl : x = y := by omega
      go_enter Tryz.func144, Tryz.ntmps144
      go_wp2_with ((with_reducible refine (nan_int x w).mono ?_); rintro _ w9 ⟨rfl, hw9⟩; obtain rfl := hw9)
      go_ret
      exact ⟨rfl, rfl⟩
set_option maxRecDepth 100000 in
set_option maxHeartbeats 1000000 in
theorem nan_str (s : List UInt8) (w : World) : Calls Tryz.prog 183 #[.string ⟨s.toArray⟩] w fun e w' => e = .returned (.bool false) ∧ w = w' := by
  go_enter Tryz.func183, Tryz.ntmps183
  go_wp2_with (fail)
  go_ret
  exact ⟨ret_bool (by simp), rfl⟩
theorem less_is (a b : List UInt8) : Op.bytesLess a b = decide (a < b) := bytesLess_eq a b
set_option maxRecDepth 100000 in
set_option maxHeartbeats 1000000 in
theorem cmp_str (a b : List UInt8) (r : Int) (w : World) (hr : cmpS a b = r) : Calls Tryz.prog 145 #[.string ⟨a.toArray⟩, .string ⟨b.toArray⟩] w fun e w' => e = .returned (.int .i64 r) ∧ w = w' := by
  subst hr
  unfold cmpS
  have h3 := less_is a b
  have h4 := less_is b a
  by_cases h1 : a < b
  · rw [if_pos h1]
    rw [decide_eq_true h1] at h3
    clear h4
    go_enter Tryz.func145, Tryz.ntmps145
    go_wp2_with (first
      | ((with_reducible refine (nan_str a w).mono ?_); rintro _ w9 ⟨rfl, hw9⟩; obtain rfl := hw9)
      | ((with_reducible refine (nan_str b w).mono ?_); rintro _ w9 ⟨rfl, hw9⟩; obtain rfl := hw9))
    go_ret
    exact ⟨rfl, rfl⟩
  · rw [if_neg h1]
    rw [decide_eq_false h1] at h3
    by_cases h2 : b < a
    · rw [if_pos h2]
      rw [decide_eq_true h2] at h4
      have hne : (a == b) = false := beq_eq_false_iff_ne.2 (fun e => List.lt_irrefl _ (by rw [e] at h2; exact h2))
      have hne2 : ¬ a = b := fun e => List.lt_irrefl _ (by rw [e] at h2; exact h2)
      go_enter Tryz.func145, Tryz.ntmps145
      go_wp2_with (first
        | ((with_reducible refine (nan_str a w).mono ?_); rintro _ w9 ⟨rfl, hw9⟩; obtain rfl := hw9)
        | ((with_reducible refine (nan_str b w).mono ?_); rintro _ w9 ⟨rfl, hw9⟩; obtain rfl := hw9))
      go_ret
      exact ⟨rfl, rfl⟩
    · rw [if_neg h2]
      obtain rfl : a = b := List.le_antisymm (List.not_lt.1 h2) (List.not_lt.1 h1)
      have hne : (a == a) = true := beq_self_eq_true a
      go_enter Tryz.func145, Tryz.ntmps145
      go_wp2_with ((with_reducible refine (nan_str a w).mono ?_); rintro _ w9 ⟨rfl, hw9⟩; obtain rfl := hw9)
      go_ret
      exact ⟨rfl, rfl⟩
set_option maxRecDepth 100000 in
set_option maxHeartbeats 2000000 in
/-- cmp.Or of three -/
theorem or_three (a b c r : Int) (w : World) (g : Nat) (h0 : w.cell? ⟨g, 0, none⟩ = some (.int .i64 a)) (h1 : w.cell? ⟨g, 1, none⟩ = some (.int .i64 b)) (h2 : w.cell? ⟨g, 2, none⟩ = some (.int .i64 c)) (hr : or3 a b c = r) :
    Calls Tryz.prog 143 #[.slice (some ⟨g, 0, none⟩) 3 3] w fun e w' => e = .returned (.int .i64 r) ∧ w = w' := by
  have HR := Lib.hid hr
  clear hr
  go_enter Tryz.func143, Tryz.ntmps143
  go_wp2_with (fail)
  go_loopw [8] (fun i wr => ∃ k : Nat, k ≤ 3 ∧ i = .int .i64 (k : Int) ∧ wr = w ∧ (0 < k → a = 0) ∧ (1 < k → b = 0) ∧ (2 < k → c = 0)) (fun i _ => 3 - (Go.RowKit.intOf i).toNat)
  case atStart => exact ⟨0, Nat.zero_le _, rfl, rfl, by simp, by simp, by simp⟩
  case round =>
    obtain ⟨k, hk, rfl, rfl, ha, hb, hc⟩ := hrel
    have hk2 : k = 0 ∨ k = 1 ∨ k = 2 ∨ k = 3 := by omega
    rcases hk2 with rfl | rfl | rfl | rfl
    · clear ha hb hc hk
      by_cases hz : a = 0
      · subst hz
        have hzb : ((0 : Int) != 0) = false := rfl
        go_wp2_with (fail)
        go_roundw
        case rel => exact ⟨1, by omega, by go_num, trivial, by simp, by simp, by simp⟩
        case measure => simp [Go.RowKit.intOf]
      · have hzb : (a != 0) = true := by simpa using hz
        have HZ := Lib.hid hz
        clear hz
        go_wp2_with (fail)
        go_ret
        exact ⟨ret_int (by rw [← HR.out, or3, if_neg HZ.out]), rfl⟩
    · obtain rfl : a = 0 := ha (by omega)
      clear ha hb hc hk
      by_cases hz : b = 0
      · subst hz
        have hzb : ((0 : Int) != 0) = false := rfl
        go_wp2_with (fail)
        go_roundw
        case rel => exact ⟨2, by omega, by go_num, trivial, by simp, by simp, by simp⟩
        case measure => simp [Go.RowKit.intOf]
      · have hzb : (b != 0) = true := by simpa using hz
        have HZ := Lib.hid hz
        clear hz
        go_wp2_with (fail)
        go_ret
        exact ⟨ret_int (by rw [← HR.out, or3, if_pos rfl, if_neg HZ.out]), rfl⟩
    · obtain rfl : a = 0 := ha (by omega)
      obtain rfl : b = 0 := hb (by omega)
      clear ha hb hc hk
      by_cases hz : c = 0
      · subst hz
        have hzb : ((0 : Int) != 0) = false := rfl
        go_wp2_with (fail)
        go_roundw
        case rel => exact ⟨3, by omega, by go_num, trivial, by simp, by simp, by simp⟩
        case measure => simp [Go.RowKit.intOf]
      · have hzb : (c != 0) = true := by simpa using hz
        have HZ := Lib.hid hz
        clear hz
        go_wp2_with (fail)
        go_ret
        exact ⟨ret_int (by rw [← HR.out, or3, if_pos rfl, if_pos rfl]), rfl⟩
    · obtain rfl : a = 0 := ha (by omega)
      obtain rfl : b = 0 := hb (by omega)
      obtain rfl : c = 0 := hc (by omega)
      clear ha hb hc hk
      go_wp2_with (fail)
      go_ret
      exact ⟨ret_int (by rw [← HR.out]; rfl), rfl⟩
/-- how two items are compared -/
def cmpE (x y : EntV) : Int := or3 (cmp3 x.dev y.dev) (cmp3 x.no y.no) (cmpS (encodeF x).1 (encodeF y).1)
set_option maxRecDepth 100000 in
set_option maxHeartbeats 4000000 in
theorem compare_any {B0 : Nat} (w : World) (hE : Env B0 w) (hB0 : B0 ≤ w.heap.size) (x y : EntC) (hx : EntAt w x) (hy : EntAt w y) (lx : x.v.seen.length ≤ 1099511627776 ∧ x.v.text.length ≤ 140737488351232) (ly : y.v.seen.length ≤ 1099511627776 ∧ y.v.text.length ≤ 140737488351232) (r : Int) (hr : cmpE x.v y.v = r) :
    Calls Tryz.prog 96 #[.agg x.cells.toArray, .agg y.cells.toArray] w fun e w' => e = .returned (.int .i64 r) ∧ Below w.heap.size w w' := by
  obtain ⟨⟨sx, bx⟩, hsx⟩ : ∃ q, encodeF x.v = q := ⟨_, rfl⟩
  obtain ⟨⟨sy, by_⟩, hsy⟩ : ∃ q, encodeF y.v = q := ⟨_, rfl⟩
  unfold cmpE at hr
  rw [hsx, hsy] at hr
  have CX := Lib.hid (fun W (hb : Below w.heap.size w W) => Encode_any W (hE.below (hb.mono hB0)) (Nat.le_trans hB0 hb.size) x (hx.below hb) lx (sx, bx) hsx)
  have CY := Lib.hid (fun W (hb : Below w.heap.size w W) => Encode_any W (hE.below (hb.mono hB0)) (Nat.le_trans hB0 hb.size) y (hy.below hb) ly (sy, by_) hsy)
  obtain ⟨⟨xd, xn, xy, xs, xt⟩, xA, xc⟩ := x
  obtain ⟨⟨yd, yn, yy, ys, yt⟩, yA, yc⟩ := y
  simp only at hr
  have HC1 := Lib.hid (fun W => cmp_int xd yd _ W rfl)
  have HC2 := Lib.hid (fun W => cmp_int xn yn _ W rfl)
  have HC3 := Lib.hid (fun W => cmp_str sx sy _ W rfl)
  have HO := Lib.hid (fun W g h0 h1 h2 => or_three (cmp3 xd yd) (cmp3 xn yn) (cmpS sx sy) r W g h0 h1 h2 hr)
  clear hx hy lx ly hsx hsy hr hE hB0
  generalize cmp3 xd yd = c1 at *
  generalize cmp3 xn yn = c2 at *
  generalize cmpS sx sy = c3 at *
  simp only [EntC.cells]
  have L1 := Lib.hid (locs2 (Below.refl ((w.alloc (.cells #[.int .i64 xd, .int .i64 xn, .int .i64 xy, .slice xA xs.length xc, .string ⟨xt.toArray⟩] 141)).alloc (.cells #[.int .i64 yd, .int .i64 yn, .int .i64 yy, .slice yA ys.length yc, .string ⟨yt.toArray⟩] 141)).heap.size _))
  go_enter Tryz.func96, Tryz.ntmps96
  go_wp2_with (fail)
  generalize (w.alloc (.cells #[.int .i64 xd, .int .i64 xn, .int .i64 xy, .slice xA xs.length xc, .string ⟨xt.toArray⟩] 141)).alloc (.cells #[.int .i64 yd, .int .i64 yn, .int .i64 yy, .slice yA ys.length yc, .string ⟨yt.toArray⟩] 141) = W at *
  simp only [EntC.cells] at CX CY
  ((with_reducible refine (CX.out _ L1.out.2.2).mono ?_); rintro _ w1 ⟨rfl, hb1⟩)
  have LX := Lib.hid (L1.out.1.below hb1)
  have LY := Lib.hid (L1.out.2.1.below hb1)
  have HB1 := Lib.hid (L1.out.2.2.trans (hb1.mono L1.out.2.2.size))
  clear hb1 CX L1
  obtain ⟨zx, kx, fx⟩ := LX.out
  obtain ⟨zy, ky, fy⟩ := LY.out
  go_wp2_with (fail)
  ((with_reducible refine (CY.out _ HB1.out).mono ?_); rintro _ w2 ⟨rfl, hb2⟩)
  replace LX := Lib.hid (LX.out.below hb2)
  replace LY := Lib.hid (LY.out.below hb2)
  have HB2 := Lib.hid (HB1.out.trans (hb2.mono HB1.out.size))
  clear hb2 CY HB1 zx kx fx zy ky fy
  obtain ⟨zx, kx, fx⟩ := LX.out
  obtain ⟨zy, ky, fy⟩ := LY.out
  go_wp2_with (fail)
  have HSV : Hid (w2.drew.cell? ⟨w.heap.size, 0, none⟩ = some (.int .i64 xd) ∧ w2.drew.cell? ⟨w.heap.size, 1, none⟩ = some (.int .i64 xn) ∧ w2.drew.cell? ⟨w.heap.size + 1, 0, none⟩ = some (.int .i64 yd) ∧ w2.drew.cell? ⟨w.heap.size + 1, 1, none⟩ = some (.int .i64 yn)) := ⟨LX.out.cell 0, LX.out.cell 1, LY.out.cell 0, LY.out.cell 1⟩
  have HSA : Hid (∀ o, (w2.alloc o).drew.cell? ⟨w.heap.size, 0, none⟩ = some (.int .i64 xd) ∧ (w2.alloc o).drew.cell? ⟨w.heap.size, 1, none⟩ = some (.int .i64 xn) ∧ (w2.alloc o).drew.cell? ⟨w.heap.size + 1, 0, none⟩ = some (.int .i64 yd) ∧ (w2.alloc o).drew.cell? ⟨w.heap.size + 1, 1, none⟩ = some (.int .i64 yn)) := Lib.hid fun o => ⟨(LX.out.alloc o).cell 0, (LX.out.alloc o).cell 1, (LY.out.alloc o).cell 0, (LY.out.alloc o).cell 1⟩
  have HC0 : Hid (∀ a b c : Value, (w2.alloc (.cells #[a, b, c] 3)).drew.cell? ⟨w2.heap.size, 0, none⟩ = some a ∧ (w2.alloc (.cells #[a, b, c] 3)).drew.cell? ⟨w2.heap.size, 1, none⟩ = some b ∧ (w2.alloc (.cells #[a, b, c] 3)).drew.cell? ⟨w2.heap.size, 2, none⟩ = some c) := Lib.hid fun a b c => ⟨(Loc.new_ w2 #[a, b, c] 3).cell 0, (Loc.new_ w2 #[a, b, c] 3).cell 1, (Loc.new_ w2 #[a, b, c] 3).cell 2⟩
  clear zx kx fx zy ky fy
  go_region_held3 (fun w' => w'.cell? ⟨w.heap.size, 0, none⟩ = some (.int .i64 xd) ∧ w'.cell? ⟨w.heap.size, 1, none⟩ = some (.int .i64 xn) ∧ w'.cell? ⟨w.heap.size + 1, 0, none⟩ = some (.int .i64 yd) ∧ w'.cell? ⟨w.heap.size + 1, 1, none⟩ = some (.int .i64 yn))
    (first | exact HSV.out | exact HSA.out _)
    (first
      | ((with_reducible refine (HC1.out _).mono ?_); rintro _ w9 ⟨rfl, hw9⟩; obtain rfl := hw9)
      | ((with_reducible refine (HC2.out _).mono ?_); rintro _ w9 ⟨rfl, hw9⟩; obtain rfl := hw9)
      | ((with_reducible refine (HC3.out _).mono ?_); rintro _ w9 ⟨rfl, hw9⟩; obtain rfl := hw9)
      | ((with_reducible refine (HO.out _ w2.heap.size (HC0.out _ _ _).1 (HC0.out _ _ _).2.1 (HC0.out _ _ _).2.2).mono ?_); rintro _ w9 ⟨rfl, hw9⟩; obtain rfl := hw9))
  go_wp2_with (fail)
  go_ret
  exact ⟨rfl, (HB2.out.alloc HB2.out.size _).drew⟩
end Go.Proofs.YtjncmlglhegnaaaGreatDoor
