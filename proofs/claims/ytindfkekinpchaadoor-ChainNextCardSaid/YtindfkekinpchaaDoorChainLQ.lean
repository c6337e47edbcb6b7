/- chain: when there is a next entry, in plain Lean. -/
import Derived.Test.YtindfkekinpchaaDoorChainLP
import Derived.Test.YtindfkekinpchaaDoorChainJ
namespace Go.Proofs.YtindfkekinpchaaDoor
open Go.Lib

def mayStep (l : List EntV) (device day : Int) (known : List Int) (i : Nat) : Bool :=
  (decide ((i : Int) = device) || (decide (0 ≤ known.getD i 0) && decide (known.getD i 0 ≤ 400))) &&
    (match l.getLast? with | none => true | some p => (decide (p.dev = device) && decide (p.day ≤ day)) && (decide ((i : Int) = device) || decide (p.seen.getD i 0 ≤ known.getD i 0)))
structure May0 (l : List EntV) (device day : Int) (known : List Int) : Prop where
  d0 : 0 ≤ device
  d1 : device < 8
  len : known.length = 8
  chk : checkF l = 0
  room : l.length < 400
  y0 : 0 ≤ day
  y1 : day ≤ 100000
theorem check_snoc {l : List EntV} {v : EntV} : checkF (l ++ [v]) = 0 ↔ checkF l = 0 ∧ l.length < 400 ∧ OkAt (l ++ [v]) l.length v := by
  have hx : (l ++ [v])[l.length]? = some v := by simp
  constructor
  · intro h
    refine ⟨?_, ?_, check_at h hx⟩
    · have h2 := check_take h l.length
      rwa [List.take_append_of_le_length (Nat.le_refl _), List.take_length] at h2
    · have h2 := (checkF_zero.1 h).1
      simp at h2
      omega
  · rintro ⟨h1, h2, h3⟩
    refine checkF_zero.2 ⟨by simp; omega, fun i hi => ?_⟩
    simp at hi
    rcases Nat.lt_or_ge i l.length with h4 | h4
    · rw [← check_err h1 i]
      exact errAt_pre (k := l.length) h4 (fun j hj => List.getElem?_append_left hj)
    · obtain rfl : i = l.length := by omega
      exact (errAt_zero hx).2 h3
theorem getD_of {l : List Int} {i : Nat} {x : Int} (h : l[i]? = some x) : l.getD i 0 = x := by rw [List.getD_eq_getElem?_getD, h]; rfl
theorem next_right {l : List EntV} {device day : Int} {known : List Int} {text : List UInt8} (ht : text.length ≤ 4000) (hd : 0 ≤ device ∧ device ≤ 7) (hk : known.length = 8) (hr : l.length < 400) :
    RightE (nextV l device day known text) ↔ (0 ≤ day ∧ day ≤ 100000) ∧ ∀ i : Nat, i < 8 → ((i : Int) = device ∨ (0 ≤ known.getD i 0 ∧ known.getD i 0 ≤ 400)) := by
  have hset : ∀ i x, (known.set device.toNat (l.length : Int))[i]? = some x → (i = device.toNat ∧ x = (l.length : Int)) ∨ (i ≠ device.toNat ∧ known[i]? = some x) := by
    intro i x h
    rw [List.getElem?_set] at h
    split at h
    · rename_i e
      split at h
      · left; exact ⟨e.symm, (Option.some.inj h).symm⟩
      · cases h
    · rename_i e
      right; exact ⟨fun h' => e h'.symm, h⟩
  constructor
  · intro h
    refine ⟨⟨h.y0, h.y1⟩, fun i hi => ?_⟩
    by_cases e : (i : Int) = device
    · exact .inl e
    · right
      obtain ⟨x, hx⟩ : ∃ x, known[i]? = some x := ⟨_, List.getElem?_eq_getElem (by omega)⟩
      rw [getD_of hx]
      refine h.rng x ?_
      refine List.mem_of_getElem? (i := i) ?_
      show (known.set device.toNat (l.length : Int))[i]? = some x
      rw [List.getElem?_set_ne (by omega)]
      exact hx
  · rintro ⟨⟨y0, y1⟩, h⟩
    refine ⟨hd.1, hd.2, ?_, ?_, y0, y1, ?_, ?_, ?_, ht⟩
    · show (0 : Int) ≤ (l.length : Int); omega
    · show (l.length : Int) ≤ 399; omega
    · show (known.set device.toNat (l.length : Int)).length = 8; rw [List.length_set]; exact hk
    · intro n hn
      obtain ⟨i, hi⟩ := List.getElem?_of_mem hn
      rcases hset i n hi with ⟨_, e⟩ | ⟨e1, e2⟩
      · rw [e]; omega
      · have hl := (List.getElem?_eq_some_iff.1 e2).1
        rcases h i (by omega) with e3 | e3
        · omega
        · rw [getD_of e2] at e3; exact e3
    · show (known.set device.toNat (l.length : Int))[device.toNat]? = some (l.length : Int)
      rw [List.getElem?_set_self (by omega)]
theorem next_may {l : List EntV} {device day : Int} {known : List Int} {text : List UInt8} (ht : text.length ≤ 4000) :
    (nextF l device day known text).2 = 0 ↔ May0 l device day known ∧ ∀ i : Nat, i < known.length → mayStep l device day known i = true := by
  unfold nextF
  by_cases hd : 0 ≤ device ∧ device ≤ 7
  case neg =>
    rw [if_neg (by simp; omega)]
    exact ⟨(fun h => by cases h), (fun h => by have h1 := h.1.d0; have h2 := h.1.d1; omega)⟩
  by_cases hk : known.length = 8
  case neg =>
    rw [if_neg (by simp [hk])]
    exact ⟨(fun h => by cases h), fun h => absurd h.1.len hk⟩
  rw [if_pos ⟨by simp [hd], hk⟩]
  have e2 : (if checkF (l ++ [nextV l device day known text]) = 0 then (nextV l device day known text, (0 : Int)) else (.zero, checkF (l ++ [nextV l device day known text]))).2 = 0 ↔ checkF (l ++ [nextV l device day known text]) = 0 := by
    split
    · rename_i h; exact ⟨fun _ => h, fun _ => rfl⟩
    · exact Iff.rfl
  rw [e2, check_snoc]
  have hR := fun hr => next_right (l := l) (device := device) (day := day) (known := known) (text := text) ht hd hk hr
  rcases List.eq_nil_or_concat l with rfl | ⟨l', p, rfl⟩
  · constructor
    · rintro ⟨h1, h2, h3⟩
      have h4 := (hR h2).1 h3.right
      refine ⟨⟨hd.1, by omega, hk, h1, h2, h4.1.1, h4.1.2⟩, fun i hi => ?_⟩
      have h5 := h4.2 i (by omega)
      simp only [mayStep, List.getLast?_nil, Bool.and_true, Bool.or_eq_true, Bool.and_eq_true, decide_eq_true_eq]
      exact h5
    · rintro ⟨h1, h2⟩
      refine ⟨h1.chk, h1.room, ⟨(hR h1.room).2 ⟨⟨h1.y0, h1.y1⟩, fun i hi => ?_⟩, rfl, rfl, fun j q e => ?_, fun j q e => ?_⟩⟩
      · have h3 := h2 i (by omega)
        simpa only [mayStep, List.getLast?_nil, Bool.and_true, Bool.or_eq_true, Bool.and_eq_true, decide_eq_true_eq] using h3
      · simp at e
      · simp at e
  · have hp : (l'.concat p ++ [nextV (l'.concat p) device day known text])[l'.length]? = some p := by simp
    have hp' : (l'.concat p)[l'.length]? = some p := by simp
    have hl : (l'.concat p).length = l'.length + 1 := by simp
    have hlast : (l'.concat p).getLast? = some p := by simp
    have hhead : ((l'.concat p ++ [nextV (l'.concat p) device day known text]).head?.map (·.dev)) = ((l'.concat p).head?.map (·.dev)) := by
      cases l' <;> simp
    constructor
    · rintro ⟨h1, h2, h3⟩
      have h4 := (hR h2).1 h3.right
      have h5 := check_at h1 hp'
      have h6 := h3.dev
      rw [hhead, h5.dev] at h6
      have h7 : p.dev = device := Option.some.inj h6
      have h8 : p.day ≤ day := h3.day l'.length p hl hp
      have h9 := h3.seen l'.length p hl hp
      refine ⟨⟨hd.1, by omega, hk, h1, h2, h4.1.1, h4.1.2⟩, fun i hi => ?_⟩
      have h10 := h4.2 i (by omega)
      simp only [mayStep, hlast, Bool.or_eq_true, Bool.and_eq_true, decide_eq_true_eq]
      refine ⟨h10, ⟨h7, h8⟩, ?_⟩
      by_cases e : (i : Int) = device
      · exact .inl e
      · right
        obtain ⟨x, hx⟩ : ∃ x, known[i]? = some x := ⟨_, List.getElem?_eq_getElem (by omega)⟩
        obtain ⟨y, hy⟩ : ∃ y, p.seen[i]? = some y := ⟨_, List.getElem?_eq_getElem (by rw [h5.right.len]; omega)⟩
        rw [getD_of hx, getD_of hy]
        refine lessSome_false.1 h9 i y x hy ?_
        show (known.set device.toNat _)[i]? = some x
        rw [List.getElem?_set_ne (by omega)]
        exact hx
    · rintro ⟨h1, h2⟩
      have h5 := check_at h1.chk hp'
      have hs : ∀ i : Nat, i < 8 → ((i : Int) = device ∨ (0 ≤ known.getD i 0 ∧ known.getD i 0 ≤ 400)) ∧ (p.dev = device ∧ p.day ≤ day) ∧ ((i : Int) = device ∨ p.seen.getD i 0 ≤ known.getD i 0) := fun i hi => by
        have h3 := h2 i (by omega)
        simpa only [mayStep, hlast, Bool.or_eq_true, Bool.and_eq_true, decide_eq_true_eq] using h3
      have h6 := (hs 0 (by omega)).2.1
      refine ⟨h1.chk, h1.room, ⟨(hR h1.room).2 ⟨⟨h1.y0, h1.y1⟩, fun i hi => (hs i hi).1⟩, ?_, rfl, fun j q e hq => ?_, fun j q e hq => ?_⟩⟩
      · rw [hhead, h5.dev, h6.1]; rfl
      · obtain rfl : j = l'.length := by omega
        obtain rfl : p = q := Option.some.inj (hp.symm.trans hq)
        exact h6.2
      · obtain rfl : j = l'.length := by omega
        obtain rfl : p = q := Option.some.inj (hp.symm.trans hq)
        refine lessSome_false.2 fun i y x hy hx => ?_
        have hx' : (known.set device.toNat ((l'.concat p).length : Int))[i]? = some x := hx
        have hi := (List.getElem?_eq_some_iff.1 hx').1
        rw [List.length_set] at hi
        rw [List.getElem?_set] at hx'
        split at hx'
        · rename_i e2
          rw [if_pos (by omega)] at hx'
          have e3 := Option.some.inj hx'
          have h7 := h5.right.own
          rw [h6.1, e2, hy] at h7
          have h8 := Option.some.inj h7
          have h9 := h5.no
          omega
        · rename_i e2
          have h7 := (hs i (by omega)).2.2
          rw [getD_of hy, getD_of hx'] at h7
          omega
/-- what the next entry is, if there is one, and if there is none -/
theorem nextF_yes {l : List EntV} {device day : Int} {known : List Int} {text : List UInt8} (h : (nextF l device day known text).2 = 0) : (nextF l device day known text).1 = nextV l device day known text ∧ checkF (l ++ [nextV l device day known text]) = 0 := by
  unfold nextF at h ⊢
  split
  · rename_i h1
    rw [if_pos h1] at h
    split
    · rename_i h2; exact ⟨rfl, h2⟩
    · rename_i h2; rw [if_neg h2] at h; exact absurd h h2
  · rename_i h1
    rw [if_neg h1] at h
    cases h
theorem nextF_no {l : List EntV} {device day : Int} {known : List Int} {text : List UInt8} (h : (nextF l device day known text).2 ≠ 0) : (nextF l device day known text).1 = .zero := by
  unfold nextF at h ⊢
  split
  · rename_i h1
    rw [if_pos h1] at h
    split
    · rename_i h2; rw [if_pos h2] at h; exact absurd rfl h
    · rfl
  · rfl
end Go.Proofs.YtindfkekinpchaaDoor
