/- merge: the plain law of MergeOrders. -/
import Derived.Test.YtnnnibkainlplaaGreatDoorMrgG0
namespace Go.Proofs.YtnnnibkainlplaaGreatDoor
open Go.RowKit

theorem ord_in {V : List EntV} {x : EntV} (hx : x ∈ (ordF V).2) : x ∈ joinF V := by
  have h := (run_ends V).1
  obtain ⟨h0, h7⟩ := h.dev x hx
  obtain ⟨d, hd⟩ : ∃ d : Nat, x.dev = (d : Int) := ⟨x.dev.toNat, by omega⟩
  have h1 : x ∈ ownF (ordF V).2 (d : Int) := mem_ownF.2 ⟨hx, hd⟩
  rw [h.own d (by omega), pasts_at _ (by omega)] at h1
  have h2 := List.mem_of_mem_take h1
  unfold pastF at h2
  exact (mem_ownF.1 (List.mem_of_mem_take h2)).1
theorem ord_no {V : List EntV} {i : Nat} {x : EntV} (hx : (ordF V).2[i]? = some x) : ((countF ((ordF V).2.take i) x.dev.toNat : Nat) : Int) = x.no := order_own (pasts_ok _) (run_ends V).1 hx
theorem ord_heads {V : List EntV} {d : Nat} (hd : d < 8) : (ordF V).1.getD d 0 = countF (ordF V).2 d := by
  have h := (run_ends V).1
  unfold countF
  rw [h.own d hd, List.length_take, Nat.min_eq_left (h.le d hd)]
theorem ord_own {V : List EntV} {d : Nat} (hd : d < 8) : ownF (ordF V).2 (d : Int) = (pastF (joinF V) (d : Int)).take (countF (ordF V).2 d) ∧ countF (ordF V).2 d ≤ (pastF (joinF V) (d : Int)).length := by
  have h := (run_ends V).1
  have h1 := h.own d hd
  have h2 := h.le d hd
  rw [ord_heads hd, pasts_at _ hd] at h1 h2
  exact ⟨h1, h2⟩
theorem ord_wants {V : List EntV} {i : Nat} {x : EntV} (hx : (ordF V).2[i]? = some x) {d : Nat} (hd : d < 8) {s : Int} (hs : x.seen[d]? = some s) (hgt : ((countF ((ordF V).2.take i) d : Nat) : Int) < s) :
    (d : Int) ∈ forkO V ∧ (ordF V).1.getD d 0 ≤ countF ((ordF V).2.take i) d := by
  have h := (run_ends V).1
  have hr := (mem_joinF.1 (ord_in (List.mem_of_getElem? hx))).2
  by_cases hdx : (d : Int) = x.dev
  · exfalso
    have h1 := ord_no hx
    have h2 := hr.own
    rw [← hdx, Int.toNat_natCast] at h1 h2
    rw [hs] at h2
    injection h2 with h2
    omega
  · have h1 := h.wants i x hx d (by rw [hr.len]; exact hd) hdx
    unfold demandF at h1
    rw [forks_at _ hd, pasts_at _ hd, List.getD_eq_getElem?_getD, hs, Option.getD_some] at h1
    have h3 := h.le d hd
    rw [pasts_at _ hd] at h3
    cases hf : forkB (joinF V) (d : Int) with
    | false =>
      rw [hf, if_neg (by simp)] at h1
      omega
    | true =>
      rw [hf, if_pos rfl] at h1
      exact ⟨mem_forkO.2 hf, by omega⟩
theorem ord_lenV (V : List EntV) : (ordF V).2.length ≤ V.length := by
  have hs : ∀ (out : List EntV), (∀ x ∈ out, 0 ≤ x.dev ∧ x.dev ≤ 7) → out.length = (List.range 8).foldl (fun n d => n + countF out d) 0 := by
    intro out ho
    induction out with
    | nil => rfl
    | cons x r ih =>
      have hx := ho x (by simp)
      have ih := ih (fun y hy => ho y (by simp [hy]))
      obtain ⟨e, he⟩ : ∃ e : Nat, x.dev = (e : Int) := ⟨x.dev.toNat, by omega⟩
      have hc : ∀ d : Nat, countF (x :: r) d = if e = d then countF r d + 1 else countF r d := fun d => by
        unfold countF ownF
        by_cases hed : e = d
        · rw [if_pos hed, List.filter_cons_of_pos (by rw [he, hed]; simp)]; rfl
        · rw [if_neg hed, List.filter_cons_of_neg (by rw [he]; simp only [decide_eq_true_eq]; omega)]
      simp only [List.range, List.range.loop, List.foldl, hc] at ih ⊢
      rw [List.length_cons, ih]
      have : e = 0 ∨ e = 1 ∨ e = 2 ∨ e = 3 ∨ e = 4 ∨ e = 5 ∨ e = 6 ∨ e = 7 := by omega
      rcases this with rfl | rfl | rfl | rfl | rfl | rfl | rfl | rfl <;> simp <;> omega
  have hj : ∀ x ∈ joinF V, 0 ≤ x.dev ∧ x.dev ≤ 7 := fun x hx => ⟨(joinF_right V x hx).d0, (joinF_right V x hx).d1⟩
  have hb : ∀ d : Nat, d < 8 → countF (ordF V).2 d ≤ countF (joinF V) d := fun d hd => by
    refine Nat.le_trans (ord_own hd).2 ?_
    unfold pastF countF
    rw [List.length_take]
    exact Nat.min_le_right _ _
  refine Nat.le_trans ?_ (joinF_len V)
  rw [hs _ (run_ends V).1.dev, hs _ hj]
  have h0 := hb 0 (by omega)
  have h1 := hb 1 (by omega)
  have h2 := hb 2 (by omega)
  have h3 := hb 3 (by omega)
  have h4 := hb 4 (by omega)
  have h5 := hb 5 (by omega)
  have h6 := hb 6 (by omega)
  have h7 := hb 7 (by omega)
  simp only [List.range, List.range.loop, List.foldl]
  omega
theorem past_none (V : List EntV) : pastF (joinF V) (-1) = [] := by
  have e : ownF (joinF V) (-1) = [] := by
    unfold ownF
    rw [List.filter_eq_nil_iff]
    intro x hx
    have := (joinF_right V x hx).d0
    simp only [decide_eq_true_eq]
    omega
  unfold pastF
  rw [e]
  simp
theorem countF_snoc {L : List EntV} {i : Nat} {x : EntV} (hx : L[i]? = some x) (d : Nat) : countF (L.take (i + 1)) d = if x.dev = (d : Int) then countF (L.take i) d + 1 else countF (L.take i) d := by
  have e : L.take (i + 1) = L.take i ++ [x] := by rw [List.take_add_one, hx]; rfl
  unfold countF ownF
  rw [e, List.filter_append]
  by_cases h : x.dev = (d : Int)
  · rw [if_pos h, List.filter_cons_of_pos (by simpa using h)]; simp
  · rw [if_neg h, List.filter_cons_of_neg (by simpa using h)]; simp
theorem asc_next {L : List EntV} (h : Asc L) {i : Nat} {x y : EntV} (hx : L[i]? = some x) (hy : L[i + 1]? = some y) : x.dev < y.dev ∨ (x.dev = y.dev ∧ x.no ≤ y.no) := by
  rcases asc_at h hx hy (by omega) with h | ⟨h1, h | ⟨h2, _⟩⟩
  · exact .inl h
  · exact .inr ⟨h1, by omega⟩
  · exact .inr ⟨h1, by omega⟩
theorem asc_new {L : List EntV} (h : Asc L) {i : Nat} {x : EntV} (hx : L[i]? = some x) : x ∉ L.take i := by
  intro hm
  obtain ⟨k, hk⟩ := List.getElem?_of_mem hm
  rw [List.getElem?_take] at hk
  split at hk
  · rename_i hki
    exact ltE_irrefl x (asc_at h hk hx hki)
  · cases hk
theorem past_ok (V : List EntV) (d : Int) : checkF (pastF (joinF V) d) = 0 := past_check _ _
end Go.Proofs.YtnnnibkainlplaaGreatDoor
