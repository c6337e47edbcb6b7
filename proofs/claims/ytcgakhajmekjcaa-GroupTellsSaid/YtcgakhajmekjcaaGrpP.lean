/- group: what Split and Turns compute, in plain Lean; ranks. -/
import Derived.Test.YtcgakhajmekjcaaRows
namespace Go.Proofs.Ytcgakhajmekjcaa

theorem perm_of_nodup {α : Type} [DecidableEq α] : ∀ (l1 l2 : List α), l1.Nodup → (∀ x ∈ l1, x ∈ l2) → l2.length ≤ l1.length → l1.Perm l2
  | [], l2, _, _, h => by
    have : l2 = [] := List.eq_nil_of_length_eq_zero (by simpa using h)
    subst this
    exact List.Perm.refl _
  | x :: xs, l2, hn, hs, h => by
    have hx := hs x (by simp)
    have hp := List.perm_cons_erase hx
    have hn2 := List.nodup_cons.1 hn
    refine (List.Perm.cons x (perm_of_nodup xs (l2.erase x) hn2.2 (fun y hy => ?_) ?_)).trans hp.symm
    · have hyx : y ≠ x := fun e => hn2.1 (e ▸ hy)
      exact (List.mem_erase_of_ne hyx).2 (hs y (by simp [hy]))
    · rw [List.length_erase_of_mem hx]
      simp only [List.length_cons] at h
      omega
def sumL : List Int → Int
  | [] => 0
  | x :: l => x + sumL l
theorem sumL_append : ∀ (a b : List Int), sumL (a ++ b) = sumL a + sumL b
  | [], b => by simp [sumL]
  | x :: a, b => by simp only [List.cons_append, sumL, sumL_append a b]; omega
theorem sumL_perm {a b : List Int} (h : a.Perm b) : sumL a = sumL b := by
  induction h with
  | nil => rfl
  | cons x _ ih => simp [sumL, ih]
  | swap x y l => simp only [sumL]; omega
  | trans _ _ ih1 ih2 => exact ih1.trans ih2
theorem sumL_map_add {α : Type} (f g : α → Int) : ∀ l : List α, sumL (l.map fun x => f x + g x) = sumL (l.map f) + sumL (l.map g)
  | [] => rfl
  | x :: l => by simp only [List.map_cons, sumL, sumL_map_add f g l]; omega
theorem sumL_le {α : Type} (f g : α → Int) : ∀ l : List α, (∀ x ∈ l, f x ≤ g x) → sumL (l.map f) ≤ sumL (l.map g)
  | [], _ => Int.le_refl _
  | x :: l, h => by
    have h1 := h x (by simp)
    have h2 := sumL_le f g l fun y hy => h y (by simp [hy])
    simp only [List.map_cons, sumL]
    omega
theorem sumL_const (c : Int) : ∀ l : List Int, (∀ x ∈ l, x = c) → sumL l = c * l.length
  | [], _ => by simp [sumL]
  | x :: l, h => by
    have h1 := h x (by simp)
    have h2 := sumL_const c l fun y hy => h y (by simp [hy])
    simp only [sumL, h2, List.length_cons]
    subst h1
    rw [Int.natCast_add, Int.mul_add]
    simp
    omega
theorem sumL_mul (c : Int) : ∀ l : List Int, sumL (l.map fun x => c * x) = c * sumL l
  | [] => by simp [sumL]
  | x :: l => by simp only [List.map_cons, sumL, sumL_mul c l, Int.mul_add]
/-- how many of the first n are less than m -/
theorem sumL_lt (m : Int) : ∀ n : Nat, 0 ≤ m → m ≤ n → sumL ((List.range n).map fun (k : Nat) => if (k : Int) < m then 1 else 0) = m
  | 0, h1, h2 => by simp [sumL]; omega
  | n + 1, h1, h2 => by
    rw [List.range_succ, List.map_append, sumL_append]
    by_cases h : m ≤ n
    · rw [sumL_lt m n h1 h]
      simp only [List.map_cons, List.map_nil, sumL]
      rw [if_neg (by omega)]
      omega
    · have e : m = (n : Int) + 1 := by omega
      have h3 : sumL ((List.range n).map fun (k : Nat) => if (k : Int) < m then 1 else 0) = sumL ((List.range n).map fun (k : Nat) => if (k : Int) < (n : Int) then 1 else 0) := by
        congr 1
        refine List.map_congr_left fun k hk => ?_
        have := List.mem_range.1 hk
        rw [if_pos (by omega), if_pos (by omega)]
      rw [h3, sumL_lt n n (by omega) (Int.le_refl _)]
      simp only [List.map_cons, List.map_nil, sumL]
      rw [if_pos (by omega)]
      omega

/-- i comes ahead of j: the greater rest, or the same one and the smaller turn -/
def ahead (r : Nat → Int) (t : Nat → Int) (i j : Nat) : Bool := decide (r j < r i ∨ (r i = r j ∧ t i < t j))
def rankOf (n : Nat) (r : Nat → Int) (t : Nat → Int) (i : Nat) : Nat := (List.range n).countP fun j => ahead r t j i
section
variable {n : Nat} {r t : Nat → Int}
theorem ahead_irrefl (i : Nat) : ahead r t i i = false := by simp [ahead]
theorem ahead_trans {i j k : Nat} (h1 : ahead r t i j = true) (h2 : ahead r t j k = true) : ahead r t i k = true := by
  simp only [ahead, decide_eq_true_eq] at *
  omega
theorem ahead_total (ht : ∀ i j, i < n → j < n → t i = t j → i = j) {i j : Nat} (hi : i < n) (hj : j < n) (hne : i ≠ j) : ahead r t i j = true ∨ ahead r t j i = true := by
  simp only [ahead, decide_eq_true_eq]
  have : t i ≠ t j := fun h => hne (ht i j hi hj h)
  omega
theorem countP_mono {α : Type} {p q : α → Bool} : ∀ l : List α, (∀ x ∈ l, p x = true → q x = true) → l.countP p ≤ l.countP q
  | [], _ => by simp
  | x :: l, h => by
    have h1 := h x (by simp)
    have h2 := countP_mono l fun y hy => h y (by simp [hy])
    rw [List.countP_cons, List.countP_cons]
    by_cases hp : p x = true
    · rw [if_pos hp, if_pos (h1 hp)]; omega
    · rw [if_neg hp]; split <;> omega
theorem countP_less {α : Type} {p q : α → Bool} {y : α} : ∀ l : List α, (∀ x ∈ l, p x = true → q x = true) → y ∈ l → p y = false → q y = true → l.countP p < l.countP q
  | [], _, hy, _, _ => by simp at hy
  | x :: l, h, hy, hpy, hqy => by
    have hm := countP_mono l fun z hz => h z (by simp [hz])
    rw [List.countP_cons, List.countP_cons]
    rcases List.mem_cons.1 hy with e | hy
    · subst e
      rw [if_neg (by simp [hpy]), if_pos hqy]
      omega
    · have h1 := h x (by simp)
      have h2 := countP_less l (fun z hz => h z (by simp [hz])) hy hpy hqy
      by_cases hp : p x = true
      · rw [if_pos hp, if_pos (h1 hp)]; omega
      · rw [if_neg hp]; split <;> omega
theorem rank_less {i j : Nat} (hi : i < n) (h : ahead r t i j = true) : rankOf n r t i < rankOf n r t j :=
  countP_less _ (fun _ _ hx => ahead_trans hx h) (List.mem_range.2 hi) (ahead_irrefl i) h
theorem rank_iff (ht : ∀ i j, i < n → j < n → t i = t j → i = j) {i j : Nat} (hi : i < n) (hj : j < n) : rankOf n r t i < rankOf n r t j ↔ ahead r t i j = true := by
  refine ⟨fun h => ?_, rank_less hi⟩
  by_cases e : i = j
  · subst e; omega
  · rcases ahead_total (r := r) ht hi hj e with h1 | h1
    · exact h1
    · have := rank_less (n := n) hj h1
      omega
theorem rank_lt {i : Nat} (hi : i < n) : rankOf n r t i < n := by
  have h := countP_less (p := fun j => ahead r t j i) (q := fun _ => true) (y := i) (List.range n) (fun _ _ _ => rfl) (List.mem_range.2 hi) (ahead_irrefl i) rfl
  rw [List.countP_eq_length.2 (fun _ _ => rfl), List.length_range] at h
  exact h
theorem nodup_map {α β : Type} (f : α → β) : ∀ l : List α, l.Nodup → (∀ x ∈ l, ∀ y ∈ l, f x = f y → x = y) → (l.map f).Nodup
  | [], _, _ => by simp
  | x :: l, hn, hf => by
    have hn2 := List.nodup_cons.1 hn
    rw [List.map_cons, List.nodup_cons]
    refine ⟨fun hm => ?_, nodup_map f l hn2.2 fun a ha b hb => hf a (by simp [ha]) b (by simp [hb])⟩
    obtain ⟨y, hy, e⟩ := List.mem_map.1 hm
    exact hn2.1 (hf y (by simp [hy]) x (by simp) e ▸ hy)
theorem rank_perm (ht : ∀ i j, i < n → j < n → t i = t j → i = j) : ((List.range n).map (rankOf n r t)).Perm (List.range n) := by
  refine perm_of_nodup _ _ (nodup_map _ _ List.nodup_range fun i hi j hj e => ?_) (fun x hx => ?_) (by simp)
  · have hi := List.mem_range.1 hi
    have hj := List.mem_range.1 hj
    by_cases h : i = j
    · exact h
    · rcases ahead_total (r := r) ht hi hj h with h1 | h1
      · have := rank_less (n := n) hi h1; omega
      · have := rank_less (n := n) hj h1; omega
  · obtain ⟨i, hi, rfl⟩ := List.mem_map.1 hx
    exact List.mem_range.2 (rank_lt (List.mem_range.1 hi))
theorem rank_at (ht : ∀ i j, i < n → j < n → t i = t j → i = j) {k : Nat} (hk : k < n) : ∃ i, i < n ∧ rankOf n r t i = k := by
  have := (rank_perm (r := r) ht).mem_iff.2 (List.mem_range.2 hk)
  obtain ⟨i, hi, e⟩ := List.mem_map.1 this
  exact ⟨i, List.mem_range.1 hi, e⟩
/-- the units that are given out one by one -/
theorem rank_sum (ht : ∀ i j, i < n → j < n → t i = t j → i = j) {m : Int} (h0 : 0 ≤ m) (h1 : m ≤ n) : sumL ((List.range n).map fun (i : Nat) => if ((rankOf n r t i : Nat) : Int) < m then (1 : Int) else 0) = m := by
  have h := sumL_perm ((rank_perm (r := r) ht).map (fun (k : Nat) => (if (k : Int) < m then 1 else 0 : Int)))
  rw [List.map_map, sumL_lt m n h0 h1] at h
  exact h
/-- a list of all of them, in order: each stands at its rank -/
theorem rank_sorted {l : List Nat} (hp : l.Perm (List.range n)) (hs : ∀ (i j x y : Nat), i < j → l[i]? = some x → l[j]? = some y → ahead r t x y = true) {k x : Nat} (hx : l[k]? = some x) : rankOf n r t x = k := by
  have h1 : rankOf n r t x = l.countP fun j => ahead r t j x := (hp.countP_eq _).symm
  obtain ⟨hlt, hxe⟩ := List.getElem?_eq_some_iff.1 hx
  rw [h1]
  have h2 : l = l.take k ++ l.drop k := (List.take_append_drop k l).symm
  rw [h2, List.countP_append]
  have h3 : (l.take k).countP (fun j => ahead r t j x) = k := by
    rw [List.countP_eq_length.2 fun y hy => ?_, List.length_take]
    · omega
    · obtain ⟨i, hi, e⟩ := List.mem_iff_getElem.1 hy
      rw [List.length_take] at hi
      exact hs i k y x (by omega) (by rw [← e, List.getElem_take]; exact List.getElem?_eq_getElem _) hx
  have h4 : (l.drop k).countP (fun j => ahead r t j x) = 0 := by
    rw [List.countP_eq_zero]
    intro y hy
    obtain ⟨i, hi, e⟩ := List.mem_iff_getElem.1 hy
    rw [List.length_drop] at hi
    rw [List.getElem_drop] at e
    by_cases hi0 : i = 0
    · subst hi0
      have : y = x := by rw [← e, ← hxe]; rfl
      subst this
      simp [ahead_irrefl]
    · have h5 := hs k (k + i) x y (by omega) hx (by rw [← e]; exact List.getElem?_eq_getElem _)
      intro h6
      have := ahead_trans h5 h6
      rw [ahead_irrefl] at this
      cases this
  omega
end
end Go.Proofs.Ytcgakhajmekjcaa
