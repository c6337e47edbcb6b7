/- chain: what the laws say of right chains, in plain Lean. -/
import Derived.Test.YtnnnibkainlplaaDoorChainP
namespace Go.Proofs.YtnnnibkainlplaaDoor
open Go.Lib

theorem errAt_congr {l m : List EntV} {i : Nat} (h0 : l.head?.map (·.dev) = m.head?.map (·.dev)) (hi : l[i]? = m[i]?) (hp : ∀ j, i = j + 1 → l[j]? = m[j]?) : errAt l i = errAt m i := by
  unfold errAt
  rw [h0, hi]
  cases i with
  | zero => rfl
  | succ j => simp only [hp j rfl]
theorem scanE_first {f : Nat → Int} {e : Int} (he : e ≠ 0) : ∀ {k i m : Nat}, (∀ j, i ≤ j → j < i + k → f j = 0) → f (i + k) = e → scanE f (k + (m + 1)) i = e
  | 0, i, m, _, h => by
    rw [Nat.zero_add, scanE]
    rw [Nat.add_zero] at h
    rw [h, if_neg he]
  | k + 1, i, m, h0, h => by
    rw [show k + 1 + (m + 1) = (k + (m + 1)) + 1 by omega, scanE, if_pos (h0 i (Nat.le_refl _) (by omega))]
    exact scanE_first he (fun j h1 h2 => h0 j (by omega) (by omega)) (by rw [show i + 1 + k = i + (k + 1) by omega]; exact h)
theorem checkF_first {l : List EntV} {k : Nat} {e : Int} (he : e ≠ 0) (hl : l.length ≤ 400) (h0 : ∀ j, j < k → errAt l j = 0) (hk : k < l.length) (h : errAt l k = e) : checkF l = e := by
  unfold checkF
  rw [if_neg (by omega), show l.length = k + ((l.length - k - 1) + 1) by omega]
  exact scanE_first he (fun j _ hj => h0 j (by omega)) (by rw [Nat.zero_add]; exact h)
theorem errAt_none {l : List EntV} {i : Nat} (h : l.length ≤ i) : errAt l i = 0 := by
  unfold errAt
  rw [List.getElem?_eq_none h]
theorem check_err {l : List EntV} (h : checkF l = 0) (i : Nat) : errAt l i = 0 := by
  rcases Nat.lt_or_ge i l.length with h1 | h1
  · exact (checkF_zero.1 h).2 i h1
  · exact errAt_none h1
/-- two lists with the same first entries -/
theorem errAt_pre {l m : List EntV} {k i : Nat} (hi : i < k) (h : ∀ j, j < k → l[j]? = m[j]?) : errAt l i = errAt m i := by
  refine errAt_congr ?_ (h i hi) (fun j e => h j (by omega))
  rw [List.head?_eq_getElem?, List.head?_eq_getElem?, h 0 (by omega)]
theorem take_at {α : Type} {l r : List α} {k j : Nat} (hj : j < k) (hk : k ≤ l.length) : (l.take k ++ r)[j]? = l[j]? := by
  rw [List.getElem?_append_left (by rw [List.length_take]; omega), List.getElem?_take_of_lt hj]
theorem take_at2 {α : Type} {l r : List α} {k j : Nat} (hj : k ≤ j) (hk : k ≤ l.length) : (l.take k ++ r)[j]? = r[j - k]? := by
  rw [List.getElem?_append_right (by rw [List.length_take]; omega), List.length_take, Nat.min_eq_left hk]
theorem check_take {l : List EntV} (h : checkF l = 0) (k : Nat) : checkF (l.take k) = 0 := by
  refine checkF_zero.2 ⟨by have := (checkF_zero.1 h).1; rw [List.length_take]; omega, fun i hi => ?_⟩
  rw [List.length_take] at hi
  rw [← check_err h i]
  exact errAt_pre (k := k) (by omega) (fun j hj => List.getElem?_take_of_lt hj)
theorem check_without {l : List EntV} (h : checkF l = 0) {k : Nat} (hk : k + 1 < l.length) : checkF (l.take k ++ l.drop (k + 1)) = 23 := by
  have h4 := (checkF_zero.1 h).1
  obtain ⟨x, hx⟩ : ∃ x, l[k + 1]? = some x := ⟨_, List.getElem?_eq_getElem hk⟩
  have ho := check_at h hx
  have hx' : (l.take k ++ l.drop (k + 1))[k]? = some x := by
    rw [take_at2 (Nat.le_refl _) (by omega), Nat.sub_self, List.getElem?_drop, Nat.add_zero, hx]
  refine checkF_first (k := k) (by omega) (by simp; omega) (fun j hj => ?_) (by simp; omega) ?_
  · rw [← check_err h j]
    exact errAt_pre hj (fun i hi => take_at hi (by omega))
  · have hh : ((l.take k ++ l.drop (k + 1)).head?.map (·.dev)) = some x.dev := by
      rw [List.head?_eq_getElem?]
      rcases Nat.eq_zero_or_pos k with h0 | h0
      · subst h0; rw [hx']; rfl
      · rw [take_at h0 (by omega), ← List.head?_eq_getElem?]; exact ho.dev
    unfold errAt
    rw [hx', hh]
    simp only [rightB_true.2 ho.right, if_true]
    rw [if_pos (by have := ho.no; omega)]
theorem check_twice {l : List EntV} (h : checkF l = 0) (h3 : l.length ≤ 100) {k : Nat} (hk : k < l.length) : checkF (l.take (k + 1) ++ l.drop k) = 5 := by
  obtain ⟨x, hx⟩ : ∃ x, l[k]? = some x := ⟨_, List.getElem?_eq_getElem hk⟩
  have ho := check_at h hx
  have hx' : (l.take (k + 1) ++ l.drop k)[k + 1]? = some x := by
    rw [take_at2 (Nat.le_refl _) (by omega), Nat.sub_self, List.getElem?_drop, Nat.add_zero, hx]
  refine checkF_first (k := k + 1) (by omega) (by simp; omega) (fun j hj => ?_) (by simp; omega) ?_
  · rw [← check_err h j]
    exact errAt_pre hj (fun i hi => take_at hi (by omega))
  · have hh : ((l.take (k + 1) ++ l.drop k).head?.map (·.dev)) = some x.dev := by
      rw [List.head?_eq_getElem?, take_at (by omega) (by omega), ← List.head?_eq_getElem?]; exact ho.dev
    unfold errAt
    rw [hx', hh]
    simp only [rightB_true.2 ho.right, if_true]
    rw [if_neg (by have := ho.no; omega), if_pos (by have := ho.no; omega)]
theorem check_last {l : List EntV} (h : checkF l = 0) {k : Nat} (hk : k + 1 = l.length) : checkF (l.take k ++ l.drop (k + 1)) = 0 := by
  rw [hk, List.drop_length, List.append_nil]
  exact check_take h k
/-! what two right chains say -/
theorem convicts_own {l : List EntV} (h : checkF l = 0) {i k : Nat} {x y : EntV} (hx : l[i]? = some x) (hy : l[k]? = some y) : convictsB x y = false := by
  have h1 := (check_at h hx).no
  have h2 := (check_at h hy).no
  unfold convictsB
  by_cases hn : x.no = y.no
  · obtain rfl : i = k := by omega
    obtain rfl : x = y := Option.some.inj (hx.symm.trans hy)
    rw [sameB_true.2 rfl]
    simp
  · simp [hn]
theorem head_dev {l : List EntV} (h : checkF l = 0) {i : Nat} {x y : EntV} (h0 : l[0]? = some y) (hx : l[i]? = some x) : x.dev = y.dev := by
  have h1 := (check_at h hx).dev
  rw [List.head?_eq_getElem?, h0] at h1
  simp only [Option.map_some, Option.some.injEq] at h1
  exact h1.symm
theorem convicts_two {a b : List EntV} (ha : checkF a = 0) (hb : checkF b = 0) {x0 y0 : EntV} (hx0 : a[0]? = some x0) (hy0 : b[0]? = some y0) (hd : x0.dev = y0.dev) {n : Nat} {x y : EntV} (hx : a[n]? = some x) (hy : b[n]? = some y) : convictsB x y = !sameB x y := by
  have h1 := check_at ha hx
  have h2 := check_at hb hy
  have e1 := head_dev ha hx0 hx
  have e2 := head_dev hb hy0 hy
  unfold convictsB
  rw [rightB_true.2 h1.right, rightB_true.2 h2.right, decide_eq_true (by rw [e1, e2, hd]), decide_eq_true (by rw [h1.no, h2.no])]
  simp
/-! what a right chain says of two entries in a row -/
theorem seen_at {l : List EntV} (h : checkF l = 0) {i : Nat} {x : EntV} (hx : l[i]? = some x) : x.seen[x.dev.toNat]? = some (i : Int) := by
  have h1 := check_at h hx
  rw [h1.right.own, h1.no]
theorem seen_up {l : List EntV} (h : checkF l = 0) {i : Nat} {x p : EntV} (hx : l[i + 1]? = some x) (hp : l[i]? = some p) {k : Nat} {u v : Int} (hu : p.seen[k]? = some u) (hv : x.seen[k]? = some v) : u ≤ v :=
  lessSome_false.1 ((check_at h hx).seen i p rfl hp) k u v hu hv
end Go.Proofs.YtnnnibkainlplaaDoor
