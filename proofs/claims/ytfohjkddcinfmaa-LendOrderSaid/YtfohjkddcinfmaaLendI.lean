/- LendBack: the plain law. -/
import Derived.Test.YtfohjkddcinfmaaLendH
namespace Go.Proofs.Ytfohjkddcinfmaa
open Go.RowKit

def totalOf (ls : List LoanV) : Int := (ls.map LoanV.committed).sum
theorem leftOf_eq (ls : List LoanV) : ∀ left : Int, (∀ l ∈ ls, l.right = true) → leftOf left ls = some (left - totalOf ls) := by
  induction ls with
  | nil => intro left _; simp [leftOf, totalOf]
  | cons l r ih =>
    intro left h
    simp only [leftOf]
    rw [if_pos (h l (by simp)), ih _ fun x hx => h x (by simp [hx])]
    simp only [totalOf, List.map_cons, List.sum_cons, Option.some.injEq]
    omega
theorem leftOf_right (ls : List LoanV) : ∀ (left v : Int), leftOf left ls = some v → (∀ l ∈ ls, l.right = true) ∧ v = left - totalOf ls := by
  intro left v h
  have hall : ∀ l ∈ ls, l.right = true := by
    induction ls generalizing left with
    | nil => intro l hl; cases hl
    | cons l r ih =>
      simp only [leftOf] at h
      split at h
      · rename_i hr
        intro x hx
        rcases List.mem_cons.1 hx with rfl | hx
        · exact hr
        · exact ih _ h x hx
      · cases h
  rw [leftOf_eq ls left hall] at h
  exact ⟨hall, by simpa using h.symm⟩
theorem totalOf_set (ls : List LoanV) : ∀ (m : Nat) (x y : LoanV), ls[m]? = some x → totalOf (ls.set m y) = totalOf ls - x.committed + y.committed := by
  induction ls with
  | nil => intro m x y h; simp at h
  | cons l r ih =>
    intro m x y h
    cases m with
    | zero =>
      simp at h
      subst h
      simp only [List.set_cons_zero, totalOf, List.map_cons, List.sum_cons]
      omega
    | succ m =>
      have := ih m x y (by simpa using h)
      simp only [List.set_cons_succ, totalOf, List.map_cons, List.sum_cons] at this ⊢
      omega
theorem right_iff (l : LoanV) : l.right = true ↔ 0 ≤ l.device ∧ l.device < 8 ∧ 1 ≤ l.units ∧ l.units ≤ 1099511627776 ∧ 0 ≤ l.spent ∧ l.spent ≤ l.units := by
  simp only [LoanV.right, rightB, fineB, Bool.and_eq_true, decide_eq_true_eq]
  omega
/-- what comes of a report that is taken in -/
def joined (x l : LoanV) : LoanV := ⟨x.device, x.units, max x.spent l.spent, x.back || l.back⟩
def moreOf (x l : LoanV) : Int := if l.back && !x.back then l.units - l.spent else 0
theorem joined_right {x l : LoanV} (hx : x.right = true) (hl : l.right = true) (hu : x.units = l.units) : (joined x l).right = true := by
  rw [right_iff] at *
  simp only [joined]
  omega
theorem joined_committed {x l : LoanV} (hu : x.units = l.units) (hf : forkedB x l = false) : x.committed - (joined x l).committed = moreOf x l := by
  obtain ⟨d, u, s, b⟩ := x
  obtain ⟨d', u', s', b'⟩ := l
  simp only [forkedB, Bool.or_eq_false_iff, Bool.and_eq_false_iff, decide_eq_false_iff_not] at hf hu
  cases b <;> cases b' <;> simp [LoanV.committed, joined, moreOf] at hf ⊢ <;> omega
theorem free_of {s : StockV} (h : s.free.2 = true) : s.small = true ∧ (∀ l ∈ s.loans, l.right = true) ∧ s.free.1 = s.total - s.spent - totalOf s.loans ∧ 0 ≤ s.free.1 := by
  obtain ⟨t, sp, ls⟩ := s
  have hh : StockV.free ⟨t, sp, ls⟩ = ((StockV.free ⟨t, sp, ls⟩).1, true) := Prod.ext rfl h
  obtain ⟨h1, h2, h3, h4, h5, h6, h7⟩ := free_len hh
  obtain ⟨h8, h9⟩ := leftOf_right ls _ _ h6
  refine ⟨by simp [StockV.small, *], h8, h9, h7⟩
theorem free_mk {s : StockV} (hs : s.small = true) (hr : ∀ l ∈ s.loans, l.right = true) (h0 : 0 ≤ s.total - s.spent - totalOf s.loans) : s.free = (s.total - s.spent - totalOf s.loans, true) := by
  unfold StockV.free
  rw [if_pos hs, leftOf_eq _ _ hr]
  simp only [Prod.mk.injEq, true_and, decide_eq_true_eq]
  exact h0
theorem back_plain {s t : StockV} {i e : Int} {l : LoanV} (h : mergeF s i l = (t, e)) (he : e = 0) :
    ∃ x, 0 ≤ i ∧ i < s.loans.length ∧ s.loans[i.toNat]? = some x ∧ t = ⟨s.total, s.spent, s.loans.set i.toNat (joined x l)⟩ ∧ t.free.2 = true ∧ max t.free.1 0 = max s.free.1 0 + moreOf x l ∧ 0 ≤ moreOf x l ∧ s.free.2 = true ∧ l.right = true ∧ x.right = true ∧ forkedB x l = false ∧ x.device = l.device ∧ x.units = l.units := by
  obtain ⟨x, hf, hl, h0, h1, hx, hd, hu, hk, rfl⟩ := mergeF_ok h he
  obtain ⟨hs, hr, hv, hv0⟩ := free_of hf
  have hxr := hr x (List.mem_of_getElem? hx)
  have hc := joined_committed hu hk
  have hm : 0 ≤ moreOf x l := by
    have := (right_iff l).1 hl
    unfold moreOf; split <;> omega
  have ht := totalOf_set s.loans i.toNat x (joined x l) hx
  have hfr : StockV.free ⟨s.total, s.spent, s.loans.set i.toNat (joined x l)⟩ = (s.total - s.spent - totalOf (s.loans.set i.toNat (joined x l)), true) := by
    refine free_mk ?_ ?_ ?_
    · simpa [StockV.small] using hs
    · intro y hy
      rcases List.mem_or_eq_of_mem_set hy with hy | rfl
      · exact hr y hy
      · exact joined_right hxr hl hu
    · simp only []; omega
  refine ⟨x, h0, h1, hx, rfl, ?_, ?_, hm, hf, hl, hxr, hk, hd, hu⟩
  · show (StockV.free ⟨s.total, s.spent, s.loans.set i.toNat (joined x l)⟩).2 = true
    rw [hfr]
  · show max (StockV.free ⟨s.total, s.spent, s.loans.set i.toNat (joined x l)⟩).1 0 = _
    rw [hfr]
    simp only []
    omega
theorem mergeF_bad {s t : StockV} {i e : Int} {l : LoanV} (h : mergeF s i l = (t, e)) (he : e ≠ 0) : t = noStock := by
  unfold mergeF at h
  split at h
  · simp only [Prod.mk.injEq] at h; exact h.1.symm
  split at h
  · simp only [Prod.mk.injEq] at h; exact h.1.symm
  split at h
  · simp only [Prod.mk.injEq] at h; exact h.1.symm
  split at h
  · simp only [Prod.mk.injEq] at h; exact h.1.symm
  split at h
  · simp only [Prod.mk.injEq] at h; exact h.1.symm
  · simp only [Prod.mk.injEq] at h; exact absurd h.2.symm he
end Go.Proofs.Ytfohjkddcinfmaa
