/- LendOrder: the plain law. -/
import Derived.Test.YtfohjkddcinfmaaLendN
namespace Go.Proofs.Ytfohjkddcinfmaa
open Go.RowKit

def joinAll (c : LoanV) (rs : List LoanV) : LoanV := rs.foldl joined c
theorem joined_comm (c a b : LoanV) : joined (joined c a) b = joined (joined c b) a := by
  simp only [joined, LoanV.mk.injEq, true_and]
  refine ⟨by omega, ?_⟩
  cases c.back <;> cases a.back <;> cases b.back <;> rfl
theorem joinAll_perm {c : LoanV} {rs rs' : List LoanV} (h : rs.Perm rs') : joinAll c rs = joinAll c rs' := by
  unfold joinAll
  induction h generalizing c with
  | nil => rfl
  | cons x _ ih => exact ih
  | swap x y l => simp only [List.foldl_cons]; rw [joined_comm]
  | trans _ _ ih1 ih2 => exact ih1.trans ih2
theorem joined_last {l c : LoanV} (h : Rep l c) : joined c l = ⟨l.device, l.units, l.spent, l.back⟩ := by
  have h1 := h.spent
  have h2 := h.back
  simp only [joined, LoanV.mk.injEq]
  refine ⟨h.device, h.units, by omega, ?_⟩
  cases hb : c.back
  · simp
  · simp [(h2 hb).1]
/-- the stock in which the center's loan number k stands at x -/
def setLoan (S : StockV) (k : Nat) (x : LoanV) : StockV := ⟨S.total, S.spent, S.loans.set k x⟩
theorem setLoan_self {S : StockV} {k : Nat} {c : LoanV} (h : S.loans[k]? = some c) : setLoan S k c = S := by
  obtain ⟨t, s, ls⟩ := S
  simp only [setLoan, StockV.mk.injEq, true_and]
  have hk := (List.getElem?_eq_some_iff.1 h)
  obtain ⟨h1, h2⟩ := hk
  rw [← h2, List.set_getElem_self]
/-- reports of a device are taken in, one after the other -/
structure Taken (st : St) (T : Int) (k : Nat) (c l : LoanV) (S' : StockV) (rs : List LoanV) : Prop where
  j : J ⟨S', st.dev, st.rep⟩ T
  eq : S' = setLoan st.S k (joinAll c rs)
  rep : Rep l (joinAll c rs)
theorem Taken.init {st : St} {T : Int} (hj : J st T) {k : Nat} {c l : LoanV} {ys : List LoanV} (hc : st.S.loans[k]? = some c) (hl : st.dev[k]? = some l) (hy : st.rep[k]? = some ys) : Taken st T k c l st.S [] :=
  ⟨hj, (setLoan_self hc).symm, (hj.each k c l ys hc hl hy).center⟩
theorem Taken.loan {st : St} {T : Int} {k : Nat} {c l : LoanV} {S' : StockV} {rs : List LoanV} (h : Taken st T k c l S' rs) (hk : k < st.S.loans.length) : S'.loans[k]? = some (joinAll c rs) := by
  rw [h.eq]; simp [setLoan, hk]
theorem Taken.step {st : St} {T : Int} {k : Nat} {c l r : LoanV} {ys : List LoanV} {S' : StockV} {rs : List LoanV} (h : Taken st T k c l S' rs) (hk : k < st.S.loans.length) (hl : st.dev[k]? = some l) (hy : st.rep[k]? = some ys) (hr : r ∈ ys) :
    mergeF S' k r = (setLoan st.S k (joinAll c (rs ++ [r])), 0) ∧ Taken st T k c l (setLoan st.S k (joinAll c (rs ++ [r]))) (rs ++ [r]) := by
  obtain ⟨c', hc', hm, hj', hrep, hrc⟩ := h.j.merge_step (k := k) (r := r) hl hy hr
  simp only [] at hc' hm
  rw [h.loan hk] at hc'
  simp only [Option.some.injEq] at hc'
  subst hc'
  have he : (⟨S'.total, S'.spent, S'.loans.set k (joined (joinAll c rs) r)⟩ : StockV) = setLoan st.S k (joinAll c (rs ++ [r])) := by
    rw [h.eq]
    simp [setLoan, joinAll]
  rw [he] at hm
  refine ⟨hm, ?_, rfl, ?_⟩
  · have h1 := hj'
    unfold stepMerge at h1
    simp only [] at h1
    rw [hm] at h1
    exact h1
  · have h2 := (merge_rep h.j.right (h.loan hk) h.rep hrep).2
    have : joinAll c (rs ++ [r]) = joined (joinAll c rs) r := by simp [joinAll]
    rw [this]
    exact h2
/-- the picks of the choices -/
def picks (ys : List LoanV) (os : List Int) : List LoanV := os.map (pick ys)
theorem order_same {c : LoanV} {ys : List LoanV} {os : List Int} : joinAll c (picks ys os) = joinAll c (picks ys os.reverse) := joinAll_perm ((List.reverse_perm os).symm.map _)
theorem J.lastRep {st : St} {T : Int} (hj : J st T) {k : Nat} {c l : LoanV} {ys : List LoanV} (hc : st.S.loans[k]? = some c) (hl : st.dev[k]? = some l) (hy : st.rep[k]? = some ys) : ys ≠ [] ∧ ys[ys.length - 1]? = some l := by
  have h := (hj.each k c l ys hc hl hy).last
  refine ⟨fun e => by rw [e] at h; simp at h, ?_⟩
  rw [List.getLast?_eq_getElem?] at h
  exact h
theorem last_same {st : St} {T : Int} {k : Nat} {c l : LoanV} {S' : StockV} {rs : List LoanV} (h : Taken st T k c l S' rs) (h0 : Rep l c) : setLoan st.S k (joinAll c (rs ++ [l])) = setLoan st.S k (joinAll c ([] ++ [l])) := by
  have e1 : joinAll c (rs ++ [l]) = joined (joinAll c rs) l := by simp [joinAll]
  have e2 : joinAll c ([] ++ [l]) = joined c l := by simp [joinAll]
  rw [e1, e2, joined_last h.rep, joined_last h0]
theorem setLoan_len (S : StockV) (k : Nat) (x : LoanV) : (setLoan S k x).loans.length = S.loans.length := by simp [setLoan]
end Go.Proofs.Ytfohjkddcinfmaa
