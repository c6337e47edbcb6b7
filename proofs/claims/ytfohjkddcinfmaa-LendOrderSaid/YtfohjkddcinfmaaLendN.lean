/- LendNever, LendOrder: the plain law. What the acts make of the center, the devices and the reports; what stays true. -/
import Derived.Test.YtfohjkddcinfmaaLendI
namespace Go.Proofs.Ytfohjkddcinfmaa
open Go.RowKit

/-- the center, the loans at the devices, the reports of each loan -/
structure St where
  S : StockV
  dev : List LoanV
  rep : List (List LoanV)
structure ActV where
  d : Int
  dev : Int
  loan : Int
  units : Int
  old : Int
def ActV.cells (a : ActV) : List Value := [.int .u8 a.d, .int .u8 a.dev, .int .u8 a.loan, .int .u8 a.units, .int .u8 a.old]
def ActV.ok (a : ActV) : Prop := (0 ≤ a.d ∧ a.d ≤ 255) ∧ (0 ≤ a.dev ∧ a.dev ≤ 255) ∧ (0 ≤ a.loan ∧ a.loan ≤ 255) ∧ (0 ≤ a.units ∧ a.units ≤ 255) ∧ (0 ≤ a.old ∧ a.old ≤ 255)

def actLoan (st : St) (a : ActV) : Nat := (a.loan % (st.dev.length : Int)).toNat
def putDev (st : St) (k : Nat) (l : LoanV) (rs : List LoanV) : St := ⟨st.S, st.dev.set k l, st.rep.set k (rs ++ [l])⟩
def stepOwn (st : St) (a : ActV) : St := if (ownF st.S a.units).2 = 0 then ⟨(ownF st.S a.units).1, st.dev, st.rep⟩ else st
def newLoan (a : ActV) : LoanV := ⟨a.dev % 8, a.units, 0, false⟩
def stepLend (st : St) (a : ActV) : St := if (lendF st.S (a.dev % 8) a.units).2 = 0 then ⟨(lendF st.S (a.dev % 8) a.units).1, st.dev ++ [newLoan a], st.rep ++ [[newLoan a]]⟩ else st
def stepDev (st : St) (k : Nat) (r : LoanV × Int) (rs : List LoanV) : St := if r.2 = 0 then putDev st k r.1 rs else st
def stepMerge (st : St) (k : Nat) (l : LoanV) : St := ⟨(mergeF st.S k l).1, st.dev, st.rep⟩
def pick (rs : List LoanV) (o : Int) : LoanV := (rs[(o % (rs.length : Int)).toNat]?).getD noLoan
def stepF (st : St) (a : ActV) : St :=
  if a.d % 5 = 0 then stepOwn st a
  else if a.d % 5 = 1 then stepLend st a
  else match st.dev[actLoan st a]?, st.rep[actLoan st a]? with
    | some l, some rs =>
      if a.d % 5 = 2 then stepDev st (actLoan st a) (spendF l a.units) rs
      else if a.d % 5 = 3 then stepDev st (actLoan st a) (returnF l) rs
      else stepMerge st (actLoan st a) (pick rs a.old)
    | _, _ => st

/-- what is known of a report r of a loan that stands at l -/
structure Rep (l r : LoanV) : Prop where
  right : r.right = true
  device : r.device = l.device
  units : r.units = l.units
  spent : r.spent ≤ l.spent
  back : r.back = true → l.back = true ∧ r.spent = l.spent
structure JK (c l : LoanV) (rs : List LoanV) : Prop where
  lright : l.right = true
  center : Rep l c
  last : rs.getLast? = some l
  reps : ∀ r ∈ rs, Rep l r
structure J (st : St) (T : Int) : Prop where
  right : st.S.free.2 = true
  total : st.S.total = T
  ld : st.dev.length = st.S.loans.length
  lr : st.rep.length = st.dev.length
  each : ∀ (k : Nat) (c l : LoanV) (rs : List LoanV), st.S.loans[k]? = some c → st.dev[k]? = some l → st.rep[k]? = some rs → JK c l rs

theorem Rep.refl {l : LoanV} (h : l.right = true) : Rep l l := ⟨h, rfl, rfl, Int.le_refl _, fun h => ⟨h, rfl⟩⟩
theorem Rep.mono {l l' r : LoanV} (h : Rep l r) (hd : l'.device = l.device) (hu : l'.units = l.units) (hs : l.spent ≤ l'.spent) (hb : l.back = true → l' = l) : Rep l' r :=
  ⟨h.right, h.device.trans hd.symm, h.units.trans hu.symm, Int.le_trans h.spent hs, fun e => by have := h.back e; rw [hb this.1]; exact this⟩

theorem own_right {s : StockV} {n : Int} {r : StockV} (h : ownF s n = (r, 0)) : r.free.2 = true ∧ r = ⟨s.total, s.spent + n, s.loans⟩ ∧ s.free.2 = true := by
  unfold ownF at h
  split at h
  · simp at h
  split at h
  · simp at h
  rename_i h1 h2
  simp only [Prod.mk.injEq, and_true] at h
  simp only [Bool.not_eq_false, Bool.and_eq_true] at h1
  obtain ⟨hs, hr, hv, hv0⟩ := free_of h1.1
  have hn := fine_facts h1.2
  refine ⟨?_, h.symm, h1.1⟩
  rw [← h, free_mk]
  · simp only [StockV.small, Bool.and_eq_true, decide_eq_true_eq] at hs ⊢
    have h0 : 0 ≤ totalOf s.loans := by
      clear h h1 h2 hv hv0 hs hn
      generalize s.loans = ls at hr
      induction ls with
      | nil => simp [totalOf]
      | cons x r ih =>
        have h1 := (right_bound (hr x (by simp))).1
        have h2 := ih fun y hy => hr y (by simp [hy])
        simp only [totalOf, List.map_cons, List.sum_cons] at h2 ⊢
        omega
    omega
  · exact hr
  · simp only []; omega
theorem totalOf_append (a b : List LoanV) : totalOf (a ++ b) = totalOf a + totalOf b := by simp [totalOf]
theorem lend_right' {s : StockV} {d n : Int} {r : StockV} (h : lendF s d n = (r, 0)) : r.free.2 = true ∧ r = ⟨s.total, s.spent, s.loans ++ [⟨d, n, 0, false⟩]⟩ ∧ s.free.2 = true ∧ LoanV.right ⟨d, n, 0, false⟩ = true := by
  unfold lendF at h
  split at h
  · simp at h
  split at h
  · simp at h
  rename_i h1 h2
  simp only [Prod.mk.injEq, and_true] at h
  simp only [Bool.not_eq_false, Bool.and_eq_true] at h1
  obtain ⟨hs, hr, hv, hv0⟩ := free_of h1.1
  refine ⟨?_, h.symm, h1.1, h1.2⟩
  rw [← h, free_mk]
  · simp only [StockV.small, Bool.and_eq_true, decide_eq_true_eq, List.length_append, List.length_singleton] at hs ⊢
    omega
  · intro l hl
    rcases List.mem_append.1 hl with hl | hl
    · exact hr l hl
    · simp only [List.mem_singleton] at hl; subst hl; exact h1.2
  · simp only []
    rw [totalOf_append]
    simp only [totalOf, List.map_cons, List.map_nil, List.sum_cons, List.sum_nil, LoanV.committed]
    simp only [totalOf] at hv
    simp
    omega
theorem spend_rep {l l' : LoanV} {n : Int} (h : spendF l n = (l', 0)) : l'.right = true ∧ l'.device = l.device ∧ l'.units = l.units ∧ l.spent ≤ l'.spent ∧ (l.back = true → l' = l) := by
  unfold spendF at h
  split at h
  · simp at h
  split at h
  · simp at h
  split at h
  · simp at h
  rename_i h1 h2 h3
  simp only [Prod.mk.injEq, and_true] at h
  subst h
  simp only [Bool.not_eq_false, Bool.and_eq_true] at h1
  have hn := fine_facts h1.2
  have hr := (right_iff l).1 h1.1
  refine ⟨by rw [right_iff]; simp only []; omega, rfl, rfl, by simp only []; omega, fun e => absurd e h2⟩
theorem return_rep {l l' : LoanV} (h : returnF l = (l', 0)) : l'.right = true ∧ l'.device = l.device ∧ l'.units = l.units ∧ l.spent ≤ l'.spent ∧ (l.back = true → l' = l) := by
  unfold returnF at h
  split at h
  · simp at h
  split at h
  · simp at h
  rename_i h1 h2
  simp only [Prod.mk.injEq, and_true] at h
  subst h
  simp only [Bool.not_eq_false] at h1
  have hr := (right_iff l).1 h1
  refine ⟨by rw [right_iff]; exact hr, rfl, rfl, Int.le_refl _, fun e => absurd e h2⟩

/-- a report of a device is taken in -/
theorem merge_rep {s : StockV} {k : Nat} {c l r : LoanV} (hs : s.free.2 = true) (hk : s.loans[k]? = some c) (hc : Rep l c) (hr : Rep l r) :
    mergeF s k r = (⟨s.total, s.spent, s.loans.set k (joined c r)⟩, 0) ∧ Rep l (joined c r) := by
  have hlt : k < s.loans.length := (List.getElem?_eq_some_iff.1 hk).1
  have hf : forkedB c r = false := by
    simp only [forkedB, Bool.or_eq_false_iff, Bool.and_eq_false_iff, decide_eq_false_iff_not]
    have h1 := hc.back
    have h2 := hr.back
    have h3 := hc.spent
    have h4 := hr.spent
    refine ⟨?_, ?_⟩
    · cases hb : c.back
      · exact .inl rfl
      · have := h1 hb; exact .inr (by omega)
    · cases hb : r.back
      · exact .inl rfl
      · have := h2 hb; exact .inr (by omega)
  refine ⟨?_, ?_⟩
  · unfold mergeF
    rw [if_neg (by simp [hs, hr.right]), if_neg (by omega), Int.toNat_natCast, hk]
    simp only []
    rw [if_neg (by simp [hc.device, hr.device, hc.units, hr.units]), if_neg (by simp [hf])]
    rfl
  · refine ⟨joined_right hc.right hr.right (hc.units.trans hr.units.symm), hc.device, hc.units, ?_, ?_⟩
    · have h3 := hc.spent
      have h4 := hr.spent
      simp only [joined]; omega
    · simp only [joined, Bool.or_eq_true]
      have h3 := hc.spent
      have h4 := hr.spent
      rintro (h | h)
      · have := hc.back h; exact ⟨this.1, by omega⟩
      · have := hr.back h; exact ⟨this.1, by omega⟩

theorem J.init {T : Int} (h0 : 0 ≤ T) (h1 : T ≤ 1099511627776) : J ⟨⟨T, 0, []⟩, [], []⟩ T := by
  refine ⟨?_, rfl, rfl, rfl, fun k c l rs h => by simp at h⟩
  rw [free_mk]
  · simp [StockV.small, h0, h1]
  · simp
  · simp [totalOf, h0]

theorem J.dev_step {st : St} {T : Int} (hj : J st T) {k : Nat} {l l' : LoanV} {rs : List LoanV} (hl : st.dev[k]? = some l) (hrs : st.rep[k]? = some rs)
    (hr : l'.right = true) (hd : l'.device = l.device) (hu : l'.units = l.units) (hs : l.spent ≤ l'.spent) (hb : l.back = true → l' = l) : J (putDev st k l' rs) T := by
  refine ⟨hj.right, hj.total, by simp [putDev, hj.ld], by simp [putDev, hj.lr], ?_⟩
  intro i c x ys hc hx hys
  simp only [putDev] at hc hx hys
  by_cases hi : i = k
  · subst hi
    have hlt : i < st.dev.length := (List.getElem?_eq_some_iff.1 hl).1
    rw [List.getElem?_set_self hlt] at hx
    rw [List.getElem?_set_self (by rw [hj.lr]; exact hlt)] at hys
    simp only [Option.some.injEq] at hx hys
    subst hx hys
    have h := hj.each i c l rs hc hl hrs
    refine ⟨hr, h.center.mono hd hu hs hb, by simp, fun r hrr => ?_⟩
    rcases List.mem_append.1 hrr with hrr | hrr
    · exact (h.reps r hrr).mono hd hu hs hb
    · simp only [List.mem_singleton] at hrr
      subst hrr
      exact Rep.refl hr
  · rw [List.getElem?_set_ne (Ne.symm hi)] at hx hys
    exact hj.each i c x ys hc hx hys

theorem pick_mem {rs : List LoanV} {o : Int} (h : rs ≠ []) : pick rs o ∈ rs ∧ rs[(o % (rs.length : Int)).toNat]? = some (pick rs o) := by
  have hp : 0 < rs.length := List.length_pos_iff.2 h
  have h1 : (o % (rs.length : Int)).toNat < rs.length := by
    have := Int.emod_lt_of_pos o (show (0 : Int) < (rs.length : Int) by omega)
    have := Int.emod_nonneg o (show (rs.length : Int) ≠ 0 by omega)
    omega
  unfold pick
  rw [List.getElem?_eq_getElem h1]
  simp

theorem J.merge_step {st : St} {T : Int} (hj : J st T) {k : Nat} {l r : LoanV} {rs : List LoanV} (hl : st.dev[k]? = some l) (hrs : st.rep[k]? = some rs) (hm : r ∈ rs) :
    ∃ c, st.S.loans[k]? = some c ∧ mergeF st.S k r = (⟨st.S.total, st.S.spent, st.S.loans.set k (joined c r)⟩, 0) ∧ J (stepMerge st k r) T ∧ Rep l r ∧ Rep l c := by
  have hlt : k < st.S.loans.length := by rw [← hj.ld]; exact (List.getElem?_eq_some_iff.1 hl).1
  obtain ⟨c, hc⟩ : ∃ c, st.S.loans[k]? = some c := ⟨_, List.getElem?_eq_getElem hlt⟩
  have h := hj.each k c l rs hc hl hrs
  obtain ⟨h1, h2⟩ := merge_rep hj.right hc h.center (h.reps r hm)
  refine ⟨c, hc, h1, ?_, h.reps r hm, h.center⟩
  obtain ⟨x, _, _, _, _, h6, _⟩ := back_plain h1 rfl
  refine ⟨?_, ?_, ?_, hj.lr, ?_⟩
  · simp only [stepMerge, h1]; exact h6
  · simp only [stepMerge, h1]; exact hj.total
  · simp only [stepMerge, h1, List.length_set]; exact hj.ld
  · intro i c' x ys hc' hx hys
    simp only [stepMerge, h1] at hc' hx hys
    by_cases hi : i = k
    · subst hi
      rw [List.getElem?_set_self hlt] at hc'
      rw [hl] at hx
      rw [hrs] at hys
      simp only [Option.some.injEq] at hc' hx hys
      subst hc' hx hys
      exact ⟨h.lright, h2, h.last, h.reps⟩
    · rw [List.getElem?_set_ne (Ne.symm hi)] at hc'
      exact hj.each i c' x ys hc' hx hys

theorem J.step {st : St} {T : Int} (hj : J st T) (a : ActV) : J (stepF st a) T := by
  unfold stepF
  split
  · unfold stepOwn
    split
    · rename_i he
      obtain ⟨h1, h2, h3⟩ := own_right (r := (ownF st.S a.units).1) (Prod.ext rfl he)
      refine ⟨h1, ?_, ?_, hj.lr, ?_⟩
      · simp only [h2]; exact hj.total
      · simp only [h2]; exact hj.ld
      · intro k c l rs hc; simp only [h2] at hc; exact hj.each k c l rs hc
    · exact hj
  split
  · unfold stepLend
    split
    · rename_i he
      obtain ⟨h1, h2, h3, h4⟩ := lend_right' (r := (lendF st.S (a.dev % 8) a.units).1) (Prod.ext rfl he)
      refine ⟨h1, ?_, ?_, ?_, ?_⟩
      · simp only [h2]; exact hj.total
      · simp only [h2, List.length_append, List.length_singleton]; rw [hj.ld]
      · simp only [List.length_append, List.length_singleton]; rw [hj.lr]
      · intro k c l rs hc hl hrs
        simp only [h2] at hc hl hrs
        by_cases hk : k < st.dev.length
        · rw [List.getElem?_append_left (by rw [← hj.ld]; exact hk)] at hc
          rw [List.getElem?_append_left hk] at hl
          rw [List.getElem?_append_left (by rw [hj.lr]; exact hk)] at hrs
          exact hj.each k c l rs hc hl hrs
        · have hk' : k = st.dev.length := by
            have := (List.getElem?_eq_some_iff.1 hl).1
            simp at this; omega
          rw [List.getElem?_append_right (by rw [← hj.ld]; omega), ← hj.ld] at hc
          rw [List.getElem?_append_right (by omega)] at hl
          rw [List.getElem?_append_right (by rw [hj.lr]; omega), hj.lr] at hrs
          subst hk'
          simp only [Nat.sub_self, List.getElem?_cons_zero, Option.some.injEq] at hc hl hrs
          subst hc hl hrs
          exact ⟨h4, Rep.refl h4, rfl, fun r hr => by simp only [List.mem_singleton] at hr; subst hr; exact Rep.refl h4⟩
    · exact hj
  split
  · rename_i l rs hl hrs
    split
    · unfold stepDev
      split
      · rename_i he
        obtain ⟨h1, h2, h3, h4, h5⟩ := spend_rep (l' := (spendF l a.units).1) (Prod.ext rfl he)
        exact hj.dev_step hl hrs h1 h2 h3 h4 h5
      · exact hj
    split
    · unfold stepDev
      split
      · rename_i he
        obtain ⟨h1, h2, h3, h4, h5⟩ := return_rep (l' := (returnF l).1) (Prod.ext rfl he)
        exact hj.dev_step hl hrs h1 h2 h3 h4 h5
      · exact hj
    · have hne : rs ≠ [] := by
        have hlt : actLoan st a < st.S.loans.length := by rw [← hj.ld]; exact (List.getElem?_eq_some_iff.1 hl).1
        have h := (hj.each _ _ l rs (List.getElem?_eq_getElem hlt) hl hrs).last
        rintro rfl
        simp at h
      obtain ⟨c, _, _, h3, _⟩ := hj.merge_step hl hrs (pick_mem (o := a.old) hne).1
      exact h3
  · exact hj

/-- what the center has spent, and what the devices have -/
def spentOf (ds : List LoanV) : Int := (ds.map LoanV.spent).sum
theorem Rep.committed {l c : LoanV} (h : Rep l c) (hl : l.right = true) : l.spent ≤ c.committed := by
  have h1 := (right_iff l).1 hl
  unfold LoanV.committed
  split
  · rename_i hb; have := h.back hb; omega
  · have := h.units; omega
theorem spent_le : ∀ (cs ds : List LoanV), ds.length = cs.length → (∀ (k : Nat) (c l : LoanV), cs[k]? = some c → ds[k]? = some l → l.spent ≤ c.committed) → spentOf ds ≤ totalOf cs
  | [], ds, h, _ => by
    have : ds = [] := List.eq_nil_of_length_eq_zero h
    subst this
    simp [spentOf, totalOf]
  | c :: cs, [], h, _ => by simp at h
  | c :: cs, l :: ds, h, he => by
    have h1 := he 0 c l rfl rfl
    have h2 := spent_le cs ds (by simpa using h) fun k c' l' hc hl => he (k + 1) c' l' (by simpa using hc) (by simpa using hl)
    simp only [spentOf, totalOf, List.map_cons, List.sum_cons] at h2 ⊢
    omega
/-- THE LAW: what is spent is never more than there is; the free units are at most what nobody has spent. -/
theorem J.never {st : St} {T : Int} (hj : J st T) : st.S.spent + spentOf st.dev ≤ T ∧ 0 ≤ st.S.free.1 ∧ st.S.free.1 ≤ T - (st.S.spent + spentOf st.dev) := by
  obtain ⟨hs, hr, hv, hv0⟩ := free_of hj.right
  have h1 : spentOf st.dev ≤ totalOf st.S.loans := spent_le _ _ hj.ld fun k c l hc hl => by
    obtain ⟨rs, hrs⟩ : ∃ rs, st.rep[k]? = some rs := ⟨_, List.getElem?_eq_getElem (by rw [hj.lr]; exact (List.getElem?_eq_some_iff.1 hl).1)⟩
    have h := hj.each k c l rs hc hl hrs
    exact h.center.committed h.lright
  have h2 := hj.total
  omega
theorem J.spent_nonneg {st : St} {T : Int} (hj : J st T) : ∀ l ∈ st.dev, 0 ≤ l.spent ∧ l.spent ≤ l.units ∧ l.units ≤ 1099511627776 := by
  intro l hl
  obtain ⟨k, hk⟩ := List.getElem?_of_mem hl
  have hlt := (List.getElem?_eq_some_iff.1 hk).1
  have h := hj.each k _ l _ (List.getElem?_eq_getElem (by rw [← hj.ld]; exact hlt)) hk (List.getElem?_eq_getElem (by rw [hj.lr]; exact hlt))
  have := (right_iff l).1 h.lright
  omega
end Go.Proofs.Ytfohjkddcinfmaa
