/- kerbsidelaw49: plain law of DeviceReplay. -/
import Derived.Test.YtjncmlglhegnaaaGreatDoorDevP
namespace Go.Proofs.YtjncmlglhegnaaaGreatDoor

theorem replayGo_app : ∀ (a b : List (List UInt8)) (l : LoanV), replayGo (a ++ b) l = if (replayGo a l).2 = true then replayGo b (replayGo a l).1 else (noLoan, false)
  | [], b, l => by simp [replayGo]
  | t :: a, b, l => by
    rw [List.cons_append]
    by_cases h : (stepL t l).2 = true
    · have e1 : replayGo (t :: (a ++ b)) l = replayGo (a ++ b) (stepL t l).1 := by simp only [replayGo]; rw [if_pos h]
      have e2 : replayGo (t :: a) l = replayGo a (stepL t l).1 := by simp only [replayGo]; rw [if_pos h]
      rw [e1, e2]; exact replayGo_app a b _
    · have e1 : replayGo (t :: (a ++ b)) l = (noLoan, false) := by simp only [replayGo]; rw [if_neg h]
      have e2 : replayGo (t :: a) l = (noLoan, false) := by simp only [replayGo]; rw [if_neg h]
      rw [e1, e2]; simp
/-- a loan that is right behind another one: the same one, later -/
structure Later (l l' : LoanV) : Prop where
  dev : l'.device = l.device
  units : l'.units = l.units
  spent : l.spent ≤ l'.spent
  most : l'.spent ≤ l'.units
  back : l.back = true → l'.back = true
  right : l'.right = true
theorem right_mk {l : LoanV} (h : l.right = true) : 0 ≤ l.device ∧ l.device < 8 ∧ 1 ≤ l.units ∧ l.units ≤ 1099511627776 ∧ 0 ≤ l.spent ∧ l.spent ≤ l.units := by
  obtain ⟨d, u, s, b⟩ := l
  exact right_facts h
theorem mk_right {l : LoanV} (h : 0 ≤ l.device ∧ l.device < 8 ∧ 1 ≤ l.units ∧ l.units ≤ 1099511627776 ∧ 0 ≤ l.spent ∧ l.spent ≤ l.units) : l.right = true := by
  obtain ⟨a, b, c, d, e, f⟩ := h
  unfold LoanV.right loanB fineB
  simp [a, b, c, d, e, f]
theorem Later.refl {l : LoanV} (h : l.right = true) : Later l l := ⟨rfl, rfl, Int.le_refl _, (right_mk h).2.2.2.2.2, id, h⟩
theorem Later.trans {a b c : LoanV} (h : Later a b) (g : Later b c) : Later a c := ⟨g.dev.trans h.dev, g.units.trans h.units, Int.le_trans h.spent g.spent, g.most, fun x => g.back (h.back x), g.right⟩
theorem spendF_yes {l : LoanV} {n : Int} (h : (spendF l n).2 = 0) : Later l (spendF l n).1 ∧ 1 ≤ n ∧ (spendF l n).1 = ⟨l.device, l.units, l.spent + n, l.back⟩ := by
  by_cases h1 : (l.right && fineB n) = false
  · unfold spendF at h; rw [if_pos h1] at h; cases h
  · by_cases h2 : l.back = true
    · unfold spendF at h; rw [if_neg h1, if_pos h2] at h; cases h
    · by_cases h3 : l.units - l.spent < n
      · unfold spendF at h; rw [if_neg h1, if_neg h2, if_pos h3] at h; cases h
      · have e : (spendF l n).1 = ⟨l.device, l.units, l.spent + n, l.back⟩ := by unfold spendF; rw [if_neg h1, if_neg h2, if_neg h3]
        obtain ⟨hr, hf⟩ : l.right = true ∧ fineB n = true := by simpa using h1
        have := fine_facts hf
        have hm := right_mk hr
        refine ⟨?_, this.1, e⟩
        rw [e]
        refine ⟨rfl, rfl, ?_, ?_, id, mk_right ?_⟩
        · show l.spent ≤ l.spent + n; omega
        · show l.spent + n ≤ l.units; omega
        · show 0 ≤ l.device ∧ l.device < 8 ∧ 1 ≤ l.units ∧ l.units ≤ 1099511627776 ∧ 0 ≤ l.spent + n ∧ l.spent + n ≤ l.units
          omega
theorem returnF_yes {l : LoanV} (h : (returnF l).2 = 0) : Later l (returnF l).1 ∧ l.back = false ∧ (returnF l).1 = ⟨l.device, l.units, l.spent, true⟩ := by
  by_cases h1 : l.right = false
  · unfold returnF at h; rw [if_pos h1] at h; cases h
  · by_cases h2 : l.back = true
    · unfold returnF at h; rw [if_neg h1, if_pos h2] at h; cases h
    · have e : (returnF l).1 = ⟨l.device, l.units, l.spent, true⟩ := by unfold returnF; rw [if_neg h1, if_neg h2]
      have hr : l.right = true := by
        cases hh : l.right with
        | true => rfl
        | false => exact absurd hh h1
      have hm := right_mk hr
      refine ⟨?_, by simpa using h2, e⟩
      rw [e]
      exact ⟨rfl, rfl, Int.le_refl _, hm.2.2.2.2.2, fun _ => rfl, mk_right hm⟩
theorem returnF_1 {l : LoanV} : (returnF l).2 = 1 ↔ l.right = false := by
  unfold returnF
  by_cases h1 : l.right = false
  · simp [h1]
  · rw [if_neg h1]
    by_cases h2 : l.back = true
    · rw [if_pos h2]; simp [h1]
    · rw [if_neg h2]; simp [h1]
theorem stepL_yes {t : List UInt8} {l : LoanV} (hr : l.right = true) (h : (stepL t l).2 = true) : Later l (stepL t l).1 := by
  by_cases h1 : resB t = false
  · unfold stepL; rw [if_pos h1]; exact Later.refl hr
  · by_cases h2 : t = backT
    · unfold stepL at h ⊢
      rw [if_neg h1, if_pos h2] at h ⊢
      exact (returnF_yes (of_decide_eq_true h)).1
    · by_cases h3 : t.take 2 = [33, 115]
      · by_cases h4 : doneB (natF ⟨t.drop 2, false⟩).2 = true
        · unfold stepL at h ⊢
          rw [if_neg h1, if_neg h2, if_pos h3, if_pos h4] at h ⊢
          exact (spendF_yes (of_decide_eq_true h)).1
        · unfold stepL at h
          rw [if_neg h1, if_neg h2, if_pos h3, if_neg h4] at h
          cases h
      · unfold stepL at h
        rw [if_neg h1, if_neg h2, if_neg h3] at h
        cases h
theorem replayGo_yes : ∀ {ts : List (List UInt8)} {l : LoanV}, l.right = true → (replayGo ts l).2 = true → Later l (replayGo ts l).1
  | [], l, hr, _ => Later.refl hr
  | t :: ts, l, hr, h => by
    by_cases hs : (stepL t l).2 = true
    · have e2 : replayGo (t :: ts) l = replayGo ts (stepL t l).1 := by simp only [replayGo]; rw [if_pos hs]
      rw [e2] at h ⊢
      have g := stepL_yes hr hs
      exact g.trans (replayGo_yes g.right h)
    · have e2 : replayGo (t :: ts) l = (noLoan, false) := by simp only [replayGo]; rw [if_neg hs]
      rw [e2] at h; cases h
theorem replayF_right {ts : List (List UInt8)} {l : LoanV} (h : (replayF ts l).2 = true) : l.right = true ∧ replayF ts l = replayGo ts l := by
  by_cases h1 : (returnF l).2 = 1
  · unfold replayF at h; rw [if_pos h1] at h; cases h
  · refine ⟨?_, by unfold replayF; rw [if_neg h1]⟩
    cases hh : l.right with
    | true => rfl
    | false => exact absurd (returnF_1.2 hh) h1
theorem replayF_of {ts : List (List UInt8)} {l : LoanV} (h : l.right = true) : replayF ts l = replayGo ts l := by
  unfold replayF
  rw [if_neg]
  intro h1
  rw [returnF_1.1 h1] at h; cases h
/-- replaying succeeds for the first entries too, with at most as much spent -/
theorem replayF_take {ts : List (List UInt8)} {l : LoanV} (k : Nat) (h : (replayF ts l).2 = true) : (replayF (ts.take k) l).2 = true ∧ Later l (replayF ts l).1 ∧ Later (replayF (ts.take k) l).1 (replayF ts l).1 := by
  obtain ⟨hr, e⟩ := replayF_right h
  rw [replayF_of hr, e]
  rw [e] at h
  have ea : replayGo ts l = if (replayGo (ts.take k) l).2 = true then replayGo (ts.drop k) (replayGo (ts.take k) l).1 else (noLoan, false) := by
    have := replayGo_app (ts.take k) (ts.drop k) l
    rwa [List.take_append_drop] at this
  by_cases hk : (replayGo (ts.take k) l).2 = true
  · rw [if_pos hk] at ea
    refine ⟨hk, replayGo_yes hr h, ?_⟩
    have g := replayGo_yes hr hk
    rw [ea]
    exact replayGo_yes g.right (by rw [← ea]; exact h)
  · rw [if_neg hk] at ea; rw [ea] at h; cases h
theorem stepL_spend {n : Int} {l : LoanV} (h0 : 0 ≤ n) (h1 : n ≤ 9223372036854775807) : stepL (spendT n) l = ((spendF l n).1, decide ((spendF l n).2 = 0)) := by
  have e1 : resB (spendT n) = true := by unfold spendT resB; rfl
  have e3 : (spendT n).take 2 = [33, 115] := by unfold spendT; rfl
  have e2 : spendT n ≠ backT := by
    intro h
    rw [h] at e3
    exact absurd e3 (by decide)
  have e4 : (spendT n).drop 2 = encN n := by unfold spendT; rfl
  have e5 : natF ⟨encN n, false⟩ = (n, ⟨[], false⟩) := by
    have := natF_read h0 h1 [] false
    rwa [List.append_nil] at this
  unfold stepL
  rw [if_neg (by rw [e1]; simp), if_neg e2, if_pos e3, e4, e5]
  rfl
end Go.Proofs.YtjncmlglhegnaaaGreatDoor
