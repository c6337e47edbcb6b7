/- lend: the leaf functions, walked. -/
import Derived.Test.YtjncmlglhegnaaaGreatDoorBase4
namespace Go.Proofs.YtjncmlglhegnaaaGreatDoor
open Go.RowKit

/-- a number of units that can be spent or lent -/
def fineB (n : Int) : Bool := decide (1 ≤ n) && decide (n ≤ 1099511627776)
/-- a loan as four numbers -/
structure LoanV where
  device : Int
  units : Int
  spent : Int
  back : Bool
  deriving DecidableEq
def LoanV.cells (l : LoanV) : List Value := [.int .i64 l.device, .int .i64 l.units, .int .i64 l.spent, .bool l.back]
def loanB (d u s : Int) : Bool := decide (0 ≤ d) && decide (d < 8) && fineB u && decide (0 ≤ s) && decide (s ≤ u)
def LoanV.right (l : LoanV) : Bool := loanB l.device l.units l.spent
def LoanV.committed (l : LoanV) : Int := if l.back then l.spent else l.units
def forkedB (a b : LoanV) : Bool := a.back && decide (a.spent < b.spent) || b.back && decide (b.spent < a.spent)

set_option maxRecDepth 100000 in
set_option maxHeartbeats 400000 in
theorem fine_any (n : Int) (r : Bool) (hr : fineB n = r) (w : World) :
    Calls Tryz.prog 59 #[.int .i64 n] w fun e w' => e = .returned (.bool r) ∧ w = w' := by
  have HR := Lib.hid hr
  clear hr
  go_enter Tryz.func59, Tryz.ntmps59
  go_wp2
  all_goals go_ret
  all_goals refine ⟨ret_bool ?_, rfl⟩
  · rw [← HR.out]; simp [fineB, *]
  · rw [← HR.out]; simp [fineB]; omega

set_option maxRecDepth 100000 in
set_option maxHeartbeats 400000 in
theorem right_any (d u s : Int) (b r : Bool) (hr : LoanV.right ⟨d, u, s, b⟩ = r) (w : World) :
    Calls Tryz.prog 58 #[.agg #[.int .i64 d, .int .i64 u, .int .i64 s, .bool b]] w fun e w' => e = .returned (.bool r) ∧ w.alloc (.cells #[.int .i64 d, .int .i64 u, .int .i64 s, .bool b] 24) = w' := by
  have HR := Lib.hid hr
  clear hr
  go_enter Tryz.func58, Tryz.ntmps58
  go_wp2_with (go_at_call 59; refine (fine_any _ _ rfl _).mono ?_; rintro e w' ⟨rfl, rfl⟩)
  all_goals go_ret
  all_goals refine ⟨ret_bool ?_, rfl⟩
  all_goals rw [← HR.out]
  all_goals simp only [LoanV.right, loanB]
  all_goals first | (simp [*]; done) | (simp [*]; omega)

set_option maxRecDepth 100000 in
set_option maxHeartbeats 400000 in
theorem committed_any (d u s : Int) (b : Bool) (x : Int) (hx : LoanV.committed ⟨d, u, s, b⟩ = x) (w : World) :
    Calls Tryz.prog 134 #[.agg #[.int .i64 d, .int .i64 u, .int .i64 s, .bool b]] w fun e w' => e = .returned (.int .i64 x) ∧ w.alloc (.cells #[.int .i64 d, .int .i64 u, .int .i64 s, .bool b] 24) = w' := by
  subst hx
  cases b <;> (
  go_enter Tryz.func134, Tryz.ntmps134
  go_wp2
  go_ret
  exact ⟨rfl, rfl⟩)
set_option maxRecDepth 100000 in
set_option maxHeartbeats 400000 in
theorem forked_any (d u s : Int) (b : Bool) (d' u' s' : Int) (b' r : Bool) (hr : forkedB ⟨d, u, s, b⟩ ⟨d', u', s', b'⟩ = r) (w : World) :
    Calls Tryz.prog 90 #[.agg #[.int .i64 d, .int .i64 u, .int .i64 s, .bool b], .agg #[.int .i64 d', .int .i64 u', .int .i64 s', .bool b']] w fun e w' => e = .returned (.bool r) ∧ (w.alloc (.cells #[.int .i64 d, .int .i64 u, .int .i64 s, .bool b] 24)).alloc (.cells #[.int .i64 d', .int .i64 u', .int .i64 s', .bool b'] 24) = w' := by
  subst hr
  cases b <;> cases b' <;> (
  go_enter Tryz.func90, Tryz.ntmps90
  go_wp2
  all_goals go_ret
  all_goals exact ⟨by simp [forkedB, *], rfl⟩)

/-- a stock -/
structure StockV where
  total : Int
  spent : Int
  loans : List LoanV
  deriving DecidableEq
/-- what is left of 'left' behind the loans, if all of them are right -/
def leftOf (left : Int) : List LoanV → Option Int
  | [] => some left
  | l :: r => if l.right then leftOf (left - l.committed) r else none
def StockV.small (s : StockV) : Bool := decide (0 ≤ s.total) && decide (s.total ≤ 1099511627776) && decide (0 ≤ s.spent) && decide (s.spent ≤ s.total) && decide (s.loans.length ≤ 100)
/-- the free units, and whether the stock is right -/
def StockV.free (s : StockV) : Int × Bool :=
  if s.small then match leftOf (s.total - s.spent) s.loans with | some v => (v, decide (0 ≤ v)) | none => (0, false) else (0, false)

theorem leftOf_snoc (l : LoanV) : ∀ (ls : List LoanV) (left : Int), leftOf left (ls ++ [l]) = (leftOf left ls).bind fun v => if l.right then some (v - l.committed) else none
  | [], left => by simp [leftOf]
  | x :: r, left => by
    simp only [List.cons_append, leftOf]
    split
    · exact leftOf_snoc l r _
    · rfl
theorem leftOf_none (ls : List LoanV) : ∀ (k : Nat) (left : Int), leftOf left (ls.take k) = none → leftOf left ls = none := by
  induction ls with
  | nil => intro k left h; simp [leftOf] at h
  | cons x r ih =>
    intro k left h
    cases k with
    | zero => simp [leftOf] at h
    | succ k =>
      simp only [List.take_succ_cons, leftOf] at h ⊢
      split
      · rename_i hr; rw [if_pos hr] at h; exact ih _ _ h
      · rfl
theorem right_bound {l : LoanV} (h : l.right = true) : 0 ≤ l.committed ∧ l.committed ≤ 1099511627776 := by
  simp only [LoanV.right, loanB, fineB, Bool.and_eq_true, decide_eq_true_eq] at h
  unfold LoanV.committed
  split <;> omega
theorem take_snoc_of {α : Type} {ls : List α} {k : Nat} {l : α} (h : ls[k]? = some l) : ls.take (k + 1) = ls.take k ++ [l] := by
  rw [List.take_add_one, h]; rfl

set_option maxRecDepth 100000 in
set_option maxHeartbeats 400000 in
theorem free_no (t s : Int) (A : Option Addr) (n c : Nat) (ls : List LoanV) (w : World) (hl : ls.length = n) (hsm : StockV.small ⟨t, s, ls⟩ = false) :
    Calls Tryz.prog 86 #[.agg #[.int .i64 t, .int .i64 s, .slice A n c]] w fun e w' => e = .returned (.tuple #[.int .i64 0, .bool false]) ∧ Below w.heap.size w w' := by
  simp only [StockV.small, Bool.and_eq_false_iff, decide_eq_false_iff_not, hl] at hsm
  have hb : ∀ o, Below w.heap.size w (w.alloc o) := fun o => (Below.refl _ _).alloc (Nat.le_refl _) o
  go_enter Tryz.func86, Tryz.ntmps86
  go_wp2
  all_goals first | (exfalso; omega) | (go_ret2; exact ⟨rfl, hb _⟩)

theorem free_fin {f : Int × Bool} {x : Option Int} (h : f = match x with | some v => (v, decide (0 ≤ v)) | none => (0, false)) : (x = none → f = (0, false)) ∧ ∀ v, x = some v → f = (v, decide (0 ≤ v)) := by
  subst h; exact ⟨fun h => by subst h; rfl, fun v h => by subst h; rfl⟩

set_option maxRecDepth 100000 in
set_option maxHeartbeats 1000000 in
theorem free_yes (t s : Int) (A : Option Addr) (n c : Nat) (ls : List LoanV) (w : World) (hs : Sl w 4 A n (ls.map LoanV.cells)) (hsm : StockV.small ⟨t, s, ls⟩ = true) (f : Int × Bool) (hf : StockV.free ⟨t, s, ls⟩ = f) :
    Calls Tryz.prog 86 #[.agg #[.int .i64 t, .int .i64 s, .slice A n c]] w fun e w' => e = .returned (.tuple #[.int .i64 f.1, .bool f.2]) ∧ Below w.heap.size w w' := by
  have hln : ls.length = n := by simpa using hs.1
  have hfree : f = match leftOf (t - s) ls with | some v => (v, decide (0 ≤ v)) | none => (0, false) := by rw [← hf]; unfold StockV.free; rw [if_pos hsm]
  clear hf
  simp only [StockV.small, Bool.and_eq_true, decide_eq_true_eq, hln] at hsm
  obtain ⟨⟨⟨⟨h1, h2⟩, h3⟩, h4⟩, h5⟩ := hsm
  have HF := Lib.hid (free_fin hfree)
  have HL := Lib.hid hln
  clear hfree hln
  have d1 : (decide ((100 : Int) < (n : Int))) = false := by simp; omega
  go_enter Tryz.func86, Tryz.ntmps86
  go_wp2
  go_loopw [4, 41] (fun left i wr => ∃ (k : Nat) (v : Int), k ≤ n ∧ i = .int .i64 k ∧ leftOf (t - s) (ls.take k) = some v ∧ left = .int .i64 v ∧ - 1099511627776 * (k : Int) ≤ v ∧ v ≤ 1099511627776 ∧ Below w.heap.size w wr) (fun _ i _ => n - (intOf i).toNat)
  case atStart => exact ⟨0, t - s, Nat.zero_le _, rfl, rfl, rfl, by omega, by omega, (Below.refl _ _).alloc (Nat.le_refl _) _⟩
  case round =>
    obtain ⟨k, v, hk, rfl, hv, rfl, hv1, hv2, hb⟩ := hrel
    have HV := Lib.hid hv
    clear hv
    by_cases hlt : k < n
    · obtain ⟨⟨d, u, sp, bk⟩, hlk⟩ : ∃ l, ls[k]? = some l := ⟨ls[k]'(by rw [HL.out]; exact hlt), List.getElem?_eq_getElem _⟩
      obtain ⟨b, o, rfl, hbb, hc⟩ := (hs.below hb).2 k (LoanV.cells ⟨d, u, sp, bk⟩) (by rw [List.getElem?_map, hlk]; rfl)
      have c0 : wr.cell? ⟨b, o + k * 4, none⟩ = some (.int .i64 d) := hc 0 _ rfl
      have c1 : wr.cell? ⟨b, o + k * 4 + 1, none⟩ = some (.int .i64 u) := hc 1 _ rfl
      have c2 : wr.cell? ⟨b, o + k * 4 + 2, none⟩ = some (.int .i64 sp) := hc 2 _ rfl
      have c3 : wr.cell? ⟨b, o + k * 4 + 3, none⟩ = some (.bool bk) := hc 3 _ rfl
      clear hc
      have hsn := leftOf_snoc ⟨d, u, sp, bk⟩ (ls.take k) (t - s)
      rw [HV.out, ← take_snoc_of hlk] at hsn
      have HSN := Lib.hid hsn
      clear hsn
      by_cases hr : LoanV.right ⟨d, u, sp, bk⟩ = true
      · obtain ⟨x, hx⟩ : ∃ x, LoanV.committed ⟨d, u, sp, bk⟩ = x := ⟨_, rfl⟩
        have hcb := right_bound hr
        rw [hx] at hcb
        obtain ⟨hx0, hx1⟩ := hcb
        have HR := Lib.hid hr
        have HX := Lib.hid hx
        clear hr hx
        go_wp2_with (first | (go_at_call 58; refine (right_any _ _ _ _ _ HR.out _).mono ?_; rintro e w' ⟨rfl, rfl⟩) | (go_at_call 134; refine (committed_any _ _ _ _ _ HX.out _).mono ?_; rintro e w' ⟨rfl, rfl⟩))
        go_roundw
        case rel => exact ⟨k + 1, v - x, by omega, by go_num, by rw [HSN.out]; simp [HR.out, HX.out], rfl, by omega, by omega, ((hb.alloc hb.size _).alloc (by simp; exact Nat.le_succ_of_le hb.size) _).alloc (by simp; have := hb.size; omega) _⟩
        case measure => simp [intOf]; omega
      · have hr' : LoanV.right ⟨d, u, sp, bk⟩ = false := by simpa using hr
        have HR := Lib.hid hr'
        clear hr hr'
        go_wp2_with (go_at_call 58; refine (right_any _ _ _ _ _ HR.out _).mono ?_; rintro e w' ⟨rfl, rfl⟩)
        go_ret2
        have hn : leftOf (t - s) ls = none := leftOf_none ls (k + 1) _ (by rw [HSN.out]; simp [HR.out])
        rw [HF.out.1 hn]
        exact ⟨rfl, (hb.alloc hb.size _).alloc (by simp; exact Nat.le_succ_of_le hb.size) _⟩
    · obtain rfl : k = n := by omega
      go_wp2
      go_ret2
      have hn : leftOf (t - s) ls = some v := by rw [← HV.out, List.take_of_length_le (by rw [HL.out]; exact Nat.le_refl _)]
      rw [HF.out.2 v hn]
      exact ⟨rfl, hb⟩
end Go.Proofs.YtjncmlglhegnaaaGreatDoor
