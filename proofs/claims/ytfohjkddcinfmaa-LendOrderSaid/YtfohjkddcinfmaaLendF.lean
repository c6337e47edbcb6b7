/- Same, walked. -/
import Derived.Test.YtfohjkddcinfmaaLendD
import Derived.Test.YtfohjkddcinfmaaBase2
import Derived.Deep.QuietTactic
import Derived.BigQuiet
namespace Go.Proofs.Ytfohjkddcinfmaa
open Go.RowKit

def sameB (a b : StockV) : Bool := decide (a.total = b.total) && decide (a.spent = b.spent) && decide (a.loans = b.loans)

theorem stoodLoan : Try.prog.stoodInHeld 26 = false := by kernel_rfl
def loanEq (d u p : Int) (b : Bool) (d' u' p' : Int) (b' : Bool) : Bool := (d == d') && (u == u') && (p == p') && (b == b')
theorem run_eq_loan (d u p : Int) (b : Bool) (d' u' p' : Int) (b' : Bool) (n : Nat) (w : World) :
    (Op.equalIn (n + 2) 26 (.agg #[.int .i64 d, .int .i64 u, .int .i64 p, .bool b]) (.agg #[.int .i64 d', .int .i64 u', .int .i64 p', .bool b'])).run Try.prog w = .ok (loanEq d u p b d' u' p' b') w := by
  rw [run_equalIn_struct w _ _ _ _ (by simp [Program.fieldsOf, Try.underlying26]) stoodLoan]
  cases h1 : (d == d') <;> cases h2 : (u == u') <;> cases h3 : (p == p') <;> cases h4 : (b == b') <;> simp [loanEq, Program.fieldsOf, Try.underlying26, Op.eqFields, go_sem, h1, h2, h3, h4]
theorem neq_loan (d u p : Int) (b : Bool) (d' u' p' : Int) (b' : Bool) (r : Bool) (hr : loanEq d u p b d' u' p' b' = r) (w : World) :
    (binOp .neq 26 (.agg #[.int .i64 d, .int .i64 u, .int .i64 p, .bool b]) (.agg #[.int .i64 d', .int .i64 u', .int .i64 p', .bool b'])).run Try.prog w = .ok (.bool (!r)) w := by
  subst hr
  have h := run_eq_loan d u p b d' u' p' b' 9998 w
  simp only [binOp]
  simp [Op.equal, Op.maxDepth, h]
theorem eql_loan (d u p : Int) (b : Bool) (d' u' p' : Int) (b' : Bool) (r : Bool) (hr : loanEq d u p b d' u' p' b' = r) (w : World) :
    (binOp .eql 26 (.agg #[.int .i64 d, .int .i64 u, .int .i64 p, .bool b]) (.agg #[.int .i64 d', .int .i64 u', .int .i64 p', .bool b'])).run Try.prog w = .ok (.bool r) w := by
  subst hr
  have h := run_eq_loan d u p b d' u' p' b' 9998 w
  simp only [binOp]
  simp [Op.equal, Op.maxDepth, h]
theorem loanEq_iff (d u p : Int) (b : Bool) (d' u' p' : Int) (b' : Bool) : loanEq d u p b d' u' p' b' = decide ((⟨d, u, p, b⟩ : LoanV) = ⟨d', u', p', b'⟩) := by
  rw [Bool.eq_iff_iff]; simp [loanEq, and_assoc]

set_option maxHeartbeats 1000000 in
theorem Same_loop (t s : Int) (A B : Option Addr) (n c c' : Nat) (ls ls' : List LoanV) (w : World) (hs : Sl w 4 A n (ls.map LoanV.cells)) (hs' : Sl w 4 B n (ls'.map LoanV.cells)) (hn : n ≤ maxLen) (r : Bool) (hr : decide (ls = ls') = r) :
    Calls Try.prog 20 #[.agg #[.int .i64 t, .int .i64 s, .slice A n c], .agg #[.int .i64 t, .int .i64 s, .slice B n c']] w fun e w' => e = .returned (.bool r) ∧ Below w.heap.size w w' := by
  unfold maxLen at hn
  have hl : ls.length = n := by simpa using hs.1
  have hl' : ls'.length = n := by simpa using hs'.1
  have HR := Lib.hid hr
  have HL := Lib.hid hl
  have HL' := Lib.hid hl'
  have HS := Lib.hid hs
  have HS' := Lib.hid hs'
  clear hr hl hl' hs hs'
  have HB := Lib.hid (below2 w (.cells #[.int .i64 t, .int .i64 s, .slice A n c] 24) (.cells #[.int .i64 t, .int .i64 s, .slice B n c'] 24))
  have hq0 : (t != t) = false := by simp
  have hq1 : (s != s) = false := by simp
  go_enter Try.func20, Try.ntmps20
  go_wp2
  go_loopw [5] (fun i wr => ∃ k : Nat, k ≤ n ∧ i = .int .i64 k ∧ ls.take k = ls'.take k ∧ Loc wr w.heap.size #[.int .i64 t, .int .i64 s, .slice A n c] ∧ Loc wr (w.heap.size + 1) #[.int .i64 t, .int .i64 s, .slice B n c'] ∧ Below w.heap.size w wr) (fun i _ => n - (intOf i).toNat)
  case atStart => exact ⟨0, Nat.zero_le _, rfl, rfl, (Loc.new_ _ _ _).alloc _, by have h := Loc.new_ (w.alloc (.cells #[.int .i64 t, .int .i64 s, .slice A n c] 24)) #[.int .i64 t, .int .i64 s, .slice B n c'] 24; simpa using h, HB.out⟩
  case round =>
    obtain ⟨k, hk, rfl, ht, h0, h1, hb⟩ := hrel
    obtain ⟨z0, k0, f0⟩ := h0
    obtain ⟨z1, k1, f1⟩ := h1
    have HT := Lib.hid ht
    clear ht
    by_cases hlt : k < n
    · obtain ⟨⟨d, u, p, b⟩, hx⟩ : ∃ x, ls[k]? = some x := ⟨ls[k]'(by have := HL.out; omega), List.getElem?_eq_getElem _⟩
      obtain ⟨⟨d', u', p', b'⟩, hx'⟩ : ∃ x, ls'[k]? = some x := ⟨ls'[k]'(by have := HL'.out; omega), List.getElem?_eq_getElem _⟩
      obtain ⟨bb, oo, rfl, hbb, hc⟩ := (HS.out.below hb).2 k (LoanV.cells ⟨d, u, p, b⟩) (by rw [List.getElem?_map, hx]; rfl)
      have x0 : wr.cell? ⟨bb, oo + k * 4, none⟩ = some (.int .i64 d) := hc 0 _ rfl
      have x1 : wr.cell? ⟨bb, oo + k * 4 + 1, none⟩ = some (.int .i64 u) := hc 1 _ rfl
      have x2 : wr.cell? ⟨bb, oo + k * 4 + 2, none⟩ = some (.int .i64 p) := hc 2 _ rfl
      have x3 : wr.cell? ⟨bb, oo + k * 4 + 3, none⟩ = some (.bool b) := hc 3 _ rfl
      obtain ⟨bb', oo', rfl, hbb', hc'⟩ := (HS'.out.below hb).2 k (LoanV.cells ⟨d', u', p', b'⟩) (by rw [List.getElem?_map, hx']; rfl)
      have y0 : wr.cell? ⟨bb', oo' + k * 4, none⟩ = some (.int .i64 d') := hc' 0 _ rfl
      have y1 : wr.cell? ⟨bb', oo' + k * 4 + 1, none⟩ = some (.int .i64 u') := hc' 1 _ rfl
      have y2 : wr.cell? ⟨bb', oo' + k * 4 + 2, none⟩ = some (.int .i64 p') := hc' 2 _ rfl
      have y3 : wr.cell? ⟨bb', oo' + k * 4 + 3, none⟩ = some (.bool b') := hc' 3 _ rfl
      clear hc hc'
      have hi0 : (0 : Int) ≤ (k : Int) := by omega
      have hi1 : (k : Int) < (n : Int) := by omega
      have HX := Lib.hid hx
      have HX' := Lib.hid hx'
      clear hx hx'
      obtain ⟨q, hq⟩ : ∃ q, loanEq d u p b d' u' p' b' = q := ⟨_, rfl⟩
      have hcmp := neq_loan d u p b d' u' p' b' q hq
      have HQ := Lib.hid hq
      clear hq
      rcases q with _ | _
      · go_wp2_with (fail)
        go_quiet (fail)
        go_wp2
        go_ret
        refine ⟨ret_bool ?_, bdrewN hb _⟩
        rw [← HR.out]
        simp only [Bool.false_eq, decide_eq_false_iff_not]
        intro he
        have h1 := HX.out
        rw [he, HX'.out] at h1
        have h2 := HQ.out
        rw [loanEq_iff] at h2
        simp only [Option.some.injEq] at h1
        simp [h1] at h2
      · go_wp2_with (fail)
        go_quiet (fail)
        go_wp2
        go_roundw
        case rel =>
          refine ⟨k + 1, by omega, by go_num, ?_, Loc.drewN ⟨z0, k0, f0⟩ _, Loc.drewN ⟨z1, k1, f1⟩ _, bdrewN hb _⟩
          have h2 := HQ.out
          rw [loanEq_iff] at h2
          have h3 := of_decide_eq_true h2
          rw [take_snoc_of HX.out, take_snoc_of HX'.out, HT.out, h3]
        case measure => simp [intOf]; omega
    · obtain rfl : k = n := by omega
      go_wp2
      go_ret
      refine ⟨ret_bool ?_, hb⟩
      rw [← HR.out]
      have h1 := HT.out
      rw [List.take_of_length_le (by rw [HL.out]; exact Nat.le_refl _), List.take_of_length_le (by rw [HL'.out]; exact Nat.le_refl _)] at h1
      simpa using h1

set_option maxHeartbeats 1000000 in
theorem Same_no (t s t' s' : Int) (A B : Option Addr) (n n' c c' : Nat) (w : World) (h : t ≠ t' ∨ s ≠ s' ∨ n ≠ n') :
    Calls Try.prog 20 #[.agg #[.int .i64 t, .int .i64 s, .slice A n c], .agg #[.int .i64 t', .int .i64 s', .slice B n' c']] w fun e w' => e = .returned (.bool false) ∧ Below w.heap.size w w' := by
  have HB := Lib.hid (below2 w (.cells #[.int .i64 t, .int .i64 s, .slice A n c] 24) (.cells #[.int .i64 t', .int .i64 s', .slice B n' c'] 24))
  by_cases h1 : t = t'
  · subst h1
    by_cases h2 : s = s'
    · subst h2
      have h3 : n ≠ n' := by simpa using h
      have h3' : ((n : Int) != (n' : Int)) = true := by rw [bne_iff_ne]; omega
      have H3 := Lib.hid h3
      clear h h3
      go_enter Try.func20, Try.ntmps20
      go_wp2_with (fail)
      all_goals first | (go_ret; exact ⟨rfl, HB.out⟩) | (exfalso; have := H3.out; omega)
    · have h2' : (s != s') = true := by simpa using h2
      clear h
      go_enter Try.func20, Try.ntmps20
      go_wp2_with (fail)
      go_ret
      exact ⟨rfl, HB.out⟩
  · have h1' : (t != t') = true := by simpa using h1
    clear h
    go_enter Try.func20, Try.ntmps20
    go_wp2_with (fail)
    go_ret
    exact ⟨rfl, HB.out⟩

theorem Same_any (t s t' s' : Int) (A B : Option Addr) (n n' c c' : Nat) (ls ls' : List LoanV) (w : World) (hs : Sl w 4 A n (ls.map LoanV.cells)) (hs' : Sl w 4 B n' (ls'.map LoanV.cells)) (hn : n ≤ maxLen) (hn' : n' ≤ maxLen) (r : Bool) (hr : sameB ⟨t, s, ls⟩ ⟨t', s', ls'⟩ = r) :
    Calls Try.prog 20 #[.agg #[.int .i64 t, .int .i64 s, .slice A n c], .agg #[.int .i64 t', .int .i64 s', .slice B n' c']] w fun e w' => e = .returned (.bool r) ∧ Below w.heap.size w w' := by
  have hl : ls.length = n := by simpa using hs.1
  have hl' : ls'.length = n' := by simpa using hs'.1
  by_cases h : t ≠ t' ∨ s ≠ s' ∨ n ≠ n'
  · have : r = false := by
      rw [← hr]
      simp only [sameB, Bool.and_eq_false_iff, decide_eq_false_iff_not]
      rcases h with h | h | h
      · exact .inl (.inl h)
      · exact .inl (.inr h)
      · refine .inr fun e => h ?_
        rw [← hl, ← hl', e]
    subst this
    exact Same_no t s t' s' A B n n' c c' w h
  · simp only [not_or, Decidable.not_not] at h
    obtain ⟨rfl, rfl, rfl⟩ := h
    refine Same_loop t s A B n c c' ls ls' w hs hs' hn r ?_
    rw [← hr]; simp [sameB]
end Go.Proofs.Ytfohjkddcinfmaa
