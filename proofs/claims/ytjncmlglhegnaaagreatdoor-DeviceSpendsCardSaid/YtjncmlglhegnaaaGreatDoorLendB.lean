/- lend: Right, Free, Own, Lend, Spend, Return, Merge, walked. -/
import Derived.Test.YtjncmlglhegnaaaGreatDoorLendA
import Derived.Deep.RegionHeld3
import Derived.StillTactics
namespace Go.Proofs.YtjncmlglhegnaaaGreatDoor
open Go.RowKit

theorem free_any (t s : Int) (A : Option Addr) (n c : Nat) (ls : List LoanV) (w : World) (hs : Sl w 4 A n (ls.map LoanV.cells)) (f : Int × Bool) (hf : StockV.free ⟨t, s, ls⟩ = f) :
    Calls Tryz.prog 86 #[.agg #[.int .i64 t, .int .i64 s, .slice A n c]] w fun e w' => e = .returned (.tuple #[.int .i64 f.1, .bool f.2]) ∧ Below w.heap.size w w' := by
  by_cases hsm : StockV.small ⟨t, s, ls⟩ = true
  · exact free_yes t s A n c ls w hs hsm f hf
  · have hsm' : StockV.small ⟨t, s, ls⟩ = false := by simpa using hsm
    have : f = (0, false) := by rw [← hf]; unfold StockV.free; rw [if_neg hsm]
    subst this
    exact free_no t s A n c ls w (by simpa using hs.1) hsm'

set_option maxRecDepth 100000 in
set_option maxHeartbeats 400000 in
theorem StockRight_any (t s : Int) (A : Option Addr) (n c : Nat) (ls : List LoanV) (w : World) (hs : Sl w 4 A n (ls.map LoanV.cells)) (r : Bool) (hr : (StockV.free ⟨t, s, ls⟩).2 = r) :
    Calls Tryz.prog 89 #[.agg #[.int .i64 t, .int .i64 s, .slice A n c]] w fun e w' => e = .returned (.bool r) ∧ Below w.heap.size w w' := by
  obtain ⟨f1, f2, hf⟩ : ∃ f1 f2, StockV.free ⟨t, s, ls⟩ = (f1, f2) := ⟨_, _, rfl⟩
  rw [hf] at hr
  subst hr
  have HF := Lib.hid hf
  clear hf
  have HS := Lib.hid hs
  clear hs
  go_enter Tryz.func89, Tryz.ntmps89
  go_wp2_with (go_at_call 86; refine (free_any _ _ _ _ _ ls _ (HS.out.alloc _) (f1, f2) HF.out).mono ?_; rintro e w1 ⟨rfl, hb⟩)
  go_ret
  exact ⟨rfl, (below_alloc w _).trans (hb.mono (by simp))⟩

set_option maxRecDepth 100000 in
set_option maxHeartbeats 400000 in
theorem Free_any (t s : Int) (A : Option Addr) (n c : Nat) (ls : List LoanV) (w : World) (hs : Sl w 4 A n (ls.map LoanV.cells)) (r : Int) (hr : max (StockV.free ⟨t, s, ls⟩).1 0 = r) :
    Calls Tryz.prog 46 #[.agg #[.int .i64 t, .int .i64 s, .slice A n c]] w fun e w' => e = .returned (.int .i64 r) ∧ Below w.heap.size w w' := by
  obtain ⟨f1, f2, hf⟩ : ∃ f1 f2, StockV.free ⟨t, s, ls⟩ = (f1, f2) := ⟨_, _, rfl⟩
  rw [hf] at hr
  have HR := Lib.hid hr
  clear hr
  have HF := Lib.hid hf
  clear hf
  have HS := Lib.hid hs
  clear hs
  go_enter Tryz.func46, Tryz.ntmps46
  go_wp2_with (go_at_call 86; refine (free_any _ _ _ _ _ ls _ (HS.out.alloc _) (f1, f2) HF.out).mono ?_; rintro e w1 ⟨rfl, hb⟩)
  all_goals go_ret
  all_goals refine ⟨ret_int (by rw [← HR.out]; omega), (below_alloc w _).trans (hb.mono (by simp))⟩

theorem infoLoan : (Tryz.prog.info? 24).map (fun i => (i.zero, i.size, i.bytes)) = some (some (.agg #[.int .i64 0, .int .i64 0, .int .i64 0, .bool false]), 4, 32) := by kernel_rfl
theorem loans_len (ls : List LoanV) : ∀ x ∈ ls.map LoanV.cells, x.length = 4 := by
  intro x hx
  obtain ⟨l, _, rfl⟩ := List.mem_map.1 hx
  rfl
theorem loans_one (ls : List LoanV) : ∀ x ∈ ls.map LoanV.cells, ∀ u ∈ x, u.oneCell' = true := by
  intro x hx u hu
  obtain ⟨l, _, rfl⟩ := List.mem_map.1 hx
  simp only [LoanV.cells, List.mem_cons, List.not_mem_nil, or_false] at hu
  rcases hu with rfl | rfl | rfl | rfl <;> rfl

/-- what Clone leaves: a copy of its own -/
def ClonedL (w : World) (n : Nat) (ls : List LoanV) (e : Ending) (w' : World) : Prop :=
  ∃ A c, e = .returned (.slice A n c) ∧ Own w' w.heap.size 24 4 (.slice A n c) n (ls.map LoanV.cells) ∧ Below w.heap.size w w'

set_option maxRecDepth 100000 in
set_option maxHeartbeats 400000 in
theorem Clone_any (A : Option Addr) (n c : Nat) (ls : List LoanV) (w : World) (hs : Sl w 4 A n (ls.map LoanV.cells)) (hn : n ≤ 1000) :
    Calls Tryz.prog 87 #[.slice A n c] w (ClonedL w n ls) := by
  obtain ⟨i0, hi0, hz0, hz1, hz2⟩ := info_parts infoLoan
  have HN := Lib.hid hn
  have hq := fun w : World => Lib.run_eql_slice_nil (P := Tryz.prog) w 67 24 A n c 0 0 Tryz.underlying67
  rcases A with _ | ad
  · have h0 : n = 0 := by
      rcases Nat.eq_zero_or_pos n with h | h
      · exact h
      · obtain ⟨l, hl⟩ : ∃ x, (ls.map LoanV.cells)[0]? = some x := ⟨_, List.getElem?_eq_getElem (by rw [hs.1]; exact h)⟩
        obtain ⟨b, o, he, _⟩ := hs.2 0 l hl
        cases he
    have HS := Lib.hid hs
    clear hs hn
    subst h0
    go_enter Tryz.func87, Tryz.ntmps87
    go_wp2
    go_ret
    have hx := List.eq_nil_of_length_eq_zero HS.out.1
    exact ⟨none, 0, rfl, by rw [hx]; exact Own.nil_ _ _ _ _, Below.refl _ _⟩
  · have HS := Lib.hid hs
    clear hs hn
    go_enter Tryz.func87, Tryz.ntmps87
    go_wp2_with (at_builtin; refine wpList_append_sl _ rfl (.tmp 5) (.tmp 6) _ rfl w.heap.size 24 i0 _ 4 32 Tryz.underlying67 hi0 hz0 hz1 hz2 rfl (by omega) (.slice (some ⟨w.heap.size, 0, none⟩) 0 0) 0 [] rfl ⟨World.ownsRow_lit w #[] 0 (Nat.le_refl _) (by simp [maxLen]) rfl, by simp, rfl⟩ (some ad) n c (ls.map LoanV.cells) rfl (HS.out.alloc _) (loans_len ls) (loans_one ls) (by have := HN.out; simp only [maxLen]; omega) (by have := HN.out; omega) (by simp) ?_; intro A1 c1 w1 hown1 hg1 hat1)
    go_ret
    rw [Nat.zero_add, List.nil_append] at hown1
    refine ⟨A1, c1, by simp, hown1, (below_alloc w _).trans (((Below.refl _ _).grown hg1 (by simp) (fun k hk => ?_)))⟩
    simp [Value.ownBlock] at hk
    omega

/-- what a function that returns a stock and an error leaves: the stock s and the error r -/
def StockRet (w : World) (s : StockV) (r : Int) (e : Ending) (w' : World) : Prop :=
  ∃ A c, e = .returned (.tuple #[.agg #[.int .i64 s.total, .int .i64 s.spent, .slice A s.loans.length c], .int .i64 r]) ∧ SlF w w' 4 A s.loans.length (s.loans.map LoanV.cells) ∧ Below w.heap.size w w'
def noStock : StockV := ⟨0, 0, []⟩

def noLoan : LoanV := ⟨0, 0, 0, false⟩
def spendF (l : LoanV) (n : Int) : LoanV × Int :=
  if (l.right && fineB n) = false then (noLoan, 1) else if l.back then (noLoan, 7) else if l.units - l.spent < n then (noLoan, 6) else (⟨l.device, l.units, l.spent + n, l.back⟩, 0)
def returnF (l : LoanV) : LoanV × Int := if l.right = false then (noLoan, 1) else if l.back then (noLoan, 7) else (⟨l.device, l.units, l.spent, true⟩, 0)
/-- what a function that returns a loan and an error leaves -/
def LoanRet (w : World) (r : LoanV × Int) (e : Ending) (w' : World) : Prop :=
  e = .returned (.tuple #[.agg #[.int .i64 r.1.device, .int .i64 r.1.units, .int .i64 r.1.spent, .bool r.1.back], .int .i64 r.2]) ∧ Below w.heap.size w w'
theorem right_facts {d u s : Int} {b : Bool} (h : LoanV.right ⟨d, u, s, b⟩ = true) : 0 ≤ d ∧ d < 8 ∧ 1 ≤ u ∧ u ≤ 1099511627776 ∧ 0 ≤ s ∧ s ≤ u := by
  simp only [LoanV.right, loanB, fineB, Bool.and_eq_true, decide_eq_true_eq] at h
  omega
theorem fine_facts {n : Int} (h : fineB n = true) : 1 ≤ n ∧ n ≤ 1099511627776 := by
  simp only [fineB, Bool.and_eq_true, decide_eq_true_eq] at h
  omega
theorem below2 (w : World) (x y : Obj) : Below w.heap.size w ((w.alloc x).alloc y) := (below_alloc w x).alloc (by simp) y
theorem below3 (w : World) (x y z : Obj) : Below w.heap.size w (((w.alloc x).alloc y).alloc z) := (below2 w x y).alloc (by simp; omega) z

set_option maxRecDepth 100000 in
set_option maxHeartbeats 1000000 in
theorem Spend_any (d u s : Int) (b : Bool) (n : Int) (r : LoanV × Int) (hr : spendF ⟨d, u, s, b⟩ n = r) (w : World) :
    Calls Tryz.prog 12 #[.agg #[.int .i64 d, .int .i64 u, .int .i64 s, .bool b], .int .i64 n] w (LoanRet w r) := by
  subst hr
  have HZ := Lib.hid (below3 w)
  unfold spendF
  rcases h1 : LoanV.right ⟨d, u, s, b⟩ with _ | _
  · have H1 := Lib.hid h1
    clear h1
    go_enter Tryz.func12, Tryz.ntmps12
    go_wp2_with (go_at_call 58; refine (right_any _ _ _ _ _ H1.out _).mono ?_; rintro e w' ⟨rfl, rfl⟩)
    refine bodyPost_ret (v := .tuple #[.agg #[.int .i64 0, .int .i64 0, .int .i64 0, .bool false], .int .i64 1]) (by simp [results, Tryz.results12, go_sem]) rfl ⟨?_, HZ.out _ _ _⟩
    simp [noLoan]
  · obtain ⟨f1, f2, f3, f4, f5, f6⟩ := right_facts h1
    have H1 := Lib.hid h1
    clear h1
    rcases h2 : fineB n with _ | _
    · have H2 := Lib.hid h2
      clear h2
      go_enter Tryz.func12, Tryz.ntmps12
      go_wp2_with (first | (go_at_call 58; refine (right_any _ _ _ _ _ H1.out _).mono ?_; rintro e w' ⟨rfl, rfl⟩) | (go_at_call 59; refine (fine_any _ _ H2.out _).mono ?_; rintro e w' ⟨rfl, rfl⟩))
      refine bodyPost_ret (v := .tuple #[.agg #[.int .i64 0, .int .i64 0, .int .i64 0, .bool false], .int .i64 1]) (by simp [results, Tryz.results12, go_sem]) rfl ⟨?_, HZ.out _ _ _⟩
      simp [noLoan]
    · obtain ⟨f7, f8⟩ := fine_facts h2
      have H2 := Lib.hid h2
      clear h2
      rcases b with _ | _
      · by_cases h4 : u - s < n
        · go_enter Tryz.func12, Tryz.ntmps12
          go_wp2_with (first | (go_at_call 58; refine (right_any _ _ _ _ _ H1.out _).mono ?_; rintro e w' ⟨rfl, rfl⟩) | (go_at_call 59; refine (fine_any _ _ H2.out _).mono ?_; rintro e w' ⟨rfl, rfl⟩))
          refine bodyPost_ret (v := .tuple #[.agg #[.int .i64 0, .int .i64 0, .int .i64 0, .bool false], .int .i64 6]) (by simp [results, Tryz.results12, go_sem]) rfl ⟨?_, HZ.out _ _ _⟩
          simp [noLoan]
        · have h4' : n ≤ u - s := by omega
          go_enter Tryz.func12, Tryz.ntmps12
          go_wp2_with (first | (go_at_call 58; refine (right_any _ _ _ _ _ H1.out _).mono ?_; rintro e w' ⟨rfl, rfl⟩) | (go_at_call 59; refine (fine_any _ _ H2.out _).mono ?_; rintro e w' ⟨rfl, rfl⟩))
          refine bodyPost_ret (v := .tuple #[.agg #[.int .i64 d, .int .i64 u, .int .i64 (s + n), .bool false], .int .i64 0]) (by simp [results, Tryz.results12, go_sem]) rfl ⟨?_, HZ.out _ _ _⟩
          simp
      · go_enter Tryz.func12, Tryz.ntmps12
        go_wp2_with (first | (go_at_call 58; refine (right_any _ _ _ _ _ H1.out _).mono ?_; rintro e w' ⟨rfl, rfl⟩) | (go_at_call 59; refine (fine_any _ _ H2.out _).mono ?_; rintro e w' ⟨rfl, rfl⟩))
        refine bodyPost_ret (v := .tuple #[.agg #[.int .i64 0, .int .i64 0, .int .i64 0, .bool false], .int .i64 7]) (by simp [results, Tryz.results12, go_sem]) rfl ⟨?_, HZ.out _ _ _⟩
        simp [noLoan]

set_option maxRecDepth 100000 in
set_option maxHeartbeats 1000000 in
theorem Return_any (d u s : Int) (b : Bool) (r : LoanV × Int) (hr : returnF ⟨d, u, s, b⟩ = r) (w : World) :
    Calls Tryz.prog 56 #[.agg #[.int .i64 d, .int .i64 u, .int .i64 s, .bool b]] w (LoanRet w r) := by
  subst hr
  have HZ := Lib.hid (below3 w)
  unfold returnF
  rcases h1 : LoanV.right ⟨d, u, s, b⟩ with _ | _
  · have H1 := Lib.hid h1
    clear h1
    go_enter Tryz.func56, Tryz.ntmps56
    go_wp2_with (go_at_call 58; refine (right_any _ _ _ _ _ H1.out _).mono ?_; rintro e w' ⟨rfl, rfl⟩)
    refine bodyPost_ret (v := .tuple #[.agg #[.int .i64 0, .int .i64 0, .int .i64 0, .bool false], .int .i64 1]) (by simp [results, Tryz.results56, go_sem]) rfl ⟨?_, HZ.out _ _ _⟩
    simp [noLoan]
  · have H1 := Lib.hid h1
    clear h1
    rcases b with _ | _
    · go_enter Tryz.func56, Tryz.ntmps56
      go_wp2_with (go_at_call 58; refine (right_any _ _ _ _ _ H1.out _).mono ?_; rintro e w' ⟨rfl, rfl⟩)
      refine bodyPost_ret (v := .tuple #[.agg #[.int .i64 d, .int .i64 u, .int .i64 s, .bool true], .int .i64 0]) (by simp [results, Tryz.results56, go_sem]) rfl ⟨?_, HZ.out _ _ _⟩
      simp
    · go_enter Tryz.func56, Tryz.ntmps56
      go_wp2_with (go_at_call 58; refine (right_any _ _ _ _ _ H1.out _).mono ?_; rintro e w' ⟨rfl, rfl⟩)
      refine bodyPost_ret (v := .tuple #[.agg #[.int .i64 0, .int .i64 0, .int .i64 0, .bool false], .int .i64 7]) (by simp [results, Tryz.results56, go_sem]) rfl ⟨?_, HZ.out _ _ _⟩
      simp [noLoan]


theorem free_len {t s : Int} {ls : List LoanV} {v : Int} (h : StockV.free ⟨t, s, ls⟩ = (v, true)) : ls.length ≤ 100 ∧ 0 ≤ t ∧ t ≤ 1099511627776 ∧ 0 ≤ s ∧ s ≤ t ∧ leftOf (t - s) ls = some v ∧ 0 ≤ v := by
  unfold StockV.free at h
  split at h
  · rename_i hsm
    simp only [StockV.small, Bool.and_eq_true, decide_eq_true_eq] at hsm
    split at h
    · rename_i v' hv
      simp only [Prod.mk.injEq, decide_eq_true_eq] at h
      obtain ⟨rfl, h⟩ := h
      exact ⟨hsm.2, hsm.1.1.1.1, hsm.1.1.1.2, hsm.1.1.2, hsm.1.2, hv, h⟩
    · simp at h
  · simp at h

end Go.Proofs.YtjncmlglhegnaaaGreatDoor
