/- LendBack, both ways together. -/
import Derived.Test.YtfohjkddcinfmaaLendK
namespace Go.Proofs.Ytfohjkddcinfmaa
open Go.RowKit

theorem totalOf_nonneg : ∀ (ls : List LoanV), (∀ l ∈ ls, l.right = true) → 0 ≤ totalOf ls
  | [], _ => by simp [totalOf]
  | l :: r, h => by
    have h1 := (right_bound (h l (by simp))).1
    have h2 := totalOf_nonneg r fun x hx => h x (by simp [hx])
    simp only [totalOf, List.map_cons, List.sum_cons] at h2 ⊢
    omega
theorem back_any (t s : Int) (A : Option Addr) (n c : Nat) (ls : List LoanV) (i d u p : Int) (b : Bool) (w : World) (hs : Sl w 4 A n (ls.map LoanV.cells)) (hn : n ≤ maxLen) :
    Calls Try.prog 6 #[.agg #[.int .i64 t, .int .i64 s, .slice A n c], .int .i64 i, .agg #[.int .i64 d, .int .i64 u, .int .i64 p, .bool b]] w fun e w' => e = .returned (.bool true) ∧ Below w.heap.size w w' := by
  obtain ⟨r1, e1, hm⟩ : ∃ r1 e1, mergeF ⟨t, s, ls⟩ i ⟨d, u, p, b⟩ = (r1, e1) := ⟨_, _, rfl⟩
  by_cases he : e1 = 0
  · obtain ⟨x, h0, h1, hx, rfl, h2, h3, h4, h5, h6, _, _, _, _⟩ := back_plain hm he
    subst he
    have hl : ls.length = n := by simpa using hs.1
    obtain ⟨m, rfl⟩ : ∃ m : Nat, i = (m : Int) := ⟨i.toNat, by omega⟩
    simp only [Int.toNat_natCast] at hm h1 hx h2 h3
    obtain ⟨hsm, _, hv, hv0⟩ := free_of h5
    have h6' := (right_iff _).1 h6
    simp only [] at h6' hv
    simp only [StockV.small, Bool.and_eq_true, decide_eq_true_eq] at hsm
    have hle : (StockV.free ⟨t, s, ls⟩).1 ≤ 1099511627776 := by
      have h7 : leftOf (t - s) ls = some (StockV.free ⟨t, s, ls⟩).1 := (free_len (Prod.ext rfl h5)).2.2.2.2.2.1
      obtain ⟨h8, h9⟩ := leftOf_right ls _ _ h7
      have h10 := totalOf_nonneg ls h8
      omega
    exact back_good t s A n c ls m d u p b w hs hn x hx (by omega) hm h5 h2 _ _ rfl rfl h3 (by omega) ⟨by omega, by omega⟩
  · exact back_bad t s A n c ls i d u p b w hs hn r1 e1 hm he
end Go.Proofs.Ytfohjkddcinfmaa
