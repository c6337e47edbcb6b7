/- wire: the reference's digits, Int, Num, Text, walked. -/
import Derived.Test.YtindfkekinpchaaGreatDoorWireC
import Derived.IntWalk
namespace Go.Proofs.YtindfkekinpchaaGreatDoor
open Go.RowKit Go.Sort Go.Lib

theorem one_convert (w : World) (c : Nat) (hc : c < 256) :
    Sem.run Tryz.prog (convert 71 9 (.slice (some ⟨w.heap.size, 0, none⟩) 1 1)) (w.alloc (.cells #[.int .u8 (c : Int)] 5)) = .ok (.string ⟨#[UInt8.ofNat c]⟩) (w.alloc (.cells #[.int .u8 (c : Int)] 5)) := by
  have := run_convert_bytes_arg (P := Tryz.prog) (w.alloc (.cells #[.int .u8 (c : Int)] 5)) 71 5 Tryz.underlying71 Tryz.underlying5 w.heap.size 0 1 1 [(c : Int)] rfl (fun i hi => by
    match i, hi with
    | 0, _ => exact World.cell?_alloc_at _ _ _ _ rfl) 9 Tryz.underlying9
  rw [this]
  simp [strOfNums]
theorem dec_len {k : Nat} (h : k ≤ 9223372036854775808) : (Lib.decDigits k).length ≤ 19 := by
  rw [decDigits_length]
  exact nDigits_le 18 k (by omega)
set_option maxRecDepth 100000 in
set_option maxHeartbeats 2000000 in
theorem digits_any (k : Nat) : ∀ (w : World), k ≤ 9223372036854775808 → ∀ (n : Int), -(k : Int) = n → ∀ l, Lib.decDigits k = l →
    Calls Tryz.prog 53 #[.int .i64 n] w fun e w' => e = .returned (.string ⟨l.toArray⟩) ∧ Below w.heap.size w w' := by
  induction k using Nat.strongRecOn with
  | _ k ih =>
    intro w hk n hn l hl
    obtain ⟨d, hd⟩ : ∃ d, k % 10 = d := ⟨_, rfl⟩
    obtain ⟨q, hq⟩ : ∃ q, k / 10 = q := ⟨_, rfl⟩
    have hd10 : d < 10 := by omega
    have hm : (-(k : Int)).tmod 10 = -(d : Int) := by rw [Int.neg_tmod, Int.tmod_eq_emod_of_nonneg (by omega)]; omega
    have ht : (-(k : Int)).tdiv 10 = -(q : Int) := by rw [Int.neg_tdiv, Int.tdiv_eq_ediv_of_nonneg (by omega)]; omega
    have hcv := one_convert w (48 + d) (by omega)
    have h1 : -9223372036854775808 ≤ -(k : Int) := by omega
    have h2 : -(k : Int) ≤ 0 := by omega
    have hcw : ((48 + d : Nat) : Int) = 48 - (-(d : Int)) := by omega
    rw [hcw] at hcv
    rw [hn] at hm ht h1 h2
    obtain ⟨m, hme⟩ : ∃ m, -(d : Int) = m := ⟨_, rfl⟩
    have hm0 : -9 ≤ m := by omega
    have hm1 : m ≤ 0 := by omega
    obtain ⟨c, hch⟩ : ∃ c, UInt8.ofNat (48 + d) = c := ⟨_, rfl⟩
    rw [hme] at hm hcv
    rw [hch] at hcv
    by_cases hs : k < 10
    · have hn10 : -10 < n := by omega
      have he : l = [c] := by rw [← hl, ← hch, Lib.decDigits, dif_pos hs]; congr 2; omega
      subst he
      clear hn hd hq hcw ht hk hs hme ih hch hl
      go_enter Tryz.func53, Tryz.ntmps53
      go_wp2_with (fail)
      go_ret
      exact ⟨rfl, below_alloc w _⟩
    · have hn10 : n ≤ -10 := by omega
      obtain ⟨l0, hl0⟩ : ∃ l0, Lib.decDigits q = l0 := ⟨_, rfl⟩
      have he : l = l0 ++ [c] := by rw [← hl, ← hch, Lib.decDigits, dif_neg hs, hq, hl0, hd]
      subst he
      obtain ⟨p, hp⟩ : ∃ p : Int, -(q : Int) = p := ⟨_, rfl⟩
      rw [hp] at ht
      have HIH := Lib.hid (ih q (by omega) (w.alloc (.cells #[.int .u8 (48 - m)] 5)) (by omega) p hp l0 hl0)
      have hlen := dec_len (k := q) (by omega)
      rw [hl0] at hlen
      have z1 : (⟨l0.toArray⟩ : ByteArray).size = l0.length := by simp [ByteArray.size]
      have z2 : (⟨l0.toArray⟩ : ByteArray) ++ (⟨#[c]⟩ : ByteArray) = ⟨(l0 ++ [c]).toArray⟩ := str_app l0 [c]
      have hp0 : -922337203685477581 ≤ p := by omega
      have hp1 : p ≤ 0 := by omega
      have b1 : l0.length + 1 ≤ 9223372036854775807 := by omega
      have hdv : n / 10 = p ∨ True := .inr trivial
      clear hn hd hq hcw hk hs hme ih hch hl hl0 hp hdv
      go_enter Tryz.func53, Tryz.ntmps53
      go_wp2_with ((with_reducible refine (HIH.out).mono ?_); rintro _ w1 ⟨rfl, hb1⟩; have HB1 := Lib.hid (below_of_calls _ hb1); clear hb1)
      go_ret
      exact ⟨rfl, HB1.out⟩
end Go.Proofs.YtindfkekinpchaaGreatDoor
