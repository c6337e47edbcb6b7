/- chain: an entry in memory; within, the closure, ContainsFunc, Right, walked. -/
import Derived.Test.YtnnnibkainlplaaDoorChainP
import Derived.Test.YtnnnibkainlplaaDoorWireX
namespace Go.Proofs.YtnnnibkainlplaaDoor
open Go.RowKit Go.Sort Go.Lib

/-- an entry, with where its list lies -/
structure EntC where
  v : EntV
  A : Option Addr
  c : Nat
def EntC.cells (e : EntC) : List Value := [.int .i64 e.v.dev, .int .i64 e.v.no, .int .i64 e.v.day, .slice e.A e.v.seen.length e.c, .string ⟨e.v.text.toArray⟩]
/-- the entry's list lies in the world -/
def EntAt (w : World) (e : EntC) : Prop := Sl w 1 e.A e.v.seen.length (e.v.seen.map intC)
theorem EntAt.below {w w' : World} {e : EntC} (h : EntAt w e) (hb : Below w.heap.size w w') : EntAt w' e := Sl.below h hb
set_option maxRecDepth 100000 in
set_option maxHeartbeats 1000000 in
theorem within_any (w : World) (n m : Int) (r : Bool) (hr : (decide (0 ≤ n) && decide (n ≤ m)) = r) :
    Calls Tryd.prog 36 #[.int .i64 n, .int .i64 m] w fun e w' => e = .returned (.bool r) ∧ w = w' := by
  subst hr
  by_cases h0 : n < 0
  · have h1 : ¬ 0 ≤ n := by omega
    go_enter Tryd.func36, Tryd.ntmps36
    have hf : (decide (0 ≤ n) && decide (n ≤ m)) = false := by rw [decide_eq_false h1, Bool.false_and]
    rw [hf]
    clear hf h1
    go_wp2_with (fail)
    go_ret
    exact ⟨rfl, rfl⟩
  · have h1 : 0 ≤ n := by omega
    clear h0
    by_cases h2 : n ≤ m
    · go_enter Tryd.func36, Tryd.ntmps36
      go_wp2_with (fail)
      go_ret
      exact ⟨by simp [h1, h2], rfl⟩
    · have h3 : m < n := by omega
      go_enter Tryd.func36, Tryd.ntmps36
      go_wp2_with (fail)
      go_ret
      exact ⟨by simp [h1, h2], rfl⟩
def okS (n : Int) : Bool := decide (0 ≤ n) && decide (n ≤ 400)
set_option maxRecDepth 100000 in
set_option maxHeartbeats 1000000 in
theorem odd_any (w : World) (n : Int) (r : Bool) (hr : okS n = !r) :
    Calls Tryd.prog 35 #[.int .i64 n] w fun e w' => e = .returned (.bool r) ∧ w = w' := by
  have HC := Lib.hid (within_any w n 400 _ hr)
  clear hr
  go_enter Tryd.func35, Tryd.ntmps35
  go_wp2_with ((with_reducible refine (HC.out).mono ?_); rintro _ w9 ⟨rfl, hw9⟩; obtain rfl := hw9)
  go_ret
  exact ⟨by simp, rfl⟩
def firstOdd : List Int → Nat → Int
  | [], _ => -1
  | x :: l, i => if okS x = true then firstOdd l (i + 1) else (i : Int)
theorem firstOdd_in : ∀ (l : List Int) (i : Nat), (inSeen l = true → firstOdd l i = -1) ∧ (inSeen l = false → 0 ≤ firstOdd l i)
  | [], i => ⟨fun _ => rfl, fun h => by simp [inSeen] at h⟩
  | x :: l, i => by
    have h := firstOdd_in l (i + 1)
    simp only [firstOdd]
    by_cases hx : okS x = true
    · have e : inSeen (x :: l) = inSeen l := by
        unfold inSeen okS at *
        rw [List.all_cons, hx, Bool.true_and]
      rw [if_pos hx, e]
      exact h
    · have hx' : okS x = false := by simpa using hx
      have e : inSeen (x :: l) = false := by
        unfold inSeen okS at *
        rw [List.all_cons, hx', Bool.false_and]
      rw [if_neg hx, e]
      exact ⟨fun h => (by cases h), fun _ => by omega⟩
theorem drop_at' {l : List Int} {k : Nat} {x : Int} (h : l[k]? = some x) : l.drop k = x :: l.drop (k + 1) := by
  obtain ⟨h1, h2⟩ := List.getElem?_eq_some_iff.1 h
  rw [← h2, List.drop_eq_getElem_cons h1]
set_option maxRecDepth 100000 in
set_option maxHeartbeats 2000000 in
theorem IndexFunc_any (w : World) (A : Option Addr) (n c : Nat) (l : List Int) (hs : Sl w 1 A n (l.map intC)) (hn : n ≤ 1099511627776) (r : Int) (hr : firstOdd l 0 = r) :
    Calls Tryd.prog 51 #[.slice A n c, .func (.func 35) #[] #[]] w fun e w' => e = .returned (.int .i64 r) ∧ w = w' := by
  have hl : l.length = n := by simpa using hs.1
  have HS := Lib.hid hs
  have HL := Lib.hid hl
  have HR := Lib.hid hr
  have HN := Lib.hid hn
  have HO := Lib.hid (fun n r hr => odd_any w n r hr)
  clear hs hl hr hn
  go_enter Tryd.func51, Tryd.ntmps51
  go_wp2_with (fail)
  go_loop [8] (fun i => ∃ k : Nat, k ≤ n ∧ i = .int .i64 (k : Int) ∧ firstOdd (l.drop k) k = r) (fun i => n - (Go.RowKit.intOf i).toNat)
  case atStart => exact ⟨0, Nat.zero_le _, rfl, by rw [List.drop_zero]; exact HR.out⟩
  case round =>
    obtain ⟨k, hk, rfl, hf⟩ := hrel
    have HF := Lib.hid hf
    clear hf
    by_cases hlt : k < n
    · obtain ⟨x, hx⟩ : ∃ x, l[k]? = some x := ⟨_, List.getElem?_eq_getElem (by rw [HL.out]; exact hlt)⟩
      obtain ⟨b, o, rfl, hbl, c0⟩ := HS.out.at1 (k := k) (v := .int .i64 x) (by rw [List.getElem?_map, hx]; rfl)
      have hf := HF.out
      rw [drop_at' hx, firstOdd] at hf
      have hki : (k : Int) < (n : Int) := by omega
      have hk0 : (0 : Int) ≤ (k : Int) := by omega
      have HLT := Lib.hid hlt
      by_cases hok : okS x = true
      · rw [if_pos hok] at hf
        have HC := Lib.hid (HO.out x false (by rw [hok]; rfl))
        have HF2 := Lib.hid hf
        have hwk : IntKind.i64.wrap ((k : Int) + 1) = (k : Int) + 1 := IntWalk.i64_in _ (by have := HN.out; omega)
        clear hx hf hok hlt hk
        go_wp2_with ((with_reducible refine (HC.out).mono ?_); rintro _ w9 ⟨rfl, hw9⟩; obtain rfl := hw9)
        go_round
        case rel => exact ⟨k + 1, HLT.out, by go_num, HF2.out⟩
        case measure => have := HLT.out; simp [Go.RowKit.intOf]; omega
      · rw [if_neg hok] at hf
        have HC := Lib.hid (HO.out x true (by simpa using hok))
        have HF2 := Lib.hid hf
        clear hx hf hok hlt hk
        go_wp2_with ((with_reducible refine (HC.out).mono ?_); rintro _ w9 ⟨rfl, hw9⟩; obtain rfl := hw9)
        go_ret
        exact ⟨by rw [← HF2.out]; rfl, rfl⟩
    · obtain rfl : k = n := by omega
      have hki : (k : Int) ≤ (k : Int) := Int.le_refl _
      have hf := HF.out
      rw [List.drop_eq_nil_of_le (by rw [HL.out]; exact Nat.le_refl _), firstOdd] at hf
      have HF2 := Lib.hid hf
      clear hlt hk hf
      go_wp2_with (fail)
      go_ret
      exact ⟨by rw [← HF2.out]; rfl, rfl⟩
set_option maxRecDepth 100000 in
set_option maxHeartbeats 1000000 in
theorem ContainsFunc_any (w : World) (A : Option Addr) (n c : Nat) (l : List Int) (hs : Sl w 1 A n (l.map intC)) (hn : n ≤ 1099511627776) (r : Bool) (hr : inSeen l = !r) :
    Calls Tryd.prog 37 #[.slice A n c, .func (.func 35) #[] #[]] w fun e w' => e = .returned (.bool r) ∧ w = w' := by
  obtain ⟨i, hi⟩ : ∃ i, firstOdd l 0 = i := ⟨_, rfl⟩
  have HC := Lib.hid (IndexFunc_any w A n c l hs hn i hi)
  have hf := firstOdd_in l 0
  rw [hi, hr] at hf
  clear hs hn hr hi
  cases r
  · have hi : i = -1 := hf.1 rfl
    subst hi
    clear hf
    go_enter Tryd.func37, Tryd.ntmps37
    go_wp2_with ((with_reducible refine (HC.out).mono ?_); rintro _ w9 ⟨rfl, hw9⟩; obtain rfl := hw9)
    go_ret
    exact ⟨rfl, rfl⟩
  · have hi : 0 ≤ i := hf.2 rfl
    clear hf
    go_enter Tryd.func37, Tryd.ntmps37
    go_wp2_with ((with_reducible refine (HC.out).mono ?_); rintro _ w9 ⟨rfl, hw9⟩; obtain rfl := hw9)
    go_ret
    exact ⟨rfl, rfl⟩
end Go.Proofs.YtnnnibkainlplaaDoor
