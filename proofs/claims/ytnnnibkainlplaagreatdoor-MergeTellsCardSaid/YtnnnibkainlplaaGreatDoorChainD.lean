/- chain: an entry in memory; within, the closure, ContainsFunc, Right, walked. -/
/- chain: Right, walked. -/
/- chain: slices.Equal at ints, Same, follows, walked. -/
/- chain: follows, walked. -/
import Derived.Test.YtnnnibkainlplaaGreatDoorMtP
import Derived.Test.YtnnnibkainlplaaGreatDoorWireX
import Derived.BigQuiet
namespace Go.Proofs.YtnnnibkainlplaaGreatDoor
open Go.RowKit Go.Sort Go.Lib

/-- an entry, with where its list lies -/
structure EntC where
  v : EntV
  A : Option Addr
  c : Nat
def EntC.cells (e : EntC) : List Value := [.int .i64 e.v.dev, .int .i64 e.v.no, .int .i64 e.v.day, .slice e.A e.v.seen.length e.c, .string ⟨e.v.text.toArray⟩]
/-- the entry's list lies in the world -/
def EntAt (w : World) (e : EntC) : Prop := Sl w 1 e.A e.v.seen.length (e.v.seen.map intC)
theorem EntAt.below {w w' : World} {e : EntC} (h : EntAt w e) (hb : Below w.heap.size w w') : EntAt w' e := Sl.below h hb
set_option maxRecDepth 100000 in
set_option maxHeartbeats 1000000 in
theorem within_any (w : World) (n m : Int) (r : Bool) (hr : (decide (0 ≤ n) && decide (n ≤ m)) = r) :
    Calls Tryz.prog 37 #[.int .i64 n, .int .i64 m] w fun e w' => e = .returned (.bool r) ∧ w = w' := by
  subst hr
  by_cases h0 : n < 0
  · have h1 : ¬ 0 ≤ n := by omega
    go_enter Tryz.func37, Tryz.ntmps37
    have hf : (decide (0 ≤ n) && decide (n ≤ m)) = false := by rw [decide_eq_false h1, Bool.false_and]
    rw [hf]
    clear hf h1
    go_wp2_with (fail)
    go_ret
    exact ⟨rfl, rfl⟩
  · have h1 : 0 ≤ n := by omega
    clear h0
    by_cases h2 : n ≤ m
    · go_enter Tryz.func37, Tryz.ntmps37
      go_wp2_with (fail)
      go_ret
      exact ⟨by simp [h1, h2], rfl⟩
    · have h3 : m < n := by omega
      go_enter Tryz.func37, Tryz.ntmps37
      go_wp2_with (fail)
      go_ret
      exact ⟨by simp [h1, h2], rfl⟩
def okS (n : Int) : Bool := decide (0 ≤ n) && decide (n ≤ 400)
set_option maxRecDepth 100000 in
set_option maxHeartbeats 1000000 in
theorem odd_any (w : World) (n : Int) (r : Bool) (hr : okS n = !r) :
    Calls Tryz.prog 36 #[.int .i64 n] w fun e w' => e = .returned (.bool r) ∧ w = w' := by
  have HC := Lib.hid (within_any w n 400 _ hr)
  clear hr
  go_enter Tryz.func36, Tryz.ntmps36
  go_wp2_with ((with_reducible refine (HC.out).mono ?_); rintro _ w9 ⟨rfl, hw9⟩; obtain rfl := hw9)
  go_ret
  exact ⟨by simp, rfl⟩
def firstOdd : List Int → Nat → Int
  | [], _ => -1
  | x :: l, i => if okS x = true then firstOdd l (i + 1) else (i : Int)
theorem firstOdd_in : ∀ (l : List Int) (i : Nat), (inSeen l = true → firstOdd l i = -1) ∧ (inSeen l = false → 0 ≤ firstOdd l i)
  | [], i => ⟨fun _ => rfl, fun h => by simp [inSeen] at h⟩
  | x :: l, i => by
    have h := firstOdd_in l (i + 1)
    simp only [firstOdd]
    by_cases hx : okS x = true
    · have e : inSeen (x :: l) = inSeen l := by
        unfold inSeen okS at *
        rw [List.all_cons, hx, Bool.true_and]
      rw [if_pos hx, e]
      exact h
    · have hx' : okS x = false := by simpa using hx
      have e : inSeen (x :: l) = false := by
        unfold inSeen okS at *
        rw [List.all_cons, hx', Bool.false_and]
      rw [if_neg hx, e]
      exact ⟨fun h => (by cases h), fun _ => by omega⟩
theorem drop_at' {l : List Int} {k : Nat} {x : Int} (h : l[k]? = some x) : l.drop k = x :: l.drop (k + 1) := by
  obtain ⟨h1, h2⟩ := List.getElem?_eq_some_iff.1 h
  rw [← h2, List.drop_eq_getElem_cons h1]
set_option maxRecDepth 100000 in
set_option maxHeartbeats 2000000 in
theorem IndexFunc_any (w : World) (A : Option Addr) (n c : Nat) (l : List Int) (hs : Sl w 1 A n (l.map intC)) (hn : n ≤ 1099511627776) (r : Int) (hr : firstOdd l 0 = r) :
    Calls Tryz.prog 54 #[.slice A n c, .func (.func 36) #[] #[]] w fun e w' => e = .returned (.int .i64 r) ∧ w = w' := by
  have hl : l.length = n := by simpa using hs.1
  have HS := Lib.hid hs
  have HL := Lib.hid hl
  have HR := Lib.hid hr
  have HN := Lib.hid hn
  have HO := Lib.hid (fun n r hr => odd_any w n r hr)
  clear hs hl hr hn
  go_enter Tryz.func54, Tryz.ntmps54
  go_wp2_with (fail)
  go_loop [8] (fun i => ∃ k : Nat, k ≤ n ∧ i = .int .i64 (k : Int) ∧ firstOdd (l.drop k) k = r) (fun i => n - (Go.RowKit.intOf i).toNat)
  case atStart => exact ⟨0, Nat.zero_le _, rfl, by rw [List.drop_zero]; exact HR.out⟩
  case round =>
    obtain ⟨k, hk, rfl, hf⟩ := hrel
    have HF := Lib.hid hf
    clear hf
    by_cases hlt : k < n
    · obtain ⟨x, hx⟩ : ∃ x, l[k]? = some x := ⟨_, List.getElem?_eq_getElem (by rw [HL.out]; exact hlt)⟩
      obtain ⟨b, o, rfl, hbl, c0⟩ := HS.out.at1 (k := k) (v := .int .i64 x) (by rw [List.getElem?_map, hx]; rfl)
      have hf := HF.out
      rw [drop_at' hx, firstOdd] at hf
      have hki : (k : Int) < (n : Int) := by omega
      have hk0 : (0 : Int) ≤ (k : Int) := by omega
      have HLT := Lib.hid hlt
      by_cases hok : okS x = true
      · rw [if_pos hok] at hf
        have HC := Lib.hid (HO.out x false (by rw [hok]; rfl))
        have HF2 := Lib.hid hf
        have hwk : IntKind.i64.wrap ((k : Int) + 1) = (k : Int) + 1 := IntWalk.i64_in _ (by have := HN.out; omega)
        clear hx hf hok hlt hk
        go_wp2_with ((with_reducible refine (HC.out).mono ?_); rintro _ w9 ⟨rfl, hw9⟩; obtain rfl := hw9)
        go_round
        case rel => exact ⟨k + 1, HLT.out, by go_num, HF2.out⟩
        case measure => have := HLT.out; simp [Go.RowKit.intOf]; omega
      · rw [if_neg hok] at hf
        have HC := Lib.hid (HO.out x true (by simpa using hok))
        have HF2 := Lib.hid hf
        clear hx hf hok hlt hk
        go_wp2_with ((with_reducible refine (HC.out).mono ?_); rintro _ w9 ⟨rfl, hw9⟩; obtain rfl := hw9)
        go_ret
        exact ⟨by rw [← HF2.out]; rfl, rfl⟩
    · obtain rfl : k = n := by omega
      have hki : (k : Int) ≤ (k : Int) := Int.le_refl _
      have hf := HF.out
      rw [List.drop_eq_nil_of_le (by rw [HL.out]; exact Nat.le_refl _), firstOdd] at hf
      have HF2 := Lib.hid hf
      clear hlt hk hf
      go_wp2_with (fail)
      go_ret
      exact ⟨by rw [← HF2.out]; rfl, rfl⟩
set_option maxRecDepth 100000 in
set_option maxHeartbeats 1000000 in
theorem ContainsFunc_any (w : World) (A : Option Addr) (n c : Nat) (l : List Int) (hs : Sl w 1 A n (l.map intC)) (hn : n ≤ 1099511627776) (r : Bool) (hr : inSeen l = !r) :
    Calls Tryz.prog 38 #[.slice A n c, .func (.func 36) #[] #[]] w fun e w' => e = .returned (.bool r) ∧ w = w' := by
  obtain ⟨i, hi⟩ : ∃ i, firstOdd l 0 = i := ⟨_, rfl⟩
  have HC := Lib.hid (IndexFunc_any w A n c l hs hn i hi)
  have hf := firstOdd_in l 0
  rw [hi, hr] at hf
  clear hs hn hr hi
  cases r
  · have hi : i = -1 := hf.1 rfl
    subst hi
    clear hf
    go_enter Tryz.func38, Tryz.ntmps38
    go_wp2_with ((with_reducible refine (HC.out).mono ?_); rintro _ w9 ⟨rfl, hw9⟩; obtain rfl := hw9)
    go_ret
    exact ⟨rfl, rfl⟩
  · have hi : 0 ≤ i := hf.2 rfl
    clear hf
    go_enter Tryz.func38, Tryz.ntmps38
    go_wp2_with ((with_reducible refine (HC.out).mono ?_); rintro _ w9 ⟨rfl, hw9⟩; obtain rfl := hw9)
    go_ret
    exact ⟨rfl, rfl⟩
end Go.Proofs.YtnnnibkainlplaaGreatDoor
namespace Go.Proofs.YtnnnibkainlplaaGreatDoor
open Go.RowKit Go.Sort Go.Lib

theorem rightB_no {e : EntV} (h : ¬ RightE e) : rightB e = false := by
  cases hb : rightB e with
  | false => rfl
  | true => exact absurd (rightB_true.1 hb) h
set_option maxRecDepth 100000 in
set_option maxHeartbeats 2000000 in
theorem Right_any (w : World) (e : EntC) (he : EntAt w e) (hn : e.v.seen.length ≤ 1099511627776) (hb : e.v.text.length ≤ 140737488351232) (r : Bool) (hr : rightB e.v = r) :
    Calls Tryz.prog 24 #[.agg e.cells.toArray] w fun x w' => x = .returned (.bool r) ∧ Below w.heap.size w w' := by
  obtain ⟨⟨dev, no, day, seen, text⟩, A, c⟩ := e
  simp only [EntC.cells, EntAt] at he hn hb ⊢
  have HB0 := Lib.hid (fun o => (Below.refl w.heap.size w).alloc (Nat.le_refl _) o)
  obtain ⟨b1, h1⟩ : ∃ b1 : Bool, (decide (0 ≤ dev) && decide (dev ≤ 7)) = b1 := ⟨_, rfl⟩
  obtain ⟨b2, h2⟩ : ∃ b2 : Bool, (decide (0 ≤ no) && decide (no ≤ 399)) = b2 := ⟨_, rfl⟩
  obtain ⟨b3, h3⟩ : ∃ b3 : Bool, (decide (0 ≤ day) && decide (day ≤ 100000)) = b3 := ⟨_, rfl⟩
  have H1 := Lib.hid (fun w => within_any w dev 7 b1 h1)
  have H2 := Lib.hid (fun w => within_any w no 399 b2 h2)
  have H3 := Lib.hid (fun w => within_any w day 100000 b3 h3)
  have hr2 : (b1 && b2 && b3 && decide (seen.length = 8) && inSeen seen && decide (seen[dev.toNat]? = some no) && decide (text.length ≤ 4000)) = r := by
    rw [← hr, ← h1, ← h2, ← h3]
    unfold rightB
    simp only [Bool.and_assoc]
  clear hr h2 h3
  have HR := Lib.hid hr2
  clear hr2
  have HS := Lib.hid he
  have HN := Lib.hid hn
  have HT := Lib.hid hb
  cases b1
  · clear h1 he hn hb
    go_enter Tryz.func24, Tryz.ntmps24
    go_wp2_with (first | ((with_reducible refine (H1.out _).mono ?_); rintro _ w9 ⟨rfl, hw9⟩; obtain rfl := hw9))
    go_ret
    exact ⟨by rw [← HR.out]; rfl, HB0.out _⟩
  cases b2
  · clear h1 he hn hb
    go_enter Tryz.func24, Tryz.ntmps24
    go_wp2_with (first | ((with_reducible refine (H1.out _).mono ?_); rintro _ w9 ⟨rfl, hw9⟩; obtain rfl := hw9) | ((with_reducible refine (H2.out _).mono ?_); rintro _ w9 ⟨rfl, hw9⟩; obtain rfl := hw9))
    go_ret
    exact ⟨by rw [← HR.out]; rfl, HB0.out _⟩
  cases b3
  · clear h1 he hn hb
    go_enter Tryz.func24, Tryz.ntmps24
    go_wp2_with (first | ((with_reducible refine (H1.out _).mono ?_); rintro _ w9 ⟨rfl, hw9⟩; obtain rfl := hw9) | ((with_reducible refine (H2.out _).mono ?_); rintro _ w9 ⟨rfl, hw9⟩; obtain rfl := hw9) | ((with_reducible refine (H3.out _).mono ?_); rintro _ w9 ⟨rfl, hw9⟩; obtain rfl := hw9))
    go_ret
    exact ⟨by rw [← HR.out]; rfl, HB0.out _⟩
  by_cases hlen : seen.length = 8
  · obtain ⟨b4, h4⟩ : ∃ b4 : Bool, inSeen seen = b4 := ⟨_, rfl⟩
    have HC := Lib.hid (fun o => ContainsFunc_any (w.alloc o) A seen.length c seen (he.alloc o) hn (!b4) (by rw [h4, Bool.not_not]))
    cases b4
    · have HR2 : Hid (false = r) := Lib.hid (by rw [← HR.out, h4]; simp)
      rw [hlen] at HC ⊢
      clear h1 he hn hb h4 hlen
      go_enter Tryz.func24, Tryz.ntmps24
      go_wp2_with (first | ((with_reducible refine (H1.out _).mono ?_); rintro _ w9 ⟨rfl, hw9⟩; obtain rfl := hw9) | ((with_reducible refine (H2.out _).mono ?_); rintro _ w9 ⟨rfl, hw9⟩; obtain rfl := hw9) | ((with_reducible refine (H3.out _).mono ?_); rintro _ w9 ⟨rfl, hw9⟩; obtain rfl := hw9) | ((with_reducible refine (HC.out _).mono ?_); rintro _ w9 ⟨rfl, hw9⟩; obtain rfl := hw9))
      go_ret
      exact ⟨by rw [← HR2.out]; rfl, HB0.out _⟩
    · have hd : 0 ≤ dev ∧ dev ≤ 7 := by simpa using h1
      obtain ⟨k, rfl⟩ : ∃ k : Nat, dev = (k : Int) := ⟨dev.toNat, by omega⟩
      obtain ⟨x, hx⟩ : ∃ x, seen[k]? = some x := ⟨_, List.getElem?_eq_getElem (by omega)⟩
      obtain ⟨b, o, rfl, hbl, c0⟩ := he.at1 (k := k) (v := .int .i64 x) (by rw [List.getElem?_map, hx]; rfl)
      have HR2 : Hid ((decide (x = no) && decide (text.length ≤ 4000)) = r) := Lib.hid (by rw [← HR.out, h4, Int.toNat_natCast, hx]; simp [hlen])
      rw [hlen] at HC ⊢
      have hk8 : (k : Int) < 8 := by omega
      have hk0 : (0 : Int) ≤ (k : Int) := by omega
      have c1 : ∀ o', (w.alloc o').cell? ⟨b, o + k, none⟩ = some (.int .i64 x) := fun o' => by rw [World.cell?_alloc_lt w o' _ hbl]; exact c0
      have hsz := str_size text
      by_cases hxn : x = no
      · by_cases ht : text.length ≤ 4000
        · have hti : (text.length : Int) ≤ 4000 := by omega
          have HR3 : Hid (true = r) := Lib.hid (by rw [← HR2.out]; simp [hxn, ht])
          subst hxn
          clear h1 he hn hb h4 hlen hx hd ht
          go_enter Tryz.func24, Tryz.ntmps24
          go_wp2_with (first | ((with_reducible refine (H1.out _).mono ?_); rintro _ w9 ⟨rfl, hw9⟩; obtain rfl := hw9) | ((with_reducible refine (H2.out _).mono ?_); rintro _ w9 ⟨rfl, hw9⟩; obtain rfl := hw9) | ((with_reducible refine (H3.out _).mono ?_); rintro _ w9 ⟨rfl, hw9⟩; obtain rfl := hw9) | ((with_reducible refine (HC.out _).mono ?_); rintro _ w9 ⟨rfl, hw9⟩; obtain rfl := hw9))
          go_quiet (fail)
          go_wp2_with (fail)
          go_ret
          exact ⟨by rw [← HR3.out]; rfl, bdrewN (HB0.out _) _⟩
        · have hti : decide ((text.length : Int) ≤ 4000) = false := decide_eq_false (by omega)
          have HR3 : Hid (false = r) := Lib.hid (by rw [← HR2.out]; simp [hxn, ht])
          subst hxn
          clear h1 he hn hb h4 hlen hx hd ht
          go_enter Tryz.func24, Tryz.ntmps24
          go_wp2_with (first | ((with_reducible refine (H1.out _).mono ?_); rintro _ w9 ⟨rfl, hw9⟩; obtain rfl := hw9) | ((with_reducible refine (H2.out _).mono ?_); rintro _ w9 ⟨rfl, hw9⟩; obtain rfl := hw9) | ((with_reducible refine (H3.out _).mono ?_); rintro _ w9 ⟨rfl, hw9⟩; obtain rfl := hw9) | ((with_reducible refine (HC.out _).mono ?_); rintro _ w9 ⟨rfl, hw9⟩; obtain rfl := hw9))
          go_quiet (fail)
          go_wp2_with (fail)
          go_ret
          exact ⟨by rw [← HR3.out, ← hti]; rfl, bdrewN (HB0.out _) _⟩
      · have HR3 : Hid (false = r) := Lib.hid (by rw [← HR2.out]; simp [hxn])
        have hxd : decide (x = no) = false := decide_eq_false hxn
        have hxb : (x == no) = false := by simpa using hxn
        clear h1 he hn hb h4 hlen hx hd
        go_enter Tryz.func24, Tryz.ntmps24
        go_wp2_with (first | ((with_reducible refine (H1.out _).mono ?_); rintro _ w9 ⟨rfl, hw9⟩; obtain rfl := hw9) | ((with_reducible refine (H2.out _).mono ?_); rintro _ w9 ⟨rfl, hw9⟩; obtain rfl := hw9) | ((with_reducible refine (H3.out _).mono ?_); rintro _ w9 ⟨rfl, hw9⟩; obtain rfl := hw9) | ((with_reducible refine (HC.out _).mono ?_); rintro _ w9 ⟨rfl, hw9⟩; obtain rfl := hw9))
        go_quiet (fail)
        go_wp2_with (fail)
        go_ret
        exact ⟨by rw [← HR3.out]; rfl, bdrewN (HB0.out _) _⟩
  · have hni : ¬ ((seen.length : Int) = 8) := by omega
    have hnb : ((seen.length : Int) == 8) = false := by simpa using hni
    have HR2 : Hid (false = r) := Lib.hid (by rw [← HR.out]; simp [hlen])
    clear h1 he hn hb hlen
    go_enter Tryz.func24, Tryz.ntmps24
    go_wp2_with (first | ((with_reducible refine (H1.out _).mono ?_); rintro _ w9 ⟨rfl, hw9⟩; obtain rfl := hw9) | ((with_reducible refine (H2.out _).mono ?_); rintro _ w9 ⟨rfl, hw9⟩; obtain rfl := hw9) | ((with_reducible refine (H3.out _).mono ?_); rintro _ w9 ⟨rfl, hw9⟩; obtain rfl := hw9))
    go_ret
    exact ⟨by rw [← HR2.out]; rfl, HB0.out _⟩
end Go.Proofs.YtnnnibkainlplaaGreatDoor
namespace Go.Proofs.YtnnnibkainlplaaGreatDoor
open Go.RowKit Go.Sort Go.Lib

theorem Sl.ints {w : World} {A : Option Addr} {n : Nat} {l : List Int} (h : Sl w 1 A n (l.map intC)) : l.length = n ∧ (n = 0 ∨ ∃ b o, A = some ⟨b, o, none⟩ ∧ b < w.heap.size ∧ ∀ j, j < l.length → w.cell? ⟨b, o + j, none⟩ = some (.int .i64 (l.getD j 0))) := by
  have hl : l.length = n := by simpa using h.1
  refine ⟨hl, ?_⟩
  rcases Nat.eq_zero_or_pos n with h0 | h0
  · exact .inl h0
  · refine .inr ?_
    have at_ : ∀ j, j < l.length → ∃ b o, A = some ⟨b, o, none⟩ ∧ b < w.heap.size ∧ w.cell? ⟨b, o + j, none⟩ = some (.int .i64 (l.getD j 0)) := fun j hj =>
      h.at1 (k := j) (v := .int .i64 (l.getD j 0)) (by rw [List.getElem?_map, List.getElem?_eq_getElem hj, List.getD_eq_getElem?_getD, List.getElem?_eq_getElem hj]; rfl)
    obtain ⟨b, o, hA, hb, _⟩ := at_ 0 (by omega)
    refine ⟨b, o, hA, hb, fun j hj => ?_⟩
    obtain ⟨b', o', hA', hb', hc⟩ := at_ j hj
    rw [hA] at hA'
    injection hA' with hA'
    injection hA' with e1 e2
    rw [e1, e2]
    exact hc
set_option maxRecDepth 100000 in
set_option maxHeartbeats 1000000 in
set_option maxRecDepth 100000 in
set_option maxHeartbeats 1000000 in
set_option maxRecDepth 100000 in
set_option maxHeartbeats 1000000 in
theorem Equal_any (w : World) (A1 A2 : Option Addr) (n c m d : Nat) (xs ys : List Int) (h1 : Sl w 1 A1 n (xs.map intC)) (h2 : Sl w 1 A2 m (ys.map intC)) (hn : n ≤ 1099511627776) (hm : m ≤ 1099511627776) (r : Bool) (hr : decide (xs = ys) = r) :
    Calls Tryz.prog 82 #[.slice A1 n c, .slice A2 m d] w fun e w' => e = .returned (.bool r) ∧ ∃ q, w' = w.drewN q := by
  obtain ⟨l1, g1⟩ := h1.ints
  obtain ⟨l2, g2⟩ := h2.ints
  by_cases hnm : n = m
  · subst hnm
    rcases g1 with rfl | ⟨b1, o1, rfl, _, c1⟩
    · refine (slices_Equal_int_empty A1 A2 c 0 d w (by omega)).mono fun e w' ⟨he, hw⟩ => ⟨?_, 0, hw⟩
      rw [he, ← hr]
      have hx : xs = [] := List.length_eq_zero_iff.1 l1
      have hy : ys = [] := List.length_eq_zero_iff.1 l2
      subst hx hy
      rfl
    · rcases g2 with rfl | ⟨b2, o2, rfl, _, c2⟩
      · refine (slices_Equal_int_empty (some ⟨b1, o1, none⟩) A2 c 0 d w (by omega)).mono fun e w' ⟨he, hw⟩ => ⟨?_, 0, hw⟩
        rw [he, ← hr]
        have hx : xs = [] := List.length_eq_zero_iff.1 l1
        have hy : ys = [] := List.length_eq_zero_iff.1 l2
        subst hx hy
        rfl
      · refine (slices_Equal_int b1 o1 n c b2 o2 n d xs ys w (by omega) (by omega) (by omega) (by omega) c1 c2).mono fun e w' ⟨he, hw⟩ => ⟨?_, hw⟩
        have e1 : xs.take n = xs := by rw [← l1, List.take_length]
        have e2 : ys.take n = ys := by rw [← l2, List.take_length]
        rw [he, ← hr, e1, e2]
        by_cases h : xs = ys <;> simp [h]
  · have hr2 : r = false := by
      rw [← hr]
      refine decide_eq_false fun h => hnm ?_
      rw [← l1, ← l2, h]
    subst hr2
    have hi : ¬ ((n : Int) = (m : Int)) := by omega
    have hb : ((n : Int) == (m : Int)) = false := by rw [beq_eq_false_iff_ne]; intro h; exact hnm (by omega)
    clear h1 h2 l1 l2 g1 g2 hr hnm
    go_enter Tryz.func82, Tryz.ntmps82
    go_wp2_with (fail)
    go_ret
    exact ⟨rfl, 0, rfl⟩
set_option maxRecDepth 100000 in
set_option maxHeartbeats 2000000 in
theorem Same_any (w : World) (a b : EntC) (ha : EntAt w a) (hb : EntAt w b) (hn : a.v.seen.length ≤ 1099511627776) (hm : b.v.seen.length ≤ 1099511627776) (r : Bool) (hr : sameB a.v b.v = r) :
    Calls Tryz.prog 64 #[.agg a.cells.toArray, .agg b.cells.toArray] w fun x w' => x = .returned (.bool r) ∧ Below w.heap.size w w' := by
  obtain ⟨⟨d1, n1, y1, l1, t1⟩, A1, c1⟩ := a
  obtain ⟨⟨d2, n2, y2, l2, t2⟩, A2, c2⟩ := b
  simp only [EntC.cells, EntAt, sameB] at ha hb hn hm hr ⊢
  have HC := Lib.hid (fun o o' q hq => Equal_any ((w.alloc o).alloc o') A1 A2 l1.length c1 l2.length c2 l1 l2 ((ha.alloc o).alloc o') ((hb.alloc o).alloc o') hn hm q hq)
  have HB := Lib.hid (fun o o' => ((Below.refl w.heap.size w).alloc (Nat.le_refl _) o).alloc (by simp) o')
  clear ha hb hn hm
  have HR := Lib.hid hr
  clear hr
  generalize l1.length = k1 at *
  generalize l2.length = k2 at *
  by_cases hd : d1 = d2
  case neg =>
    have hdb : (d1 == d2) = false := by simpa using hd
    have HR2 : Hid (false = r) := Lib.hid (by rw [← HR.out]; simp [hd])
    clear HR
    go_enter Tryz.func64, Tryz.ntmps64
    go_wp2_with (fail)
    go_ret
    exact ⟨by rw [← HR2.out]; rfl, HB.out _ _⟩
  subst hd
  by_cases hd : n1 = n2
  case neg =>
    have hdb : (n1 == n2) = false := by simpa using hd
    have HR2 : Hid (false = r) := Lib.hid (by rw [← HR.out]; simp [hd])
    clear HR
    go_enter Tryz.func64, Tryz.ntmps64
    go_wp2_with (fail)
    go_ret
    exact ⟨by rw [← HR2.out]; rfl, HB.out _ _⟩
  subst hd
  by_cases hd : y1 = y2
  case neg =>
    have hdb : (y1 == y2) = false := by simpa using hd
    have HR2 : Hid (false = r) := Lib.hid (by rw [← HR.out]; simp [hd])
    clear HR
    go_enter Tryz.func64, Tryz.ntmps64
    go_wp2_with (fail)
    go_ret
    exact ⟨by rw [← HR2.out]; rfl, HB.out _ _⟩
  subst hd
  by_cases hd : l1 = l2
  case neg =>
    have HC := Lib.hid (fun o o' => HC.out o o' false (by simpa using hd))
    have HR2 : Hid (false = r) := Lib.hid (by rw [← HR.out]; simp [hd])
    clear HR
    clear hd
    go_enter Tryz.func64, Tryz.ntmps64
    go_wp2_with ((with_reducible refine (HC.out _ _).mono ?_); rintro _ w9 ⟨rfl, nq, hw9⟩; subst hw9)
    go_ret
    exact ⟨by rw [← HR2.out]; rfl, bdrewN (HB.out _ _) _⟩
  subst hd
  have HC := Lib.hid (fun o o' => HC.out o o' true (by simp))
  by_cases hd : t1 = t2
  case neg =>
    have HR2 : Hid (false = r) := Lib.hid (by rw [← HR.out]; simp [hd])
    clear HR
    have hdb : (t1 == t2) = false := by simpa using hd
    clear hd
    go_enter Tryz.func64, Tryz.ntmps64
    go_wp2_with ((with_reducible refine (HC.out _ _).mono ?_); rintro _ w9 ⟨rfl, nq, hw9⟩; subst hw9)
    go_ret
    exact ⟨by rw [← HR2.out]; rfl, bdrewN (HB.out _ _) _⟩
  subst hd
  have HR2 : Hid (true = r) := Lib.hid (by rw [← HR.out]; simp)
  clear HR
  go_enter Tryz.func64, Tryz.ntmps64
  go_wp2_with ((with_reducible refine (HC.out _ _).mono ?_); rintro _ w9 ⟨rfl, nq, hw9⟩; subst hw9)
  go_ret
  exact ⟨by rw [← HR2.out]; rfl, bdrewN (HB.out _ _) _⟩
end Go.Proofs.YtnnnibkainlplaaGreatDoor
namespace Go.Proofs.YtnnnibkainlplaaGreatDoor
open Go.RowKit Go.Sort Go.Lib

theorem lessSome_drop {l m : List Int} {k : Nat} {x y : Int} (hx : l[k]? = some x) (hy : m[k]? = some y) : lessSome (l.drop k) (m.drop k) = (decide (y < x) || lessSome (l.drop (k + 1)) (m.drop (k + 1))) := by
  rw [drop_at' hx, drop_at' hy]
  rfl
set_option maxRecDepth 100000 in
set_option maxHeartbeats 2000000 in
theorem follows_any (w : World) (a b : EntC) (ha : EntAt w a) (hb : EntAt w b) (hn : a.v.seen.length = 8) (hm : b.v.seen.length = 8) (r : Int) (hr : followsF a.v b.v = r) :
    Calls Tryz.prog 65 #[.agg a.cells.toArray, .agg b.cells.toArray] w fun x w' => x = .returned (.int .i64 r) ∧ Below w.heap.size w w' := by
  obtain ⟨⟨d1, n1, y1, l1, t1⟩, A1, c1⟩ := a
  obtain ⟨⟨d2, n2, y2, l2, t2⟩, A2, c2⟩ := b
  simp only [EntC.cells, EntAt, followsF] at ha hb hn hm hr ⊢
  rw [hn, hm]
  have HB := Lib.hid (fun o o' => ((Below.refl w.heap.size w).alloc (Nat.le_refl _) o).alloc (by simp) o')
  by_cases hd : y2 < y1
  · rw [if_pos hd] at hr
    have HR := Lib.hid hr
    clear hr ha hb hn hm
    go_enter Tryz.func65, Tryz.ntmps65
    go_wp2_with (fail)
    go_ret
    exact ⟨by rw [← HR.out]; rfl, HB.out _ _⟩
  · have hd' : y1 ≤ y2 := by omega
    rw [if_neg hd] at hr
    have HR := Lib.hid hr
    have HA := Lib.hid ha
    have HB2 := Lib.hid hb
    have H1 := Lib.hid hn
    have H2 := Lib.hid hm
    clear hr ha hb hn hm hd
    go_enter Tryz.func65, Tryz.ntmps65
    go_wp2_with (fail)
    go_loop [15] (fun i => ∃ k : Nat, k ≤ 8 ∧ i = .int .i64 (k : Int) ∧ lessSome (l1.drop k) (l2.drop k) = lessSome l1 l2) (fun i => 8 - (Go.RowKit.intOf i).toNat)
    case atStart => exact ⟨0, Nat.zero_le _, rfl, rfl⟩
    case round =>
      obtain ⟨k, hk, rfl, hf⟩ := hrel
      have HF := Lib.hid hf
      clear hf
      by_cases hlt : k < 8
      · obtain ⟨x, hx⟩ : ∃ x, l1[k]? = some x := ⟨_, List.getElem?_eq_getElem (by have := H1.out; omega)⟩
        obtain ⟨y, hy⟩ : ∃ x, l2[k]? = some x := ⟨_, List.getElem?_eq_getElem (by have := H2.out; omega)⟩
        obtain ⟨b1, o1, rfl, hb1, e1⟩ := HA.out.at1 (k := k) (v := .int .i64 x) (by rw [List.getElem?_map, hx]; rfl)
        obtain ⟨b2, o2, rfl, hb2, e2⟩ := HB2.out.at1 (k := k) (v := .int .i64 y) (by rw [List.getElem?_map, hy]; rfl)
        have f1 : ∀ o o', ((w.alloc o).alloc o').cell? ⟨b1, o1 + k, none⟩ = some (.int .i64 x) := fun o o' => by
          rw [World.cell?_alloc_lt (w.alloc o) o' _ (by simp; omega), World.cell?_alloc_lt w o _ hb1]
          exact e1
        have f2 : ∀ o o', ((w.alloc o).alloc o').cell? ⟨b2, o2 + k, none⟩ = some (.int .i64 y) := fun o o' => by
          rw [World.cell?_alloc_lt (w.alloc o) o' _ (by simp; omega), World.cell?_alloc_lt w o _ hb2]
          exact e2
        have hki : (k : Int) < 8 := by omega
        have hk0 : (0 : Int) ≤ (k : Int) := by omega
        have HLT := Lib.hid hlt
        have hf := HF.out
        rw [lessSome_drop hx hy] at hf
        by_cases hxy : y < x
        · rw [decide_eq_true hxy, Bool.true_or] at hf
          have HF2 : Hid (7 = r) := Lib.hid (by rw [← HR.out, ← hf]; rfl)
          clear hlt hk hx hy hf e1 e2 hb1 hb2
          go_wp2_with (fail)
          go_ret
          exact ⟨by rw [← HF2.out]; rfl, HB.out _ _⟩
        · rw [decide_eq_false hxy, Bool.false_or] at hf
          have hxy' : x ≤ y := by omega
          have HF2 := Lib.hid hf
          have hwk : IntKind.i64.wrap ((k : Int) + 1) = (k : Int) + 1 := IntWalk.i64_in _ (by omega)
          clear hlt hk hx hy hf hxy e1 e2 hb1 hb2
          go_wp2_with (fail)
          go_round
          case rel => exact ⟨k + 1, HLT.out, by go_num, HF2.out⟩
          case measure => have := HLT.out; simp [Go.RowKit.intOf]; omega
      · obtain rfl : k = 8 := by omega
        have hf := HF.out
        rw [List.drop_eq_nil_of_le (by rw [H1.out]; exact Nat.le_refl _)] at hf
        have HF2 : Hid (0 = r) := Lib.hid (by rw [← HR.out, ← hf]; rfl)
        clear hlt hk hf
        go_wp2_with (fail)
        go_ret
        exact ⟨by rw [← HF2.out]; rfl, HB.out _ _⟩
end Go.Proofs.YtnnnibkainlplaaGreatDoor
