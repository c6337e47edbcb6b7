/- chain: an entry in memory; within, the closure, ContainsFunc, Right, walked. -/
/- chain: Right, walked. -/
import Derived.Test.YtjncmlglhegnaaaGreatDoorChainP
import Derived.Test.YtjncmlglhegnaaaGreatDoorWireX
import Derived.BigQuiet
namespace Go.Proofs.YtjncmlglhegnaaaGreatDoor
open Go.RowKit Go.Sort Go.Lib

/-- an entry, with where its list lies -/
structure EntC where
  v : EntV
  A : Option Addr
  c : Nat
def EntC.cells (e : EntC) : List Value := [.int .i64 e.v.dev, .int .i64 e.v.no, .int .i64 e.v.day, .slice e.A e.v.seen.length e.c, .string ⟨e.v.text.toArray⟩]
/-- the entry's list lies in the world -/
def EntAt (w : World) (e : EntC) : Prop := Sl w 1 e.A e.v.seen.length (e.v.seen.map intC)
theorem EntAt.below {w w' : World} {e : EntC} (h : EntAt w e) (hb : Below w.heap.size w w') : EntAt w' e := Sl.below h hb
set_option maxRecDepth 100000 in
set_option maxHeartbeats 1000000 in
theorem within_any (w : World) (n m : Int) (r : Bool) (hr : (decide (0 ≤ n) && decide (n ≤ m)) = r) :
    Calls Tryz.prog 138 #[.int .i64 n, .int .i64 m] w fun e w' => e = .returned (.bool r) ∧ w = w' := by
  subst hr
  by_cases h0 : n < 0
  · have h1 : ¬ 0 ≤ n := by omega
    go_enter Tryz.func138, Tryz.ntmps138
    have hf : (decide (0 ≤ n) && decide (n ≤ m)) = false := by rw [decide_eq_false h1, Bool.false_and]
    rw [hf]
    clear hf h1
    go_wp2_with (fail)
    go_ret
    exact ⟨rfl, rfl⟩
  · have h1 : 0 ≤ n := by omega
    clear h0
    by_cases h2 : n ≤ m
    · go_enter Tryz.func138, Tryz.ntmps138
      go_wp2_with (fail)
      go_ret
      exact ⟨by simp [h1, h2], rfl⟩
    · have h3 : m < n := by omega
      go_enter Tryz.func138, Tryz.ntmps138
      go_wp2_with (fail)
      go_ret
      exact ⟨by simp [h1, h2], rfl⟩
def okS (n : Int) : Bool := decide (0 ≤ n) && decide (n ≤ 400)
set_option maxRecDepth 100000 in
set_option maxHeartbeats 1000000 in
theorem odd_any (w : World) (n : Int) (r : Bool) (hr : okS n = !r) :
    Calls Tryz.prog 137 #[.int .i64 n] w fun e w' => e = .returned (.bool r) ∧ w = w' := by
  have HC := Lib.hid (within_any w n 400 _ hr)
  clear hr
  go_enter Tryz.func137, Tryz.ntmps137
  go_wp2_with ((with_reducible refine (HC.out).mono ?_); rintro _ w9 ⟨rfl, hw9⟩; obtain rfl := hw9)
  go_ret
  exact ⟨by simp, rfl⟩
def firstOdd : List Int → Nat → Int
  | [], _ => -1
  | x :: l, i => if okS x = true then firstOdd l (i + 1) else (i : Int)
theorem firstOdd_in : ∀ (l : List Int) (i : Nat), (inSeen l = true → firstOdd l i = -1) ∧ (inSeen l = false → 0 ≤ firstOdd l i)
  | [], i => ⟨fun _ => rfl, fun h => by simp [inSeen] at h⟩
  | x :: l, i => by
    have h := firstOdd_in l (i + 1)
    simp only [firstOdd]
    by_cases hx : okS x = true
    · have e : inSeen (x :: l) = inSeen l := by
        unfold inSeen okS at *
        rw [List.all_cons, hx, Bool.true_and]
      rw [if_pos hx, e]
      exact h
    · have hx' : okS x = false := by simpa using hx
      have e : inSeen (x :: l) = false := by
        unfold inSeen okS at *
        rw [List.all_cons, hx', Bool.false_and]
      rw [if_neg hx, e]
      exact ⟨fun h => (by cases h), fun _ => by omega⟩
theorem drop_at' {l : List Int} {k : Nat} {x : Int} (h : l[k]? = some x) : l.drop k = x :: l.drop (k + 1) := by
  obtain ⟨h1, h2⟩ := List.getElem?_eq_some_iff.1 h
  rw [← h2, List.drop_eq_getElem_cons h1]
set_option maxRecDepth 100000 in
set_option maxHeartbeats 2000000 in
theorem IndexFunc_any (w : World) (A : Option Addr) (n c : Nat) (l : List Int) (hs : Sl w 1 A n (l.map intC)) (hn : n ≤ 1099511627776) (r : Int) (hr : firstOdd l 0 = r) :
    Calls Tryz.prog 179 #[.slice A n c, .func (.func 137) #[] #[]] w fun e w' => e = .returned (.int .i64 r) ∧ w = w' := by
  have hl : l.length = n := by simpa using hs.1
  have HS := Lib.hid hs
  have HL := Lib.hid hl
  have HR := Lib.hid hr
  have HN := Lib.hid hn
  have HO := Lib.hid (fun n r hr => odd_any w n r hr)
  clear hs hl hr hn
  go_enter Tryz.func179, Tryz.ntmps179
  go_wp2_with (fail)
  go_loop [8] (fun i => ∃ k : Nat, k ≤ n ∧ i = .int .i64 (k : Int) ∧ firstOdd (l.drop k) k = r) (fun i => n - (Go.RowKit.intOf i).toNat)
  case atStart => exact ⟨0, Nat.zero_le _, rfl, by rw [List.drop_zero]; exact HR.out⟩
  case round =>
    obtain ⟨k, hk, rfl, hf⟩ := hrel
    have HF := Lib.hid hf
    clear hf
    by_cases hlt : k < n
    · obtain ⟨x, hx⟩ : ∃ x, l[k]? = some x := ⟨_, List.getElem?_eq_getElem (by rw [HL.out]; exact hlt)⟩
      obtain ⟨b, o, rfl, hbl, c0⟩ := HS.out.at1 (k := k) (v := .int .i64 x) (by rw [List.getElem?_map, hx]; rfl)
      have hf := HF.out
      rw [drop_at' hx, firstOdd] at hf
      have hki : (k : Int) < (n : Int) := by omega
      have hk0 : (0 : Int) ≤ (k : Int) := by omega
      have HLT := Lib.hid hlt
      by_cases hok : okS x = true
      · rw [if_pos hok] at hf
        have HC := Lib.hid (HO.out x false (by rw [hok]; rfl))
        have HF2 := Lib.hid hf
        have hwk : IntKind.i64.wrap ((k : Int) + 1) = (k : Int) + 1 := IntWalk.i64_in _ (by have := HN.out; omega)
        clear hx hf hok hlt hk
        go_wp2_with ((with_reducible refine (HC.out).mono ?_); rintro _ w9 ⟨rfl, hw9⟩; obtain rfl := hw9)
        go_round
        case rel => exact ⟨k + 1, HLT.out, by go_num, HF2.out⟩
        case measure => have := HLT.out; simp [Go.RowKit.intOf]; omega
      · rw [if_neg hok] at hf
        have HC := Lib.hid (HO.out x true (by simpa using hok))
        have HF2 := Lib.hid hf
        clear hx hf hok hlt hk
        go_wp2_with ((with_reducible refine (HC.out).mono ?_); rintro _ w9 ⟨rfl, hw9⟩; obtain rfl := hw9)
        go_ret
        exact ⟨by rw [← HF2.out]; rfl, rfl⟩
    · obtain rfl : k = n := by omega
      have hki : (k : Int) ≤ (k : Int) := Int.le_refl _
      have hf := HF.out
      rw [List.drop_eq_nil_of_le (by rw [HL.out]; exact Nat.le_refl _), firstOdd] at hf
      have HF2 := Lib.hid hf
      clear hlt hk hf
      go_wp2_with (fail)
      go_ret
      exact ⟨by rw [← HF2.out]; rfl, rfl⟩
set_option maxRecDepth 100000 in
set_option maxHeartbeats 1000000 in
theorem ContainsFunc_any (w : World) (A : Option Addr) (n c : Nat) (l : List Int) (hs : Sl w 1 A n (l.map intC)) (hn : n ≤ 1099511627776) (r : Bool) (hr : inSeen l = !r) :
    Calls Tryz.prog 139 #[.slice A n c, .func (.func 137) #[] #[]] w fun e w' => e = .returned (.bool r) ∧ w = w' := by
  obtain ⟨i, hi⟩ : ∃ i, firstOdd l 0 = i := ⟨_, rfl⟩
  have HC := Lib.hid (IndexFunc_any w A n c l hs hn i hi)
  have hf := firstOdd_in l 0
  rw [hi, hr] at hf
  clear hs hn hr hi
  cases r
  · have hi : i = -1 := hf.1 rfl
    subst hi
    clear hf
    go_enter Tryz.func139, Tryz.ntmps139
    go_wp2_with ((with_reducible refine (HC.out).mono ?_); rintro _ w9 ⟨rfl, hw9⟩; obtain rfl := hw9)
    go_ret
    exact ⟨rfl, rfl⟩
  · have hi : 0 ≤ i := hf.2 rfl
    clear hf
    go_enter Tryz.func139, Tryz.ntmps139
    go_wp2_with ((with_reducible refine (HC.out).mono ?_); rintro _ w9 ⟨rfl, hw9⟩; obtain rfl := hw9)
    go_ret
    exact ⟨rfl, rfl⟩
end Go.Proofs.YtjncmlglhegnaaaGreatDoor
namespace Go.Proofs.YtjncmlglhegnaaaGreatDoor
open Go.RowKit Go.Sort Go.Lib

theorem rightB_no {e : EntV} (h : ¬ RightE e) : rightB e = false := by
  cases hb : rightB e with
  | false => rfl
  | true => exact absurd (rightB_true.1 hb) h
set_option maxRecDepth 100000 in
set_option maxHeartbeats 2000000 in
theorem Right_any (w : World) (e : EntC) (he : EntAt w e) (hn : e.v.seen.length ≤ 1099511627776) (hb : e.v.text.length ≤ 140737488351232) (r : Bool) (hr : rightB e.v = r) :
    Calls Tryz.prog 93 #[.agg e.cells.toArray] w fun x w' => x = .returned (.bool r) ∧ Below w.heap.size w w' := by
  obtain ⟨⟨dev, no, day, seen, text⟩, A, c⟩ := e
  simp only [EntC.cells, EntAt] at he hn hb ⊢
  have HB0 := Lib.hid (fun o => (Below.refl w.heap.size w).alloc (Nat.le_refl _) o)
  obtain ⟨b1, h1⟩ : ∃ b1 : Bool, (decide (0 ≤ dev) && decide (dev ≤ 7)) = b1 := ⟨_, rfl⟩
  obtain ⟨b2, h2⟩ : ∃ b2 : Bool, (decide (0 ≤ no) && decide (no ≤ 399)) = b2 := ⟨_, rfl⟩
  obtain ⟨b3, h3⟩ : ∃ b3 : Bool, (decide (0 ≤ day) && decide (day ≤ 100000)) = b3 := ⟨_, rfl⟩
  have H1 := Lib.hid (fun w => within_any w dev 7 b1 h1)
  have H2 := Lib.hid (fun w => within_any w no 399 b2 h2)
  have H3 := Lib.hid (fun w => within_any w day 100000 b3 h3)
  have hr2 : (b1 && b2 && b3 && decide (seen.length = 8) && inSeen seen && decide (seen[dev.toNat]? = some no) && decide (text.length ≤ 4000)) = r := by
    rw [← hr, ← h1, ← h2, ← h3]
    unfold rightB
    simp only [Bool.and_assoc]
  clear hr h2 h3
  have HR := Lib.hid hr2
  clear hr2
  have HS := Lib.hid he
  have HN := Lib.hid hn
  have HT := Lib.hid hb
  cases b1
  · clear h1 he hn hb
    go_enter Tryz.func93, Tryz.ntmps93
    go_wp2_with (first | ((with_reducible refine (H1.out _).mono ?_); rintro _ w9 ⟨rfl, hw9⟩; obtain rfl := hw9))
    go_ret
    exact ⟨by rw [← HR.out]; rfl, HB0.out _⟩
  cases b2
  · clear h1 he hn hb
    go_enter Tryz.func93, Tryz.ntmps93
    go_wp2_with (first | ((with_reducible refine (H1.out _).mono ?_); rintro _ w9 ⟨rfl, hw9⟩; obtain rfl := hw9) | ((with_reducible refine (H2.out _).mono ?_); rintro _ w9 ⟨rfl, hw9⟩; obtain rfl := hw9))
    go_ret
    exact ⟨by rw [← HR.out]; rfl, HB0.out _⟩
  cases b3
  · clear h1 he hn hb
    go_enter Tryz.func93, Tryz.ntmps93
    go_wp2_with (first | ((with_reducible refine (H1.out _).mono ?_); rintro _ w9 ⟨rfl, hw9⟩; obtain rfl := hw9) | ((with_reducible refine (H2.out _).mono ?_); rintro _ w9 ⟨rfl, hw9⟩; obtain rfl := hw9) | ((with_reducible refine (H3.out _).mono ?_); rintro _ w9 ⟨rfl, hw9⟩; obtain rfl := hw9))
    go_ret
    exact ⟨by rw [← HR.out]; rfl, HB0.out _⟩
  by_cases hlen : seen.length = 8
  · obtain ⟨b4, h4⟩ : ∃ b4 : Bool, inSeen seen = b4 := ⟨_, rfl⟩
    have HC := Lib.hid (fun o => ContainsFunc_any (w.alloc o) A seen.length c seen (he.alloc o) hn (!b4) (by rw [h4, Bool.not_not]))
    cases b4
    · have HR2 : Hid (false = r) := Lib.hid (by rw [← HR.out, h4]; simp)
      rw [hlen] at HC ⊢
      clear h1 he hn hb h4 hlen
      go_enter Tryz.func93, Tryz.ntmps93
      go_wp2_with (first | ((with_reducible refine (H1.out _).mono ?_); rintro _ w9 ⟨rfl, hw9⟩; obtain rfl := hw9) | ((with_reducible refine (H2.out _).mono ?_); rintro _ w9 ⟨rfl, hw9⟩; obtain rfl := hw9) | ((with_reducible refine (H3.out _).mono ?_); rintro _ w9 ⟨rfl, hw9⟩; obtain rfl := hw9) | ((with_reducible refine (HC.out _).mono ?_); rintro _ w9 ⟨rfl, hw9⟩; obtain rfl := hw9))
      go_ret
      exact ⟨by rw [← HR2.out]; rfl, HB0.out _⟩
    · have hd : 0 ≤ dev ∧ dev ≤ 7 := by simpa using h1
      obtain ⟨k, rfl⟩ : ∃ k : Nat, dev = (k : Int) := ⟨dev.toNat, by omega⟩
      obtain ⟨x, hx⟩ : ∃ x, seen[k]? = some x := ⟨_, List.getElem?_eq_getElem (by omega)⟩
      obtain ⟨b, o, rfl, hbl, c0⟩ := he.at1 (k := k) (v := .int .i64 x) (by rw [List.getElem?_map, hx]; rfl)
      have HR2 : Hid ((decide (x = no) && decide (text.length ≤ 4000)) = r) := Lib.hid (by rw [← HR.out, h4, Int.toNat_natCast, hx]; simp [hlen])
      rw [hlen] at HC ⊢
      have hk8 : (k : Int) < 8 := by omega
      have hk0 : (0 : Int) ≤ (k : Int) := by omega
      have c1 : ∀ o', (w.alloc o').cell? ⟨b, o + k, none⟩ = some (.int .i64 x) := fun o' => by rw [World.cell?_alloc_lt w o' _ hbl]; exact c0
      have hsz := str_size text
      by_cases hxn : x = no
      · by_cases ht : text.length ≤ 4000
        · have hti : (text.length : Int) ≤ 4000 := by omega
          have HR3 : Hid (true = r) := Lib.hid (by rw [← HR2.out]; simp [hxn, ht])
          subst hxn
          clear h1 he hn hb h4 hlen hx hd ht
          go_enter Tryz.func93, Tryz.ntmps93
          go_wp2_with (first | ((with_reducible refine (H1.out _).mono ?_); rintro _ w9 ⟨rfl, hw9⟩; obtain rfl := hw9) | ((with_reducible refine (H2.out _).mono ?_); rintro _ w9 ⟨rfl, hw9⟩; obtain rfl := hw9) | ((with_reducible refine (H3.out _).mono ?_); rintro _ w9 ⟨rfl, hw9⟩; obtain rfl := hw9) | ((with_reducible refine (HC.out _).mono ?_); rintro _ w9 ⟨rfl, hw9⟩; obtain rfl := hw9))
          go_quiet (fail)
          go_wp2_with (fail)
          go_ret
          exact ⟨by rw [← HR3.out]; rfl, bdrewN (HB0.out _) _⟩
        · have hti : decide ((text.length : Int) ≤ 4000) = false := decide_eq_false (by omega)
          have HR3 : Hid (false = r) := Lib.hid (by rw [← HR2.out]; simp [hxn, ht])
          subst hxn
          clear h1 he hn hb h4 hlen hx hd ht
          go_enter Tryz.func93, Tryz.ntmps93
          go_wp2_with (first | ((with_reducible refine (H1.out _).mono ?_); rintro _ w9 ⟨rfl, hw9⟩; obtain rfl := hw9) | ((with_reducible refine (H2.out _).mono ?_); rintro _ w9 ⟨rfl, hw9⟩; obtain rfl := hw9) | ((with_reducible refine (H3.out _).mono ?_); rintro _ w9 ⟨rfl, hw9⟩; obtain rfl := hw9) | ((with_reducible refine (HC.out _).mono ?_); rintro _ w9 ⟨rfl, hw9⟩; obtain rfl := hw9))
          go_quiet (fail)
          go_wp2_with (fail)
          go_ret
          exact ⟨by rw [← HR3.out, ← hti]; rfl, bdrewN (HB0.out _) _⟩
      · have HR3 : Hid (false = r) := Lib.hid (by rw [← HR2.out]; simp [hxn])
        have hxd : decide (x = no) = false := decide_eq_false hxn
        have hxb : (x == no) = false := by simpa using hxn
        clear h1 he hn hb h4 hlen hx hd
        go_enter Tryz.func93, Tryz.ntmps93
        go_wp2_with (first | ((with_reducible refine (H1.out _).mono ?_); rintro _ w9 ⟨rfl, hw9⟩; obtain rfl := hw9) | ((with_reducible refine (H2.out _).mono ?_); rintro _ w9 ⟨rfl, hw9⟩; obtain rfl := hw9) | ((with_reducible refine (H3.out _).mono ?_); rintro _ w9 ⟨rfl, hw9⟩; obtain rfl := hw9) | ((with_reducible refine (HC.out _).mono ?_); rintro _ w9 ⟨rfl, hw9⟩; obtain rfl := hw9))
        go_quiet (fail)
        go_wp2_with (fail)
        go_ret
        exact ⟨by rw [← HR3.out]; rfl, bdrewN (HB0.out _) _⟩
  · have hni : ¬ ((seen.length : Int) = 8) := by omega
    have hnb : ((seen.length : Int) == 8) = false := by simpa using hni
    have HR2 : Hid (false = r) := Lib.hid (by rw [← HR.out]; simp [hlen])
    clear h1 he hn hb hlen
    go_enter Tryz.func93, Tryz.ntmps93
    go_wp2_with (first | ((with_reducible refine (H1.out _).mono ?_); rintro _ w9 ⟨rfl, hw9⟩; obtain rfl := hw9) | ((with_reducible refine (H2.out _).mono ?_); rintro _ w9 ⟨rfl, hw9⟩; obtain rfl := hw9) | ((with_reducible refine (H3.out _).mono ?_); rintro _ w9 ⟨rfl, hw9⟩; obtain rfl := hw9))
    go_ret
    exact ⟨by rw [← HR2.out]; rfl, HB0.out _⟩
end Go.Proofs.YtjncmlglhegnaaaGreatDoor
