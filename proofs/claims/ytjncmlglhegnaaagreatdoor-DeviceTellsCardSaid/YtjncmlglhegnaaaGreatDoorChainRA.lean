/- chain: the reference's in, Right, after, walked. -/
import Derived.Test.YtjncmlglhegnaaaGreatDoorChainF
namespace Go.Proofs.YtjncmlglhegnaaaGreatDoor
open Go.RowKit Go.Sort Go.Lib

set_option maxRecDepth 100000 in
set_option maxHeartbeats 1000000 in
theorem RIn_any (w : World) (n lo hi : Int) (r : Bool) (hr : (decide (lo ≤ n) && decide (n ≤ hi)) = r) :
    Calls Tryz.prog 169 #[.int .i64 n, .int .i64 lo, .int .i64 hi] w fun e w' => e = .returned (.bool r) ∧ w = w' := by
  subst hr
  by_cases h0 : n < lo
  · have h1 : ¬ lo ≤ n := by omega
    go_enter Tryz.func169, Tryz.ntmps169
    have hf : (decide (lo ≤ n) && decide (n ≤ hi)) = false := by rw [decide_eq_false h1, Bool.false_and]
    rw [hf]
    clear hf h1
    go_wp2_with (fail)
    go_ret
    exact ⟨rfl, rfl⟩
  · have h1 : lo ≤ n := by omega
    clear h0
    by_cases h2 : n ≤ hi
    · go_enter Tryz.func169, Tryz.ntmps169
      go_wp2_with (fail)
      go_ret
      exact ⟨by simp [h1, h2], rfl⟩
    · have h3 : hi < n := by omega
      go_enter Tryz.func169, Tryz.ntmps169
      go_wp2_with (fail)
      go_ret
      exact ⟨by simp [h1, h2], rfl⟩
theorem inSeen_drop {l : List Int} {k : Nat} {x : Int} (hx : l[k]? = some x) : inSeen (l.drop k) = (okS x && inSeen (l.drop (k + 1))) := by
  rw [drop_at' hx]
  rfl
set_option maxRecDepth 100000 in
set_option maxHeartbeats 4000000 in
theorem RRight_any (w : World) (e : EntC) (he : EntAt w e) (r : Bool) (hr : rightB e.v = r) :
    Calls Tryz.prog 120 #[.agg e.cells.toArray] w fun x w' => x = .returned (.bool r) ∧ Below w.heap.size w w' := by
  obtain ⟨⟨dev, no, day, seen, text⟩, A, c⟩ := e
  simp only [EntC.cells, EntAt] at he ⊢
  have HB0 := Lib.hid (fun o => (Below.refl w.heap.size w).alloc (Nat.le_refl _) o)
  obtain ⟨b1, h1⟩ : ∃ b1 : Bool, (decide (0 ≤ dev) && decide (dev ≤ 7)) = b1 := ⟨_, rfl⟩
  obtain ⟨b2, h2⟩ : ∃ b2 : Bool, (decide (0 ≤ no) && decide (no ≤ 399)) = b2 := ⟨_, rfl⟩
  obtain ⟨b3, h3⟩ : ∃ b3 : Bool, (decide (0 ≤ day) && decide (day ≤ 100000)) = b3 := ⟨_, rfl⟩
  have H1 := Lib.hid (fun w => RIn_any w dev 0 7 b1 h1)
  have H2 := Lib.hid (fun w => RIn_any w no 0 399 b2 h2)
  have H3 := Lib.hid (fun w => RIn_any w day 0 100000 b3 h3)
  have H4 := Lib.hid (fun w n q hq => RIn_any w n 0 400 q hq)
  have hr2 : (b1 && b2 && b3 && decide (seen.length = 8) && inSeen seen && decide (seen[dev.toNat]? = some no) && decide (text.length ≤ 4000)) = r := by
    rw [← hr, ← h1, ← h2, ← h3]
    unfold rightB
    simp only [Bool.and_assoc]
  clear hr h2 h3
  have HR := Lib.hid hr2
  clear hr2
  have HS := Lib.hid he
  have hsz := str_size text
  cases b1
  · clear h1 he
    go_enter Tryz.func120, Tryz.ntmps120
    go_wp2_with (first | ((with_reducible refine (H1.out _).mono ?_); rintro _ w9 ⟨rfl, hw9⟩; obtain rfl := hw9))
    go_ret
    exact ⟨by rw [← HR.out]; rfl, HB0.out _⟩
  cases b2
  · clear h1 he
    go_enter Tryz.func120, Tryz.ntmps120
    go_wp2_with (first | ((with_reducible refine (H1.out _).mono ?_); rintro _ w9 ⟨rfl, hw9⟩; obtain rfl := hw9) | ((with_reducible refine (H2.out _).mono ?_); rintro _ w9 ⟨rfl, hw9⟩; obtain rfl := hw9))
    go_ret
    exact ⟨by rw [← HR.out]; rfl, HB0.out _⟩
  cases b3
  · clear h1 he
    go_enter Tryz.func120, Tryz.ntmps120
    go_wp2_with (first | ((with_reducible refine (H1.out _).mono ?_); rintro _ w9 ⟨rfl, hw9⟩; obtain rfl := hw9) | ((with_reducible refine (H2.out _).mono ?_); rintro _ w9 ⟨rfl, hw9⟩; obtain rfl := hw9) | ((with_reducible refine (H3.out _).mono ?_); rintro _ w9 ⟨rfl, hw9⟩; obtain rfl := hw9))
    go_ret
    exact ⟨by rw [← HR.out]; rfl, HB0.out _⟩
  by_cases hlen : seen.length = 8
  case neg =>
    have hni : ¬ ((seen.length : Int) = 8) := by omega
    have hnb : ((seen.length : Int) == 8) = false := by simpa using hni
    have HR2 : Hid (false = r) := Lib.hid (by rw [← HR.out]; simp [hlen])
    clear h1 he hlen
    go_enter Tryz.func120, Tryz.ntmps120
    go_wp2_with (first | ((with_reducible refine (H1.out _).mono ?_); rintro _ w9 ⟨rfl, hw9⟩; obtain rfl := hw9) | ((with_reducible refine (H2.out _).mono ?_); rintro _ w9 ⟨rfl, hw9⟩; obtain rfl := hw9) | ((with_reducible refine (H3.out _).mono ?_); rintro _ w9 ⟨rfl, hw9⟩; obtain rfl := hw9))
    go_ret
    exact ⟨by rw [← HR2.out]; rfl, HB0.out _⟩
  by_cases ht : text.length ≤ 4000
  case neg =>
    have hti : 4000 < (text.length : Int) := by omega
    have HR2 : Hid (false = r) := Lib.hid (by rw [← HR.out]; simp [ht])
    rw [hlen]
    clear h1 he hlen ht
    go_enter Tryz.func120, Tryz.ntmps120
    go_wp2_with (first | ((with_reducible refine (H1.out _).mono ?_); rintro _ w9 ⟨rfl, hw9⟩; obtain rfl := hw9) | ((with_reducible refine (H2.out _).mono ?_); rintro _ w9 ⟨rfl, hw9⟩; obtain rfl := hw9) | ((with_reducible refine (H3.out _).mono ?_); rintro _ w9 ⟨rfl, hw9⟩; obtain rfl := hw9))
    go_ret
    exact ⟨by rw [← HR2.out]; rfl, HB0.out _⟩
  have hti : (text.length : Int) ≤ 4000 := by omega
  have hd : 0 ≤ dev ∧ dev ≤ 7 := by simpa using h1
  obtain ⟨kd, rfl⟩ : ∃ kd : Nat, dev = (kd : Int) := ⟨dev.toNat, by omega⟩
  have HR2 : Hid ((inSeen seen && decide (seen[kd]? = some no)) = r) := Lib.hid (by rw [← HR.out, Int.toNat_natCast]; simp [hlen, ht])
  have HLEN := Lib.hid hlen
  have HD : Hid (kd < 8) := Lib.hid (by omega)
  rw [hlen]
  clear h1 he hlen ht hd HR
  go_enter Tryz.func120, Tryz.ntmps120
  go_wp2_with (first | ((with_reducible refine (H1.out _).mono ?_); rintro _ w9 ⟨rfl, hw9⟩; obtain rfl := hw9) | ((with_reducible refine (H2.out _).mono ?_); rintro _ w9 ⟨rfl, hw9⟩; obtain rfl := hw9) | ((with_reducible refine (H3.out _).mono ?_); rintro _ w9 ⟨rfl, hw9⟩; obtain rfl := hw9))
  go_loop [3] (fun i => ∃ k : Nat, k ≤ 8 ∧ i = .int .i64 (k : Int) ∧ inSeen (seen.drop k) = inSeen seen) (fun i => 8 - (Go.RowKit.intOf i).toNat)
  case atStart => exact ⟨0, Nat.zero_le _, rfl, rfl⟩
  case round =>
    obtain ⟨k, hk, rfl, hf⟩ := hrel
    have HF := Lib.hid hf
    clear hf
    by_cases hlt : k < 8
    · obtain ⟨x, hx⟩ : ∃ x, seen[k]? = some x := ⟨_, List.getElem?_eq_getElem (by have := HLEN.out; omega)⟩
      obtain ⟨b, o, rfl, hbl, c0⟩ := HS.out.at1 (k := k) (v := .int .i64 x) (by rw [List.getElem?_map, hx]; rfl)
      have c1 : ∀ o', (w.alloc o').cell? ⟨b, o + k, none⟩ = some (.int .i64 x) := fun o' => by rw [World.cell?_alloc_lt w o' _ hbl]; exact c0
      have hf := HF.out
      rw [inSeen_drop hx] at hf
      have hki : (k : Int) < 8 := by omega
      have hk0 : (0 : Int) ≤ (k : Int) := by omega
      have hwk : IntKind.i64.wrap ((k : Int) + 1) = (k : Int) + 1 := IntWalk.i64_in _ (by omega)
      have HLT := Lib.hid hlt
      obtain ⟨q, hq⟩ : ∃ q, okS x = q := ⟨_, rfl⟩
      have HQ := Lib.hid (fun w => H4.out w x q hq)
      rw [hq] at hf
      cases q
      · have HR3 : Hid (false = r) := Lib.hid (by rw [← HR2.out, ← hf]; rfl)
        clear hx hf hq hlt hk
        go_wp2_with ((with_reducible refine (HQ.out _).mono ?_); rintro _ w9 ⟨rfl, hw9⟩; obtain rfl := hw9)
        go_ret
        exact ⟨by rw [← HR3.out]; rfl, HB0.out _⟩
      · rw [Bool.true_and] at hf
        have HF2 := Lib.hid hf
        clear hx hf hq hlt hk
        go_wp2_with ((with_reducible refine (HQ.out _).mono ?_); rintro _ w9 ⟨rfl, hw9⟩; obtain rfl := hw9)
        go_round
        case rel => exact ⟨k + 1, HLT.out, by go_num, HF2.out⟩
        case measure => have := HLT.out; simp [Go.RowKit.intOf]; omega
    · obtain rfl : k = 8 := by omega
      have hf := HF.out
      rw [List.drop_eq_nil_of_le (by have := HLEN.out; omega)] at hf
      have hin : inSeen seen = true := hf.symm.trans rfl
      obtain ⟨x, hx⟩ : ∃ x, seen[kd]? = some x := ⟨_, List.getElem?_eq_getElem (by have := HLEN.out; have := HD.out; omega)⟩
      obtain ⟨b, o, rfl, hbl, c0⟩ := HS.out.at1 (k := kd) (v := .int .i64 x) (by rw [List.getElem?_map, hx]; rfl)
      have c1 : ∀ o', (w.alloc o').cell? ⟨b, o + kd, none⟩ = some (.int .i64 x) := fun o' => by rw [World.cell?_alloc_lt w o' _ hbl]; exact c0
      have hk8 : (kd : Int) < 8 := by have := HD.out; omega
      have hk0 : (0 : Int) ≤ (kd : Int) := by omega
      have HR3 : Hid (decide (x = no) = r) := Lib.hid (by rw [← HR2.out, hin, hx]; simp)
      clear hlt hk hf hin hx
      by_cases hxn : x = no
      · have HR4 : Hid (true = r) := Lib.hid (by rw [← HR3.out]; simp [hxn])
        subst hxn
        go_wp2_with (fail)
        go_quiet (fail)
        go_wp2_with (fail)
        go_ret
        exact ⟨by rw [← HR4.out]; rfl, bdrewN (HB0.out _) _⟩
      · have HR4 : Hid (false = r) := Lib.hid (by rw [← HR3.out]; simp [hxn])
        have hxb : (x == no) = false := by simpa using hxn
        have hxd : decide (x = no) = false := decide_eq_false hxn
        clear hxn
        go_wp2_with (fail)
        go_quiet (fail)
        go_wp2_with (fail)
        go_ret
        exact ⟨by rw [← HR4.out]; rfl, bdrewN (HB0.out _) _⟩
set_option maxRecDepth 100000 in
set_option maxHeartbeats 4000000 in
theorem after_any (w : World) (a b : EntC) (ha : EntAt w a) (hb : EntAt w b) (hn : a.v.seen.length = 8) (hm : b.v.seen.length = 8) (r : Int) (hr : followsF a.v b.v = r) :
    Calls Tryz.prog 121 #[.agg a.cells.toArray, .agg b.cells.toArray] w fun x w' => x = .returned (.int .i64 r) ∧ Below w.heap.size w w' := by
  obtain ⟨⟨d1, n1, y1, l1, t1⟩, A1, c1⟩ := a
  obtain ⟨⟨d2, n2, y2, l2, t2⟩, A2, c2⟩ := b
  simp only [EntC.cells, EntAt, followsF] at ha hb hn hm hr ⊢
  rw [hn, hm]
  have HB := Lib.hid (fun o o' => ((Below.refl w.heap.size w).alloc (Nat.le_refl _) o).alloc (by simp) o')
  by_cases hd : y2 < y1
  · rw [if_pos hd] at hr
    have HR := Lib.hid hr
    clear hr ha hb hn hm
    go_enter Tryz.func121, Tryz.ntmps121
    go_wp2_with (fail)
    go_ret
    exact ⟨by rw [← HR.out]; rfl, HB.out _ _⟩
  · have hd' : y1 ≤ y2 := by omega
    rw [if_neg hd] at hr
    have HR := Lib.hid hr
    have HA := Lib.hid ha
    have HB2 := Lib.hid hb
    have H1 := Lib.hid hn
    have H2 := Lib.hid hm
    clear hr ha hb hn hm hd
    go_enter Tryz.func121, Tryz.ntmps121
    go_wp2_with (fail)
    have HBW := Lib.hid (HB.out (.cells #[.int .i64 d1, .int .i64 n1, .int .i64 y1, .slice A1 8 c1, .string ⟨t1.toArray⟩] 32) (.cells #[.int .i64 d2, .int .i64 n2, .int .i64 y2, .slice A2 8 c2, .string ⟨t2.toArray⟩] 32))
    have X := Lib.hid ((Loc.new_ w #[.int .i64 d1, .int .i64 n1, .int .i64 y1, .slice A1 8 c1, .string ⟨t1.toArray⟩] 32).alloc (.cells #[.int .i64 d2, .int .i64 n2, .int .i64 y2, .slice A2 8 c2, .string ⟨t2.toArray⟩] 32))
    have Y := Lib.hid (Loc.new_ (w.alloc (.cells #[.int .i64 d1, .int .i64 n1, .int .i64 y1, .slice A1 8 c1, .string ⟨t1.toArray⟩] 32)) #[.int .i64 d2, .int .i64 n2, .int .i64 y2, .slice A2 8 c2, .string ⟨t2.toArray⟩] 32)
    simp only [World.size_alloc] at Y
    generalize (w.alloc (.cells #[.int .i64 d1, .int .i64 n1, .int .i64 y1, .slice A1 8 c1, .string ⟨t1.toArray⟩] 32)).alloc (.cells #[.int .i64 d2, .int .i64 n2, .int .i64 y2, .slice A2 8 c2, .string ⟨t2.toArray⟩] 32) = W at *
    go_loopw [5] (fun i wr => ∃ k : Nat, k ≤ 8 ∧ i = .int .i64 (k : Int) ∧ lessSome (l1.drop k) (l2.drop k) = lessSome l1 l2 ∧ Below W.heap.size W wr) (fun i _ => 8 - (Go.RowKit.intOf i).toNat)
    case atStart => exact ⟨0, Nat.zero_le _, rfl, rfl, Below.refl _ _⟩
    case round =>
      obtain ⟨k, hk, rfl, hf, hbo⟩ := hrel
      obtain ⟨wo, rfl⟩ : ∃ wo : World, wo = wr := ⟨_, rfl⟩
      have HF := Lib.hid hf
      have HBO := Lib.hid hbo
      have HBX := Lib.hid (HBW.out.trans (hbo.mono HBW.out.size))
      have XO := Lib.hid (X.out.below hbo)
      have YO := Lib.hid (Y.out.below hbo)
      clear hf hbo
      obtain ⟨zXO, kXO, fXO⟩ := XO.out
      obtain ⟨zYO, kYO, fYO⟩ := YO.out
      by_cases hlt : k < 8
      · obtain ⟨x, hx⟩ : ∃ x, l1[k]? = some x := ⟨_, List.getElem?_eq_getElem (by have := H1.out; omega)⟩
        obtain ⟨y, hy⟩ : ∃ x, l2[k]? = some x := ⟨_, List.getElem?_eq_getElem (by have := H2.out; omega)⟩
        obtain ⟨b1, o1, rfl, hb1, e1⟩ := (HA.out.below HBX.out).at1 (k := k) (v := .int .i64 x) (by rw [List.getElem?_map, hx]; rfl)
        obtain ⟨b2, o2, rfl, hb2, e2⟩ := (HB2.out.below HBX.out).at1 (k := k) (v := .int .i64 y) (by rw [List.getElem?_map, hy]; rfl)
        have hki : (k : Int) < 8 := by omega
        have hk0 : (0 : Int) ≤ (k : Int) := by omega
        have HLT := Lib.hid hlt
        have hwk : IntKind.i64.wrap ((k : Int) + 1) = (k : Int) + 1 := IntWalk.i64_in _ (by omega)
        have hf := HF.out
        rw [lessSome_drop hx hy] at hf
        by_cases hxy : y < x
        · rw [decide_eq_true hxy, Bool.true_or] at hf
          have HF2 : Hid (7 = r) := Lib.hid (by rw [← HR.out, ← hf]; rfl)
          clear hlt hk hx hy hf
          go_wp2_with (fail)
          go_quiet (fail)
          go_wp2_with (fail)
          go_ret
          exact ⟨by rw [← HF2.out]; rfl, bdrewN HBX.out _⟩
        · have hxy' : x ≤ y := by omega
          rw [decide_eq_false hxy, Bool.false_or] at hf
          have HF2 := Lib.hid hf
          clear hlt hk hx hy hf hxy
          go_wp2_with (fail)
          go_quiet (fail)
          go_wp2_with (fail)
          go_roundw
          case rel => exact ⟨k + 1, HLT.out, by go_num, HF2.out, bdrewN HBO.out _⟩
          case measure => have := HLT.out; simp [Go.RowKit.intOf]; omega
      · obtain rfl : k = 8 := by omega
        have hf := HF.out
        rw [List.drop_eq_nil_of_le (by have := H1.out; omega), List.drop_eq_nil_of_le (by have := H2.out; omega)] at hf
        have HF2 : Hid (0 = r) := Lib.hid (by rw [← HR.out, ← hf]; rfl)
        clear hlt hk hf
        go_wp2_with (fail)
        go_ret
        exact ⟨by rw [← HF2.out]; rfl, HBX.out⟩
end Go.Proofs.YtjncmlglhegnaaaGreatDoor
