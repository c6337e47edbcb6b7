/- chain: the reference's in, Right, after, walked. -/
/- chain: the reference's Check, walked. -/
import Derived.Test.YtnnnibkainlplaaGreatDoorChainD
import Derived.Test.YtnnnibkainlplaaGreatDoorChainE
import Derived.Test.YtnnnibkainlplaaGreatDoorOrdL
import Derived.Deep.RegionHeld3
import Derived.Deep.DeepCutAuto
namespace Go.Proofs.YtnnnibkainlplaaGreatDoor
open Go.RowKit Go.Sort Go.Lib

set_option maxRecDepth 100000 in
set_option maxHeartbeats 1000000 in
theorem RIn_any (w : World) (n lo hi : Int) (r : Bool) (hr : (decide (lo ≤ n) && decide (n ≤ hi)) = r) :
    Calls Tryz.prog 62 #[.int .i64 n, .int .i64 lo, .int .i64 hi] w fun e w' => e = .returned (.bool r) ∧ w = w' := by
  subst hr
  by_cases h0 : n < lo
  · have h1 : ¬ lo ≤ n := by omega
    go_enter Tryz.func62, Tryz.ntmps62
    have hf : (decide (lo ≤ n) && decide (n ≤ hi)) = false := by rw [decide_eq_false h1, Bool.false_and]
    rw [hf]
    clear hf h1
    go_wp2_with (fail)
    go_ret
    exact ⟨rfl, rfl⟩
  · have h1 : lo ≤ n := by omega
    clear h0
    by_cases h2 : n ≤ hi
    · go_enter Tryz.func62, Tryz.ntmps62
      go_wp2_with (fail)
      go_ret
      exact ⟨by simp [h1, h2], rfl⟩
    · have h3 : hi < n := by omega
      go_enter Tryz.func62, Tryz.ntmps62
      go_wp2_with (fail)
      go_ret
      exact ⟨by simp [h1, h2], rfl⟩
theorem inSeen_drop {l : List Int} {k : Nat} {x : Int} (hx : l[k]? = some x) : inSeen (l.drop k) = (okS x && inSeen (l.drop (k + 1))) := by
  rw [drop_at' hx]
  rfl
set_option maxRecDepth 100000 in
set_option maxHeartbeats 4000000 in
theorem RRight_any (w : World) (e : EntC) (he : EntAt w e) (r : Bool) (hr : rightB e.v = r) :
    Calls Tryz.prog 47 #[.agg e.cells.toArray] w fun x w' => x = .returned (.bool r) ∧ Below w.heap.size w w' := by
  obtain ⟨⟨dev, no, day, seen, text⟩, A, c⟩ := e
  simp only [EntC.cells, EntAt] at he ⊢
  have HB0 := Lib.hid (fun o => (Below.refl w.heap.size w).alloc (Nat.le_refl _) o)
  obtain ⟨b1, h1⟩ : ∃ b1 : Bool, (decide (0 ≤ dev) && decide (dev ≤ 7)) = b1 := ⟨_, rfl⟩
  obtain ⟨b2, h2⟩ : ∃ b2 : Bool, (decide (0 ≤ no) && decide (no ≤ 399)) = b2 := ⟨_, rfl⟩
  obtain ⟨b3, h3⟩ : ∃ b3 : Bool, (decide (0 ≤ day) && decide (day ≤ 100000)) = b3 := ⟨_, rfl⟩
  have H1 := Lib.hid (fun w => RIn_any w dev 0 7 b1 h1)
  have H2 := Lib.hid (fun w => RIn_any w no 0 399 b2 h2)
  have H3 := Lib.hid (fun w => RIn_any w day 0 100000 b3 h3)
  have H4 := Lib.hid (fun w n q hq => RIn_any w n 0 400 q hq)
  have hr2 : (b1 && b2 && b3 && decide (seen.length = 8) && inSeen seen && decide (seen[dev.toNat]? = some no) && decide (text.length ≤ 4000)) = r := by
    rw [← hr, ← h1, ← h2, ← h3]
    unfold rightB
    simp only [Bool.and_assoc]
  clear hr h2 h3
  have HR := Lib.hid hr2
  clear hr2
  have HS := Lib.hid he
  have hsz := str_size text
  cases b1
  · clear h1 he
    go_enter Tryz.func47, Tryz.ntmps47
    go_wp2_with (first | ((with_reducible refine (H1.out _).mono ?_); rintro _ w9 ⟨rfl, hw9⟩; obtain rfl := hw9))
    go_ret
    exact ⟨by rw [← HR.out]; rfl, HB0.out _⟩
  cases b2
  · clear h1 he
    go_enter Tryz.func47, Tryz.ntmps47
    go_wp2_with (first | ((with_reducible refine (H1.out _).mono ?_); rintro _ w9 ⟨rfl, hw9⟩; obtain rfl := hw9) | ((with_reducible refine (H2.out _).mono ?_); rintro _ w9 ⟨rfl, hw9⟩; obtain rfl := hw9))
    go_ret
    exact ⟨by rw [← HR.out]; rfl, HB0.out _⟩
  cases b3
  · clear h1 he
    go_enter Tryz.func47, Tryz.ntmps47
    go_wp2_with (first | ((with_reducible refine (H1.out _).mono ?_); rintro _ w9 ⟨rfl, hw9⟩; obtain rfl := hw9) | ((with_reducible refine (H2.out _).mono ?_); rintro _ w9 ⟨rfl, hw9⟩; obtain rfl := hw9) | ((with_reducible refine (H3.out _).mono ?_); rintro _ w9 ⟨rfl, hw9⟩; obtain rfl := hw9))
    go_ret
    exact ⟨by rw [← HR.out]; rfl, HB0.out _⟩
  by_cases hlen : seen.length = 8
  case neg =>
    have hni : ¬ ((seen.length : Int) = 8) := by omega
    have hnb : ((seen.length : Int) == 8) = false := by simpa using hni
    have HR2 : Hid (false = r) := Lib.hid (by rw [← HR.out]; simp [hlen])
    clear h1 he hlen
    go_enter Tryz.func47, Tryz.ntmps47
    go_wp2_with (first | ((with_reducible refine (H1.out _).mono ?_); rintro _ w9 ⟨rfl, hw9⟩; obtain rfl := hw9) | ((with_reducible refine (H2.out _).mono ?_); rintro _ w9 ⟨rfl, hw9⟩; obtain rfl := hw9) | ((with_reducible refine (H3.out _).mono ?_); rintro _ w9 ⟨rfl, hw9⟩; obtain rfl := hw9))
    go_ret
    exact ⟨by rw [← HR2.out]; rfl, HB0.out _⟩
  by_cases ht : text.length ≤ 4000
  case neg =>
    have hti : 4000 < (text.length : Int) := by omega
    have HR2 : Hid (false = r) := Lib.hid (by rw [← HR.out]; simp [ht])
    rw [hlen]
    clear h1 he hlen ht
    go_enter Tryz.func47, Tryz.ntmps47
    go_wp2_with (first | ((with_reducible refine (H1.out _).mono ?_); rintro _ w9 ⟨rfl, hw9⟩; obtain rfl := hw9) | ((with_reducible refine (H2.out _).mono ?_); rintro _ w9 ⟨rfl, hw9⟩; obtain rfl := hw9) | ((with_reducible refine (H3.out _).mono ?_); rintro _ w9 ⟨rfl, hw9⟩; obtain rfl := hw9))
    go_ret
    exact ⟨by rw [← HR2.out]; rfl, HB0.out _⟩
  have hti : (text.length : Int) ≤ 4000 := by omega
  have hd : 0 ≤ dev ∧ dev ≤ 7 := by simpa using h1
  obtain ⟨kd, rfl⟩ : ∃ kd : Nat, dev = (kd : Int) := ⟨dev.toNat, by omega⟩
  have HR2 : Hid ((inSeen seen && decide (seen[kd]? = some no)) = r) := Lib.hid (by rw [← HR.out, Int.toNat_natCast]; simp [hlen, ht])
  have HLEN := Lib.hid hlen
  have HD : Hid (kd < 8) := Lib.hid (by omega)
  rw [hlen]
  clear h1 he hlen ht hd HR
  go_enter Tryz.func47, Tryz.ntmps47
  go_wp2_with (first | ((with_reducible refine (H1.out _).mono ?_); rintro _ w9 ⟨rfl, hw9⟩; obtain rfl := hw9) | ((with_reducible refine (H2.out _).mono ?_); rintro _ w9 ⟨rfl, hw9⟩; obtain rfl := hw9) | ((with_reducible refine (H3.out _).mono ?_); rintro _ w9 ⟨rfl, hw9⟩; obtain rfl := hw9))
  go_loop [3] (fun i => ∃ k : Nat, k ≤ 8 ∧ i = .int .i64 (k : Int) ∧ inSeen (seen.drop k) = inSeen seen) (fun i => 8 - (Go.RowKit.intOf i).toNat)
  case atStart => exact ⟨0, Nat.zero_le _, rfl, rfl⟩
  case round =>
    obtain ⟨k, hk, rfl, hf⟩ := hrel
    have HF := Lib.hid hf
    clear hf
    by_cases hlt : k < 8
    · obtain ⟨x, hx⟩ : ∃ x, seen[k]? = some x := ⟨_, List.getElem?_eq_getElem (by have := HLEN.out; omega)⟩
      obtain ⟨b, o, rfl, hbl, c0⟩ := HS.out.at1 (k := k) (v := .int .i64 x) (by rw [List.getElem?_map, hx]; rfl)
      have c1 : ∀ o', (w.alloc o').cell? ⟨b, o + k, none⟩ = some (.int .i64 x) := fun o' => by rw [World.cell?_alloc_lt w o' _ hbl]; exact c0
      have hf := HF.out
      rw [inSeen_drop hx] at hf
      have hki : (k : Int) < 8 := by omega
      have hk0 : (0 : Int) ≤ (k : Int) := by omega
      have hwk : IntKind.i64.wrap ((k : Int) + 1) = (k : Int) + 1 := IntWalk.i64_in _ (by omega)
      have HLT := Lib.hid hlt
      obtain ⟨q, hq⟩ : ∃ q, okS x = q := ⟨_, rfl⟩
      have HQ := Lib.hid (fun w => H4.out w x q hq)
      rw [hq] at hf
      cases q
      · have HR3 : Hid (false = r) := Lib.hid (by rw [← HR2.out, ← hf]; rfl)
        clear hx hf hq hlt hk
        go_wp2_with ((with_reducible refine (HQ.out _).mono ?_); rintro _ w9 ⟨rfl, hw9⟩; obtain rfl := hw9)
        go_ret
        exact ⟨by rw [← HR3.out]; rfl, HB0.out _⟩
      · rw [Bool.true_and] at hf
        have HF2 := Lib.hid hf
        clear hx hf hq hlt hk
        go_wp2_with ((with_reducible refine (HQ.out _).mono ?_); rintro _ w9 ⟨rfl, hw9⟩; obtain rfl := hw9)
        go_round
        case rel => exact ⟨k + 1, HLT.out, by go_num, HF2.out⟩
        case measure => have := HLT.out; simp [Go.RowKit.intOf]; omega
    · obtain rfl : k = 8 := by omega
      have hf := HF.out
      rw [List.drop_eq_nil_of_le (by have := HLEN.out; omega)] at hf
      have hin : inSeen seen = true := hf.symm.trans rfl
      obtain ⟨x, hx⟩ : ∃ x, seen[kd]? = some x := ⟨_, List.getElem?_eq_getElem (by have := HLEN.out; have := HD.out; omega)⟩
      obtain ⟨b, o, rfl, hbl, c0⟩ := HS.out.at1 (k := kd) (v := .int .i64 x) (by rw [List.getElem?_map, hx]; rfl)
      have c1 : ∀ o', (w.alloc o').cell? ⟨b, o + kd, none⟩ = some (.int .i64 x) := fun o' => by rw [World.cell?_alloc_lt w o' _ hbl]; exact c0
      have hk8 : (kd : Int) < 8 := by have := HD.out; omega
      have hk0 : (0 : Int) ≤ (kd : Int) := by omega
      have HR3 : Hid (decide (x = no) = r) := Lib.hid (by rw [← HR2.out, hin, hx]; simp)
      clear hlt hk hf hin hx
      by_cases hxn : x = no
      · have HR4 : Hid (true = r) := Lib.hid (by rw [← HR3.out]; simp [hxn])
        subst hxn
        go_wp2_with (fail)
        go_quiet (fail)
        go_wp2_with (fail)
        go_ret
        exact ⟨by rw [← HR4.out]; rfl, bdrewN (HB0.out _) _⟩
      · have HR4 : Hid (false = r) := Lib.hid (by rw [← HR3.out]; simp [hxn])
        have hxb : (x == no) = false := by simpa using hxn
        have hxd : decide (x = no) = false := decide_eq_false hxn
        clear hxn
        go_wp2_with (fail)
        go_quiet (fail)
        go_wp2_with (fail)
        go_ret
        exact ⟨by rw [← HR4.out]; rfl, bdrewN (HB0.out _) _⟩
set_option maxRecDepth 100000 in
set_option maxHeartbeats 4000000 in
theorem after_any (w : World) (a b : EntC) (ha : EntAt w a) (hb : EntAt w b) (hn : a.v.seen.length = 8) (hm : b.v.seen.length = 8) (r : Int) (hr : followsF a.v b.v = r) :
    Calls Tryz.prog 52 #[.agg a.cells.toArray, .agg b.cells.toArray] w fun x w' => x = .returned (.int .i64 r) ∧ Below w.heap.size w w' := by
  obtain ⟨⟨d1, n1, y1, l1, t1⟩, A1, c1⟩ := a
  obtain ⟨⟨d2, n2, y2, l2, t2⟩, A2, c2⟩ := b
  simp only [EntC.cells, EntAt, followsF] at ha hb hn hm hr ⊢
  rw [hn, hm]
  have HB := Lib.hid (fun o o' => ((Below.refl w.heap.size w).alloc (Nat.le_refl _) o).alloc (by simp) o')
  by_cases hd : y2 < y1
  · rw [if_pos hd] at hr
    have HR := Lib.hid hr
    clear hr ha hb hn hm
    go_enter Tryz.func52, Tryz.ntmps52
    go_wp2_with (fail)
    go_ret
    exact ⟨by rw [← HR.out]; rfl, HB.out _ _⟩
  · have hd' : y1 ≤ y2 := by omega
    rw [if_neg hd] at hr
    have HR := Lib.hid hr
    have HA := Lib.hid ha
    have HB2 := Lib.hid hb
    have H1 := Lib.hid hn
    have H2 := Lib.hid hm
    clear hr ha hb hn hm hd
    go_enter Tryz.func52, Tryz.ntmps52
    go_wp2_with (fail)
    have HBW := Lib.hid (HB.out (.cells #[.int .i64 d1, .int .i64 n1, .int .i64 y1, .slice A1 8 c1, .string ⟨t1.toArray⟩] 37) (.cells #[.int .i64 d2, .int .i64 n2, .int .i64 y2, .slice A2 8 c2, .string ⟨t2.toArray⟩] 37))
    have X := Lib.hid ((Loc.new_ w #[.int .i64 d1, .int .i64 n1, .int .i64 y1, .slice A1 8 c1, .string ⟨t1.toArray⟩] 37).alloc (.cells #[.int .i64 d2, .int .i64 n2, .int .i64 y2, .slice A2 8 c2, .string ⟨t2.toArray⟩] 37))
    have Y := Lib.hid (Loc.new_ (w.alloc (.cells #[.int .i64 d1, .int .i64 n1, .int .i64 y1, .slice A1 8 c1, .string ⟨t1.toArray⟩] 37)) #[.int .i64 d2, .int .i64 n2, .int .i64 y2, .slice A2 8 c2, .string ⟨t2.toArray⟩] 37)
    simp only [World.size_alloc] at Y
    generalize (w.alloc (.cells #[.int .i64 d1, .int .i64 n1, .int .i64 y1, .slice A1 8 c1, .string ⟨t1.toArray⟩] 37)).alloc (.cells #[.int .i64 d2, .int .i64 n2, .int .i64 y2, .slice A2 8 c2, .string ⟨t2.toArray⟩] 37) = W at *
    go_loopw [5] (fun i wr => ∃ k : Nat, k ≤ 8 ∧ i = .int .i64 (k : Int) ∧ lessSome (l1.drop k) (l2.drop k) = lessSome l1 l2 ∧ Below W.heap.size W wr) (fun i _ => 8 - (Go.RowKit.intOf i).toNat)
    case atStart => exact ⟨0, Nat.zero_le _, rfl, rfl, Below.refl _ _⟩
    case round =>
      obtain ⟨k, hk, rfl, hf, hbo⟩ := hrel
      obtain ⟨wo, rfl⟩ : ∃ wo : World, wo = wr := ⟨_, rfl⟩
      have HF := Lib.hid hf
      have HBO := Lib.hid hbo
      have HBX := Lib.hid (HBW.out.trans (hbo.mono HBW.out.size))
      have XO := Lib.hid (X.out.below hbo)
      have YO := Lib.hid (Y.out.below hbo)
      clear hf hbo
      obtain ⟨zXO, kXO, fXO⟩ := XO.out
      obtain ⟨zYO, kYO, fYO⟩ := YO.out
      by_cases hlt : k < 8
      · obtain ⟨x, hx⟩ : ∃ x, l1[k]? = some x := ⟨_, List.getElem?_eq_getElem (by have := H1.out; omega)⟩
        obtain ⟨y, hy⟩ : ∃ x, l2[k]? = some x := ⟨_, List.getElem?_eq_getElem (by have := H2.out; omega)⟩
        obtain ⟨b1, o1, rfl, hb1, e1⟩ := (HA.out.below HBX.out).at1 (k := k) (v := .int .i64 x) (by rw [List.getElem?_map, hx]; rfl)
        obtain ⟨b2, o2, rfl, hb2, e2⟩ := (HB2.out.below HBX.out).at1 (k := k) (v := .int .i64 y) (by rw [List.getElem?_map, hy]; rfl)
        have hki : (k : Int) < 8 := by omega
        have hk0 : (0 : Int) ≤ (k : Int) := by omega
        have HLT := Lib.hid hlt
        have hwk : IntKind.i64.wrap ((k : Int) + 1) = (k : Int) + 1 := IntWalk.i64_in _ (by omega)
        have hf := HF.out
        rw [lessSome_drop hx hy] at hf
        by_cases hxy : y < x
        · rw [decide_eq_true hxy, Bool.true_or] at hf
          have HF2 : Hid (7 = r) := Lib.hid (by rw [← HR.out, ← hf]; rfl)
          clear hlt hk hx hy hf
          go_wp2_with (fail)
          go_quiet (fail)
          go_wp2_with (fail)
          go_ret
          exact ⟨by rw [← HF2.out]; rfl, bdrewN HBX.out _⟩
        · have hxy' : x ≤ y := by omega
          rw [decide_eq_false hxy, Bool.false_or] at hf
          have HF2 := Lib.hid hf
          clear hlt hk hx hy hf hxy
          go_wp2_with (fail)
          go_quiet (fail)
          go_wp2_with (fail)
          go_roundw
          case rel => exact ⟨k + 1, HLT.out, by go_num, HF2.out, bdrewN HBO.out _⟩
          case measure => have := HLT.out; simp [Go.RowKit.intOf]; omega
      · obtain rfl : k = 8 := by omega
        have hf := HF.out
        rw [List.drop_eq_nil_of_le (by have := H1.out; omega), List.drop_eq_nil_of_le (by have := H2.out; omega)] at hf
        have HF2 : Hid (0 = r) := Lib.hid (by rw [← HR.out, ← hf]; rfl)
        clear hlt hk hf
        go_wp2_with (fail)
        go_ret
        exact ⟨by rw [← HF2.out]; rfl, HBX.out⟩
end Go.Proofs.YtnnnibkainlplaaGreatDoor
namespace Go.Proofs.YtnnnibkainlplaaGreatDoor
open Go.RowKit Go.Sort Go.Lib

set_option maxRecDepth 100000 in
set_option maxHeartbeats 8000000 in
theorem RCheck_any (w : World) (A : Option Addr) (n c : Nat) (l : List EntC) (hs : ChAt w A n l) (r : Int) (hr : checkF (vsOf l) = r) :
    Calls Tryz.prog 32 #[.slice A n c] w fun x w' => x = .returned (.int .i64 r) ∧ Below w.heap.size w w' := by
  have hll : l.length = n := by simpa using hs.sl.1
  have hr2 := hr
  unfold checkF at hr2
  rw [vsOf_len, hll] at hr2
  by_cases hn : 400 < n
  · rw [if_pos hn] at hr2
    have hni : 400 < (n : Int) := by omega
    clear hs hr hn
    have HR := Lib.hid hr2
    clear hr2
    go_enter Tryz.func32, Tryz.ntmps32
    go_wp2_with (fail)
    go_ret
    exact ⟨by rw [← HR.out]; rfl, Below.refl _ _⟩
  rw [if_neg hn] at hr2
  have hni : (n : Int) ≤ 400 := by omega
  have HN := Lib.hid hni
  have HL := Lib.hid hll
  have HS := Lib.hid hs
  have HR := Lib.hid hr2
  clear hll hr hr2 hs hn
  go_enter Tryz.func32, Tryz.ntmps32
  go_wp2_with (fail)
  go_loopw [3] (fun iv wr => ∃ k : Nat, k ≤ n ∧ iv = .int .i64 (k : Int) ∧ Below w.heap.size w wr ∧ FirstOk (vsOf l) k ∧ scanE (errAt (vsOf l)) (n - k) k = r) (fun i _ => n - (Go.RowKit.intOf i).toNat)
  case atStart => exact ⟨0, Nat.zero_le _, rfl, Below.refl _ _, fun j hj => absurd hj (Nat.not_lt_zero _), HR.out⟩
  case round =>
    obtain ⟨k, hk, rfl, hb, hz, hf⟩ := hrel
    obtain ⟨wo, rfl⟩ : ∃ wo : World, wo = wr := ⟨_, rfl⟩
    have HB := Lib.hid hb
    have HZ := Lib.hid hz
    have HF := Lib.hid hf
    clear hb hf hz
    by_cases hlt : k < n
    case neg =>
      obtain rfl : k = n := by omega
      have hki : (k : Int) ≤ (k : Int) := Int.le_refl _
      have hf := HF.out
      rw [Nat.sub_self] at hf
      have HF2 : Hid (0 = r) := Lib.hid hf
      clear hlt hk hf
      go_wp2_with (fail)
      go_ret
      exact ⟨by rw [← HF2.out]; rfl, HB.out⟩
    obtain ⟨x, hx⟩ : ∃ v, l[k]? = some v := ⟨_, List.getElem?_eq_getElem (by rw [HL.out]; exact hlt)⟩
    obtain ⟨e0, h0⟩ : ∃ v, l[0]? = some v := ⟨_, List.getElem?_eq_getElem (by rw [HL.out]; omega)⟩
    have HO := Lib.hid (HS.out.below HB.out)
    obtain ⟨b, o, rfl, hbl, c0, c1, c2, c3, c4⟩ := ent_at HO.out.sl hx
    have hki : (k : Int) < (n : Int) := by omega
    have hk0 : (0 : Int) ≤ (k : Int) := by omega
    have hn0 : 0 < n := by omega
    have HX := Lib.hid hx
    have H0 := Lib.hid h0
    have HLT := Lib.hid hlt
    have hf := HF.out
    rw [show n - k = (n - (k + 1)) + 1 by omega] at hf
    have HW := Lib.hid (scanE_step hf)
    obtain ⟨br, hbr⟩ : ∃ br, rightB x.v = br := ⟨_, rfl⟩
    have HC := Lib.hid (fun W (hb : Below wo.heap.size wo W) => RRight_any W x ((HO.out.at_ x (List.mem_of_getElem? HX.out)).below hb) br hbr)
    have HXA := Lib.hid (HO.out.at_ x (List.mem_of_getElem? HX.out))
    have HBR := Lib.hid hbr
    simp only [EntC.cells] at HC
    clear h0 hf hlt hk HF
    go_wp2_with (fail)
    ((with_reducible refine (HC.out _ (Below.refl _ _)).mono ?_); rintro _ w1 ⟨rfl, hb1⟩)
    have HB1 := Lib.hid hb1
    replace HB := Lib.hid (HB.out.trans (hb1.mono HB.out.size))
    clear c0 c1 c2 c3 c4 hbl hb1 HC
    cases br
    · have e1 := errAt_arg (vsOf_at hx) hbr
      have HF2 : Hid (1 = r) := Lib.hid (by rcases HW.out with ⟨h, _⟩ | ⟨_, h⟩ <;> omega)
      clear hx hbr e1
      go_wp2_with (fail)
      go_ret
      exact ⟨by rw [← HF2.out]; rfl, HB.out⟩
    obtain ⟨hbl, d0, d1, d2, d3, d4⟩ := ent_is HO.out.sl H0.out rfl HB1.out
    obtain ⟨_, c0, c1, c2, c3, c4⟩ := ent_is HO.out.sl HX.out rfl HB1.out
    rw [Nat.zero_mul, Nat.add_zero] at d0
    by_cases hd : e0.v.dev = x.v.dev
    case neg =>
      have e1 := errAt_owner (vsOf_at hx) hbr (vsOf_at H0.out) hd
      have HF2 : Hid (21 = r) := Lib.hid (by rcases HW.out with ⟨h, _⟩ | ⟨_, h⟩ <;> omega)
      have hdb : (x.v.dev == e0.v.dev) = false := by rw [beq_eq_false_iff_ne]; exact fun h => hd h.symm
      have hdn : ¬ x.v.dev = e0.v.dev := fun h => hd h.symm
      clear hx hbr e1 hd d1 d2 d3 d4 c1 c2 c3 c4
      go_wp2_with (fail)
      go_quiet (fail)
      go_wp2_with (fail)
      go_ret
      exact ⟨by rw [← HF2.out]; rfl, bdrewN HB.out _⟩
    have HD := Lib.hid hd
    rw [hd] at d0
    clear d1 d2 d3 d4 c2 c3 c4
    go_upto_region 8 with (fail)
    go_quiet (fail)
    have HBq := Lib.hid (bdrewN HB1.out nq)
    replace HB := Lib.hid (bdrewN HB.out nq)
    clear d0 c0 c1 hbl HB1
    generalize w1.drewN nq = W at *
    obtain ⟨hbl, c0, c1, c2, c3, c4⟩ := ent_is HO.out.sl HX.out rfl HBq.out
    clear c0 c2 c3 c4
    have hd := HD.out
    obtain ⟨no, hno⟩ : ∃ no, x.v.no = no := ⟨_, rfl⟩
    rw [hno] at c1
    by_cases hg : (k : Int) < no
    · have e1 := errAt_gap (vsOf_at hx) hbr (vsOf_at H0.out) hd (by rw [hno]; exact hg)
      have HF2 : Hid (23 = r) := Lib.hid (by rcases HW.out with ⟨h, _⟩ | ⟨_, h⟩ <;> omega)
      clear hx hbr e1 hd hno
      go_wp2_with (fail)
      go_ret
      exact ⟨by rw [← HF2.out]; rfl, HB.out⟩
    have hg1 : no ≤ (k : Int) := by omega
    by_cases ht : no < (k : Int)
    · have e1 := errAt_twice (vsOf_at hx) hbr (vsOf_at H0.out) hd (by rw [hno]; exact ht)
      have HF2 : Hid (5 = r) := Lib.hid (by rcases HW.out with ⟨h, _⟩ | ⟨_, h⟩ <;> omega)
      clear hx hbr e1 hd hg hno
      go_wp2_with (fail)
      go_ret
      exact ⟨by rw [← HF2.out]; rfl, HB.out⟩
    obtain rfl : no = (k : Int) := by omega
    have hwk : IntKind.i64.wrap ((k : Int) + 1) = (k : Int) + 1 := IntWalk.i64_in _ (by have := HN.out; omega)
    by_cases hz : k = 0
    · have e1 : errAt (vsOf l) k = 0 := by subst hz; exact errAt_first (vsOf_at hx) hbr (vsOf_at H0.out) hd (by rw [hno]; rfl)
      have HF2 : Hid (scanE (errAt (vsOf l)) (n - (k + 1)) (k + 1) = r) := Lib.hid (by rcases HW.out with ⟨_, h⟩ | ⟨h, _⟩ <;> first | exact h | exact absurd e1 h)
      have HE1 := Lib.hid e1
      have hz2 : (k : Int) ≤ 0 := by omega
      clear hx hbr e1 hd hg hz ht hno
      go_wp2_with (fail)
      go_roundw
      case rel => exact ⟨k + 1, HLT.out, by go_num, HB.out, HZ.out.next HE1.out, HF2.out⟩
      case measure => have := HLT.out; simp [Go.RowKit.intOf]; omega
    obtain ⟨m, hm⟩ : ∃ m, k = m + 1 := ⟨k - 1, by omega⟩
    obtain ⟨p, hp⟩ : ∃ v, l[m]? = some v := ⟨_, List.getElem?_eq_getElem (by have := HLT.out; rw [HL.out]; omega)⟩
    have hpr : RightE p.v := errAt_right (vsOf_at hp) (HZ.out m (by omega))
    have hxr : RightE x.v := rightB_true.1 hbr
    have e1 : errAt (vsOf l) k = followsF p.v x.v := by
      subst hm
      exact errAt_next (vsOf_at hx) hbr (vsOf_at H0.out) hd hno (vsOf_at hp)
    obtain ⟨ff, hff⟩ : ∃ ff, followsF p.v x.v = ff := ⟨_, rfl⟩
    rw [hff] at e1
    have HFO := Lib.hid (fun V (hb : Below wo.heap.size wo V) => after_any V p x ((HO.out.at_ p (List.mem_of_getElem? hp)).below hb) ((HO.out.at_ _ (List.mem_of_getElem? hx)).below hb) hpr.len hxr.len ff hff)
    simp only [EntC.cells] at HFO
    have hS : ∀ w', Below W.heap.size W w' → _ := fun w' hb => And.intro (ent_is HO.out.sl hp rfl (HBq.out.trans (hb.mono HBq.out.size))).2 (And.intro (ent_is HO.out.sl hx rfl (HBq.out.trans (hb.mono HBq.out.size))).2 hb)
    simp only [and_assoc] at hS
    have HSS := Lib.hid hS
    have hwm : IntKind.i64.wrap ((k : Int) - 1) = (m : Int) := by rw [IntWalk.i64_in _ (by have := HN.out; have := HLT.out; omega)]; omega
    have hkz : 0 < (k : Int) := by omega
    have hmn : (m : Int) < (n : Int) := by have := HLT.out; omega
    have hm0 : (0 : Int) ≤ (m : Int) := by omega
    have HM := Lib.hid hm
    have HE1 := Lib.hid e1
    clear hx hbr e1 hd hg hz ht hm hp hpr hxr hff hno hS
    go_upto_region 15 with (fail)
    clear c1 hbl
    have hB7 := Below.refl W.heap.size W
    go_region_held3 (fun w' => w'.cell? ⟨b, o + m * 5, none⟩ = some (.int .i64 p.v.dev) ∧ w'.cell? ⟨b, o + m * 5 + 1, none⟩ = some (.int .i64 p.v.no) ∧ w'.cell? ⟨b, o + m * 5 + 2, none⟩ = some (.int .i64 p.v.day) ∧ w'.cell? ⟨b, o + m * 5 + 3, none⟩ = some (.slice p.A p.v.seen.length p.c) ∧ w'.cell? ⟨b, o + m * 5 + 4, none⟩ = some (.string ⟨p.v.text.toArray⟩) ∧ w'.cell? ⟨b, o + k * 5, none⟩ = some (.int .i64 x.v.dev) ∧ w'.cell? ⟨b, o + k * 5 + 1, none⟩ = some (.int .i64 x.v.no) ∧ w'.cell? ⟨b, o + k * 5 + 2, none⟩ = some (.int .i64 x.v.day) ∧ w'.cell? ⟨b, o + k * 5 + 3, none⟩ = some (.slice x.A x.v.seen.length x.c) ∧ w'.cell? ⟨b, o + k * 5 + 4, none⟩ = some (.string ⟨x.v.text.toArray⟩) ∧ Below W.heap.size W w')
      (first | exact HSS.out _ hB7 | (refine HSS.out _ ?_; repeat (first | exact hB7 | exact Below.refl _ _ | refine Below.drew ?_ | refine Below.alloc ?_ (by first | exact Nat.le_refl _ | exact hB7.size | (simp <;> omega)) _ | refine Below.setCell ?_ (by first | exact Nat.le_refl _ | exact hB7.size | (simp <;> omega)) _)))
      ((go_at_call 52
        ((with_reducible refine (HFO.out _ ?hs1).mono ?_)
         (case hs1 => exact HBq.out.trans (Below.mono (by go_split_ands; assumption) HBq.out.size))
         rintro e w3 ⟨rfl, hbF⟩
         have hB7 : Below W.heap.size W w3 := by go_split_ands; exact Below.trans (by assumption) (hbF.mono (Below.size (by assumption))))))
    have HB2 := Lib.hid (HB.out.trans (hB7.mono HB.out.size))
    clear hB7 hbF
    by_cases hf0 : ff = 0
    · have e1 := HE1.out
      rw [hf0] at e1
      have HF2 : Hid (scanE (errAt (vsOf l)) (n - (k + 1)) (k + 1) = r) := Lib.hid (by rcases HW.out with ⟨_, h⟩ | ⟨h, _⟩ <;> first | exact h | exact absurd e1 h)
      have HE2 := Lib.hid e1
      subst hf0
      clear e1
      go_wp2_with (fail)
      go_roundw
      case rel => exact ⟨k + 1, HLT.out, by go_num, HB2.out, HZ.out.next HE2.out, HF2.out⟩
      case measure => have := HLT.out; simp [Go.RowKit.intOf]; omega
    · have HF2 : Hid (ff = r) := Lib.hid (by rcases HW.out with ⟨h, _⟩ | ⟨_, h⟩; · exact absurd (HE1.out.symm.trans h) hf0
                                             · exact HE1.out.symm.trans h)
      have hfb : (ff == 0) = false := by simpa using hf0
      go_wp2_with (fail)
      go_ret
      exact ⟨by rw [← HF2.out]; rfl, HB2.out⟩
end Go.Proofs.YtnnnibkainlplaaGreatDoor
