/- chain: the reference's Plain, SameInts, Same, Few, walked. -/
import Derived.Test.YtjncmlglhegnaaaGreatDoorChainJ
namespace Go.Proofs.YtjncmlglhegnaaaGreatDoor
open Go.RowKit Go.Sort Go.Lib

def plainB (x : EntV) : Bool := decide (x.seen.length ≤ 12) && (decide (x.text.length ≤ 200) || (decide (3990 < x.text.length) && decide (x.text.length ≤ 4010)))
theorem take_same {xs ys : List Int} {k : Nat} {x : Int} (h : xs.take k = ys.take k) (hx : xs[k]? = some x) (hy : ys[k]? = some x) : xs.take (k + 1) = ys.take (k + 1) := by
  rw [List.take_add_one, List.take_add_one, h, hx, hy]
set_option maxRecDepth 100000 in
set_option maxHeartbeats 2000000 in
theorem SameInts_any (w : World) (A1 A2 : Option Addr) (n c m d : Nat) (xs ys : List Int) (h1 : Sl w 1 A1 n (xs.map intC)) (h2 : Sl w 1 A2 m (ys.map intC)) (hn : n ≤ 1099511627776) (r : Bool) (hr : decide (xs = ys) = r) :
    Calls Tryz.prog 133 #[.slice A1 n c, .slice A2 m d] w fun e w' => e = .returned (.bool r) ∧ Below w.heap.size w w' := by
  obtain ⟨l1, _⟩ := h1.ints
  obtain ⟨l2, _⟩ := h2.ints
  by_cases hnm : n = m
  case neg =>
    have hr2 : r = false := by
      rw [← hr]
      refine decide_eq_false fun h => hnm ?_
      rw [← l1, ← l2, h]
    subst hr2
    have hi : ¬ ((n : Int) = (m : Int)) := by omega
    have hb : ((n : Int) == (m : Int)) = false := by rw [beq_eq_false_iff_ne]; intro h; exact hnm (by omega)
    clear h1 h2 l1 l2 hr hnm hn
    go_enter Tryz.func133, Tryz.ntmps133
    go_wp2_with (fail)
    go_ret
    exact ⟨rfl, Below.refl _ _⟩
  subst hnm
  have H1 := Lib.hid h1
  have H2 := Lib.hid h2
  have L1 := Lib.hid l1
  have L2 := Lib.hid l2
  have HR := Lib.hid hr
  have HN := Lib.hid hn
  clear h1 h2 l1 l2 hr hn
  go_enter Tryz.func133, Tryz.ntmps133
  go_wp2_with (fail)
  go_loopw [5] (fun iv wr => ∃ k : Nat, k ≤ n ∧ iv = .int .i64 (k : Int) ∧ Below w.heap.size w wr ∧ xs.take k = ys.take k) (fun i _ => n - (Go.RowKit.intOf i).toNat)
  case atStart => exact ⟨0, Nat.zero_le _, rfl, Below.refl _ _, rfl⟩
  case round =>
    obtain ⟨k, hk, rfl, hb, hz⟩ := hrel
    obtain ⟨wo, rfl⟩ : ∃ wo : World, wo = wr := ⟨_, rfl⟩
    have HB := Lib.hid hb
    have HZ := Lib.hid hz
    by_cases hlt : k < n
    · obtain ⟨x, hx⟩ : ∃ x, xs[k]? = some x := ⟨_, List.getElem?_eq_getElem (by rw [L1.out]; exact hlt)⟩
      obtain ⟨y, hy⟩ : ∃ x, ys[k]? = some x := ⟨_, List.getElem?_eq_getElem (by rw [L2.out]; exact hlt)⟩
      obtain ⟨b1, o1, rfl, hb1, e1⟩ := (H1.out.below hb).at1 (k := k) (v := .int .i64 x) (by rw [List.getElem?_map, hx]; rfl)
      obtain ⟨b2, o2, rfl, hb2, e2⟩ := (H2.out.below hb).at1 (k := k) (v := .int .i64 y) (by rw [List.getElem?_map, hy]; rfl)
      have hki : (k : Int) < (n : Int) := by omega
      have hk0 : (0 : Int) ≤ (k : Int) := by omega
      have HLT := Lib.hid hlt
      by_cases hxy : x = y
      · subst hxy
        have HZ2 := Lib.hid (take_same hz hx hy)
        have hwk : IntKind.i64.wrap ((k : Int) + 1) = (k : Int) + 1 := IntWalk.i64_in _ (by have := HN.out; omega)
        clear hb hz hlt hk hx hy hb1 hb2
        go_wp2_with (fail)
        go_quiet (fail)
        go_wp2_with (fail)
        go_roundw
        case rel => exact ⟨k + 1, HLT.out, by go_num, bdrewN HB.out _, HZ2.out⟩
        case measure => have := HLT.out; simp [Go.RowKit.intOf]; omega
      · have HR2 : Hid (false = r) := Lib.hid (by
          rw [← HR.out]
          refine (decide_eq_false fun h => hxy ?_).symm
          rw [h, hy] at hx
          exact (Option.some.inj hx).symm)
        have hxb : (x == y) = false := by simpa using hxy
        clear hb hz hlt hk hx hy hb1 hb2
        go_wp2_with (fail)
        go_quiet (fail)
        go_wp2_with (fail)
        go_ret
        exact ⟨by rw [← HR2.out]; rfl, bdrewN HB.out _⟩
    · obtain rfl : k = n := by omega
      have hki : (k : Int) ≤ (k : Int) := Int.le_refl _
      have HR2 : Hid (true = r) := Lib.hid (by
        rw [← HR.out]
        refine (decide_eq_true ?_).symm
        have e1 := hz
        rw [List.take_of_length_le (by rw [L1.out]; exact Nat.le_refl _), List.take_of_length_le (by rw [L2.out]; exact Nat.le_refl _)] at e1
        exact e1)
      clear hb hz hlt hk
      go_wp2_with (fail)
      go_ret
      exact ⟨by rw [← HR2.out]; rfl, HB.out⟩
set_option maxRecDepth 100000 in
set_option maxHeartbeats 2000000 in
theorem RSame_any (w : World) (a b : EntC) (ha : EntAt w a) (hb : EntAt w b) (hn : a.v.seen.length ≤ 1099511627776) (r : Bool) (hr : sameB a.v b.v = r) :
    Calls Tryz.prog 84 #[.agg a.cells.toArray, .agg b.cells.toArray] w fun x w' => x = .returned (.bool r) ∧ Below w.heap.size w w' := by
  obtain ⟨⟨d1, n1, y1, l1, t1⟩, A1, c1⟩ := a
  obtain ⟨⟨d2, n2, y2, l2, t2⟩, A2, c2⟩ := b
  simp only [EntC.cells, EntAt, sameB] at ha hb hn hr ⊢
  have HC := Lib.hid (fun o o' q hq => SameInts_any ((w.alloc o).alloc o') A1 A2 l1.length c1 l2.length c2 l1 l2 ((ha.alloc o).alloc o') ((hb.alloc o).alloc o') hn q hq)
  have HB := Lib.hid (fun o o' => ((Below.refl w.heap.size w).alloc (Nat.le_refl _) o).alloc (by simp) o')
  clear ha hb hn
  have HR := Lib.hid hr
  clear hr
  generalize l1.length = k1 at *
  generalize l2.length = k2 at *
  by_cases hd : d1 = d2
  case neg =>
    have hdb : (d1 == d2) = false := by simpa using hd
    have HR2 : Hid (false = r) := Lib.hid (by rw [← HR.out]; simp [hd])
    clear HR
    go_enter Tryz.func84, Tryz.ntmps84
    go_wp2_with (fail)
    go_ret
    exact ⟨by rw [← HR2.out]; rfl, HB.out _ _⟩
  subst hd
  by_cases hd : n1 = n2
  case neg =>
    have hdb : (n1 == n2) = false := by simpa using hd
    have HR2 : Hid (false = r) := Lib.hid (by rw [← HR.out]; simp [hd])
    clear HR
    go_enter Tryz.func84, Tryz.ntmps84
    go_wp2_with (fail)
    go_ret
    exact ⟨by rw [← HR2.out]; rfl, HB.out _ _⟩
  subst hd
  by_cases hd : y1 = y2
  case neg =>
    have hdb : (y1 == y2) = false := by simpa using hd
    have HR2 : Hid (false = r) := Lib.hid (by rw [← HR.out]; simp [hd])
    clear HR
    go_enter Tryz.func84, Tryz.ntmps84
    go_wp2_with (fail)
    go_ret
    exact ⟨by rw [← HR2.out]; rfl, HB.out _ _⟩
  subst hd
  by_cases hd : t1 = t2
  case neg =>
    have hdb : (t1 == t2) = false := by simpa using hd
    have HR2 : Hid (false = r) := Lib.hid (by rw [← HR.out]; simp [hd])
    clear HR
    go_enter Tryz.func84, Tryz.ntmps84
    go_wp2_with (fail)
    go_ret
    exact ⟨by rw [← HR2.out]; rfl, HB.out _ _⟩
  subst hd
  have HR2 : Hid (decide (l1 = l2) = r) := Lib.hid (by rw [← HR.out]; simp)
  have HC := Lib.hid (fun o o' => HC.out o o' r HR2.out)
  go_enter Tryz.func84, Tryz.ntmps84
  go_wp2_with ((with_reducible refine (HC.out _ _).mono ?_); rintro _ w9 ⟨rfl, hb9⟩)
  go_ret
  exact ⟨rfl, (HB.out _ _).trans (hb9.mono (HB.out _ _).size)⟩
end Go.Proofs.YtjncmlglhegnaaaGreatDoor
