/- chain: slices.Equal at ints, Same, follows, walked. -/
/- chain: follows, walked. -/
import Derived.Test.YtjncmlglhegnaaaGreatDoorChainB
namespace Go.Proofs.YtjncmlglhegnaaaGreatDoor
open Go.RowKit Go.Sort Go.Lib

theorem Sl.ints {w : World} {A : Option Addr} {n : Nat} {l : List Int} (h : Sl w 1 A n (l.map intC)) : l.length = n ∧ (n = 0 ∨ ∃ b o, A = some ⟨b, o, none⟩ ∧ b < w.heap.size ∧ ∀ j, j < l.length → w.cell? ⟨b, o + j, none⟩ = some (.int .i64 (l.getD j 0))) := by
  have hl : l.length = n := by simpa using h.1
  refine ⟨hl, ?_⟩
  rcases Nat.eq_zero_or_pos n with h0 | h0
  · exact .inl h0
  · refine .inr ?_
    have at_ : ∀ j, j < l.length → ∃ b o, A = some ⟨b, o, none⟩ ∧ b < w.heap.size ∧ w.cell? ⟨b, o + j, none⟩ = some (.int .i64 (l.getD j 0)) := fun j hj =>
      h.at1 (k := j) (v := .int .i64 (l.getD j 0)) (by rw [List.getElem?_map, List.getElem?_eq_getElem hj, List.getD_eq_getElem?_getD, List.getElem?_eq_getElem hj]; rfl)
    obtain ⟨b, o, hA, hb, _⟩ := at_ 0 (by omega)
    refine ⟨b, o, hA, hb, fun j hj => ?_⟩
    obtain ⟨b', o', hA', hb', hc⟩ := at_ j hj
    rw [hA] at hA'
    injection hA' with hA'
    injection hA' with e1 e2
    rw [e1, e2]
    exact hc
set_option maxRecDepth 100000 in
set_option maxHeartbeats 1000000 in
set_option maxRecDepth 100000 in
set_option maxHeartbeats 1000000 in
set_option maxRecDepth 100000 in
set_option maxHeartbeats 1000000 in
theorem Equal_any (w : World) (A1 A2 : Option Addr) (n c m d : Nat) (xs ys : List Int) (h1 : Sl w 1 A1 n (xs.map intC)) (h2 : Sl w 1 A2 m (ys.map intC)) (hn : n ≤ 1099511627776) (hm : m ≤ 1099511627776) (r : Bool) (hr : decide (xs = ys) = r) :
    Calls Tryz.prog 203 #[.slice A1 n c, .slice A2 m d] w fun e w' => e = .returned (.bool r) ∧ ∃ q, w' = w.drewN q := by
  obtain ⟨l1, g1⟩ := h1.ints
  obtain ⟨l2, g2⟩ := h2.ints
  by_cases hnm : n = m
  · subst hnm
    rcases g1 with rfl | ⟨b1, o1, rfl, _, c1⟩
    · refine (slices_Equal_int_empty A1 A2 c 0 d w (by omega)).mono fun e w' ⟨he, hw⟩ => ⟨?_, 0, hw⟩
      rw [he, ← hr]
      have hx : xs = [] := List.length_eq_zero_iff.1 l1
      have hy : ys = [] := List.length_eq_zero_iff.1 l2
      subst hx hy
      rfl
    · rcases g2 with rfl | ⟨b2, o2, rfl, _, c2⟩
      · refine (slices_Equal_int_empty (some ⟨b1, o1, none⟩) A2 c 0 d w (by omega)).mono fun e w' ⟨he, hw⟩ => ⟨?_, 0, hw⟩
        rw [he, ← hr]
        have hx : xs = [] := List.length_eq_zero_iff.1 l1
        have hy : ys = [] := List.length_eq_zero_iff.1 l2
        subst hx hy
        rfl
      · refine (slices_Equal_int b1 o1 n c b2 o2 n d xs ys w (by omega) (by omega) (by omega) (by omega) c1 c2).mono fun e w' ⟨he, hw⟩ => ⟨?_, hw⟩
        have e1 : xs.take n = xs := by rw [← l1, List.take_length]
        have e2 : ys.take n = ys := by rw [← l2, List.take_length]
        rw [he, ← hr, e1, e2]
        by_cases h : xs = ys <;> simp [h]
  · have hr2 : r = false := by
      rw [← hr]
      refine decide_eq_false fun h => hnm ?_
      rw [← l1, ← l2, h]
    subst hr2
    have hi : ¬ ((n : Int) = (m : Int)) := by omega
    have hb : ((n : Int) == (m : Int)) = false := by rw [beq_eq_false_iff_ne]; intro h; exact hnm (by omega)
    clear h1 h2 l1 l2 g1 g2 hr hnm
    go_enter Tryz.func203, Tryz.ntmps203
    go_wp2_with (fail)
    go_ret
    exact ⟨rfl, 0, rfl⟩
set_option maxRecDepth 100000 in
set_option maxHeartbeats 2000000 in
theorem Same_any (w : World) (a b : EntC) (ha : EntAt w a) (hb : EntAt w b) (hn : a.v.seen.length ≤ 1099511627776) (hm : b.v.seen.length ≤ 1099511627776) (r : Bool) (hr : sameB a.v b.v = r) :
    Calls Tryz.prog 178 #[.agg a.cells.toArray, .agg b.cells.toArray] w fun x w' => x = .returned (.bool r) ∧ Below w.heap.size w w' := by
  obtain ⟨⟨d1, n1, y1, l1, t1⟩, A1, c1⟩ := a
  obtain ⟨⟨d2, n2, y2, l2, t2⟩, A2, c2⟩ := b
  simp only [EntC.cells, EntAt, sameB] at ha hb hn hm hr ⊢
  have HC := Lib.hid (fun o o' q hq => Equal_any ((w.alloc o).alloc o') A1 A2 l1.length c1 l2.length c2 l1 l2 ((ha.alloc o).alloc o') ((hb.alloc o).alloc o') hn hm q hq)
  have HB := Lib.hid (fun o o' => ((Below.refl w.heap.size w).alloc (Nat.le_refl _) o).alloc (by simp) o')
  clear ha hb hn hm
  have HR := Lib.hid hr
  clear hr
  generalize l1.length = k1 at *
  generalize l2.length = k2 at *
  by_cases hd : d1 = d2
  case neg =>
    have hdb : (d1 == d2) = false := by simpa using hd
    have HR2 : Hid (false = r) := Lib.hid (by rw [← HR.out]; simp [hd])
    clear HR
    go_enter Tryz.func178, Tryz.ntmps178
    go_wp2_with (fail)
    go_ret
    exact ⟨by rw [← HR2.out]; rfl, HB.out _ _⟩
  subst hd
  by_cases hd : n1 = n2
  case neg =>
    have hdb : (n1 == n2) = false := by simpa using hd
    have HR2 : Hid (false = r) := Lib.hid (by rw [← HR.out]; simp [hd])
    clear HR
    go_enter Tryz.func178, Tryz.ntmps178
    go_wp2_with (fail)
    go_ret
    exact ⟨by rw [← HR2.out]; rfl, HB.out _ _⟩
  subst hd
  by_cases hd : y1 = y2
  case neg =>
    have hdb : (y1 == y2) = false := by simpa using hd
    have HR2 : Hid (false = r) := Lib.hid (by rw [← HR.out]; simp [hd])
    clear HR
    go_enter Tryz.func178, Tryz.ntmps178
    go_wp2_with (fail)
    go_ret
    exact ⟨by rw [← HR2.out]; rfl, HB.out _ _⟩
  subst hd
  by_cases hd : l1 = l2
  case neg =>
    have HC := Lib.hid (fun o o' => HC.out o o' false (by simpa using hd))
    have HR2 : Hid (false = r) := Lib.hid (by rw [← HR.out]; simp [hd])
    clear HR
    clear hd
    go_enter Tryz.func178, Tryz.ntmps178
    go_wp2_with ((with_reducible refine (HC.out _ _).mono ?_); rintro _ w9 ⟨rfl, nq, hw9⟩; subst hw9)
    go_ret
    exact ⟨by rw [← HR2.out]; rfl, bdrewN (HB.out _ _) _⟩
  subst hd
  have HC := Lib.hid (fun o o' => HC.out o o' true (by simp))
  by_cases hd : t1 = t2
  case neg =>
    have HR2 : Hid (false = r) := Lib.hid (by rw [← HR.out]; simp [hd])
    clear HR
    have hdb : (t1 == t2) = false := by simpa using hd
    clear hd
    go_enter Tryz.func178, Tryz.ntmps178
    go_wp2_with ((with_reducible refine (HC.out _ _).mono ?_); rintro _ w9 ⟨rfl, nq, hw9⟩; subst hw9)
    go_ret
    exact ⟨by rw [← HR2.out]; rfl, bdrewN (HB.out _ _) _⟩
  subst hd
  have HR2 : Hid (true = r) := Lib.hid (by rw [← HR.out]; simp)
  clear HR
  go_enter Tryz.func178, Tryz.ntmps178
  go_wp2_with ((with_reducible refine (HC.out _ _).mono ?_); rintro _ w9 ⟨rfl, nq, hw9⟩; subst hw9)
  go_ret
  exact ⟨by rw [← HR2.out]; rfl, bdrewN (HB.out _ _) _⟩
end Go.Proofs.YtjncmlglhegnaaaGreatDoor
namespace Go.Proofs.YtjncmlglhegnaaaGreatDoor
open Go.RowKit Go.Sort Go.Lib

theorem lessSome_drop {l m : List Int} {k : Nat} {x y : Int} (hx : l[k]? = some x) (hy : m[k]? = some y) : lessSome (l.drop k) (m.drop k) = (decide (y < x) || lessSome (l.drop (k + 1)) (m.drop (k + 1))) := by
  rw [drop_at' hx, drop_at' hy]
  rfl
set_option maxRecDepth 100000 in
set_option maxHeartbeats 2000000 in
theorem follows_any (w : World) (a b : EntC) (ha : EntAt w a) (hb : EntAt w b) (hn : a.v.seen.length = 8) (hm : b.v.seen.length = 8) (r : Int) (hr : followsF a.v b.v = r) :
    Calls Tryz.prog 109 #[.agg a.cells.toArray, .agg b.cells.toArray] w fun x w' => x = .returned (.int .i64 r) ∧ Below w.heap.size w w' := by
  obtain ⟨⟨d1, n1, y1, l1, t1⟩, A1, c1⟩ := a
  obtain ⟨⟨d2, n2, y2, l2, t2⟩, A2, c2⟩ := b
  simp only [EntC.cells, EntAt, followsF] at ha hb hn hm hr ⊢
  rw [hn, hm]
  have HB := Lib.hid (fun o o' => ((Below.refl w.heap.size w).alloc (Nat.le_refl _) o).alloc (by simp) o')
  by_cases hd : y2 < y1
  · rw [if_pos hd] at hr
    have HR := Lib.hid hr
    clear hr ha hb hn hm
    go_enter Tryz.func109, Tryz.ntmps109
    go_wp2_with (fail)
    go_ret
    exact ⟨by rw [← HR.out]; rfl, HB.out _ _⟩
  · have hd' : y1 ≤ y2 := by omega
    rw [if_neg hd] at hr
    have HR := Lib.hid hr
    have HA := Lib.hid ha
    have HB2 := Lib.hid hb
    have H1 := Lib.hid hn
    have H2 := Lib.hid hm
    clear hr ha hb hn hm hd
    go_enter Tryz.func109, Tryz.ntmps109
    go_wp2_with (fail)
    go_loop [15] (fun i => ∃ k : Nat, k ≤ 8 ∧ i = .int .i64 (k : Int) ∧ lessSome (l1.drop k) (l2.drop k) = lessSome l1 l2) (fun i => 8 - (Go.RowKit.intOf i).toNat)
    case atStart => exact ⟨0, Nat.zero_le _, rfl, rfl⟩
    case round =>
      obtain ⟨k, hk, rfl, hf⟩ := hrel
      have HF := Lib.hid hf
      clear hf
      by_cases hlt : k < 8
      · obtain ⟨x, hx⟩ : ∃ x, l1[k]? = some x := ⟨_, List.getElem?_eq_getElem (by have := H1.out; omega)⟩
        obtain ⟨y, hy⟩ : ∃ x, l2[k]? = some x := ⟨_, List.getElem?_eq_getElem (by have := H2.out; omega)⟩
        obtain ⟨b1, o1, rfl, hb1, e1⟩ := HA.out.at1 (k := k) (v := .int .i64 x) (by rw [List.getElem?_map, hx]; rfl)
        obtain ⟨b2, o2, rfl, hb2, e2⟩ := HB2.out.at1 (k := k) (v := .int .i64 y) (by rw [List.getElem?_map, hy]; rfl)
        have f1 : ∀ o o', ((w.alloc o).alloc o').cell? ⟨b1, o1 + k, none⟩ = some (.int .i64 x) := fun o o' => by
          rw [World.cell?_alloc_lt (w.alloc o) o' _ (by simp; omega), World.cell?_alloc_lt w o _ hb1]
          exact e1
        have f2 : ∀ o o', ((w.alloc o).alloc o').cell? ⟨b2, o2 + k, none⟩ = some (.int .i64 y) := fun o o' => by
          rw [World.cell?_alloc_lt (w.alloc o) o' _ (by simp; omega), World.cell?_alloc_lt w o _ hb2]
          exact e2
        have hki : (k : Int) < 8 := by omega
        have hk0 : (0 : Int) ≤ (k : Int) := by omega
        have HLT := Lib.hid hlt
        have hf := HF.out
        rw [lessSome_drop hx hy] at hf
        by_cases hxy : y < x
        · rw [decide_eq_true hxy, Bool.true_or] at hf
          have HF2 : Hid (7 = r) := Lib.hid (by rw [← HR.out, ← hf]; rfl)
          clear hlt hk hx hy hf e1 e2 hb1 hb2
          go_wp2_with (fail)
          go_ret
          exact ⟨by rw [← HF2.out]; rfl, HB.out _ _⟩
        · rw [decide_eq_false hxy, Bool.false_or] at hf
          have hxy' : x ≤ y := by omega
          have HF2 := Lib.hid hf
          have hwk : IntKind.i64.wrap ((k : Int) + 1) = (k : Int) + 1 := IntWalk.i64_in _ (by omega)
          clear hlt hk hx hy hf hxy e1 e2 hb1 hb2
          go_wp2_with (fail)
          go_round
          case rel => exact ⟨k + 1, HLT.out, by go_num, HF2.out⟩
          case measure => have := HLT.out; simp [Go.RowKit.intOf]; omega
      · obtain rfl : k = 8 := by omega
        have hf := HF.out
        rw [List.drop_eq_nil_of_le (by rw [H1.out]; exact Nat.le_refl _)] at hf
        have HF2 : Hid (0 = r) := Lib.hid (by rw [← HR.out, ← hf]; rfl)
        clear hlt hk hf
        go_wp2_with (fail)
        go_ret
        exact ⟨by rw [← HF2.out]; rfl, HB.out _ _⟩
end Go.Proofs.YtjncmlglhegnaaaGreatDoor
