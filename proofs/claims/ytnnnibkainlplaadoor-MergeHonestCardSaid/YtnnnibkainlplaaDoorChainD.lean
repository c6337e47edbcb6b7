/- chain: follows, walked. -/
import Derived.Test.YtnnnibkainlplaaDoorChainC
namespace Go.Proofs.YtnnnibkainlplaaDoor
open Go.RowKit Go.Sort Go.Lib

theorem lessSome_drop {l m : List Int} {k : Nat} {x y : Int} (hx : l[k]? = some x) (hy : m[k]? = some y) : lessSome (l.drop k) (m.drop k) = (decide (y < x) || lessSome (l.drop (k + 1)) (m.drop (k + 1))) := by
  rw [drop_at' hx, drop_at' hy]
  rfl
set_option maxRecDepth 100000 in
set_option maxHeartbeats 2000000 in
theorem follows_any (w : World) (a b : EntC) (ha : EntAt w a) (hb : EntAt w b) (hn : a.v.seen.length = 8) (hm : b.v.seen.length = 8) (r : Int) (hr : followsF a.v b.v = r) :
    Calls Tryd.prog 38 #[.agg a.cells.toArray, .agg b.cells.toArray] w fun x w' => x = .returned (.int .i64 r) ∧ Below w.heap.size w w' := by
  obtain ⟨⟨d1, n1, y1, l1, t1⟩, A1, c1⟩ := a
  obtain ⟨⟨d2, n2, y2, l2, t2⟩, A2, c2⟩ := b
  simp only [EntC.cells, EntAt, followsF] at ha hb hn hm hr ⊢
  rw [hn, hm]
  have HB := Lib.hid (fun o o' => ((Below.refl w.heap.size w).alloc (Nat.le_refl _) o).alloc (by simp) o')
  by_cases hd : y2 < y1
  · rw [if_pos hd] at hr
    have HR := Lib.hid hr
    clear hr ha hb hn hm
    go_enter Tryd.func38, Tryd.ntmps38
    go_wp2_with (fail)
    go_ret
    exact ⟨by rw [← HR.out]; rfl, HB.out _ _⟩
  · have hd' : y1 ≤ y2 := by omega
    rw [if_neg hd] at hr
    have HR := Lib.hid hr
    have HA := Lib.hid ha
    have HB2 := Lib.hid hb
    have H1 := Lib.hid hn
    have H2 := Lib.hid hm
    clear hr ha hb hn hm hd
    go_enter Tryd.func38, Tryd.ntmps38
    go_wp2_with (fail)
    go_loop [15] (fun i => ∃ k : Nat, k ≤ 8 ∧ i = .int .i64 (k : Int) ∧ lessSome (l1.drop k) (l2.drop k) = lessSome l1 l2) (fun i => 8 - (Go.RowKit.intOf i).toNat)
    case atStart => exact ⟨0, Nat.zero_le _, rfl, rfl⟩
    case round =>
      obtain ⟨k, hk, rfl, hf⟩ := hrel
      have HF := Lib.hid hf
      clear hf
      by_cases hlt : k < 8
      · obtain ⟨x, hx⟩ : ∃ x, l1[k]? = some x := ⟨_, List.getElem?_eq_getElem (by have := H1.out; omega)⟩
        obtain ⟨y, hy⟩ : ∃ x, l2[k]? = some x := ⟨_, List.getElem?_eq_getElem (by have := H2.out; omega)⟩
        obtain ⟨b1, o1, rfl, hb1, e1⟩ := HA.out.at1 (k := k) (v := .int .i64 x) (by rw [List.getElem?_map, hx]; rfl)
        obtain ⟨b2, o2, rfl, hb2, e2⟩ := HB2.out.at1 (k := k) (v := .int .i64 y) (by rw [List.getElem?_map, hy]; rfl)
        have f1 : ∀ o o', ((w.alloc o).alloc o').cell? ⟨b1, o1 + k, none⟩ = some (.int .i64 x) := fun o o' => by
          rw [World.cell?_alloc_lt (w.alloc o) o' _ (by simp; omega), World.cell?_alloc_lt w o _ hb1]
          exact e1
        have f2 : ∀ o o', ((w.alloc o).alloc o').cell? ⟨b2, o2 + k, none⟩ = some (.int .i64 y) := fun o o' => by
          rw [World.cell?_alloc_lt (w.alloc o) o' _ (by simp; omega), World.cell?_alloc_lt w o _ hb2]
          exact e2
        have hki : (k : Int) < 8 := by omega
        have hk0 : (0 : Int) ≤ (k : Int) := by omega
        have HLT := Lib.hid hlt
        have hf := HF.out
        rw [lessSome_drop hx hy] at hf
        by_cases hxy : y < x
        · rw [decide_eq_true hxy, Bool.true_or] at hf
          have HF2 : Hid (7 = r) := Lib.hid (by rw [← HR.out, ← hf]; rfl)
          clear hlt hk hx hy hf e1 e2 hb1 hb2
          go_wp2_with (fail)
          go_ret
          exact ⟨by rw [← HF2.out]; rfl, HB.out _ _⟩
        · rw [decide_eq_false hxy, Bool.false_or] at hf
          have hxy' : x ≤ y := by omega
          have HF2 := Lib.hid hf
          have hwk : IntKind.i64.wrap ((k : Int) + 1) = (k : Int) + 1 := IntWalk.i64_in _ (by omega)
          clear hlt hk hx hy hf hxy e1 e2 hb1 hb2
          go_wp2_with (fail)
          go_round
          case rel => exact ⟨k + 1, HLT.out, by go_num, HF2.out⟩
          case measure => have := HLT.out; simp [Go.RowKit.intOf]; omega
      · obtain rfl : k = 8 := by omega
        have hf := HF.out
        rw [List.drop_eq_nil_of_le (by rw [H1.out]; exact Nat.le_refl _)] at hf
        have HF2 : Hid (0 = r) := Lib.hid (by rw [← HR.out, ← hf]; rfl)
        clear hlt hk hf
        go_wp2_with (fail)
        go_ret
        exact ⟨by rw [← HF2.out]; rfl, HB.out _ _⟩
end Go.Proofs.YtnnnibkainlplaaDoor
