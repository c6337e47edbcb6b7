/- the reference's SameTexts, walked. -/
import Derived.Test.YtniiahmpdkgplaaGreatDoorWireT
import Derived.IntWalk
import Derived.Deep.QuietTactic
import Derived.BigQuiet
namespace Go.Proofs.YtniiahmpdkgplaaGreatDoor
open Go.RowKit Go.Sort Go.Lib

set_option maxRecDepth 100000 in
set_option maxHeartbeats 2000000 in
theorem SameTexts_any (w : World) (A A' : Option Addr) (n m c c' : Nat) (a b : List (List UInt8)) (ha : Sl w 1 A n (a.map strC)) (hb : Sl w 1 A' m (b.map strC)) (hn : n ≤ 1099511627776) (r : Bool) (hr : decide (a = b) = r) :
    Calls Tryz.prog 24 #[.slice A n c, .slice A' m c'] w fun e w' => e = .returned (.bool r) ∧ Below w.heap.size w w' := by
  have hal : a.length = n := by have := ha.len; simpa using this
  have hbl : b.length = m := by have := hb.len; simpa using this
  have HA := Lib.hid ha
  have HB := Lib.hid hb
  have HLA := Lib.hid hal
  have HLB := Lib.hid hbl
  have HR := Lib.hid hr
  have HN := Lib.hid hn
  clear hn
  by_cases hnm : n = m
  · subst hnm
    clear ha hb hal hbl hr
    have hnn : (n : Int) = (n : Int) := rfl
    clear hnn
    go_enter Tryz.func24, Tryz.ntmps24
    go_wp2_with (fail)
    go_loopw [5] (fun iv wr => ∃ k : Nat, k ≤ n ∧ iv = .int .i64 (k : Int) ∧ a.take k = b.take k ∧ Below w.heap.size w wr) (fun i _ => n - (Go.RowKit.intOf i).toNat)
    case atStart => exact ⟨0, Nat.zero_le _, rfl, by simp, Below.refl _ _⟩
    case round =>
      obtain ⟨k, hk, rfl, heq, hbw⟩ := hrel
      obtain ⟨wo, rfl⟩ : ∃ wo : World, wo = wr := ⟨_, rfl⟩
      have HW := Lib.hid hbw
      have HEQ := Lib.hid heq
      clear hbw heq
      by_cases hlt : k < n
      · obtain ⟨x, hx⟩ : ∃ x, a[k]? = some x := ⟨_, List.getElem?_eq_getElem (by rw [HLA.out]; exact hlt)⟩
        obtain ⟨y, hy⟩ : ∃ y, b[k]? = some y := ⟨_, List.getElem?_eq_getElem (by rw [HLB.out]; exact hlt)⟩
        obtain ⟨b1, o1, rfl, hb1, c1⟩ := (HA.out.below HW.out).at1 (k := k) (v := .string ⟨x.toArray⟩) (by rw [List.getElem?_map, hx]; rfl)
        obtain ⟨b2, o2, rfl, hb2, c2⟩ := (HB.out.below HW.out).at1 (k := k) (v := .string ⟨y.toArray⟩) (by rw [List.getElem?_map, hy]; rfl)
        have hki : (k : Int) < (n : Int) := by omega
        have hk0 : (0 : Int) ≤ (k : Int) := by omega
        have HLT := Lib.hid hlt
        have HX := Lib.hid hx
        have HY := Lib.hid hy
        clear hx hy hlt hk
        by_cases hxy : x = y
        · subst hxy
          have HNX : Hid (a.take (k + 1) = b.take (k + 1)) := Lib.hid (by rw [take_succ' HX.out, take_succ' HY.out, HEQ.out])
          have hwk : IntKind.i64.wrap ((k : Int) + 1) = (k : Int) + 1 := IntWalk.i64_in _ (by have := HN.out; have := HLT.out; omega)
          go_wp2_with (fail)
          go_quiet (fail)
          have HW2 := Lib.hid (bdrewN HW.out nq)
          go_wp2_with (fail)
          go_roundw
          case rel => exact ⟨k + 1, HLT.out, by go_num, HNX.out, HW2.out⟩
          case measure => have := HLT.out; simp [Go.RowKit.intOf]; omega
        · have hrf : r = false := by
            rw [← HR.out, decide_eq_false_iff_not]
            intro h
            rw [h, HY.out] at HX
            have := HX.out
            injection this with this
            exact hxy this.symm
          subst hrf
          have hne : (x != y) = true := bne_iff_ne.2 hxy
          have hne2 : (x == y) = false := beq_eq_false_iff_ne.2 hxy
          clear hxy
          go_wp2_with (fail)
          go_quiet (fail)
          have HW2 := Lib.hid (bdrewN HW.out nq)
          go_wp2_with (fail)
          go_ret
          exact ⟨rfl, HW2.out⟩
      · obtain rfl : k = n := by omega
        have hki : (k : Int) ≤ (k : Int) := Int.le_refl _
        have hrt : r = true := by
          have h := HEQ.out
          rw [List.take_of_length_le (by rw [HLA.out]; exact Nat.le_refl _), List.take_of_length_le (by rw [HLB.out]; exact Nat.le_refl _)] at h
          rw [← HR.out, decide_eq_true_eq]
          exact h
        subst hrt
        go_wp2_with (fail)
        go_ret
        exact ⟨rfl, HW.out⟩
  · have hrf : r = false := by
      rw [← hr, decide_eq_false_iff_not]
      intro h
      rw [h] at hal
      omega
    subst hrf
    have hne : (((n : Int)) != ((m : Int))) = true := bne_iff_ne.2 (by omega)
    have hne2 : (n != m) = true := bne_iff_ne.2 hnm
    clear ha hb hal hbl hr
    go_enter Tryz.func24, Tryz.ntmps24
    go_wp2_with (fail)
    go_ret
    exact ⟨rfl, Below.refl _ _⟩
end Go.Proofs.YtniiahmpdkgplaaGreatDoor
