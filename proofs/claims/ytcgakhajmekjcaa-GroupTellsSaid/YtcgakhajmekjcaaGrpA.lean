/- group, kerbsideref41: Right, Sum, over, Same, walked. -/
import Derived.Test.YtcgakhajmekjcaaGrpP4
import Derived.Test.YtcgakhajmekjcaaBase4
import Derived.Deep.QuietTactic
import Derived.BigQuiet
namespace Go.Proofs.Ytcgakhajmekjcaa
open Go.RowKit

/-- a list of ints in memory -/
abbrev Ints (w : World) (A : Option Addr) (n : Nat) (ps : List Int) : Prop := Sl w 1 A n (ps.map fun k => [.int .i64 k])
theorem Ints.length {w : World} {A : Option Addr} {n : Nat} {ps : List Int} (h : Ints w A n ps) : ps.length = n := by simpa using h.1
theorem Ints.at_ {w : World} {A : Option Addr} {n : Nat} {ps : List Int} (h : Ints w A n ps) {k : Nat} {p : Int} (hp : ps[k]? = some p) : ∃ b o, A = some ⟨b, o, none⟩ ∧ b < w.heap.size ∧ w.cell? ⟨b, o + k, none⟩ = some (.int .i64 p) := by
  obtain ⟨b, o, hA, hb, hc⟩ := h.2 k [.int .i64 p] (by rw [List.getElem?_map, hp]; rfl)
  have := hc 0 _ rfl
  rw [Nat.mul_one, Nat.add_zero] at this
  exact ⟨b, o, hA, hb, this⟩
theorem take_succ {α : Type} {l : List α} {k : Nat} {p : α} (hp : l[k]? = some p) : l.take (k + 1) = l.take k ++ [p] := by
  rw [List.take_add_one, hp]
  rfl
def somePos (l : List Int) : Bool := l.any fun q => decide (0 < q)
theorem somePos_true {l : List Int} : somePos l = true ↔ ∃ p ∈ l, 0 < p := by simp [somePos]
theorem some_next {ps : List Int} {k : Nat} {p : Int} (hp : ps[k]? = some p) : somePos (ps.take (k + 1)) = (somePos (ps.take k) || decide (0 < p)) := by
  rw [take_succ hp]
  simp [somePos]
set_option maxHeartbeats 1000000 in
theorem Right_any (w : World) (A : Option Addr) (n c : Nat) (ps : List Int) (hs : Ints w A n ps) (hn : n ≤ maxLen) (r : Bool) (hr : rightB ps = r) :
    Calls Try.prog 14 #[.slice A n c] w fun e w' => e = .returned (.bool r) ∧ w = w' := by
  have hl := hs.length
  by_cases h100 : 100 < n
  · have hf : r = false := by
      rw [← hr, Bool.eq_false_iff]
      intro h
      have := (rightB_true.1 h).1
      omega
    subst hf
    have hb : (100 : Int) < (n : Int) := by omega
    clear hs hr
    go_enter Try.func14, Try.ntmps14
    go_wp2_with (fail)
    go_ret
    exact ⟨rfl, rfl⟩
  · have hb : (n : Int) ≤ (100 : Int) := by omega
    have HS := Lib.hid hs
    have HL := Lib.hid hl
    have HR := Lib.hid hr
    clear hs hr hl
    go_enter Try.func14, Try.ntmps14
    go_wp2_with (fail)
    go_loopw [3, 11] (fun sv iv wr => ∃ k : Nat, k ≤ n ∧ iv = .int .i64 (k : Int) ∧ sv = .bool (somePos (ps.take k)) ∧ wr = w ∧ ∀ q ∈ ps.take k, 0 ≤ q ∧ q ≤ 1000000) (fun _ i _ => n - (intOf i).toNat)
    case atStart => exact ⟨0, Nat.zero_le _, rfl, by simp [somePos], rfl, by simp⟩
    case round =>
      obtain ⟨k, hk, rfl, rfl, rfl, hall⟩ := hrel
      have HA := Lib.hid hall
      clear hall
      by_cases hlt : k < n
      · obtain ⟨p, hp⟩ : ∃ p, ps[k]? = some p := ⟨_, List.getElem?_eq_getElem (by rw [HL.out]; exact hlt)⟩
        obtain ⟨b, o, rfl, hbl, c0⟩ := HS.out.at_ hp
        have hki : (k : Int) < (n : Int) := by omega
        have hk0 : (0 : Int) ≤ (k : Int) := Int.natCast_nonneg _
        have HP := Lib.hid hp
        have HLT := Lib.hid hlt
        have HSN := Lib.hid (some_next hp)
        have hbad : ¬ (0 ≤ p ∧ p ≤ 1000000) → r = false := fun h => by
          rw [← HR.out, Bool.eq_false_iff]
          intro h2
          exact h ((rightB_true.1 h2).2.1 p (List.mem_of_getElem? HP.out))
        have hgood : 0 ≤ p → p ≤ 1000000 → ∀ q ∈ ps.take (k + 1), 0 ≤ q ∧ q ≤ 1000000 := fun h0 h1 q hq => by
          rw [take_succ HP.out] at hq
          rcases List.mem_append.1 hq with hq | hq
          · exact HA.out q hq
          · simp only [List.mem_singleton] at hq; subst hq; exact ⟨h0, h1⟩
        have HBD := Lib.hid hbad
        have HGD := Lib.hid hgood
        clear hp hlt hbad hgood
        by_cases h0 : p < 0
        · have hrf := HBD.out (by omega)
          subst hrf
          go_wp2_with (fail)
          go_ret
          exact ⟨rfl, rfl⟩
        · have h0' : 0 ≤ p := by omega
          by_cases h1 : 1000000 < p
          · have hrf := HBD.out (by omega)
            subst hrf
            go_wp2_with (fail)
            go_ret
            exact ⟨rfl, rfl⟩
          · have h1' : p ≤ 1000000 := by omega
            have HG := Lib.hid (HGD.out h0' h1')
            clear h0 h1
            generalize hsb : somePos (ps.take k) = sb at *
            have HSB := Lib.hid hsb
            clear hsb
            cases sb
            · by_cases hpp : 0 < p
              · have HN := Lib.hid (HSN.out.trans (show (false || decide (0 < p)) = true by simp [hpp]))
                go_wp2_with (fail)
                go_roundw
                case rel => exact ⟨k + 1, HLT.out, by go_num, by first | (rw [HN.out]; done) | (rw [HN.out]; congr 1; simp; omega), trivial, HG.out⟩
                case measure => have := HLT.out; simp [intOf]; omega
              · have hpp' : p ≤ 0 := by omega
                have HN := Lib.hid (HSN.out.trans (show (false || decide (0 < p)) = false by simp; omega))
                clear hpp
                go_wp2_with (fail)
                go_roundw
                case rel => exact ⟨k + 1, HLT.out, by go_num, by first | (rw [HN.out]; done) | (rw [HN.out]; congr 1; simp; omega), trivial, HG.out⟩
                case measure => have := HLT.out; simp [intOf]; omega
            · have HN := Lib.hid (HSN.out.trans (show (true || decide (0 < p)) = true by simp))
              go_wp2_with (fail)
              go_roundw
              case rel => exact ⟨k + 1, HLT.out, by go_num, by first | (rw [HN.out]; done) | (rw [HN.out]; congr 1; simp; omega), trivial, HG.out⟩
              case measure => have := HLT.out; simp [intOf]; omega
      · obtain rfl : k = n := by omega
        have hki : (k : Int) ≤ (k : Int) := Int.le_refl _
        have hr2 : somePos (ps.take k) = r := by
          have h := HA.out
          rw [List.take_of_length_le (by rw [HL.out]; exact Nat.le_refl _)] at h ⊢
          rw [← HR.out]
          rw [Bool.eq_iff_iff, rightB_true, somePos_true]
          exact ⟨fun h2 => ⟨by rw [HL.out]; omega, h, h2⟩, fun h2 => h2.2.2⟩
        have HR2 := Lib.hid hr2
        clear hr2
        go_wp2_with (fail)
        go_ret
        exact ⟨ret_bool HR2.out, rfl⟩
theorem sumL_take {ps : List Int} {k : Nat} {p : Int} (hp : ps[k]? = some p) : sumL (ps.take (k + 1)) = sumL (ps.take k) + p := by
  rw [take_succ hp, sumL_append]
  simp [sumL]
theorem sumL_take_le {ps : List Int} (h : ∀ p ∈ ps, 0 ≤ p) (k : Nat) : 0 ≤ sumL (ps.take k) ∧ sumL (ps.take k) ≤ sumL ps := by
  have h1 := sumL_append (ps.take k) (ps.drop k)
  rw [List.take_append_drop] at h1
  have h2 := sumL_nonneg (ps.take k) fun p hp => h p (List.mem_of_mem_take hp)
  have h3 := sumL_nonneg (ps.drop k) fun p hp => h p (List.mem_of_mem_drop hp)
  omega
set_option maxHeartbeats 1000000 in
theorem Sum_any (w : World) (A : Option Addr) (n c : Nat) (ps : List Int) (hs : Ints w A n ps) (hn : n ≤ maxLen) (h0 : ∀ p ∈ ps, 0 ≤ p) (h1 : sumL ps ≤ 4611686018427387904) (r : Int) (hr : sumL ps = r) :
    Calls Try.prog 16 #[.slice A n c] w fun e w' => e = .returned (.int .i64 r) ∧ w = w' := by
  unfold maxLen at hn
  have HL := Lib.hid hs.length
  have HS := Lib.hid hs
  have HB := Lib.hid (fun k => sumL_take_le h0 k)
  have HR := Lib.hid hr
  have HU := Lib.hid h1
  clear hs h0 hr h1
  go_enter Try.func16, Try.ntmps16
  go_wp2_with (fail)
  go_loopw [3, 4] (fun sv iv wr => ∃ k : Nat, k ≤ n ∧ iv = .int .i64 (k : Int) ∧ sv = .int .i64 (sumL (ps.take k)) ∧ wr = w) (fun _ i _ => n - (intOf i).toNat)
  case atStart => exact ⟨0, Nat.zero_le _, rfl, rfl, rfl⟩
  case round =>
    obtain ⟨k, hk, rfl, rfl, rfl⟩ := hrel
    by_cases hlt : k < n
    · obtain ⟨p, hp⟩ : ∃ p, ps[k]? = some p := ⟨_, List.getElem?_eq_getElem (by rw [HL.out]; exact hlt)⟩
      obtain ⟨b, o, rfl, hbl, c0⟩ := HS.out.at_ hp
      have hki : (k : Int) < (n : Int) := by omega
      have hk0 : (0 : Int) ≤ (k : Int) := Int.natCast_nonneg _
      have HST := Lib.hid (sumL_take hp)
      have hb1 := HB.out (k + 1)
      have hu := HU.out
      rw [HST.out] at hb1
      have hw : IntKind.i64.wrap (sumL (ps.take k) + p) = sumL (ps.take k) + p := IntWalk.i64_in _ (by omega)
      have HLT := Lib.hid hlt
      clear hp hlt
      generalize sumL (ps.take k) = s at *
      go_wp2_with (fail)
      go_roundw
      case rel => exact ⟨k + 1, HLT.out, by go_num, by rw [HST.out], trivial⟩
      case measure => have := HLT.out; simp [intOf]; omega
    · obtain rfl : k = n := by omega
      have hki : (k : Int) ≤ (k : Int) := Int.le_refl _
      go_wp2_with (fail)
      go_ret
      exact ⟨ret_int (by rw [← HR.out, List.take_of_length_le (by rw [HL.out]; exact Nat.le_refl _)]), rfl⟩
set_option maxHeartbeats 1000000 in
theorem Same_any (w : World) (A A2 : Option Addr) (n c n2 c2 : Nat) (ps qs : List Int) (hs : Ints w A n ps) (hs2 : Ints w A2 n2 qs) (hn : n ≤ maxLen) (r : Bool) (hr : decide (ps = qs) = r) :
    Calls Try.prog 13 #[.slice A n c, .slice A2 n2 c2] w fun e w' => e = .returned (.bool r) ∧ Below w.heap.size w w' := by
  unfold maxLen at hn
  have hl := hs.length
  have hl2 := hs2.length
  by_cases hne : n = n2
  · subst hne
    have hnb : ((n : Int) != (n : Int)) = false := by simp
    have HL := Lib.hid hl
    have HL2 := Lib.hid hl2
    have HS := Lib.hid hs
    have HS2 := Lib.hid hs2
    have HR := Lib.hid hr
    clear hs hs2 hr hl hl2
    go_enter Try.func13, Try.ntmps13
    go_wp2_with (fail)
    go_loopw [5] (fun iv wr => ∃ k : Nat, k ≤ n ∧ iv = .int .i64 (k : Int) ∧ Below w.heap.size w wr ∧ ps.take k = qs.take k) (fun i _ => n - (intOf i).toNat)
    case atStart => exact ⟨0, Nat.zero_le _, rfl, Below.refl _ _, by simp⟩
    case round =>
      obtain ⟨k, hk, rfl, hb, heq⟩ := hrel
      obtain ⟨wo, rfl⟩ : ∃ wo : World, wo = wr := ⟨_, rfl⟩
      have HB := Lib.hid hb
      have HE := Lib.hid heq
      clear hb heq
      by_cases hlt : k < n
      · obtain ⟨p, hp⟩ : ∃ p, ps[k]? = some p := ⟨_, List.getElem?_eq_getElem (by rw [HL.out]; exact hlt)⟩
        obtain ⟨q, hq⟩ : ∃ p, qs[k]? = some p := ⟨_, List.getElem?_eq_getElem (by rw [HL2.out]; exact hlt)⟩
        obtain ⟨b, o, rfl, hbl, c0⟩ := Ints.at_ (HS.out.below HB.out) hp
        obtain ⟨b2, o2, rfl, hbl2, c2'⟩ := Ints.at_ (HS2.out.below HB.out) hq
        have hki : (k : Int) < (n : Int) := by omega
        have hk0 : (0 : Int) ≤ (k : Int) := Int.natCast_nonneg _
        have HLT := Lib.hid hlt
        by_cases hpq : p = q
        · have hpb : (p != q) = false := by simpa using hpq
          have HN : Hid (ps.take (k + 1) = qs.take (k + 1)) := by
            refine Lib.hid ?_
            rw [take_succ hp, take_succ hq, HE.out, hpq]
          clear hp hq hlt hpq
          go_wp2_with (fail)
          go_quiet (fail)
          go_wp2_with (fail)
          go_roundw
          case rel => exact ⟨k + 1, HLT.out, by go_num, bdrewN HB.out _, HN.out⟩
          case measure => have := HLT.out; simp [intOf]; omega
        · have hpb : (p != q) = true := by simpa using hpq
          have hrf : r = false := by
            rw [← HR.out, decide_eq_false_iff_not]
            intro e
            rw [e, hq] at hp
            exact hpq (by injection hp with hp; exact hp.symm)
          subst hrf
          clear hp hq hlt hpq
          go_wp2_with (fail)
          go_quiet (fail)
          go_wp2_with (fail)
          go_ret
          exact ⟨rfl, bdrewN HB.out _⟩
      · obtain rfl : k = n := by omega
        have hki : (k : Int) ≤ (k : Int) := Int.le_refl _
        have hrt : r = true := by
          have h := HE.out
          rw [List.take_of_length_le (by rw [HL.out]; exact Nat.le_refl _), List.take_of_length_le (by rw [HL2.out]; exact Nat.le_refl _)] at h
          rw [← HR.out, decide_eq_true_eq]
          exact h
        subst hrt
        go_wp2_with (fail)
        go_ret
        exact ⟨rfl, HB.out⟩
  · have hnb : ((n : Int) != (n2 : Int)) = true := by simp; omega
    have hrf : r = false := by
      rw [← hr, decide_eq_false_iff_not]
      intro e
      rw [e] at hl
      omega
    subst hrf
    clear hs hs2 hr hl hl2
    go_enter Try.func13, Try.ntmps13
    go_wp2_with (fail)
    go_ret
    exact ⟨rfl, Below.refl _ _⟩
end Go.Proofs.Ytcgakhajmekjcaa
