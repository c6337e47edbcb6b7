/- kerbsidelaw02: DiskSurvives, walked. -/
import Derived.Test.YthnechlnaacgfaaDiskY
import Derived.Test.YthnechlnaacgfaaDiskV
import Derived.Deep.QuietTactic
import Derived.BigQuiet
namespace Go.Proofs.Ythnechlnaacgfaa
open Go.RowKit

theorem byte_get (s : List UInt8) (j : Nat) (h : j < (ByteArray.mk s.toArray).size) : (ByteArray.mk s.toArray)[j]'h = byteN s j := by
  have h' : j < s.length := by simpa [ByteArray.size] using h
  have h1 : (ByteArray.mk s.toArray)[j]'h = s[j] := rfl
  rw [h1]
  unfold byteN
  rw [List.getElem?_eq_getElem h']
  rfl
theorem byteAtF_nat (s : List UInt8) (j : Nat) : byteAtF s (j : Int) = byteN s j := by
  unfold byteAtF byteN
  rw [if_neg (by omega), Int.toNat_natCast]
theorem byteAt_same (w : World) (s : List UInt8) (hs : s.length ≤ 140737488351232) (i : Int) (r : UInt8) (hr : byteAtF s i = r) :
    Calls Try.prog 24 #[.string ⟨s.toArray⟩, .int .i64 i] w fun e w' => e = .returned (.int .u8 r.toNat) ∧ w' = w :=
  (byteAt_any w s hs i r hr).mono fun e w' ⟨h1, h2⟩ => ⟨h1, h2.symm⟩
theorem after_str {w0 w : World} {B : Nat} {d : DV} (h : Has w0 w B d) (f : Int) (keep : List Int) (kn : Nat) (hkn : keep.length = kn) (A : Option Addr) (c : Nat) (hk : IntsAt w A keep) (hl : keep.length ≤ 60) (s : List UInt8) (e : Bool) (hr : afterF d f keep = (s, e)) :
    Calls Try.prog 23 #[.pointer (some ⟨B, 0, none⟩), .int .i64 f, .slice A kn c] w fun e' w' => e' = .returned (.tuple #[.string ⟨s.toArray⟩, .bool e]) ∧ Below w.heap.size w w' := by
  subst hkn
  exact after_any h f keep A c hk hl (s, e) hr
theorem after_lit {w0 w : World} {B : Nat} {d : DV} (h : Has w0 w B d) (f : Int) (keep : List Int) (kn : Nat) (hkn : keep.length = kn) (X : Array Value) (hX : (keep.map (Value.int .i64)).toArray = X) (t : TypeId) (c : Nat) (hl : keep.length ≤ 60) (s : List UInt8) (e : Bool) (hr : afterF d f keep = (s, e)) :
    Calls Try.prog 23 #[.pointer (some ⟨B, 0, none⟩), .int .i64 f, .slice (some ⟨w.heap.size, 0, none⟩) kn c] (w.alloc (.cells X t)) fun e' w' => e' = .returned (.tuple #[.string ⟨s.toArray⟩, .bool e]) ∧ Below w.heap.size w w' := by
  subst hkn hX
  refine (after_str (h.below (below_alloc w _)) f keep _ rfl _ c (IntsAt.lit w keep t) hl s e hr).mono fun e' w' ⟨h1, h2⟩ => ⟨h1, (below_alloc w _).trans (h2.mono (by simp))⟩
theorem afterF_of {d : DV} {f : Int} {keep : List Int} {s : List UInt8} (h : ReadF (StartF (crashF d keep)) f 0 16777216 = (s, 0)) : afterF d f keep = (s, true) := by unfold afterF; rw [h]; rfl
set_option maxRecDepth 100000 in
set_option maxHeartbeats 4000000 in
theorem survives_any (w : World) (A : Option Addr) (n c : Nat) (l : List ActC) (hs : Sl w 5 A n (l.map ActC.cells)) (hn : n ≤ maxLen) (ho : ∀ a ∈ l, a.ok) (hk : ActsAt w l) (f : Int) (hf : inI f)
    (A3 : Option Addr) (c3 : Nat) (keep : List Int) (hk3 : IntsAt w A3 keep) (hkl : keep.length ≤ maxLen) :
    Calls Try.prog 4 #[.slice A n c, .int .i64 f, .slice A3 keep.length c3] w fun e w' => e = .returned (.bool true) ∧ Below w.heap.size w w' := by
  unfold maxLen at hkl
  unfold inI at hf
  have HS := Lib.hid hs
  have HO := Lib.hid ho
  have HK := Lib.hid hk
  have HN := Lib.hid hn
  have HK3 := Lib.hid hk3
  clear hs ho hk hn hk3
  have HSM := Lib.hid (small_any w)
  obtain ⟨q, hq⟩ : ∃ q, fewB l = q := ⟨_, rfl⟩
  have HFW := Lib.hid (fun w1 hb => few_any w1 A n c l (HS.out.below hb) HN.out q hq)
  have HQ := Lib.hid hq
  clear hq
  by_cases hbad : q = false ∨ 60 < (keep.length : Int)
  · rcases hbad with h | h
    · subst h
      go_enter Try.func4, Try.ntmps4
      go_wp2_with (first
        | ((with_reducible refine (HSM.out).mono ?_); rintro e w1 ⟨rfl, hb⟩; have HB := Lib.hid hb; clear hb)
        | ((with_reducible refine (HFW.out _ HB.out).mono ?_); rintro _ _ ⟨rfl, rfl⟩))
      go_ret
      exact ⟨rfl, HB.out⟩
    · cases q <;>
      · go_enter Try.func4, Try.ntmps4
        go_wp2_with (first
          | ((with_reducible refine (HSM.out).mono ?_); rintro e w1 ⟨rfl, hb⟩; have HB := Lib.hid hb; clear hb)
          | ((with_reducible refine (HFW.out _ HB.out).mono ?_); rintro _ _ ⟨rfl, rfl⟩))
        go_ret
        exact ⟨rfl, HB.out⟩
  simp only [not_or, Bool.not_eq_false] at hbad
  obtain ⟨rfl, b3⟩ := hbad
  have hfew := (few_all HQ.out).1
  have HFE := Lib.hid hfew
  have c3' : (keep.length : Int) ≤ 60 := by omega
  have c3n : keep.length ≤ 60 := by omega
  have hok0 : DOk (playF l) := play_ok HO.out hfew
  have hinv : Inv (playF l) := Inv.play l
  obtain ⟨d0, hd0⟩ : ∃ d0, playF l = d0 := ⟨_, rfl⟩
  rw [hd0] at hok0 hinv
  obtain ⟨dn, hdn⟩ : ∃ b, d0.down = b := ⟨_, rfl⟩
  obtain ⟨sz, hsz⟩ : ∃ sz : Int, sz = (d0.file f).now.length := ⟨_, rfl⟩
  have HD0 := Lib.hid hd0
  have HDN := Lib.hid hdn
  have HSZ := Lib.hid hsz
  clear b3 hfew hd0
  by_cases hgo : dn = true ∨ f < 0 ∨ 15 < f ∨ 100000 < sz
  · clear hok0 hinv hdn hsz
    rcases hgo with h | h | h | h
    · subst h
      go_enter Try.func4, Try.ntmps4
      go_wp2_with (first
        | ((with_reducible refine (HSM.out).mono ?_); rintro e w1 ⟨rfl, hb⟩; have HB := Lib.hid hb; clear hb)
        | ((with_reducible refine (HFW.out _ HB.out).mono ?_); rintro _ _ ⟨rfl, rfl⟩)
        | ((with_reducible refine (played_any w1 A n c l (HS.out.below HB.out) HN.out HO.out HFE.out (HK.out.below HB.out)).mono ?_); rintro e w2 ⟨B, rfl, h2⟩; rw [HD0.out] at h2; have H2 := Lib.hid h2; clear h2)
        | ((with_reducible refine (Down_has H2.out _ HDN.out).mono ?_); rintro _ _ ⟨rfl, rfl⟩)
        | ((with_reducible refine (Size_has H2.out f _ HSZ.out).mono ?_); rintro _ _ ⟨rfl, rfl⟩))
      go_ret
      exact ⟨rfl, HB.out.trans (H2.out.base.mono HB.out.size)⟩
    all_goals
      cases dn <;>
      · go_enter Try.func4, Try.ntmps4
        go_wp2_with (first
          | ((with_reducible refine (HSM.out).mono ?_); rintro e w1 ⟨rfl, hb⟩; have HB := Lib.hid hb; clear hb)
          | ((with_reducible refine (HFW.out _ HB.out).mono ?_); rintro _ _ ⟨rfl, rfl⟩)
          | ((with_reducible refine (played_any w1 A n c l (HS.out.below HB.out) HN.out HO.out HFE.out (HK.out.below HB.out)).mono ?_); rintro e w2 ⟨B, rfl, h2⟩; rw [HD0.out] at h2; have H2 := Lib.hid h2; clear h2)
          | ((with_reducible refine (Down_has H2.out _ HDN.out).mono ?_); rintro _ _ ⟨rfl, rfl⟩)
          | ((with_reducible refine (Size_has H2.out f _ HSZ.out).mono ?_); rintro _ _ ⟨rfl, rfl⟩))
        all_goals
          go_ret
          exact ⟨rfl, HB.out.trans (H2.out.base.mono HB.out.size)⟩
  simp only [not_or, Bool.not_eq_true] at hgo
  obtain ⟨rfl, f0, f1, g4⟩ := hgo
  have f0' : 0 ≤ f := by omega
  have f1' : f ≤ 15 := by omega
  have g4' : sz ≤ 100000 := by omega
  obtain ⟨now, last, sm, S, r1, r2, r3, r4, l1, l2, l3, by_⟩ := survives_law hok0 hinv hdn f0' (by omega) keep
  have HR1 := Lib.hid r1
  have HR2 := Lib.hid (afterF_of r2)
  have HR3 := Lib.hid (afterF_of r3)
  have HR4 := Lib.hid (afterF_of r4)
  have HBY := Lib.hid by_
  have n1 : (now.length : Int) ≤ 16777216 := by omega
  have n2 : ¬ sm.length < last.length := by omega
  have n3 : ¬ now.length < sm.length := by omega
  have z1 := strV_len now
  have z2 := strV_len last
  have z3 := strV_len sm
  have HL := Lib.hid (And.intro l1 (And.intro l2 l3))
  clear r1 r2 r3 r4 by_ l1 l2 l3 hok0 hinv hdn hsz f0 f1 g4
  go_enter Try.func4, Try.ntmps4
  go_wp2_with (first
    | ((with_reducible refine (HSM.out).mono ?_); rintro e w1 ⟨rfl, hb⟩; have HB := Lib.hid hb; clear hb)
    | ((with_reducible refine (HFW.out _ HB.out).mono ?_); rintro _ _ ⟨rfl, rfl⟩)
    | ((with_reducible refine (played_any w1 A n c l (HS.out.below HB.out) HN.out HO.out HFE.out (HK.out.below HB.out)).mono ?_); rintro e w2 ⟨B, rfl, h2⟩; rw [HD0.out] at h2; have H2 := Lib.hid h2; clear h2)
    | ((with_reducible refine (Down_has H2.out _ HDN.out).mono ?_); rintro _ _ ⟨rfl, rfl⟩)
    | ((with_reducible refine (Size_has H2.out f _ HSZ.out).mono ?_); rintro _ _ ⟨rfl, rfl⟩)
    | ((with_reducible refine (Read_str H2.out f 0 16777216 _ _ HR1.out).mono ?_); rintro _ _ ⟨rfl, rfl⟩)
    | ((with_reducible refine (after_str H2.out f [] 0 rfl none 0 (IntsAt.nil_ _) (by simp) _ _ HR2.out).mono ?_); rintro e w3 ⟨rfl, hb3⟩; have H3 := Lib.hid (H2.out.below hb3); clear hb3)
    | ((with_reducible refine (after_lit H3.out f [1] 1 rfl #[.int .i64 1] rfl _ _ (by simp) _ _ HR3.out).mono ?_); rintro e w4 ⟨rfl, hb4⟩; have H4 := Lib.hid (H3.out.below hb4); clear hb4)
    | ((with_reducible refine (after_str H4.out f keep _ rfl A3 c3 (HK3.out.below (HB.out.trans (H4.out.base.mono HB.out.size))) c3n _ _ HR4.out).mono ?_); rintro e w5 ⟨rfl, hb5⟩; have H5 := Lib.hid (H4.out.below hb5); clear hb5))
  have HBW := Lib.hid (HB.out.trans (H5.out.base.mono HB.out.size))
  have smb : (sm.length : Int) ≤ 16777216 := by have := HL.out; omega
  go_loopw [17] (fun i wr => ∃ k : Nat, k ≤ sm.length ∧ i = .int .i64 (k : Int) ∧ Below w.heap.size w wr) (fun i _ => sm.length + 1 - (intOf i).toNat)
  case atStart => exact ⟨0, Nat.zero_le _, rfl, HBW.out⟩
  case round =>
    obtain ⟨k, hk, rfl, hbo⟩ := hrel
    obtain ⟨wo, rfl⟩ : ∃ wo : World, wo = wr := ⟨_, rfl⟩
    have HBo := Lib.hid hbo
    clear hbo
    by_cases hlt : 64 * k < sm.length
    · have t1 : 64 * (k : Int) < (sm.length : Int) := by omega
      have t2 : (k : Int) ≤ 262144 := by omega
      have hnl : sm.length ≤ now.length := HL.out.2.2
      have hll : last.length ≤ 140737488351232 := by have := HL.out; omega
      go_wp2_with (fail)
      by_cases hS : S k = true
    -- MARK1
      · have hSk : S k = true := hS
        clear hS
        go_loopw [18, 19, 20] (fun u v i wr => ∃ j : Nat, 64 * k ≤ j ∧ j ≤ 64 * k + 64 ∧ i = .int .i64 (j : Int) ∧ Below w.heap.size w wr ∧ u = .bool true ∧ ∃ ob : Bool, v = .bool ob) (fun _ _ i _ => 64 * k + 64 - (intOf i).toNat)
        case atStart => exact ⟨64 * k, Nat.le_refl _, by omega, by go_num, HBo.out, rfl, true, rfl⟩
        case round =>
          obtain ⟨j, hj1, hj2, rfl, hbr, rfl, ob, rfl⟩ := hrel
          obtain ⟨wi, rfl⟩ : ∃ wi : World, wi = wr := ⟨_, rfl⟩
          have HBi := Lib.hid hbr
          have HJ := Lib.hid (And.intro hj1 hj2)
          clear hbr
          by_cases h1 : j < 64 * k + 64
          · by_cases h2 : j < sm.length
            · have i1 : (j : Int) < 64 * (k : Int) + 64 := by omega
              have i2 : (j : Int) < (sm.length : Int) := by omega
              have i3 : (j : Int) < (now.length : Int) := by omega
              have i0 : (0 : Int) ≤ (j : Int) := Int.natCast_nonneg _
              have x1 : ∀ h, ((ByteArray.mk sm.toArray)[j]'h) = byteN sm j := byte_get sm j
              have x2 : ∀ h, ((ByteArray.mk now.toArray)[j]'h) = byteN now j := byte_get now j
              have hjk : j / 64 = k := by omega
              have hby := HBY.out j h2
              rw [hjk, hSk] at hby
              simp only [if_true, Bool.false_eq_true, if_false] at hby
              have HBA := Lib.hid (fun w1 : World => byteAt_same w1 last (by omega) (j : Int) (byteN last j) (byteAtF_nat last j))
              have HJ1 := Lib.hid h1
              clear hjk h1 h2 hj1 hj2
              cases ob <;>
              · go_wp2_with (fail)
                go_quiet (fail)
                go_wp2_with (fail)
                have HB1 := Lib.hid (bdrewN HBi.out nq)
                generalize wi.drewN nq = W1 at *
                go_quiet ((go_at_call 24; exact Calls.quiet_of_same (HBA.out _)))
                go_wp2_with (fail)
                have HB2 := Lib.hid (bdrewN HB1.out nq)
                generalize W1.drewN nq = W2 at *
                go_roundw
                case rel => exact ⟨j + 1, by have := HJ.out; omega, HJ1.out, by go_num, HB2.out, rfl, _, rfl⟩
                case measure => have := HJ1.out; simp [intOf]; omega
            · have i1 : (j : Int) < 64 * (k : Int) + 64 := by omega
              have i2 : (sm.length : Int) ≤ (j : Int) := by omega
              have HX := Lib.hid hlt
              clear h1 h2 hj1 hj2
              cases ob <;>
              · go_wp2_with (fail)
                go_roundw
                case rel => exact ⟨k + 1, by have := HX.out; omega, by go_num, HBi.out⟩
                case measure => have := HX.out; simp [intOf]; omega
          · obtain rfl : j = 64 * k + 64 := by omega
            have i1 : 64 * (k : Int) + 64 ≤ ((64 * k + 64 : Nat) : Int) := by omega
            have HX := Lib.hid hlt
            clear h1 hj1 hj2
            cases ob <;>
            · go_wp2_with (fail)
              go_roundw
              case rel => exact ⟨k + 1, by have := HX.out; omega, by go_num, HBi.out⟩
              case measure => have := HX.out; simp [intOf]; omega
      · have hSk : S k = false := by simpa using hS
        clear hS
        go_loopw [18, 19, 20] (fun u v i wr => ∃ j : Nat, 64 * k ≤ j ∧ j ≤ 64 * k + 64 ∧ i = .int .i64 (j : Int) ∧ Below w.heap.size w wr ∧ v = .bool true ∧ ∃ nb : Bool, u = .bool nb) (fun _ _ i _ => 64 * k + 64 - (intOf i).toNat)
        case atStart => exact ⟨64 * k, Nat.le_refl _, by omega, by go_num, HBo.out, rfl, true, rfl⟩
        case round =>
          obtain ⟨j, hj1, hj2, rfl, hbr, rfl, nb, rfl⟩ := hrel
          obtain ⟨wi, rfl⟩ : ∃ wi : World, wi = wr := ⟨_, rfl⟩
          have HBi := Lib.hid hbr
          have HJ := Lib.hid (And.intro hj1 hj2)
          clear hbr
          by_cases h1 : j < 64 * k + 64
          · by_cases h2 : j < sm.length
            · have i1 : (j : Int) < 64 * (k : Int) + 64 := by omega
              have i2 : (j : Int) < (sm.length : Int) := by omega
              have i3 : (j : Int) < (now.length : Int) := by omega
              have i0 : (0 : Int) ≤ (j : Int) := Int.natCast_nonneg _
              have x1 : ∀ h, ((ByteArray.mk sm.toArray)[j]'h) = byteN sm j := byte_get sm j
              have x2 : ∀ h, ((ByteArray.mk now.toArray)[j]'h) = byteN now j := byte_get now j
              have hjk : j / 64 = k := by omega
              have hby := HBY.out j h2
              rw [hjk, hSk] at hby
              simp only [if_true, Bool.false_eq_true, if_false] at hby
              have HBA := Lib.hid (fun w1 : World => byteAt_same w1 last (by omega) (j : Int) (byteN last j) (byteAtF_nat last j))
              have HJ1 := Lib.hid h1
              clear hjk h1 h2 hj1 hj2
              cases nb <;>
              · go_wp2_with (fail)
                go_quiet (fail)
                go_wp2_with (fail)
                have HB1 := Lib.hid (bdrewN HBi.out nq)
                generalize wi.drewN nq = W1 at *
                go_quiet ((go_at_call 24; exact Calls.quiet_of_same (HBA.out _)))
                go_wp2_with (fail)
                have HB2 := Lib.hid (bdrewN HB1.out nq)
                generalize W1.drewN nq = W2 at *
                go_roundw
                case rel => exact ⟨j + 1, by have := HJ.out; omega, HJ1.out, by go_num, HB2.out, rfl, _, rfl⟩
                case measure => have := HJ1.out; simp [intOf]; omega
            · have i1 : (j : Int) < 64 * (k : Int) + 64 := by omega
              have i2 : (sm.length : Int) ≤ (j : Int) := by omega
              have HX := Lib.hid hlt
              clear h1 h2 hj1 hj2
              cases nb <;>
              · go_wp2_with (fail)
                go_roundw
                case rel => exact ⟨k + 1, by have := HX.out; omega, by go_num, HBi.out⟩
                case measure => have := HX.out; simp [intOf]; omega
          · obtain rfl : j = 64 * k + 64 := by omega
            have i1 : 64 * (k : Int) + 64 ≤ ((64 * k + 64 : Nat) : Int) := by omega
            have HX := Lib.hid hlt
            clear h1 hj1 hj2
            cases nb <;>
            · go_wp2_with (fail)
              go_roundw
              case rel => exact ⟨k + 1, by have := HX.out; omega, by go_num, HBi.out⟩
              case measure => have := HX.out; simp [intOf]; omega
    -- MARK2
    · have t1 : (sm.length : Int) ≤ 64 * (k : Int) := by omega
      have t2 : (k : Int) ≤ 16777216 := by omega
      go_wp2_with (fail)
      go_ret
      exact ⟨rfl, HBo.out⟩
end Go.Proofs.Ythnechlnaacgfaa
