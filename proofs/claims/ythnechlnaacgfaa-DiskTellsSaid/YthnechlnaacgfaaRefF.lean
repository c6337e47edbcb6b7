/- kerbsideref02: Put, walked. -/
import Derived.Test.YthnechlnaacgfaaRefE
import Derived.Test.YthnechlnaacgfaaBytR
namespace Go.Proofs.Ythnechlnaacgfaa
open Go.RowKit

def vlen : Value → Nat
  | .slice _ n _ => n
  | _ => 0
def padB (s : List UInt8) (M : Nat) : List UInt8 := s ++ List.replicate (M - s.length) 0
theorem padB_len (s : List UInt8) (M : Nat) (h : s.length ≤ M) : (padB s M).length = M := by unfold padB; simp; omega
theorem padB_put (s t : List UInt8) (n M : Nat) (ht : t ≠ []) (hM : M = max s.length (n + t.length)) : (padB s M).take n ++ t.take t.length ++ (padB s M).drop (n + t.length) = putB s n t := by
  rw [List.take_length, putB, if_neg ht]
  unfold padB
  have ha : (s ++ List.replicate (M - s.length) 0).take n = (s ++ List.replicate (n - s.length) (0 : UInt8)).take n := by
    simp only [List.take_append, List.take_replicate]
    congr 2
    omega
  have hb : (s ++ List.replicate (M - s.length) 0).drop (n + t.length) = s.drop (n + t.length) := by
    simp only [List.drop_append, List.drop_replicate]
    rw [show M - s.length - (n + t.length - s.length) = 0 by omega]
    simp
  rw [ha, hb]
theorem put_next {p t : List UInt8} {n k : Nat} {b : UInt8} (hk : t[k]? = some b) (hp : n + t.length ≤ p.length) :
    (p.take n ++ t.take k ++ p.drop (n + k)).set (n + k) b = p.take n ++ t.take (k + 1) ++ p.drop (n + (k + 1)) := by
  obtain ⟨hlt, rfl⟩ := List.getElem?_eq_some_iff.1 hk
  have h1 : (p.take n ++ t.take k).length = n + k := by simp; omega
  rw [List.set_append, if_neg (by omega), h1, Nat.sub_self, List.drop_eq_getElem_cons (by omega), List.set_cons_zero, show t.take (k + 1) = t.take k ++ [t[k]] by rw [List.take_add_one, hk]; rfl]
  simp only [List.append_assoc, List.cons_append, List.nil_append, Nat.add_assoc]
theorem put_stay {p t : List UInt8} {n k : Nat} (hk : k ≤ t.length) (hp : n + t.length ≤ p.length) : (p.take n ++ t.take k ++ p.drop (n + k)).length = p.length := by simp; omega
set_option maxHeartbeats 1000000 in
theorem Put_ref (w : World) (s t : List UInt8) (n : Nat) (hs : s.length ≤ 16777216) (hn : n + t.length ≤ 16777216) (r : List UInt8) (hr : putB s n t = r) :
    Calls Try.prog 61 #[.string ⟨s.toArray⟩, .int .i64 n, .string ⟨t.toArray⟩] w fun e w' => e = .returned (.string ⟨r.toArray⟩) ∧ Below w.heap.size w w' := by
  subst hr
  by_cases ht : t = []
  · subst ht
    rw [show putB s n [] = s by simp [putB]]
    go_enter Try.func61, Try.ntmps61
    go_wp2_with (fail)
    go_ret
    exact ⟨rfl, Below.refl _ _⟩
  · have hs' := strV_len s
    have ht' := strV_len t
    have htn := strV_ne ht
    have hte : t.isEmpty = false := by simp [ht]
    have HT := Lib.hid ht
    obtain ⟨M, hM⟩ : ∃ M, M = max s.length (n + t.length) := ⟨_, rfl⟩
    have HM := Lib.hid hM
    have HP := Lib.hid (padB_put s t n M ht hM)
    have hkon := Lib.run_convert_string_bytes (P := Try.prog) w 9 85 5 ⟨s.toArray⟩ Try.underlying9 Try.underlying85 Try.underlying5
    rw [hs'] at hkon
    have HB0 := Lib.hid (below_conv w ⟨s.toArray⟩)
    have HY0 := Lib.hid (Byt.conv w s (by simp only [maxLen]; omega))
    generalize Lib.bytesWorld w 5 ⟨s.toArray⟩ = wc at *
    generalize grownCap w s.length 0 5 = cc at *
    clear hM ht
    go_enter Try.func61, Try.ntmps61
    go_wp2_with (fail)
    clear hkon
    go_loopw [7] (fun v wr => ∃ g cap L k, s.length + k = L ∧ L ≤ M ∧ v = .slice (some ⟨g, 0, none⟩) L cap ∧ Below w.heap.size w wr ∧ Byt wr w.heap.size g cap (s ++ List.replicate k 0)) (fun v _ => M - vlen v)
    case atStart => exact ⟨_, _, _, 0, rfl, by have := HM.out; omega, rfl, HB0.out, by simpa using HY0.out⟩
    case round =>
      obtain ⟨g, cap, L, k, hL, hLM, rfl, hb, hy⟩ := hrel
      obtain ⟨wo, rfl⟩ : ∃ wo : World, wo = wr := ⟨_, rfl⟩
      have HB := Lib.hid hb
      have HY := Lib.hid hy
      have HL := Lib.hid hL
      have HMM := HM.out
      have hbz := hb.size
      have hyl : (s ++ List.replicate k 0).length = L := by simp; omega
      clear hb hy
      by_cases hlt : L < n + t.length
      · have hki : (L : Int) < (n : Int) + (t.length : Int) := by omega
        go_wp2_with (at_builtin; refine wpList_append_byt rfl (.tmp 21) (.tmp 22) rfl (HY.out.alloc _) L hyl rfl wo.heap.size 0 1 rfl 0 (by rw [World.cell?_alloc_at _ _ _ _ rfl]; rfl) (by simp only [World.size_alloc]; omega) (by omega) ?_; intro g' cap' w1 hby hg)
        have hbw := HB.out.alloc (by omega) (.cells #[.int .u8 0] 5)
        have hb2 := hbw.grown hg (by simp only [World.size_alloc]; omega) (fun b e => by injection e with e; rw [← e]; exact HY.out.ge)
        have HR := Lib.hid (And.intro hb2 hby)
        clear hbw hb2 hby
        go_roundw
        case rel => exact ⟨g', cap', L + 1, k + 1, by have := HL.out; omega, by omega, rfl, HR.out.1, by have h := HR.out.2; rw [List.append_assoc, ← List.replicate_succ'] at h; exact h⟩
        case measure => simp only [vlen]; omega
      · obtain rfl : L = M := by
          by_cases hk0 : k = 0
          · have := HL.out; omega
          · omega
        have hpad : s ++ List.replicate k 0 = padB s L := by unfold padB; rw [show L - s.length = k by have := HL.out; omega]
        rw [hpad] at HY hyl
        have hki : ¬ (L : Int) < (n : Int) + (t.length : Int) := by omega
        have hpl : n + t.length ≤ (padB s L).length := by rw [hyl]; omega
        have HPL := Lib.hid hpl
        have HYL := Lib.hid hyl
        have hnL : n + t.length ≤ L := by omega
        clear hpad hlt hpl hyl hLM hL HMM
        go_wp2_with (fail)
        go_loopw [8] (fun i wr => ∃ k : Nat, k ≤ t.length ∧ i = .int .i64 (k : Int) ∧ Below w.heap.size w wr ∧ Byt wr w.heap.size g cap ((padB s L).take n ++ t.take k ++ (padB s L).drop (n + k))) (fun i _ => t.length - (intOf i).toNat)
        case atStart => exact ⟨0, Nat.zero_le _, rfl, HB.out, by simpa using HY.out⟩
        case round =>
          obtain ⟨j, hj, rfl, hb2, hy2⟩ := hrel
          obtain ⟨wp, rfl⟩ : ∃ wp : World, wp = wr := ⟨_, rfl⟩
          have HB2 := Lib.hid hb2
          have HY2 := Lib.hid hy2
          clear hb2 hy2 HB HY
          by_cases hjt : j < t.length
          · have hg0 : t[j]? = some t[j] := List.getElem?_eq_getElem hjt
            have hki2 : (j : Int) < (t.length : Int) := by omega
            have hj0 : (0 : Int) ≤ (j : Int) := Int.natCast_nonneg _
            have hnj : (n : Int) + (j : Int) < (L : Int) := by omega
            have hnj0 : (0 : Int) ≤ (n : Int) + (j : Int) := by omega
            have hlen := put_stay (p := padB s L) (t := t) (n := n) (k := j) (by omega) HPL.out
            rw [HYL.out] at hlen
            have hroom := HY2.out.room
            rw [hlen] at hroom
            obtain ⟨pb, hpb⟩ : ∃ pb, ((padB s L).take n ++ t.take j ++ (padB s L).drop (n + j))[n + j]? = some pb := ⟨_, List.getElem?_eq_getElem (by rw [hlen]; omega)⟩
            have hcl := HY2.out.cell hpb
            have hfr := HY2.out.free (i := n + j) (by omega)
            have hzz := HY2.out.lt
            have hst := HY2.out.stored (i := n + j) (by rw [hlen]; omega) t[j]
            rw [put_next hg0 HPL.out] at hst
            have HST := Lib.hid hst
            have HGE := Lib.hid HY2.out.ge
            have hnat : ((n : Int) + (j : Int)).toNat = n + j := by omega
            clear hst hlen hroom hpb
            go_wp2_with (fail)
            go_roundw
            case rel => exact ⟨j + 1, hjt, by go_num, HB2.out.setCell (p := ⟨g, n + j, none⟩) HGE.out _, HST.out⟩
            case measure => simp [intOf]; omega
          · obtain rfl : j = t.length := by omega
            have hki2 : ¬ (t.length : Int) < (t.length : Int) := by omega
            have hc := HY2.out.convert L (by rw [put_stay (Nat.le_refl _) HPL.out, HYL.out])
            rw [HP.out] at hc
            go_wp2_with (fail)
            go_ret
            exact ⟨rfl, HB2.out⟩
end Go.Proofs.Ythnechlnaacgfaa
