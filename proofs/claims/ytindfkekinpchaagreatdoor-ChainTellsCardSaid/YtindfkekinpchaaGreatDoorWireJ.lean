/- wire: the reference reader's Nums, walked (written by wip/gen_wirej.py). -/
import Derived.Test.YtindfkekinpchaaGreatDoorWireI
namespace Go.Proofs.YtindfkekinpchaaGreatDoor
open Go.RowKit Go.Sort Go.Lib

set_option maxRecDepth 100000 in
set_option maxHeartbeats 4000000 in
theorem RNums_M {w : World} {b : Nat} {r : RdV} (h : RdAt w b r) (hok : r.ok) (hl : r.rest.length ≤ 1099511627776) (x : List (Int) × RdV) (hx : itemsF intF r = x) :
    Calls Tryz.prog 40 #[.pointer (some ⟨b, 0, none⟩)] w (ListPost intC 1 w b x) := by
  obtain ⟨i0, hi0, hi1, hi2, hi3⟩ := info_parts infoInt
  obtain ⟨n, r1, hn⟩ : ∃ n r1, numF 91 0 r = (n, r1) := ⟨_, _, rfl⟩
  have HA : Hid (Calls Tryz.prog 59 #[.pointer (some ⟨b, 0, none⟩), .int .u8 91] w (RdPost w b (.int .i64 n) r1)) := Lib.hid (Rnumber_any h 91 (by omega) _ hn)
  obtain ⟨N, rfl, hok1, hl1, hN⟩ := nat_of_num hok hn
  have HW := Lib.hid (fun xs ri (hr : runF intF N r1 = (xs, ri)) ho => itemsF_ways (ri := ri) hn (by rw [Int.toNat_natCast]; exact hr) ho x hx)
  have hL : r1.rest.length ≤ 1099511627776 := by omega
  have HL := Lib.hid hL
  have HB := Lib.hid (Loc.lt h)
  have HNN := Lib.hid hN
  have HOK := Lib.hid hok1
  clear hn hok hl h hx hok1 hl1 hL hN
  go_enter Tryz.func40, Tryz.ntmps40
  go_wp2_with ((with_reducible refine (HA.out).mono ?_); rintro _ w1 ⟨rfl, h1, g1⟩; have H1 := Lib.hid h1; have G1 := Lib.hid g1; clear h1 g1)
  go_loopw [4, 5] (fun sv iv wr => ∃ (i : Nat) (xs : List (Int)) (ri : RdV) (A : Option Addr) (c : Nat), iv = .int .i64 (i : Int) ∧ sv = .slice A xs.length c ∧ RunAt intF N r1 i xs ri ∧ RdAt wr b ri ∧ w.grownBy wr (some b) ∧ Own wr w.heap.size 3 1 (.slice A xs.length c) xs.length (xs.map intC)) (fun _ i _ => N - (Go.RowKit.intOf i).toNat)
  case atStart => exact ⟨0, [], r1, none, 0, rfl, rfl, RunAt.start HOK.out, H1.out, G1.out, Own.nil_ _ _ _ _⟩
  case round =>
    obtain ⟨i, xs, ri, A, c, rfl, rfl, hrun, hrd, hg, hown⟩ := hrel
    obtain ⟨wo, rfl⟩ : ∃ wo : World, wo = wr := ⟨_, rfl⟩
    have HR := Lib.hid hrun
    have HD := Lib.hid hrd
    have HG := Lib.hid hg
    have HO := Lib.hid hown
    have hiN := hrun.le
    clear hrun hg hown H1 G1
    obtain ⟨z, f1, f2⟩ := hrd
    have hi0' : (0 : Int) ≤ (i : Int) := by omega
    obtain ⟨l, bd⟩ := ri
    simp only at f1
    by_cases hgo : i < N ∧ bd = false
    · obtain ⟨hlt, rfl⟩ := hgo
      have hki : (i : Int) < (N : Int) := by omega
      have hfew := HR.out.few
      have hmore := HR.out.more rfl
      have hlim := HL.out
      have hb1 : xs.length ≤ 1099511627777 := by omega
      have HN := Lib.hid (RunAt.next intF_steps HR.out hlt rfl)
      obtain ⟨⟨v, r2⟩, hone⟩ : ∃ y, intF ⟨l, false⟩ = y := ⟨_, rfl⟩
      have HC := Lib.hid (RIntM_any HD.out (by have := HR.out.more rfl; have := HL.out; show l.length ≤ _; simp only at *; omega) _ hone)
      rw [hone] at HN
      have HLT := Lib.hid hlt
      have HT1 : Hid (xs.length + 1 ≤ maxLen) := Lib.hid (by simp only [maxLen]; omega)
      have HT2 : Hid ((xs.length + 1) * 8 ≤ 140737488355328) := Lib.hid (by omega)
      have hwi : IntKind.i64.wrap ((i : Int) + 1) = (i : Int) + 1 := IntWalk.i64_in _ (by have := HNN.out; omega)
      clear hlt hfew hmore hlim hone hiN hb1
      go_wp2_with (first
        | ((with_reducible refine (HC.out).mono ?_); rintro _ w2 ⟨rfl, h2, g2⟩; have H2 := Lib.hid h2; have G2 := Lib.hid (HG.out.trans g2); have O2 := Lib.hid (HO.out.kept g2 (.inr (own_ne HO.out.1 HB.out))); have HZ := Lib.hid (Nat.le_trans HG.out.size g2.size); clear h2 g2)
        | (at_builtin
           have t3 := Nat.le_trans HZ.out (alloc_le w2 (.cells #[.int .i64 v] 3))
           have q1 := O2.out.alloc (.cells #[.int .i64 v] 3)
           have q2 := Sl.new_ w2 3 [.int .i64 v]
           have q3 : ∀ x ∈ [[(.int .i64 v : Value)]], x.length = 1 := by simp
           have q4 : ∀ x ∈ [[(.int .i64 v : Value)]], ∀ u ∈ x, u.oneCell' = true := by simp [Value.oneCell']
           refine wpList_append_sl _ rfl (.tmp 20) (.tmp 23) 23 rfl w.heap.size 3 i0 _ 1 8 Tryz.underlying23 hi0 hi1 hi2 hi3 rfl Nat.one_pos (.slice A xs.length c) xs.length _ rfl q1 (some ⟨w2.heap.size, 0, none⟩) 1 1 [[.int .i64 v]] rfl q2 q3 q4 HT1.out HT2.out t3 ?_
           intro A4 c4 w4 hown hg hat
           have O4 := Lib.hid hown
           have G4 := Lib.hid (grown_over (G2.out.trans (World.grownBy_alloc _ _ _)) q1 hg)
           have H4 := Lib.hid ((H2.out.alloc _).grown hg (own_ne q1.1 HB.out))
           clear hown hg hat q1 q2 q3 q4 t3))
      go_roundw
      case rel => exact ⟨i + 1, xs ++ [v], r2, A4, c4, by go_num, by simp, HN.out, H4.out, G4.out, by have h := O4.out; simp only [List.length_append, List.length_singleton, List.map_append, List.map_cons, List.map_nil]; exact h⟩
      case measure => have := HLT.out; simp [Go.RowKit.intOf]; omega
    · have hst : i = N ∨ bd = true := by
        cases bd
        · left; have : ¬ i < N := fun h => hgo ⟨h, rfl⟩; omega
        · exact .inr rfl
      have hx := HW.out _ _ (HR.out.stop hst) HR.out.ok
      have hmo := HR.out.more
      have hlim := HL.out
      clear hgo
      rcases hx with ⟨h1, rfl⟩ | ⟨h1, h2, h3, rfl⟩ | ⟨h1, h2, h3, hxe⟩
      · obtain ⟨rfl, rfl⟩ : l = [] ∧ bd = true := by injection h1; exact ⟨‹_›, ‹_›⟩
        clear h1 hst hmo hlim
        by_cases hlt : i < N
        · have hki : (i : Int) < (N : Int) := by omega
          clear hlt hiN
          go_wp2_with (fail)
          go_ret
          exact ⟨none, 0, rfl, SlF.nil_ _ _ _, HD.out, HG.out⟩
        · have hki : (N : Int) ≤ (i : Int) := by omega
          clear hlt hiN
          go_wp2_with (fail)
          go_ret
          exact ⟨none, 0, rfl, SlF.nil_ _ _ _, HD.out, HG.out⟩
      · simp only at h1
        subst h1
        obtain rfl : i = N := by rcases hst with h | h; exact h; cases h
        have hki : (i : Int) ≤ (i : Int) := Int.le_refl _
        have hl4 : l.length ≤ 140737488351232 := by have := hmo rfl; simp only at this; omega
        have HC := Lib.hid (Rclose93 HD.out _ h3 hl4 false h2)
        clear h2 h3 hst hmo hlim hiN hl4
        go_wp2_with ((with_reducible refine (HC.out).mono ?_); rintro _ w3 ⟨rfl, h1, g1⟩; have H3 := Lib.hid h1; have G3 := Lib.hid (HG.out.trans g1); clear h1 g1)
        go_ret
        exact ⟨none, 0, rfl, SlF.nil_ _ _ _, H3.out, G3.out⟩
      · simp only at h1
        subst h1
        obtain rfl : i = N := by rcases hst with h | h; exact h; cases h
        have hki : (i : Int) ≤ (i : Int) := Int.le_refl _
        have hl4 : l.length ≤ 140737488351232 := by have := hmo rfl; simp only at this; omega
        obtain ⟨r3, hr3⟩ : ∃ r3, closeF 93 ⟨l, false⟩ = r3 := ⟨_, rfl⟩
        have HC := Lib.hid (Rclose93 HD.out _ hr3 hl4 true h2)
        rw [hr3] at h3 hxe
        subst hxe
        clear h2 hst hmo hlim hiN hl4 hr3
        go_wp2_with ((with_reducible refine (HC.out).mono ?_); rintro _ w3 ⟨rfl, h1, g1⟩; have H3 := Lib.hid h1; have G3 := Lib.hid (HG.out.trans g1); have O3 := Lib.hid (HO.out.kept g1 (.inr (own_ne HO.out.1 HB.out))); clear h1 g1)
        go_ret
        exact ⟨A, c, rfl, ⟨Own.sl' O3.out, O3.out.fresh⟩, H3.out, G3.out⟩
end Go.Proofs.YtindfkekinpchaaGreatDoor
