/- wire: the reader's Num, Int, Text, items at ints, Nums, walked (written by wip/gen_wirex.py). -/
import Derived.Test.YtjncmlglhegnaaaGreatDoorWireT
namespace Go.Proofs.YtjncmlglhegnaaaGreatDoor
open Go.RowKit Go.Sort Go.Lib

set_option maxRecDepth 100000 in
set_option maxHeartbeats 1000000 in
theorem NumM_any {B : Nat} {w : World} {b : Nat} {r : RdV} (h : RdAt w b r) (hE : Env B w) (hB : B ≤ b) (hl : r.rest.length ≤ 140737488351232) (x : Int × RdV) (hx : natF r = x) :
    Calls Tryz.prog 100 #[.pointer (some ⟨b, 0, none⟩)] w (RdPost w b (.int .i64 x.1) x.2) := by
  have HA : Hid (Calls Tryz.prog 149 #[.pointer (some ⟨b, 0, none⟩), .int .u8 59, .int .i64 0] w (RdPost w b (.int .i64 x.1) x.2)) := Lib.hid (number_any h hE hB 59 0 hl x hx)
  clear hx hl h hE
  go_enter Tryz.func100, Tryz.ntmps100
  go_wp2_with ((with_reducible refine (HA.out).mono ?_); rintro _ w1 ⟨rfl, h1, g1⟩; have H1 := Lib.hid h1; have G1 := Lib.hid g1; clear h1 g1)
  go_ret
  exact ⟨rfl, H1.out, G1.out⟩
set_option maxRecDepth 100000 in
set_option maxHeartbeats 1000000 in
theorem IntM_any {B : Nat} {w : World} {b : Nat} {r : RdV} (h : RdAt w b r) (hE : Env B w) (hB : B ≤ b) (hl : r.rest.length ≤ 140737488351232) (x : Int × RdV) (hx : intF r = x) :
    Calls Tryz.prog 193 #[.pointer (some ⟨b, 0, none⟩)] w (RdPost w b (.int .i64 x.1) x.2) := by
  have HA : Hid (Calls Tryz.prog 149 #[.pointer (some ⟨b, 0, none⟩), .int .u8 59, .int .i64 (-9223372036854775808)] w (RdPost w b (.int .i64 x.1) x.2)) := Lib.hid (number_any h hE hB 59 (-9223372036854775808) hl x hx)
  clear hx hl h hE
  go_enter Tryz.func193, Tryz.ntmps193
  go_wp2_with ((with_reducible refine (HA.out).mono ?_); rintro _ w1 ⟨rfl, h1, g1⟩; have H1 := Lib.hid h1; have G1 := Lib.hid g1; clear h1 g1)
  go_ret
  exact ⟨rfl, H1.out, G1.out⟩
set_option maxRecDepth 100000 in
set_option maxHeartbeats 2000000 in
theorem Text_M {B : Nat} {w : World} {b : Nat} {r : RdV} (h : RdAt w b r) (hE : Env B w) (hB : B ≤ b) (hok : r.ok) (hl : r.rest.length ≤ 140737488351232) (x : List UInt8 × RdV) (hx : textF r = x) :
    Calls Tryz.prog 154 #[.pointer (some ⟨b, 0, none⟩)] w (RdPost w b (.string ⟨x.1.toArray⟩) x.2) := by
  obtain ⟨n, r1, hn⟩ : ∃ n r1, numF 58 0 r = (n, r1) := ⟨_, _, rfl⟩
  have HA : Hid (Calls Tryz.prog 149 #[.pointer (some ⟨b, 0, none⟩), .int .u8 58, .int .i64 0] w (RdPost w b (.int .i64 n) r1)) := Lib.hid (number_any h hE hB 58 0 hl _ hn)
  have hk := (numF_keeps (e := 58) (least := 0) hok).2
  rw [hn] at hk
  simp only at hk
  have hw := textF_ways hn x hx hok
  obtain ⟨l, bd⟩ := r1
  simp only at hw hk
  have hl2 : l.length ≤ 140737488351232 := by omega
  clear hn hx hok hl h hk hE
  have hsz := str_size l
  rcases hw with ⟨h1, rfl, rfl⟩ | ⟨k, rfl, rfl, ⟨h1, rfl⟩ | ⟨h1, h2, h3, rfl⟩ | ⟨h1, h2, h3, rfl⟩⟩
  · obtain ⟨rfl, rfl⟩ : l = [] ∧ bd = true := by injection h1; exact ⟨‹_›, ‹_›⟩
    have H2 : Hid (∀ W, RdAt W b ⟨[], true⟩ → Calls Tryz.prog 191 #[.pointer (some ⟨b, 0, none⟩), .string ⟨#[44]⟩] (W.setCell ⟨b, 0, none⟩ (.string ByteArray.empty)) (RdPost (W.setCell ⟨b, 0, none⟩ (.string ByteArray.empty)) b (.tuple #[]) .fail)) := Lib.hid (fun W h => close_any (h.set1 []) 44 _ rfl)
    have HG := Lib.hid (fun W : World => grownBy_setCell W ⟨b, 0, none⟩ (.string ByteArray.empty))
    clear h1
    go_enter Tryz.func154, Tryz.ntmps154
    go_wp2_with (first | ((with_reducible refine (HA.out).mono ?_); rintro _ w1 ⟨rfl, h1, g1⟩; have K1 := Lib.hid (H2.out w1 h1); have G1 := Lib.hid (g1.trans (HG.out w1)); obtain ⟨z, f1, f2⟩ := h1; clear g1) | ((with_reducible refine (K1.out).mono ?_); rintro _ w3 ⟨rfl, h1, g1⟩; have K3 := Lib.hid h1; have G3 := Lib.hid (G1.out.trans g1); clear g1; obtain ⟨z3, k3, e3⟩ := h1; simp only [RdV.fail] at k3))
    go_ret
    exact ⟨rfl, K3.out, G3.out⟩
  · have hki : (l.length : Int) < (k : Int) := by omega
    clear h1
    go_enter Tryz.func154, Tryz.ntmps154
    go_wp2_with (first | ((with_reducible refine (HA.out).mono ?_); rintro _ w1 ⟨rfl, h1, g1⟩; have H1 := Lib.hid (fail_any h1); have G1 := Lib.hid g1; obtain ⟨z, f1, f2⟩ := h1; clear g1) | ((with_reducible refine (H1.out).mono ?_); rintro _ w3 ⟨rfl, h1, g1⟩; have K1 := Lib.hid h1; have G3 := Lib.hid (G1.out.trans g1); clear h1 g1))
    go_ret
    exact ⟨rfl, K1.out, G3.out⟩
  · have hki : (k : Int) ≤ (l.length : Int) := by omega
    have hkn : (0 : Int) ≤ (k : Int) := by omega
    have hex := str_ext l 0 k
    rw [List.drop_zero] at hex
    have hex2 := str_ext l k l.length
    rw [List.take_length] at hex2
    generalize hdk : l.drop k = dk at *
    have H2 : Hid (∀ W, RdAt W b ⟨l, false⟩ → Calls Tryz.prog 191 #[.pointer (some ⟨b, 0, none⟩), .string ⟨#[44]⟩] (W.setCell ⟨b, 0, none⟩ (.string ⟨dk.toArray⟩)) (RdPost (W.setCell ⟨b, 0, none⟩ (.string ⟨dk.toArray⟩)) b (.tuple #[]) .fail)) := Lib.hid (fun W h => close_any (h.set1 dk) 44 _ h2)
    have HG := Lib.hid (fun W : World => grownBy_setCell W ⟨b, 0, none⟩ (.string ⟨dk.toArray⟩))
    generalize l.take k = tk at *
    clear h1 h3 hdk
    clear h2
    go_enter Tryz.func154, Tryz.ntmps154
    go_wp2_with (first | ((with_reducible refine (HA.out).mono ?_); rintro _ w1 ⟨rfl, h1, g1⟩; have K1 := Lib.hid (H2.out w1 h1); have G1 := Lib.hid (g1.trans (HG.out w1)); obtain ⟨z, f1, f2⟩ := h1; clear g1) | ((with_reducible refine (K1.out).mono ?_); rintro _ w3 ⟨rfl, h1, g1⟩; have K3 := Lib.hid h1; have G3 := Lib.hid (G1.out.trans g1); clear g1; obtain ⟨z3, k3, e3⟩ := h1; simp only [RdV.fail] at k3))
    go_ret
    exact ⟨rfl, K3.out, G3.out⟩
  · have hki : (k : Int) ≤ (l.length : Int) := by omega
    have hkn : (0 : Int) ≤ (k : Int) := by omega
    have hex := str_ext l 0 k
    rw [List.drop_zero] at hex
    have hex2 := str_ext l k l.length
    rw [List.take_length] at hex2
    generalize hdk : l.drop k = dk at *
    have H2 : Hid (∀ W, RdAt W b ⟨l, false⟩ → Calls Tryz.prog 191 #[.pointer (some ⟨b, 0, none⟩), .string ⟨#[44]⟩] (W.setCell ⟨b, 0, none⟩ (.string ⟨dk.toArray⟩)) (RdPost (W.setCell ⟨b, 0, none⟩ (.string ⟨dk.toArray⟩)) b (.tuple #[]) (closeF 44 ⟨dk, false⟩))) := Lib.hid (fun W h => close_any (h.set1 dk) 44 _ rfl)
    have HG := Lib.hid (fun W : World => grownBy_setCell W ⟨b, 0, none⟩ (.string ⟨dk.toArray⟩))
    generalize closeF 44 ⟨dk, false⟩ = r3 at *
    obtain ⟨l3, b3⟩ := r3
    simp only at h2
    subst h2
    generalize l.take k = tk at *
    clear h1 h3 hdk
    go_enter Tryz.func154, Tryz.ntmps154
    go_wp2_with (first | ((with_reducible refine (HA.out).mono ?_); rintro _ w1 ⟨rfl, h1, g1⟩; have K1 := Lib.hid (H2.out w1 h1); have G1 := Lib.hid (g1.trans (HG.out w1)); obtain ⟨z, f1, f2⟩ := h1; clear g1) | ((with_reducible refine (K1.out).mono ?_); rintro _ w3 ⟨rfl, h1, g1⟩; have K3 := Lib.hid h1; have G3 := Lib.hid (G1.out.trans g1); clear g1; obtain ⟨z3, k3, e3⟩ := h1; simp only at k3))
    go_ret
    exact ⟨rfl, K3.out, G3.out⟩
set_option maxRecDepth 100000 in
set_option maxHeartbeats 4000000 in
theorem items_int {B : Nat} {w : World} {b : Nat} {r : RdV} (h : RdAt w b r) (hE : Env B w) (hB : B ≤ b) (hok : r.ok) (hl : r.rest.length ≤ 1099511627776) (x : List (Int) × RdV) (hx : itemsF intF r = x) :
    Calls Tryz.prog 192 #[.pointer (some ⟨b, 0, none⟩), .func (.func 193) #[.pointer (some ⟨b, 0, none⟩)] #[]] w (ListPost intC 1 w b x) := by
  obtain ⟨i0, hi0, hi1, hi2, hi3⟩ := info_parts infoInt
  obtain ⟨n, r1, hn⟩ : ∃ n r1, numF 91 0 r = (n, r1) := ⟨_, _, rfl⟩
  have HA : Hid (Calls Tryz.prog 149 #[.pointer (some ⟨b, 0, none⟩), .int .u8 91, .int .i64 0] w (RdPost w b (.int .i64 n) r1)) := Lib.hid (number_any h hE hB 91 0 (by omega) _ hn)
  obtain ⟨N, rfl, hok1, hl1, hN⟩ := nat_of_num hok hn
  have HW := Lib.hid (fun xs ri (hr : runF intF N r1 = (xs, ri)) ho => itemsF_ways (ri := ri) hn (by rw [Int.toNat_natCast]; exact hr) ho x hx)
  have hL : r1.rest.length ≤ 1099511627776 := by omega
  have HL := Lib.hid hL
  have HB := Lib.hid (Loc.lt h)
  have HNN := Lib.hid hN
  have HOK := Lib.hid hok1
  have HE := Lib.hid (fun W (g : w.grownBy W (some b)) => hE.grown hB (Nat.le_of_lt (Nat.lt_of_le_of_lt hB HB.out)) g)
  clear hn hok hl h hx hok1 hl1 hL hN hE
  go_enter Tryz.func192, Tryz.ntmps192
  go_wp2_with ((with_reducible refine (HA.out).mono ?_); rintro _ w1 ⟨rfl, h1, g1⟩; have H1 := Lib.hid h1; have G1 := Lib.hid g1; clear h1 g1)
  go_loopw [5, 6] (fun sv iv wr => ∃ (i m : Nat) (xs : List (Int)) (ri : RdV) (A : Option Addr) (c : Nat), i + m = N ∧ iv = .int .i64 (m : Int) ∧ sv = .slice A xs.length c ∧ RunAt intF N r1 i xs ri ∧ RdAt wr b ri ∧ w.grownBy wr (some b) ∧ Own wr w.heap.size 3 1 (.slice A xs.length c) xs.length (xs.map intC)) (fun _ i _ => (Go.RowKit.intOf i).toNat)
  case atStart => exact ⟨0, N, [], r1, none, 0, Nat.zero_add _, rfl, rfl, RunAt.start HOK.out, H1.out, G1.out, Own.nil_ _ _ _ _⟩
  case round =>
    obtain ⟨i, m, xs, ri, A, c, him, rfl, rfl, hrun, hrd, hg, hown⟩ := hrel
    obtain ⟨wo, rfl⟩ : ∃ wo : World, wo = wr := ⟨_, rfl⟩
    have HR := Lib.hid hrun
    have HD := Lib.hid hrd
    have HG := Lib.hid hg
    have HO := Lib.hid hown
    have HIM := Lib.hid him
    have HEO := Lib.hid (HE.out wo hg)
    clear hrun hg hown H1 G1 him
    obtain ⟨z, f1, f2⟩ := hrd
    obtain ⟨l, bd⟩ := ri
    simp only at f1
    by_cases hgo : 0 < m ∧ bd = false
    · obtain ⟨hlt, rfl⟩ := hgo
      have hiN : i < N := by have := HIM.out; omega
      obtain ⟨m2, rfl⟩ : ∃ m2, m = m2 + 1 := ⟨m - 1, by omega⟩
      obtain ⟨mi, hmi⟩ : ∃ mi : Int, ((m2 + 1 : Nat) : Int) = mi := ⟨_, rfl⟩
      have hm0 : 0 < mi := by omega
      have hfew := HR.out.few
      have hmore := HR.out.more rfl
      have hlim := HL.out
      have HN := Lib.hid (RunAt.next intF_steps HR.out hiN rfl)
      obtain ⟨⟨v, r2⟩, hone⟩ : ∃ y, intF ⟨l, false⟩ = y := ⟨_, rfl⟩
      have HC := Lib.hid (IntM_any HD.out HEO.out hB (by have := HR.out.more rfl; have := HL.out; show l.length ≤ _; simp only at *; omega) _ hone)
      rw [hone] at HN
      have HMI := Lib.hid hmi
      have HT1 : Hid (xs.length + 1 ≤ maxLen) := Lib.hid (by simp only [maxLen]; omega)
      have HT2 : Hid ((xs.length + 1) * 8 ≤ 140737488355328) := Lib.hid (by omega)
      have hwi : IntKind.i64.wrap (mi - 1) = (m2 : Int) := by rw [show mi - 1 = (m2 : Int) by omega]; exact IntWalk.i64_in _ (by have := HNN.out; have := HIM.out; omega)
      rw [hmi]
      clear hlt hfew hmore hlim hone hmi hiN
      go_wp2_with (first
        | ((with_reducible refine (HC.out).mono ?_); rintro _ w2 ⟨rfl, h2, g2⟩; have H2 := Lib.hid h2; have G2 := Lib.hid (HG.out.trans g2); have O2 := Lib.hid (HO.out.kept g2 (.inr (own_ne HO.out.1 HB.out))); have HZ := Lib.hid (Nat.le_trans HG.out.size g2.size); clear h2 g2)
        | (at_builtin
           have t3 := Nat.le_trans HZ.out (alloc_le w2 (.cells #[.int .i64 v] 3))
           have q1 := O2.out.alloc (.cells #[.int .i64 v] 3)
           have q2 := Sl.new_ w2 3 [.int .i64 v]
           have q3 : ∀ x ∈ [[(.int .i64 v : Value)]], x.length = 1 := by simp
           have q4 : ∀ x ∈ [[(.int .i64 v : Value)]], ∀ u ∈ x, u.oneCell' = true := by simp [Value.oneCell']
           refine wpList_append_sl _ rfl (.tmp 20) (.tmp 23) 30 rfl w.heap.size 3 i0 _ 1 8 Tryz.underlying30 hi0 hi1 hi2 hi3 rfl Nat.one_pos (.slice A xs.length c) xs.length _ rfl q1 (some ⟨w2.heap.size, 0, none⟩) 1 1 [[.int .i64 v]] rfl q2 q3 q4 HT1.out HT2.out t3 ?_
           intro A4 c4 w4 hown hg hat
           have O4 := Lib.hid hown
           have G4 := Lib.hid (grown_over (G2.out.trans (World.grownBy_alloc _ _ _)) q1 hg)
           have H4 := Lib.hid ((H2.out.alloc _).grown hg (own_ne q1.1 HB.out))
           clear hown hg hat q1 q2 q3 q4 t3))
      go_roundw
      case rel => exact ⟨i + 1, m2, xs ++ [v], r2, A4, c4, by have := HIM.out; omega, rfl, by simp, HN.out, H4.out, G4.out, by have h := O4.out; simp only [List.length_append, List.length_singleton, List.map_append, List.map_cons, List.map_nil]; exact h⟩
      case measure => have := HMI.out; simp [Go.RowKit.intOf]; omega
    · have hst : i = N ∨ bd = true := by
        cases bd
        · left; have : ¬ 0 < m := fun h => hgo ⟨h, rfl⟩; have := HIM.out; omega
        · exact .inr rfl
      have hx := HW.out _ _ (HR.out.stop hst) HR.out.ok
      clear hgo
      rcases hx with ⟨h1, rfl⟩ | ⟨h1, h2, h3, rfl⟩ | ⟨h1, h2, h3, hxe⟩
      · obtain ⟨rfl, rfl⟩ : l = [] ∧ bd = true := by injection h1; exact ⟨‹_›, ‹_›⟩
        have HC : Hid (Calls Tryz.prog 191 #[.pointer (some ⟨b, 0, none⟩), .string ⟨#[93]⟩] wo (RdPost wo b (.tuple #[]) .fail)) := Lib.hid (close_any HD.out 93 _ rfl)
        clear h1 hst
        by_cases hlt : 0 < m
        · have hki : (0 : Int) < (m : Int) := by omega
          clear hlt
          go_wp2_with ((with_reducible refine (HC.out).mono ?_); rintro _ w3 ⟨rfl, h1, g1⟩; have H3 := Lib.hid h1; have G3 := Lib.hid (HG.out.trans g1); clear g1; obtain ⟨z3, k3, e3⟩ := h1; simp only [RdV.fail] at k3)
          go_ret
          exact ⟨none, 0, rfl, SlF.nil_ _ _ _, H3.out, G3.out⟩
        · have hki : (m : Int) ≤ 0 := by omega
          clear hlt
          go_wp2_with ((with_reducible refine (HC.out).mono ?_); rintro _ w3 ⟨rfl, h1, g1⟩; have H3 := Lib.hid h1; have G3 := Lib.hid (HG.out.trans g1); clear g1; obtain ⟨z3, k3, e3⟩ := h1; simp only [RdV.fail] at k3)
          go_ret
          exact ⟨none, 0, rfl, SlF.nil_ _ _ _, H3.out, G3.out⟩
      · simp only at h1
        subst h1
        have hki : (m : Int) ≤ 0 := by have := HIM.out; rcases hst with h | h; omega; cases h
        have HC : Hid (Calls Tryz.prog 191 #[.pointer (some ⟨b, 0, none⟩), .string ⟨#[93]⟩] wo (RdPost wo b (.tuple #[]) .fail)) := Lib.hid (close_any HD.out 93 _ h3)
        clear h2 h3 hst
        go_wp2_with ((with_reducible refine (HC.out).mono ?_); rintro _ w3 ⟨rfl, h1, g1⟩; have H3 := Lib.hid h1; have G3 := Lib.hid (HG.out.trans g1); clear g1; obtain ⟨z3, k3, e3⟩ := h1; simp only [RdV.fail] at k3)
        go_ret
        exact ⟨none, 0, rfl, SlF.nil_ _ _ _, H3.out, G3.out⟩
      · simp only at h1
        subst h1
        have hki : (m : Int) ≤ 0 := by have := HIM.out; rcases hst with h | h; omega; cases h
        obtain ⟨r3, hr3⟩ : ∃ r3, closeF 93 ⟨l, false⟩ = r3 := ⟨_, rfl⟩
        have HC : Hid (Calls Tryz.prog 191 #[.pointer (some ⟨b, 0, none⟩), .string ⟨#[93]⟩] wo (RdPost wo b (.tuple #[]) r3)) := Lib.hid (close_any HD.out 93 _ hr3)
        rw [hr3] at h3 hxe
        subst hxe
        obtain ⟨l3, b3⟩ := r3
        simp only at h3
        subst h3
        clear h2 hst hr3
        go_wp2_with ((with_reducible refine (HC.out).mono ?_); rintro _ w3 ⟨rfl, h1, g1⟩; have H3 := Lib.hid h1; have G3 := Lib.hid (HG.out.trans g1); have O3 := Lib.hid (HO.out.kept g1 (.inr (own_ne HO.out.1 HB.out))); clear g1; obtain ⟨z3, k3, e3⟩ := h1; simp only at k3)
        go_ret
        exact ⟨A, c, rfl, ⟨Own.sl' O3.out, O3.out.fresh⟩, H3.out, G3.out⟩
set_option maxRecDepth 100000 in
set_option maxHeartbeats 1000000 in
theorem NumsM_any {B : Nat} {w : World} {b : Nat} {r : RdV} (h : RdAt w b r) (hE : Env B w) (hB : B ≤ b) (hok : r.ok) (hl : r.rest.length ≤ 1099511627776) (x : List (Int) × RdV) (hx : itemsF intF r = x) :
    Calls Tryz.prog 157 #[.pointer (some ⟨b, 0, none⟩)] w (ListPost intC 1 w b x) := by
  have HC := Lib.hid (items_int h hE hB hok hl x hx)
  clear hE hok hl hx h
  go_enter Tryz.func157, Tryz.ntmps157
  go_wp2_with ((with_reducible refine (HC.out).mono ?_); rintro _ w1 ⟨A, c, rfl, h1, h2, h3⟩; have H1 := Lib.hid h1; have H2 := Lib.hid h2; have H3 := Lib.hid h3; clear h1 h2 h3)
  go_ret
  exact ⟨A, c, rfl, H1.out, H2.out, H3.out⟩
end Go.Proofs.YtjncmlglhegnaaaGreatDoor
