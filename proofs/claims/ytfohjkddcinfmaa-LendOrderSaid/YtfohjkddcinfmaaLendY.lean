/- World.do, all acts; LendNever, walked. -/
import Derived.Test.YtfohjkddcinfmaaLendP
import Derived.Test.YtfohjkddcinfmaaLendQ2
import Derived.Test.YtfohjkddcinfmaaLendQ4
import Derived.Test.YtfohjkddcinfmaaLendG
namespace Go.Proofs.Ytfohjkddcinfmaa
open Go.RowKit
section
variable {w : World} {B base : Nat} {st : St} {A : Option Addr} {c : Nat} {D : Option Addr} {cd : Nat} {R : Option Addr} {cr : Nat} {rs : List Value}

set_option maxRecDepth 100000 in
set_option maxHeartbeats 4000000 in
theorem do_idle (h : WAt w B base st A c D cd R cr rs) (d v l u o : Int) (ha : ActV.ok ⟨d, v, l, u, o⟩) (hd : 2 ≤ d % 5) (hn : st.dev.length = 0) :
    Calls Try.prog 25 #[.pointer (some ⟨B, 0, none⟩), .agg #[.int .u8 d, .int .u8 v, .int .u8 l, .int .u8 u, .int .u8 o]] w (DoRet w B base st) := by
  simp only [ActV.ok] at ha
  obtain ⟨⟨a1, a2⟩, ⟨a3, a4⟩, ⟨a5, a6⟩, ⟨a7, a8⟩, a9, a10⟩ := ha
  have hd0 : (d % 5 == 0) = false := by simp; omega
  have hd1 : (d % 5 == 1) = false := by simp; omega
  have H := Lib.hid h
  have hloc := h.loc
  rw [hn] at hloc
  obtain ⟨zB, kB, fB⟩ := hloc
  have h5 : d % 5 = 2 ∨ d % 5 = 3 ∨ d % 5 = 4 := by omega
  have hfin : DoRet w B base st (.returned (.bool true)) (w.alloc (.cells #[.int .u8 d, .int .u8 v, .int .u8 l, .int .u8 u, .int .u8 o] 47)) := do_same h (Below.refl _ _) zB (below_alloc w _)
  have HFIN := Lib.hid hfin
  clear h hd hn hfin
  rcases h5 with h5 | h5 | h5
  · have hd2 : (d % 5 == 2) = true := by simp; omega
    clear h5
    go_enter Try.func25, Try.ntmps25
    go_wp2_with (fail)
    go_ret
    exact HFIN.out
  · have hd2 : (d % 5 == 2) = false := by simp; omega
    have hd3 : (d % 5 == 3) = true := by simp; omega
    clear h5
    go_enter Try.func25, Try.ntmps25
    go_wp2_with (fail)
    go_ret
    exact HFIN.out
  · have hd2 : (d % 5 == 2) = false := by simp; omega
    have hd3 : (d % 5 == 3) = false := by simp; omega
    have hd4 : (d % 5 == 4) = true := by simp; omega
    clear h5
    go_enter Try.func25, Try.ntmps25
    go_wp2_with (fail)
    go_ret
    exact HFIN.out

theorem do_any {T : Int} (hj : J st T) (h : WAt w B base st A c D cd R cr rs) (d v l u o : Int) (ha : ActV.ok ⟨d, v, l, u, o⟩) (hn : st.dev.length ≤ 1000) (hr : ∀ ys ∈ st.rep, ys.length ≤ 1000) :
    Calls Try.prog 25 #[.pointer (some ⟨B, 0, none⟩), .agg #[.int .u8 d, .int .u8 v, .int .u8 l, .int .u8 u, .int .u8 o]] w (DoRet w B base (stepF st ⟨d, v, l, u, o⟩)) := by
  have hd5 : 0 ≤ d % 5 ∧ d % 5 < 5 := by omega
  unfold stepF
  by_cases h0 : d % 5 = 0
  · rw [if_pos h0]; exact do_own h d v l u o ha h0 hn
  rw [if_neg h0]
  by_cases h1 : d % 5 = 1
  · rw [if_pos h1]; exact do_lend hj h d v l u o ha h1 hn
  rw [if_neg h1]
  by_cases hz : st.dev.length = 0
  · have : st.dev[actLoan st ⟨d, v, l, u, o⟩]? = none := by rw [List.getElem?_eq_none_iff]; omega
    rw [this]
    exact do_idle h d v l u o ha (by omega) hz
  · obtain ⟨k, hk, hkl⟩ := pick_index (n := st.dev.length) (by omega) l
    have hal : actLoan st ⟨d, v, l, u, o⟩ = k := by unfold actLoan; simp only []; rw [hkl]; rfl
    obtain ⟨x, hx⟩ : ∃ x, st.dev[k]? = some x := ⟨_, List.getElem?_eq_getElem hk⟩
    obtain ⟨ys, hy⟩ : ∃ ys, st.rep[k]? = some ys := ⟨_, List.getElem?_eq_getElem (by rw [hj.lr]; exact hk)⟩
    have hyl := hr ys (List.mem_of_getElem? hy)
    rw [hal, hx, hy]
    simp only []
    by_cases h2 : d % 5 = 2
    · rw [if_pos h2]; exact do_spend hj h d v l u o ha h2 hn k hkl x hx ys hy hyl
    rw [if_neg h2]
    by_cases h3 : d % 5 = 3
    · rw [if_pos h3]; exact do_return hj h d v l u o ha h3 hn k hkl x hx ys hy hyl
    rw [if_neg h3]
    exact do_merge hj h d v l u o ha (by omega) hn k hkl x hx ys hy hyl

/-- how the lengths grow -/
structure Len (st : St) (k : Nat) : Prop where
  dev : st.dev.length ≤ k
  rep : ∀ ys ∈ st.rep, ys.length ≤ k + 1
theorem Len.step {k : Nat} (h : Len st k) (a : ActV) : Len (stepF st a) (k + 1) := by
  have h0 : Len st (k + 1) := ⟨Nat.le_succ_of_le h.dev, fun ys hy => Nat.le_succ_of_le (h.rep ys hy)⟩
  have hput : ∀ i l ys, st.rep[i]? = some ys → Len (putDev st i l ys) (k + 1) := by
    intro i l ys hys
    refine ⟨by simp only [putDev, List.length_set]; exact h0.dev, fun zs hz => ?_⟩
    rcases List.mem_or_eq_of_mem_set hz with hz | rfl
    · exact h0.rep zs hz
    · have := h.rep ys (List.mem_of_getElem? hys)
      simp only [List.length_append, List.length_singleton]; omega
  unfold stepF
  split
  · unfold stepOwn; split
    · exact ⟨h0.dev, h0.rep⟩
    · exact h0
  split
  · unfold stepLend; split
    · refine ⟨by have := h.dev; simp only [List.length_append, List.length_singleton]; omega, fun zs hz => ?_⟩
      rcases List.mem_append.1 hz with hz | hz
      · exact h0.rep zs hz
      · simp only [List.mem_singleton] at hz; subst hz; simp
    · exact h0
  split
  · rename_i l rs' _ hrs
    split
    · unfold stepDev; split
      · exact hput _ _ _ hrs
      · exact h0
    split
    · unfold stepDev; split
      · exact hput _ _ _ hrs
      · exact h0
    · exact ⟨h0.dev, h0.rep⟩
  · exact h0
end

theorem spentOf_take {ds : List LoanV} {k : Nat} {l : LoanV} (h : ds[k]? = some l) : spentOf (ds.take (k + 1)) = spentOf (ds.take k) + l.spent := by
  rw [take_snoc_of h]; simp [spentOf]

/-- what stands at the head of a round -/
def NeverAt (w : World) (B n : Nat) (T : Int) (k : Nat) (wr : World) : Prop :=
  ∃ st A c D cd R cr rs, k ≤ n ∧ J st T ∧ WAt wr B (B + 1) st A c D cd R cr rs ∧ Len st k ∧ Below w.heap.size w wr

set_option maxRecDepth 100000 in
set_option maxHeartbeats 4000000 in
theorem never_any (T : Int) (hT0 : 0 ≤ T) (hT1 : T ≤ 255) (A : Option Addr) (n c : Nat) (acs : List ActV) (w : World) (hs : Sl w 5 A n (acs.map ActV.cells)) (hok : ∀ a ∈ acs, a.ok) (hn : n ≤ maxLen) :
    Calls Try.prog 4 #[.int .u8 T, .slice A n c] w fun e w' => e = .returned (.bool true) ∧ Below w.heap.size w w' := by
  unfold maxLen at hn
  have hl : acs.length = n := by simpa using hs.1
  have HS := Lib.hid hs
  have HL := Lib.hid hl
  have HO := Lib.hid hok
  have HB := Lib.hid (Below.refl w.heap.size w)
  clear hs hl hok
  by_cases h60 : 60 < n
  · have h60' : (60 : Int) < (n : Int) := by omega
    go_enter Try.func4, Try.ntmps4
    go_wp2_with (fail)
    ((with_reducible refine (sane_any _).mono ?_); rintro e w1 ⟨rfl, hb⟩)
    have hbT := hb
    replace HB := Lib.hid (HB.out.trans (hbT.mono HB.out.size))
    clear hbT hb 
    go_wp2_with (fail)
    go_ret
    exact ⟨rfl, HB.out⟩
  have h60' : (n : Int) ≤ 60 := by omega
  have hn60 : n ≤ 60 := by omega
  clear h60
  go_enter Try.func4, Try.ntmps4
  go_wp2_with (fail)
  ((with_reducible refine (sane_any _).mono ?_); rintro e w1 ⟨rfl, hb⟩)
  have hbT := hb
  replace HB := Lib.hid (HB.out.trans (hbT.mono HB.out.size))
  clear hbT hb 
  have hz1 := HB.out.size
  have hst : NeverAt w w1.heap.size n T 0 (w1.alloc (.cells #[.int .i64 T, .int .i64 0, .slice none 0 0, .slice none 0 0, .slice none 0 0] 44)) := by
    refine ⟨⟨⟨T, 0, []⟩, [], []⟩, none, 0, none, 0, none, 0, [], Nat.zero_le _, J.init hT0 (by omega), ⟨Loc.new_ _ _ _, Nat.lt_succ_self _, by simp, Sl.nil_ _ _ _, (fun ad e => by cases e), Own.nil_ _ _ _ _, Own.nil_ _ _ _ _, (fun k v ls hv => by simp at hv), (fun h => absurd rfl h), Dis.none _ _ _, (fun k v hv => by simp at hv), (fun k v hv => by simp at hv), (fun j k v u _ hv => by simp at hv)⟩, ⟨by simp, (fun ys hy => by simp at hy)⟩, HB.out.alloc HB.out.size _⟩
  have HST := Lib.hid hst
  clear hst
  go_wp2_with (fail)
  go_loopw [7] (fun i wr => ∃ k : Nat, i = .int .i64 k ∧ NeverAt w w1.heap.size n T k wr) (fun i _ => n - (intOf i).toNat)
  case atStart => exact ⟨0, rfl, HST.out⟩
  case round =>
    obtain ⟨k, rfl, st, A2, c2, D, cd, R, cr, rs, hk, hj, hW, hlen, hb⟩ := hrel
    have HJ := Lib.hid hj
    have HW := Lib.hid hW
    have HLN := Lib.hid hlen
    have HBR := Lib.hid hb
    clear hj hW hlen
    by_cases hlt : k < n
    · obtain ⟨⟨d, v, l, u, o⟩, hx⟩ : ∃ x, acs[k]? = some x := ⟨acs[k]'(by have := HL.out; omega), List.getElem?_eq_getElem _⟩
      have hak := HO.out _ (List.mem_of_getElem? hx)
      obtain ⟨b, off, rfl, hbb, hc⟩ := (HS.out.below hb).2 k (ActV.cells ⟨d, v, l, u, o⟩) (by rw [List.getElem?_map, hx]; rfl)
      have x0 : wr.cell? ⟨b, off + k * 5, none⟩ = some (.int .u8 d) := hc 0 _ rfl
      have x1 : wr.cell? ⟨b, off + k * 5 + 1, none⟩ = some (.int .u8 v) := hc 1 _ rfl
      have x2 : wr.cell? ⟨b, off + k * 5 + 2, none⟩ = some (.int .u8 l) := hc 2 _ rfl
      have x3 : wr.cell? ⟨b, off + k * 5 + 3, none⟩ = some (.int .u8 u) := hc 3 _ rfl
      have x4 : wr.cell? ⟨b, off + k * 5 + 4, none⟩ = some (.int .u8 o) := hc 4 _ rfl
      have HA := Lib.hid hak
      clear hc hx hak hb
      have hi0 : (0 : Int) ≤ (k : Int) := by omega
      have hi1 : (k : Int) < (n : Int) := by omega
      go_wp2_with (fail)
      ((with_reducible refine (do_any HJ.out HW.out d v l u o HA.out ?hd1 ?hd2).mono ?_))
      case hd1 => have := HLN.out.dev; omega
      case hd2 => intro ys hy; have := HLN.out.rep ys hy; omega
      rintro e w2 ⟨rfl, hb2, A3, c3, D3, cd3, R3, cr3, rs3, hW3⟩
      have HJ2 := Lib.hid (HJ.out.step ⟨d, v, l, u, o⟩)
      have HL2 := Lib.hid (HLN.out.step ⟨d, v, l, u, o⟩)
      have HB2 := Lib.hid (HBR.out.trans (hb2.mono hz1))
      clear hb2 x0 x1 x2 x3 x4 hbb HW HJ HLN HBR HA
      generalize stepF st ⟨d, v, l, u, o⟩ = st' at *
      have HW3 := Lib.hid hW3
      clear hW3
      obtain ⟨⟨t, s, ls⟩, dev, rep⟩ := st'
      obtain rfl : t = T := HJ2.out.total
      obtain ⟨zB, kB, fB⟩ := HW3.out.loc
      simp only [] at kB
      have hnv := HJ2.out.never
      have hsp := HJ2.out.spent_nonneg
      have hdl := HL2.out.dev
      simp only [] at hnv hsp hdl
      have HSP := Lib.hid hsp
      have hs0 : 0 ≤ s ∧ s ≤ 1099511627776 := by
        have h1 := (free_of HJ2.out.right).1
        simp only [StockV.small, Bool.and_eq_true, decide_eq_true_eq] at h1
        omega
      obtain ⟨F, hF⟩ : ∃ F, max (StockV.free ⟨t, s, ls⟩).1 0 = F := ⟨_, rfl⟩
      have hF0 : 0 ≤ F ∧ F ≤ t - (s + spentOf dev) := by omega
      obtain ⟨F1, F2⟩ := hF0
      obtain ⟨s1, s2⟩ := hs0
      have hsum : s + spentOf dev ≤ t := hnv.1
      have HFF := Lib.hid hF
      have HRT := Lib.hid (show (StockV.free ⟨t, s, ls⟩).2 = true from HJ2.out.right)
      clear hsp hF hnv
      go_wp2_with (fail)
      go_loop [8, 9] (fun sp kk => ∃ (m : Nat) (z : Int), m ≤ dev.length ∧ kk = .int .i64 m ∧ sp = .int .i64 z ∧ z = s + spentOf (dev.take m) ∧ 0 ≤ z ∧ z ≤ 1099511627776 * ((m : Int) + 1)) (fun _ kk => dev.length - (intOf kk).toNat)
      case atStart => exact ⟨0, s, Nat.zero_le _, rfl, rfl, by simp [spentOf], by omega, by omega⟩
      case round =>
        obtain ⟨m, z, hm, rfl, rfl, hz, hz0, hz2⟩ := hrel
        have HZ := Lib.hid hz
        clear hz
        by_cases hmlt : m < dev.length
        · obtain ⟨x, hx⟩ : ∃ x, dev[m]? = some x := ⟨_, List.getElem?_eq_getElem hmlt⟩
          obtain ⟨gD, rfl, _, zD, ⟨_, _, y2, _⟩, _⟩ := HW3.out.device hx
          have hxs := HSP.out x (List.mem_of_getElem? hx)
          have hst := spentOf_take hx
          have HT := Lib.hid hst
          obtain ⟨xd, xu, xs, xb⟩ := x
          simp only [] at hxs y2
          obtain ⟨v1, v2, v3⟩ := hxs
          have hm0 : (0 : Int) ≤ (m : Int) := by omega
          have hm1 : (m : Int) < (dev.length : Int) := by omega
          have HX := Lib.hid hx
          clear hst hx
          go_wp2_with (fail)
          go_round
          case rel => exact ⟨m + 1, z + xs, by omega, by go_num, by go_num, by rw [HT.out, HZ.out]; simp only []; omega, by omega, by omega⟩
          case measure => simp [intOf]; omega
        · obtain rfl : m = dev.length := by omega
          have hz3 : z = s + spentOf dev := by have := HZ.out; rwa [List.take_of_length_le (Nat.le_refl _)] at this
          have z1 : z ≤ t := by omega
          have z4 : F ≤ t - z := by omega
          clear hz3
          go_wp2_with (fail)
          ((with_reducible refine (Free_any t s A3 ls.length c3 ls _ HW3.out.sl F HFF.out).mono ?_); rintro e w5 ⟨rfl, hb5⟩)
          have HW5 := Lib.hid (HW3.out.below hb5)
          have HB5 := Lib.hid (HB2.out.trans (hb5.mono HB2.out.size))
          clear zB kB fB hb5
          obtain ⟨zB, kB, fB⟩ := HW5.out.loc
          simp only [] at kB
          go_wp2_with (fail)
          ((with_reducible refine (Right_any t s A3 ls.length c3 ls _ HW5.out.sl true HRT.out).mono ?_); rintro e w6 ⟨rfl, hb6⟩)
          have HW6 := Lib.hid (HW5.out.below hb6)
          have HB6 := Lib.hid (HB5.out.trans (hb6.mono HB5.out.size))
          clear zB kB fB hb6
          obtain ⟨zB, kB, fB⟩ := HW6.out.loc
          simp only [] at kB
          have ht : (t != t) = false := by simp
          go_wp2_with (fail)
          go_roundw
          case rel => exact ⟨k + 1, by go_num, _, _, _, _, _, _, _, _, by omega, HJ2.out, HW6.out, HL2.out, HB6.out⟩
          case measure => simp [intOf]; omega
    · obtain rfl : k = n := by omega
      go_wp2_with (fail)
      go_ret
      exact ⟨rfl, hb⟩
end Go.Proofs.Ytfohjkddcinfmaa
