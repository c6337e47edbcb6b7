/- LendOrder, walked. -/
import Derived.Test.YtfohjkddcinfmaaLendY
import Derived.Test.YtfohjkddcinfmaaLendZ
import Derived.Test.YtfohjkddcinfmaaLendX
import Derived.Test.YtfohjkddcinfmaaLendQ3

import Derived.Deep.DeepCutAuto
import Derived.Outline
namespace Go.Proofs.Ytfohjkddcinfmaa
open Go.RowKit

/-- a box whose stock may be replaced: the slice does not lie in it -/
structure Bx (w : World) (ba bb N : Nat) (S' : StockV) (A : Option Addr) (c : Nat) : Prop where
  len : S'.loans.length = N
  sl : Sl w 4 A N (S'.loans.map LoanV.cells)
  far : ∀ ad, A = some ad → ad.block ≠ ba ∧ ad.block ≠ bb
/-- the head of a round of the second loop -/
def OrderAt (wS : World) (ba N m : Nat) (st : St) (k : Nat) (c l : LoanV) (ys : List LoanV) (os : List Int) (q : Nat) (wr : World) : Prop :=
  ∃ Sa Sb Aa ca Ab cb, q ≤ m ∧ Taken st 200 k c l Sa (picks ys (os.take q)) ∧ Taken st 200 k c l Sb (picks ys (os.reverse.take q)) ∧
    Loc wr ba #[.int .i64 Sa.total, .int .i64 Sa.spent, .slice Aa N ca] ∧ Loc wr (ba + 1) #[.int .i64 Sb.total, .int .i64 Sb.spent, .slice Ab N cb] ∧ Bx wr ba (ba + 1) N Sa Aa ca ∧ Bx wr ba (ba + 1) N Sb Ab cb ∧ Below ba wS wr

theorem Taken.next {st : St} {T : Int} {k : Nat} {c l : LoanV} {ys : List LoanV} {S' : StockV} {os : List Int} {q : Nat} {o : Int} (h : Taken st T k c l S' (picks ys (os.take q))) (hk : k < st.S.loans.length) (hl : st.dev[k]? = some l) (hy : st.rep[k]? = some ys) (hne : ys ≠ []) (ho : os[q]? = some o) :
    ∃ S'', mergeF S' k (pick ys o) = (S'', 0) ∧ Taken st T k c l S'' (picks ys (os.take (q + 1))) ∧ S''.loans.length = st.S.loans.length := by
  obtain ⟨h1, h2⟩ := h.step hk hl hy (pick_mem (o := o) hne).1
  have h3 : picks ys (os.take (q + 1)) = picks ys (os.take q) ++ [pick ys o] := by rw [take_snoc_of ho]; simp [picks]
  exact ⟨_, h1, by rw [h3]; exact h2, setLoan_len _ _ _⟩
theorem Bx.set {w : World} {ba bb N : Nat} {S' : StockV} {A : Option Addr} {c : Nat} (h : Bx w ba bb N S' A c) {p : Addr} (hp : p.block = ba ∨ p.block = bb) (v : Value) : Bx (w.setCell p v) ba bb N S' A c :=
  ⟨h.len, h.sl.grown (grownBy_setCell _ _ _) (.inr fun ad e => by have := h.far ad e; simp only [ne_eq, Option.some.injEq]; omega), h.far⟩
theorem order_next {wo wy : World} {ba N m : Nat} {st : St} {k : Nat} {c l : LoanV} {ys : List LoanV} {os : List Int} {q : Nat} {Sa Sb : StockV} {Aa Ab : Option Addr} {ca cb : Nat} {x0 x1 x2 y0 y1 y2 : Value} (hq : q ≤ m) (hTa : Taken st 200 k c l Sa (picks ys (os.take q))) (hTb : Taken st 200 k c l Sb (picks ys (os.reverse.take q)))
    (La : Loc wy ba #[x0, x1, x2]) (Lb : Loc wy (ba + 1) #[y0, y1, y2]) (Ba : Bx wy ba (ba + 1) N Sa Aa ca) (Bb : Bx wy ba (ba + 1) N Sb Ab cb) (hB : Below ba wo wy) :
    OrderAt wo ba N m st k c l ys os q ((((((wy.setCell ⟨ba, 0, none⟩ (.int .i64 Sa.total)).setCell ⟨ba, 1, none⟩ (.int .i64 Sa.spent)).setCell ⟨ba, 2, none⟩ (.slice Aa N ca)).setCell ⟨ba + 1, 0, none⟩ (.int .i64 Sb.total)).setCell ⟨ba + 1, 1, none⟩ (.int .i64 Sb.spent)).setCell ⟨ba + 1, 2, none⟩ (.slice Ab N cb)) := by
  refine ⟨Sa, Sb, Aa, ca, Ab, cb, hq, hTa, hTb, ?_, ?_, ?_, ?_, ?_⟩
  · have h := (((((La.set_ 0 (.int .i64 Sa.total)).set_ 1 (.int .i64 Sa.spent)).set_ 2 (.slice Aa N ca)).far (p := ⟨ba + 1, 0, none⟩) (by simp) (.int .i64 Sb.total)).far (p := ⟨ba + 1, 1, none⟩) (by simp) (.int .i64 Sb.spent)).far (p := ⟨ba + 1, 2, none⟩) (by simp) (.slice Ab N cb)
    simpa using h
  · have h := (((((Lb.far (p := ⟨ba, 0, none⟩) (by simp) (.int .i64 Sa.total)).far (p := ⟨ba, 1, none⟩) (by simp) (.int .i64 Sa.spent)).far (p := ⟨ba, 2, none⟩) (by simp) (.slice Aa N ca)).set_ 0 (.int .i64 Sb.total)).set_ 1 (.int .i64 Sb.spent)).set_ 2 (.slice Ab N cb)
    simpa using h
  · exact (((((Ba.set (.inl rfl) _).set (.inl rfl) _).set (.inl rfl) _).set (.inr rfl) _).set (.inr rfl) _).set (.inr rfl) _
  · exact (((((Bb.set (.inl rfl) _).set (.inl rfl) _).set (.inl rfl) _).set (.inr rfl) _).set (.inr rfl) _).set (.inr rfl) _
  · exact (((((hB.setCell (Nat.le_refl _) _).setCell (Nat.le_refl _) _).setCell (Nat.le_refl _) _).setCell (Nat.le_succ _) _).setCell (Nat.le_succ _) _).setCell (Nat.le_succ _) _
theorem Bx.below {w w' : World} {ba bb N : Nat} {S' : StockV} {A : Option Addr} {c : Nat} (h : Bx w ba bb N S' A c) (hb : Below w.heap.size w w') : Bx w' ba bb N S' A c := ⟨h.len, h.sl.below hb, h.far⟩
theorem Bx.of {w w' : World} {ba N : Nat} {S' : StockV} {A : Option Addr} {c : Nat} (hl : S'.loans.length = N) (h : SlF w w' 4 A N (S'.loans.map LoanV.cells)) (hb : ba + 1 < w.heap.size) : Bx w' ba (ba + 1) N S' A c :=
  ⟨hl, h.1, fun ad e => by have := h.2 ad e; omega⟩

set_option maxRecDepth 100000 in
set_option maxHeartbeats 8000000 in
theorem order_any (A : Option Addr) (n c : Nat) (acs : List ActV) (lo : Int) (hlo0 : 0 ≤ lo) (hlo1 : lo ≤ 255) (P : Option Addr) (m cm : Nat) (os : List Int) (w : World) (hs : Sl w 5 A n (acs.map ActV.cells)) (hok : ∀ a ∈ acs, a.ok) (hp : Sl w 1 P m (os.map fun o => [.int .u8 o])) (hos : ∀ o ∈ os, 0 ≤ o ∧ o ≤ 255) (hn : n ≤ maxLen) (hm : m ≤ maxLen) :
    Calls Try.prog 5 #[.slice A n c, .int .u8 lo, .slice P m cm] w fun e w' => e = .returned (.bool true) ∧ Below w.heap.size w w' := by
  unfold maxLen at hn hm
  have hl : acs.length = n := by simpa using hs.1
  have hlm : os.length = m := by simpa using hp.1
  have HS := Lib.hid hs
  have HP := Lib.hid hp
  have HL := Lib.hid hl
  have HLM := Lib.hid hlm
  have HO := Lib.hid hok
  have HOS := Lib.hid hos
  have HB := Lib.hid (Below.refl w.heap.size w)
  clear hs hl hok hp hlm hos
  by_cases h40 : 40 < n
  · have h40' : (40 : Int) < (n : Int) := by omega
    go_enter Try.func5, Try.ntmps5
    go_wp2_with (fail)
    ((with_reducible refine (sane_any _).mono ?_); rintro e w1 ⟨rfl, hb⟩)
    have hbT := hb
    replace HB := Lib.hid (HB.out.trans (hbT.mono HB.out.size))
    clear hbT hb 
    go_wp2_with (fail)
    go_ret
    exact ⟨rfl, HB.out⟩
  have h40' : (n : Int) ≤ 40 := by omega
  have hn40 : n ≤ 40 := by omega
  clear h40
  by_cases h20 : 20 < m
  · have h20' : (20 : Int) < (m : Int) := by omega
    go_enter Try.func5, Try.ntmps5
    go_wp2_with (fail)
    ((with_reducible refine (sane_any _).mono ?_); rintro e w1 ⟨rfl, hb⟩)
    have hbT := hb
    replace HB := Lib.hid (HB.out.trans (hbT.mono HB.out.size))
    clear hbT hb 
    go_wp2_with (fail)
    go_ret
    exact ⟨rfl, HB.out⟩
  have h20' : (m : Int) ≤ 20 := by omega
  have hm20 : m ≤ 20 := by omega
  clear h20
  go_enter Try.func5, Try.ntmps5
  go_wp2_with (fail)
  ((with_reducible refine (sane_any _).mono ?_); rintro e w1 ⟨rfl, hb⟩)
  have hbT := hb
  replace HB := Lib.hid (HB.out.trans (hbT.mono HB.out.size))
  clear hbT hb 
  have hz1 := HB.out.size
  have hst : NeverAt w w1.heap.size n 200 0 (w1.alloc (.cells #[.int .i64 200, .int .i64 0, .slice none 0 0, .slice none 0 0, .slice none 0 0] 44)) := by
    refine ⟨⟨⟨200, 0, []⟩, [], []⟩, none, 0, none, 0, none, 0, [], Nat.zero_le _, J.init (by omega) (by omega), ⟨Loc.new_ _ _ _, Nat.lt_succ_self _, by simp, Sl.nil_ _ _ _, (fun ad e => by cases e), Own.nil_ _ _ _ _, Own.nil_ _ _ _ _, (fun k v ls hv => by simp at hv), (fun h => absurd rfl h), Dis.none _ _ _, (fun k v hv => by simp at hv), (fun k v hv => by simp at hv), (fun j k v u _ hv => by simp at hv)⟩, ⟨by simp, (fun ys hy => by simp at hy)⟩, HB.out.alloc HB.out.size _⟩
  have HST := Lib.hid hst
  clear hst
  go_wp2_with (fail)
  go_loopw [9] (fun i wr => ∃ k : Nat, i = .int .i64 k ∧ NeverAt w w1.heap.size n 200 k wr) (fun i _ => n - (intOf i).toNat)
  case atStart => exact ⟨0, rfl, HST.out⟩
  case round =>
    obtain ⟨k, rfl, st, A2, c2, D, cd, R, cr, rs, hk, hj, hW, hlen, hb⟩ := hrel
    have HJ := Lib.hid hj
    have HW := Lib.hid hW
    have HLN := Lib.hid hlen
    have HBR := Lib.hid hb
    clear hj hW hlen
    by_cases hlt : k < n
    · obtain ⟨⟨d, v, l, u, o⟩, hx⟩ : ∃ x, acs[k]? = some x := ⟨acs[k]'(by have := HL.out; omega), List.getElem?_eq_getElem _⟩
      have hak := HO.out _ (List.mem_of_getElem? hx)
      obtain ⟨b, off, rfl, hbb, hc⟩ := (HS.out.below hb).2 k (ActV.cells ⟨d, v, l, u, o⟩) (by rw [List.getElem?_map, hx]; rfl)
      have x0 : wr.cell? ⟨b, off + k * 5, none⟩ = some (.int .u8 d) := hc 0 _ rfl
      have x1 : wr.cell? ⟨b, off + k * 5 + 1, none⟩ = some (.int .u8 v) := hc 1 _ rfl
      have x2 : wr.cell? ⟨b, off + k * 5 + 2, none⟩ = some (.int .u8 l) := hc 2 _ rfl
      have x3 : wr.cell? ⟨b, off + k * 5 + 3, none⟩ = some (.int .u8 u) := hc 3 _ rfl
      have x4 : wr.cell? ⟨b, off + k * 5 + 4, none⟩ = some (.int .u8 o) := hc 4 _ rfl
      have HA := Lib.hid hak
      clear hc hx hak hb
      have hi0 : (0 : Int) ≤ (k : Int) := by omega
      have hi1 : (k : Int) < (n : Int) := by omega
      go_wp2_with (fail)
      ((with_reducible refine (do_any HJ.out HW.out d v l u o HA.out ?hd1 ?hd2).mono ?_))
      case hd1 => have := HLN.out.dev; omega
      case hd2 => intro ys hy; have := HLN.out.rep ys hy; omega
      rintro e w2 ⟨rfl, hb2, A3, c3, D3, cd3, R3, cr3, rs3, hW3⟩
      have HJ2 := Lib.hid (HJ.out.step ⟨d, v, l, u, o⟩)
      have HL2 := Lib.hid (HLN.out.step ⟨d, v, l, u, o⟩)
      have HB2 := Lib.hid (HBR.out.trans (hb2.mono hz1))
      have HW3 := Lib.hid hW3
      clear hb2 x0 x1 x2 x3 x4 hbb HW HJ HLN HBR HA hW3
      go_wp2_with (fail)
      go_roundw
      case rel => exact ⟨k + 1, by go_num, _, _, _, _, _, _, _, _, by omega, HJ2.out, HW3.out, HL2.out, HB2.out⟩
      case measure => simp [intOf]; omega
    · obtain rfl : k = n := by omega
      obtain ⟨wo, rfl⟩ : ∃ wo : World, wo = wr := ⟨_, rfl⟩
      have hnd := HLN.out.dev
      obtain ⟨zB, kB, fB⟩ := HW.out.loc
      by_cases hz : st.dev.length = 0
      · have hz' : ((st.dev.length : Int) == 0) = true := by simp [hz]
        go_wp2_with (fail)
        go_ret
        exact ⟨rfl, hb⟩
      have hz' : ((st.dev.length : Int) == 0) = false := beq_eq_false_iff_ne.2 (by omega)
      obtain ⟨kk, hkk, hkl⟩ := pick_index (n := st.dev.length) (by omega) lo
      obtain ⟨L, hLd⟩ : ∃ x, st.dev[kk]? = some x := ⟨_, List.getElem?_eq_getElem hkk⟩
      obtain ⟨ys, hy⟩ : ∃ ys, st.rep[kk]? = some ys := ⟨_, List.getElem?_eq_getElem (by rw [HJ.out.lr]; exact hkk)⟩
      obtain ⟨c0, hc0⟩ : ∃ x, st.S.loans[kk]? = some x := ⟨_, List.getElem?_eq_getElem (by rw [← HJ.out.ld]; exact hkk)⟩
      obtain ⟨hne, hlast⟩ := HJ.out.lastRep hc0 hLd hy
      have hyl := HLN.out.rep ys (List.mem_of_getElem? hy)
      have hyp : 0 < ys.length := List.length_pos_iff.2 hne
      obtain ⟨gR, gk, ck, rfl, hrk, zR, zk, kR, fR, hcells⟩ := HW.out.report hy hne
      have HLd := Lib.hid hLd
      have HY := Lib.hid hy
      have HC := Lib.hid hc0
      have HLast := Lib.hid hlast
      have HCE := Lib.hid hcells
      have HBw := Lib.hid hb
      have hlr := HJ.out.lr
      have hld := HJ.out.ld
      have HT0 := Lib.hid (Taken.init HJ.out hc0 hLd hy)
      have HR0 := Lib.hid ((HJ.out.each kk c0 L ys hc0 hLd hy).center)
      rw [hlr, ← hld] at kB
      generalize hN : st.dev.length = N at *
      have HN := Lib.hid hN
      have HLDD := Lib.hid hld
      have M5 : (kk : Int) < (N : Int) := by omega
      have M6 : (0 : Int) ≤ (kk : Int) := by omega
      have M7 : (0 : Int) < (N : Int) := by omega
      clear hN hld hlr hrk hcells hlast hne hc0 hy hLd fR hb hz HLN hkk
      go_wp2_with (fail)
      rw [hkl]
      have hsl := HW.out.sl
      rw [← HLDD.out] at hsl
      have hA2 : ∀ ad, A2 = some ad → ad.block ≠ wo.heap.size ∧ ad.block ≠ wo.heap.size + 1 := by
        intro ad e
        obtain ⟨b, o, hA, hbl, _⟩ := hsl.2 0 _ (by rw [List.getElem?_map, List.getElem?_eq_getElem (by have := HLDD.out; omega)]; rfl)
        rw [hA] at e
        injection e with e
        subst e
        simp only []
        omega
      have HST2 : Hid (OrderAt wo wo.heap.size N m st kk c0 L ys os 0 ((wo.alloc (.cells #[.int .i64 st.S.total, .int .i64 st.S.spent, .slice A2 N c2] 24)).alloc (.cells #[.int .i64 st.S.total, .int .i64 st.S.spent, .slice A2 N c2] 24))) := by
        refine ⟨st.S, st.S, A2, c2, A2, c2, Nat.zero_le _, HT0.out, HT0.out, (Loc.new_ _ _ _).alloc _, ?_, ⟨HLDD.out.symm, (hsl.alloc _).alloc _, hA2⟩, ⟨HLDD.out.symm, (hsl.alloc _).alloc _, hA2⟩, below2 _ _ _⟩
        have h := Loc.new_ (wo.alloc (.cells #[.int .i64 st.S.total, .int .i64 st.S.spent, .slice A2 N c2] 24)) #[.int .i64 st.S.total, .int .i64 st.S.spent, .slice A2 N c2] 24
        simpa using h
      clear zB kB fB kR hsl hA2
      go_loopw [14] (fun i wx => ∃ q : Nat, i = .int .i64 q ∧ OrderAt wo wo.heap.size N m st kk c0 L ys os q wx) (fun i _ => m - (intOf i).toNat)
      case atStart => exact ⟨0, rfl, HST2.out⟩
      case round =>
        obtain ⟨q, rfl, Sa, Sb, Aa, ca, Ab, cb, hq, hTa, hTb, hLa, hLb, hBa, hBb, hBw⟩ := hrel
        by_cases hqm : q < m
        · obtain ⟨o1, ho1⟩ : ∃ x, os[q]? = some x := ⟨_, List.getElem?_eq_getElem (by rw [HLM.out]; exact hqm)⟩
          obtain ⟨j2, hj2⟩ : ∃ j2 : Nat, m - 1 - q = j2 := ⟨_, rfl⟩
          obtain ⟨o2, ho2⟩ : ∃ x, os[j2]? = some x := ⟨_, List.getElem?_eq_getElem (by rw [HLM.out]; omega)⟩
          have ho2' : os.reverse[q]? = some o2 := by rw [List.getElem?_reverse (by rw [HLM.out]; exact hqm), HLM.out, hj2]; exact ho2
          have hkS : kk < st.S.loans.length := by have := HLDD.out; omega
          have hne : ys ≠ [] := List.length_pos_iff.1 hyp
          obtain ⟨Sa', hma, hTa', hNa⟩ := hTa.next hkS HLd.out HY.out hne ho1
          obtain ⟨Sb', hmb, hTb', hNb⟩ := hTb.next hkS HLd.out HY.out hne ho2'
          obtain ⟨i1, hi1, hio1⟩ := pick_index hyp o1
          obtain ⟨i2, hi2, hio2⟩ := pick_index hyp o2
          obtain ⟨⟨d1, u1, p1, b1⟩, hr1⟩ : ∃ x, ys[i1]? = some x := ⟨_, List.getElem?_eq_getElem hi1⟩
          obtain ⟨⟨d2, u2, p2, b2⟩, hr2⟩ : ∃ x, ys[i2]? = some x := ⟨_, List.getElem?_eq_getElem hi2⟩
          have hp1 : pick ys o1 = ⟨d1, u1, p1, b1⟩ := by unfold pick; rw [hio1, Int.toNat_natCast, hr1]; rfl
          have hp2 : pick ys o2 = ⟨d2, u2, p2, b2⟩ := by unfold pick; rw [hio2, Int.toNat_natCast, hr2]; rfl
          rw [hp1] at hma
          rw [hp2] at hmb
          obtain ⟨bp, op, hPe, zp, hcp⟩ := (HP.out.below HBw.out).2 q [.int .u8 o1] (by rw [List.getElem?_map, ho1]; rfl)
          obtain ⟨bp', op', hPe', _, hcp'⟩ := (HP.out.below HBw.out).2 j2 [.int .u8 o2] (by rw [List.getElem?_map, ho2]; rfl)
          subst hPe
          injection hPe' with hPe'
          injection hPe' with e1 e2
          subst e1
          subst e2
          have hb1 := HOS.out o1 (List.mem_of_getElem? ho1)
          have hb2 := HOS.out o2 (List.mem_of_getElem? ho2)
          obtain ⟨hb1a, hb1b⟩ := hb1
          obtain ⟨hb2a, hb2b⟩ := hb2
          have HC1 := Lib.hid (show wo.cell? ⟨bp, op + q, none⟩ = some (.int .u8 o1) by have h := hcp 0 _ rfl; simpa using h)
          have HC2 := Lib.hid (show wo.cell? ⟨bp, op + j2, none⟩ = some (.int .u8 o2) by have h := hcp' 0 _ rfl; simpa using h)
          have HE1 := Lib.hid (HCE.out i1 _ hr1)
          have HE2 := Lib.hid (HCE.out i2 _ hr2)
          have HM1 := Lib.hid hma
          have HM2 := Lib.hid hmb
          have HT1 := Lib.hid hTa'
          have HT2 := Lib.hid hTb'
          have HN1 := Lib.hid (hNa.trans HLDD.out.symm)
          have HN2 := Lib.hid (hNb.trans HLDD.out.symm)
          have HI1 := Lib.hid hio1
          have HI2 := Lib.hid hio2
          have L1 := Lib.hid hLa
          have LBb := Lib.hid hLb
          have BS1 := Lib.hid hBa
          have BSb := Lib.hid hBb
          have HB1 := Lib.hid hBw
          have HZ1 := Lib.hid hBw.size
          have Y1 : ¬ (ys.length = 0) := by omega
          have q1 : (0 : Int) ≤ (q : Int) := by omega
          have q2 : (q : Int) < (m : Int) := by omega
          have q3 : (0 : Int) ≤ (j2 : Int) := by omega
          have q4 : (j2 : Int) < (m : Int) := by omega
          have q5 : IntKind.i64.wrap ((m : Int) - 1) = (m : Int) - 1 := IntWalk.i64_in _ (by omega)
          have q6 : IntKind.i64.wrap ((m : Int) - 1 - (q : Int)) = (j2 : Int) := by rw [IntWalk.i64_in _ (by omega)]; omega
          have HY0 := Lib.hid hne
          clear hTa hTb hLa hLb hBa hBb hBw hma hmb hTa' hTb' hNa hNb hio1 hio2 hr1 hr2 hp1 hp2 hcp hcp' ho1 ho2 ho2' hne hkS hj2
          have W11 := IntWalk.i64_in o1 (by omega)
          have M11 : o1.tmod (ys.length : Int) = (i1 : Int) := by rw [Int.tmod_eq_emod_of_nonneg (by omega)]; exact HI1.out
          have M17 : o1 % (ys.length : Int) = (i1 : Int) := HI1.out
          have M13 : (i1 : Int) < (ys.length : Int) := by omega
          have M14 : (0 : Int) ≤ (i1 : Int) := by omega
          have hS1 : ∀ w', Below wr.heap.size wr w' → _ := fun w' hb =>
            have hb' : Below wo.heap.size wo w' := HB1.out.trans (hb.mono HZ1.out)
            And.intro ((L1.out.below hb).cell 0) (And.intro ((L1.out.below hb).cell 1) (And.intro ((L1.out.below hb).cell 2) (And.intro ((hb'.cell (p := ⟨bp, op + q, none⟩) zp).trans HC1.out)
              (And.intro ((hb'.cell (p := ⟨gk, i1 * 4, none⟩) zk).trans HE1.out.1) (And.intro ((hb'.cell (p := ⟨gk, i1 * 4 + 1, none⟩) zk).trans HE1.out.2.1) (And.intro ((hb'.cell (p := ⟨gk, i1 * 4 + 2, none⟩) zk).trans HE1.out.2.2.1)
              (And.intro ((hb'.cell (p := ⟨gk, i1 * 4 + 3, none⟩) zk).trans HE1.out.2.2.2) hb)))))))
          have HSS1 := Lib.hid hS1
          clear hS1
          go_upto_region 19 with (fail)
          go_cut [15, 16] (fun s15 s16 wy => s16 = .int .i64 0 ∧ BoxAt Sa' N wr s15 wy)
          case first =>
            go_region_held3 (fun w' => w'.cell? ⟨wo.heap.size, 0, none⟩ = some (.int .i64 Sa.total) ∧ w'.cell? ⟨wo.heap.size, 1, none⟩ = some (.int .i64 Sa.spent) ∧ w'.cell? ⟨wo.heap.size, 2, none⟩ = some (.slice Aa N ca) ∧ w'.cell? ⟨bp, op + q, none⟩ = some (.int .u8 o1) ∧
                w'.cell? ⟨gk, i1 * 4, none⟩ = some (.int .i64 d1) ∧ w'.cell? ⟨gk, i1 * 4 + 1, none⟩ = some (.int .i64 u1) ∧ w'.cell? ⟨gk, i1 * 4 + 2, none⟩ = some (.int .i64 p1) ∧ w'.cell? ⟨gk, i1 * 4 + 3, none⟩ = some (.bool b1) ∧ Below wr.heap.size wr w')
              (first | exact HSS1.out _ hB7 | (refine HSS1.out _ ?_; repeat (first | exact hB7 | exact Below.refl _ _ | refine Below.drew ?_ | refine Below.alloc ?_ (by first | exact Nat.le_refl _ | exact hB7.size | (simp <;> omega)) _ | refine Below.setCell ?_ (by first | exact Nat.le_refl _ | exact hB7.size | (simp <;> omega)) _)))
              (first
                | (go_at_call 14
                   ((with_reducible refine (Merge_any Sa.total Sa.spent Aa N ca Sa.loans kk d1 u1 p1 b1 (Sa', 0) HM1.out _ ?hs1).mono ?_)
                    (case hs1 => exact Sl.drew (BS1.out.sl.alloc _))
                    rintro e w3 ⟨A3, c3, rfl, hs3, hbF⟩
                    have hB7 : Below wr.heap.size wr w3 := by go_split_ands; exact Below.trans (by assumption) (hbF.mono (Below.size (by assumption)))
                    obtain ⟨⟨zX, kX, fX⟩, _⟩ := locs1 (undrew hbF)))
                | (go_at_call 14
                   ((with_reducible refine (Merge_any Sa.total Sa.spent Aa N ca Sa.loans kk d1 u1 p1 b1 (Sa', 0) HM1.out _ ?hs1).mono ?_)
                    (case hs1 => exact Sl.drew BS1.out.sl)
                    rintro e w3 ⟨A3, c3, rfl, hs3, hbF⟩
                    have hB7 : Below wr.heap.size wr w3 := by go_split_ands; exact Below.trans (by assumption) (hbF.mono (Below.size (by assumption))))))
            all_goals
              go_wp2_with (fail)
              go_meet
              first
                | exact ⟨rfl, box_first rfl HN1.out hB7 ⟨zX, kX, fX⟩ hs3⟩
                | exact ⟨rfl, box_last HN1.out hB7 hs3⟩
          case rest =>
            obtain ⟨rfl, bx, A3, c3, rfl, hXb, hXz, hXl, hXs⟩ := hcut
            obtain ⟨wX, rfl⟩ : ∃ z : World, z = wc := ⟨_, rfl⟩
            clear W11 M11 M17
            have L2 := Lib.hid (LBb.out.below hXb)
            have BS2 := Lib.hid (BSb.out.below hXb)
            have HB2 := Lib.hid (HB1.out.trans (hXb.mono HZ1.out))
            have HZ2 := Lib.hid (Nat.le_trans HZ1.out hXb.size)
            have hza' := LBb.out.lt
            have W21 := IntWalk.i64_in o2 (by omega)
            have M21 : o2.tmod (ys.length : Int) = (i2 : Int) := by rw [Int.tmod_eq_emod_of_nonneg (by omega)]; exact HI2.out
            have M27 : o2 % (ys.length : Int) = (i2 : Int) := HI2.out
            have M23 : (i2 : Int) < (ys.length : Int) := by omega
            have M24 : (0 : Int) ≤ (i2 : Int) := by omega
            have hS2 : ∀ w', Below wX.heap.size wX w' → _ := fun w' hb =>
              have hb' : Below wo.heap.size wo w' := HB2.out.trans (hb.mono HZ2.out)
              And.intro ((L2.out.below hb).cell 0) (And.intro ((L2.out.below hb).cell 1) (And.intro ((L2.out.below hb).cell 2) (And.intro ((hb'.cell (p := ⟨bp, op + j2, none⟩) zp).trans HC2.out)
                (And.intro ((hb'.cell (p := ⟨gk, i2 * 4, none⟩) zk).trans HE2.out.1) (And.intro ((hb'.cell (p := ⟨gk, i2 * 4 + 1, none⟩) zk).trans HE2.out.2.1) (And.intro ((hb'.cell (p := ⟨gk, i2 * 4 + 2, none⟩) zk).trans HE2.out.2.2.1)
                (And.intro ((hb'.cell (p := ⟨gk, i2 * 4 + 3, none⟩) zk).trans HE2.out.2.2.2) hb)))))))
            have HSS2 := Lib.hid hS2
            clear hS2
            go_upto_region 20 with (fail)
            go_cut [17, 18] (fun s15 s16 wy => s16 = .int .i64 0 ∧ BoxAt Sb' N wX s15 wy)
            case first =>
              go_region_held3 (fun w' => w'.cell? ⟨wo.heap.size + 1, 0, none⟩ = some (.int .i64 Sb.total) ∧ w'.cell? ⟨wo.heap.size + 1, 1, none⟩ = some (.int .i64 Sb.spent) ∧ w'.cell? ⟨wo.heap.size + 1, 2, none⟩ = some (.slice Ab N cb) ∧ w'.cell? ⟨bp, op + j2, none⟩ = some (.int .u8 o2) ∧
                  w'.cell? ⟨gk, i2 * 4, none⟩ = some (.int .i64 d2) ∧ w'.cell? ⟨gk, i2 * 4 + 1, none⟩ = some (.int .i64 u2) ∧ w'.cell? ⟨gk, i2 * 4 + 2, none⟩ = some (.int .i64 p2) ∧ w'.cell? ⟨gk, i2 * 4 + 3, none⟩ = some (.bool b2) ∧ Below wX.heap.size wX w')
                (first | exact HSS2.out _ hB7 | (refine HSS2.out _ ?_; repeat (first | exact hB7 | exact Below.refl _ _ | refine Below.drew ?_ | refine Below.alloc ?_ (by first | exact Nat.le_refl _ | exact hB7.size | (simp <;> omega)) _ | refine Below.setCell ?_ (by first | exact Nat.le_refl _ | exact hB7.size | (simp <;> omega)) _)))
                (first
                  | (go_at_call 14
                     ((with_reducible refine (Merge_any Sb.total Sb.spent Ab N cb Sb.loans kk d2 u2 p2 b2 (Sb', 0) HM2.out _ ?hs1).mono ?_)
                      (case hs1 => exact Sl.drew (BS2.out.sl.alloc _))
                      rintro e w3 ⟨A3, c3, rfl, hs3, hbF⟩
                      have hB7 : Below wX.heap.size wX w3 := by go_split_ands; exact Below.trans (by assumption) (hbF.mono (Below.size (by assumption)))
                      obtain ⟨⟨zX, kX, fX⟩, _⟩ := locs1 (undrew hbF)))
                  | (go_at_call 14
                     ((with_reducible refine (Merge_any Sb.total Sb.spent Ab N cb Sb.loans kk d2 u2 p2 b2 (Sb', 0) HM2.out _ ?hs1).mono ?_)
                      (case hs1 => exact Sl.drew BS2.out.sl)
                      rintro e w3 ⟨A3, c3, rfl, hs3, hbF⟩
                      have hB7 : Below wX.heap.size wX w3 := by go_split_ands; exact Below.trans (by assumption) (hbF.mono (Below.size (by assumption))))))
              all_goals
                go_wp2_with (fail)
                go_meet
                first
                  | exact ⟨rfl, box_first rfl HN2.out hB7 ⟨zX, kX, fX⟩ hs3⟩
                  | exact ⟨rfl, box_last HN2.out hB7 hs3⟩
            case rest =>
              obtain ⟨rfl, by_, A4, c4, rfl, hYb, hYz, hYl, hYs⟩ := hcut
              have hza := L1.out.lt
              have hzb := L2.out.lt
              have hzz := hXb.size
              have LA2 := Lib.hid ((L1.out.below hXb).below hYb)
              have LB2 := Lib.hid (L2.out.below hYb)
              have LX2 := Lib.hid (hXl.below hYb)
              have LY2 := Lib.hid hYl
              have BA2 := Lib.hid ((Bx.of (c := c3) HN1.out hXs hza').below hYb)
              have BB2 := Lib.hid (Bx.of (c := c4) HN2.out hYs (Nat.lt_of_lt_of_le hza' hzz))
              have HB9 := Lib.hid ((HB1.out.trans (hXb.mono HZ1.out)).trans (hYb.mono (Nat.le_trans HZ1.out hzz)))
              have n1 : bx ≠ wo.heap.size := by omega
              have n2 : bx ≠ wo.heap.size + 1 := by omega
              have n3 : by_ ≠ wo.heap.size := by omega
              have n4 : by_ ≠ wo.heap.size + 1 := by omega
              obtain ⟨za, ka, fa⟩ := LA2.out
              obtain ⟨zb, kb, fb⟩ := LB2.out
              obtain ⟨zx, kx, fx⟩ := LX2.out
              obtain ⟨zy, ky, fy⟩ := LY2.out
              clear hYb hYz hYl hYs hXb hXl hXs
              go_wp2_with (fail)
              go_roundw
              case rel => exact ⟨q + 1, by go_num, order_next (by omega) HT1.out HT2.out LA2.out LB2.out BA2.out BB2.out HB9.out⟩
              case measure => simp [intOf]; omega
        · obtain rfl : q = m := by omega
          have e1 : os.take q = os := List.take_of_length_le (by rw [HLM.out]; exact Nat.le_refl _)
          have e2 : os.reverse.take q = os.reverse := List.take_of_length_le (by rw [List.length_reverse, HLM.out]; exact Nat.le_refl _)
          rw [e1] at hTa
          rw [e2] at hTb
          have hkS : kk < st.S.loans.length := by have := HLDD.out; omega
          have hab : Sa = Sb := by rw [hTa.eq, hTb.eq, order_same]
          subst hab
          obtain ⟨wl, rfl⟩ : ∃ z : World, z = wr := ⟨_, rfl⟩
          obtain ⟨il, hil⟩ : ∃ il : Nat, ys.length - 1 = il := ⟨_, rfl⟩
          have hLm : L ∈ ys := List.mem_of_getElem? HLast.out
          obtain ⟨hmc, hTc⟩ := hTa.step hkS HLd.out HY.out hLm
          obtain ⟨hmd, _⟩ := HT0.out.step hkS HLd.out HY.out hLm
          have hsame := last_same hTa HR0.out
          rw [← hsame] at hmd
          have hNc := setLoan_len st.S kk (joinAll c0 (picks ys os ++ [L]))
          generalize setLoan st.S kk (joinAll c0 (picks ys os ++ [L])) = Sc at *
          have hEl := HCE.out il L (by rw [← hil]; exact HLast.out)
          obtain ⟨d1, u1, p1, b1⟩ := L
          have HE1 := Lib.hid hEl
          have HM1 := Lib.hid hmc
          have HM2 := Lib.hid hmd
          have HN1 := Lib.hid (hNc.trans HLDD.out.symm)
          have L1 := Lib.hid hLa
          have LBb := Lib.hid hLb
          have BS1 := Lib.hid hBa
          have BSb := Lib.hid hBb
          have HB1 := Lib.hid hBw
          have HZ1 := Lib.hid hBw.size
          have hloc := HW.out.loc
          rw [HJ.out.lr, HN.out, ← HLDD.out] at hloc
          have LW := Lib.hid hloc
          have q5 : IntKind.i64.wrap ((ys.length : Int) - 1) = (il : Int) := by rw [IntWalk.i64_in _ (by omega)]; omega
          have q6 : (0 : Int) ≤ (il : Int) := by omega
          have q7 : (il : Int) < (ys.length : Int) := by omega
          have q8 : (ys.length : Int) - 1 = (il : Int) := by omega
          have q9 : IntKind.i64.wrap (il : Int) = (il : Int) := IntWalk.i64_in _ (by omega)
          clear hTa hTb hLa hLb hBa hBb hBw hmc hmd hNc hsame hLm hTc hloc hEl e1 e2 hkS hil
          have hS : ∀ w', Below wl.heap.size wl w' → _ := fun w' hb =>
            have hb' : Below wo.heap.size wo w' := HB1.out.trans (hb.mono HZ1.out)
            And.intro ((L1.out.below hb).cell 0) (And.intro ((L1.out.below hb).cell 1) (And.intro ((L1.out.below hb).cell 2)
              (And.intro ((hb'.cell (p := ⟨gk, il * 4, none⟩) zk).trans HE1.out.1) (And.intro ((hb'.cell (p := ⟨gk, il * 4 + 1, none⟩) zk).trans HE1.out.2.1) (And.intro ((hb'.cell (p := ⟨gk, il * 4 + 2, none⟩) zk).trans HE1.out.2.2.1)
              (And.intro ((hb'.cell (p := ⟨gk, il * 4 + 3, none⟩) zk).trans HE1.out.2.2.2) hb))))))
          have HSS := Lib.hid hS
          clear hS
          go_upto_region 25 with (fail)
          go_cut [19, 20] (fun s15 s16 wy => s16 = .int .i64 0 ∧ BoxAt Sc N wl s15 wy)
          case first =>
            go_region_held3 (fun w' => w'.cell? ⟨wo.heap.size, 0, none⟩ = some (.int .i64 Sa.total) ∧ w'.cell? ⟨wo.heap.size, 1, none⟩ = some (.int .i64 Sa.spent) ∧ w'.cell? ⟨wo.heap.size, 2, none⟩ = some (.slice Aa N ca) ∧
                w'.cell? ⟨gk, il * 4, none⟩ = some (.int .i64 d1) ∧ w'.cell? ⟨gk, il * 4 + 1, none⟩ = some (.int .i64 u1) ∧ w'.cell? ⟨gk, il * 4 + 2, none⟩ = some (.int .i64 p1) ∧ w'.cell? ⟨gk, il * 4 + 3, none⟩ = some (.bool b1) ∧ Below wl.heap.size wl w')
              (first | exact HSS.out _ hB7 | (refine HSS.out _ ?_; repeat (first | exact hB7 | exact Below.refl _ _ | refine Below.drew ?_ | refine Below.alloc ?_ (by first | exact Nat.le_refl _ | exact hB7.size | (simp <;> omega)) _ | refine Below.setCell ?_ (by first | exact Nat.le_refl _ | exact hB7.size | (simp <;> omega)) _)))
              (first
                | (go_at_call 14
                   ((with_reducible refine (Merge_any Sa.total Sa.spent Aa N ca Sa.loans kk d1 u1 p1 b1 (Sc, 0) HM1.out _ ?hs1).mono ?_)
                    (case hs1 => exact Sl.drew (BS1.out.sl.alloc _))
                    rintro e w3 ⟨A3, c3, rfl, hs3, hbF⟩
                    have hB7 : Below wl.heap.size wl w3 := by go_split_ands; exact Below.trans (by assumption) (hbF.mono (Below.size (by assumption)))
                    obtain ⟨⟨zX, kX, fX⟩, _⟩ := locs1 (undrew hbF)))
                | (go_at_call 14
                   ((with_reducible refine (Merge_any Sa.total Sa.spent Aa N ca Sa.loans kk d1 u1 p1 b1 (Sc, 0) HM1.out _ ?hs1).mono ?_)
                    (case hs1 => exact Sl.drew BS1.out.sl)
                    rintro e w3 ⟨A3, c3, rfl, hs3, hbF⟩
                    have hB7 : Below wl.heap.size wl w3 := by go_split_ands; exact Below.trans (by assumption) (hbF.mono (Below.size (by assumption))))))
            all_goals
              go_wp2_with (fail)
              go_meet
              first
                | exact ⟨rfl, box_first rfl HN1.out hB7 ⟨zX, kX, fX⟩ hs3⟩
                | exact ⟨rfl, box_last HN1.out hB7 hs3⟩
          case rest =>
            obtain ⟨rfl, bx, A3, c3, rfl, hXb, hXz, hXl, hXs⟩ := hcut
            obtain ⟨wX, rfl⟩ : ∃ z : World, z = wc := ⟨_, rfl⟩
            have HB2 := Lib.hid (HB1.out.trans (hXb.mono HZ1.out))
            have HZ2 := Lib.hid (Nat.le_trans HZ1.out hXb.size)
            have LW2 := Lib.hid (LW.out.below (HB2.out))
            have SW2 := Lib.hid ((by have h := HW.out.sl; rw [← HLDD.out] at h; exact h : Sl wo 4 A2 N (st.S.loans.map LoanV.cells)).below HB2.out)
            have hS : ∀ w', Below wX.heap.size wX w' → _ := fun w' hb =>
              have hb' : Below wo.heap.size wo w' := HB2.out.trans (hb.mono HZ2.out)
              And.intro ((LW2.out.below hb).cell 0) (And.intro ((LW2.out.below hb).cell 1) (And.intro ((LW2.out.below hb).cell 2)
                (And.intro ((hb'.cell (p := ⟨gk, il * 4, none⟩) zk).trans HE1.out.1) (And.intro ((hb'.cell (p := ⟨gk, il * 4 + 1, none⟩) zk).trans HE1.out.2.1) (And.intro ((hb'.cell (p := ⟨gk, il * 4 + 2, none⟩) zk).trans HE1.out.2.2.1)
                (And.intro ((hb'.cell (p := ⟨gk, il * 4 + 3, none⟩) zk).trans HE1.out.2.2.2) hb))))))
            have HSS := Lib.hid hS
            clear hS
            go_upto_region 26 with (fail)
            go_cut [21, 22] (fun s15 s16 wy => s16 = .int .i64 0 ∧ BoxAt Sc N wX s15 wy)
            case first =>
              go_region_held3 (fun w' => w'.cell? ⟨w1.heap.size, 0, none⟩ = some (.int .i64 st.S.total) ∧ w'.cell? ⟨w1.heap.size, 1, none⟩ = some (.int .i64 st.S.spent) ∧ w'.cell? ⟨w1.heap.size, 2, none⟩ = some (.slice A2 N c2) ∧
                  w'.cell? ⟨gk, il * 4, none⟩ = some (.int .i64 d1) ∧ w'.cell? ⟨gk, il * 4 + 1, none⟩ = some (.int .i64 u1) ∧ w'.cell? ⟨gk, il * 4 + 2, none⟩ = some (.int .i64 p1) ∧ w'.cell? ⟨gk, il * 4 + 3, none⟩ = some (.bool b1) ∧ Below wX.heap.size wX w')
                (first | exact HSS.out _ hB7 | (refine HSS.out _ ?_; repeat (first | exact hB7 | exact Below.refl _ _ | refine Below.drew ?_ | refine Below.alloc ?_ (by first | exact Nat.le_refl _ | exact hB7.size | (simp <;> omega)) _ | refine Below.setCell ?_ (by first | exact Nat.le_refl _ | exact hB7.size | (simp <;> omega)) _)))
                (first
                  | (go_at_call 14
                     ((with_reducible refine (Merge_any st.S.total st.S.spent A2 N c2 st.S.loans kk d1 u1 p1 b1 (Sc, 0) HM2.out _ ?hs1).mono ?_)
                      (case hs1 => exact Sl.drew (SW2.out.alloc _))
                      rintro e w3 ⟨A3, c3, rfl, hs3, hbF⟩
                      have hB7 : Below wX.heap.size wX w3 := by go_split_ands; exact Below.trans (by assumption) (hbF.mono (Below.size (by assumption)))
                      obtain ⟨⟨zX, kX, fX⟩, _⟩ := locs1 (undrew hbF)))
                  | (go_at_call 14
                     ((with_reducible refine (Merge_any st.S.total st.S.spent A2 N c2 st.S.loans kk d1 u1 p1 b1 (Sc, 0) HM2.out _ ?hs1).mono ?_)
                      (case hs1 => exact Sl.drew SW2.out)
                      rintro e w3 ⟨A3, c3, rfl, hs3, hbF⟩
                      have hB7 : Below wX.heap.size wX w3 := by go_split_ands; exact Below.trans (by assumption) (hbF.mono (Below.size (by assumption))))))
              all_goals
                go_wp2_with (fail)
                go_meet
                first
                  | exact ⟨rfl, box_first rfl HN1.out hB7 ⟨zX, kX, fX⟩ hs3⟩
                  | exact ⟨rfl, box_last HN1.out hB7 hs3⟩
            case rest =>
              obtain ⟨rfl, by_, A4, c4, rfl, hYb, hYz, hYl, hYs⟩ := hcut
              obtain ⟨wY, rfl⟩ : ∃ z : World, z = wc := ⟨_, rfl⟩
              have LA2 := Lib.hid ((L1.out.below hXb).below hYb)
              have LB2 := Lib.hid ((LBb.out.below hXb).below hYb)
              have LX2 := Lib.hid (hXl.below hYb)
              have LY2 := Lib.hid hYl
              have SA2 := Lib.hid ((BS1.out.sl.below hXb).below hYb)
              have SB2 := Lib.hid ((BSb.out.sl.below hXb).below hYb)
              have SX2 := Lib.hid (hXs.1.below hYb)
              have SY2 := Lib.hid hYs.1
              replace HB := Lib.hid (((HBw.out.mono (Nat.le_refl _)).trans (HB1.out.mono HBw.out.size)).trans (((hXb.mono (Nat.le_trans HBw.out.size HZ1.out))).trans (hYb.mono (Nat.le_trans (Nat.le_trans HBw.out.size HZ1.out) hXb.size))))
              clear hYb hYz hYl hYs hXb hXl hXs
              obtain ⟨zLA2, kLA2, fLA2⟩ := LA2.out
              obtain ⟨zLB2, kLB2, fLB2⟩ := LB2.out
              have e0 : ((0 : Int) == 0) = true := rfl
              go_wp2_with (fail)
              ((with_reducible refine (Same_any Sa.total Sa.spent Sa.total Sa.spent Aa Ab N N ca cb Sa.loans Sa.loans _ SA2.out SB2.out (by simp only [maxLen]; omega) (by simp only [maxLen]; omega) true (by simp [sameB])).mono ?_); rintro e w7 ⟨rfl, hb⟩)
              have hbT := hb
              replace LA2 := Lib.hid (LA2.out.below hbT)
              replace LB2 := Lib.hid (LB2.out.below hbT)
              replace LX2 := Lib.hid (LX2.out.below hbT)
              replace LY2 := Lib.hid (LY2.out.below hbT)
              replace SA2 := Lib.hid (SA2.out.below hbT)
              replace SB2 := Lib.hid (SB2.out.below hbT)
              replace SX2 := Lib.hid (SX2.out.below hbT)
              replace SY2 := Lib.hid (SY2.out.below hbT)
              replace HB := Lib.hid (HB.out.trans (hbT.mono HB.out.size))
              clear hbT hb zLA2 kLA2 fLA2 zLB2 kLB2 fLB2
              obtain ⟨zLX2, kLX2, fLX2⟩ := LX2.out
              obtain ⟨zLY2, kLY2, fLY2⟩ := LY2.out
              go_wp2_with (fail)
              ((with_reducible refine (Same_any Sc.total Sc.spent Sc.total Sc.spent A3 A4 N N c3 c4 Sc.loans Sc.loans _ SX2.out SY2.out (by simp only [maxLen]; omega) (by simp only [maxLen]; omega) true (by simp [sameB])).mono ?_); rintro e w8 ⟨rfl, hb⟩)
              have hbT := hb
              replace LA2 := Lib.hid (LA2.out.below hbT)
              replace LB2 := Lib.hid (LB2.out.below hbT)
              replace LX2 := Lib.hid (LX2.out.below hbT)
              replace LY2 := Lib.hid (LY2.out.below hbT)
              replace SA2 := Lib.hid (SA2.out.below hbT)
              replace SB2 := Lib.hid (SB2.out.below hbT)
              replace SX2 := Lib.hid (SX2.out.below hbT)
              replace SY2 := Lib.hid (SY2.out.below hbT)
              replace HB := Lib.hid (HB.out.trans (hbT.mono HB.out.size))
              clear hbT hb zLX2 kLX2 fLX2 zLY2 kLY2 fLY2
              go_wp2_with (fail)
              go_ret
              exact ⟨rfl, HB.out⟩
end Go.Proofs.Ytfohjkddcinfmaa
