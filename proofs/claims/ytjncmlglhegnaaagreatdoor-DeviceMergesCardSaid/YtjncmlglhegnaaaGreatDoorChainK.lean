/- chain: Next, walked. -/
/- chain: the reference's Plain, SameInts, Same, Few, walked. -/
import Derived.Test.YtjncmlglhegnaaaGreatDoorChainI
namespace Go.Proofs.YtjncmlglhegnaaaGreatDoor
open Go.RowKit Go.Sort Go.Lib

def nextV (l : List EntV) (device day : Int) (seen : List Int) (text : List UInt8) : EntV := ⟨device, (l.length : Int), day, seen.set device.toNat (l.length : Int), text⟩
def nextF (l : List EntV) (device day : Int) (seen : List Int) (text : List UInt8) : EntV × Int :=
  if (decide (0 ≤ device) && decide (device ≤ 7)) = true ∧ seen.length = 8 then
    if checkF (l ++ [nextV l device day seen text]) = 0 then (nextV l device day seen text, 0) else (.zero, checkF (l ++ [nextV l device day seen text]))
  else (.zero, 1)
theorem map_set_intC (l : List Int) (k : Nat) (n : Int) : (l.map intC).set k [.int .i64 n] = (l.set k n).map intC := by rw [List.map_set]; rfl
theorem ChAt.snoc {w w3 : World} {A A3 : Option Addr} {n c3 base : Nat} {t : TypeId} {l : List EntC} {x : EntC} (h : ChAt w A n l) (hx : EntAt w x) (hl : x.v.seen.length ≤ 1099511627776 ∧ x.v.text.length ≤ 140737488351232)
    (ho : Own w3 base t 5 (.slice A3 (n + 1) c3) (n + 1) (l.map EntC.cells ++ [x.cells])) (hb : Below w.heap.size w w3) : ChAt w3 A3 (n + 1) (l ++ [x]) := by
  refine ⟨by have := Own.sl' ho; rw [List.map_append]; exact this, fun e he => ?_, fun e he => ?_⟩
  · rcases List.mem_append.1 he with he | he
    · exact (h.at_ e he).below hb
    · simp only [List.mem_singleton] at he; subst he; exact hx.below hb
  · rcases List.mem_append.1 he with he | he
    · exact h.len e he
    · simp only [List.mem_singleton] at he; subst he; exact hl
set_option maxRecDepth 100000 in
set_option maxHeartbeats 16000000 in
theorem Next_any (w : World) (A : Option Addr) (n c : Nat) (l : List EntC) (hs : ChAt w A n l) (hn : n ≤ 1000) (device day : Int) (As : Option Addr) (m cs : Nat) (seen : List Int) (hse : Sl w 1 As m (seen.map intC)) (text : List UInt8) (ht : text.length ≤ 140737488351232) (v : EntV × Int) (hv : nextF (vsOf l) device day seen text = v) :
    Calls Tryz.prog 126 #[.slice A n c, .int .i64 device, .int .i64 day, .slice As m cs, .string ⟨text.toArray⟩] w (EntPost w v.1 (.int .i64 v.2)) := by
  obtain ⟨b1, hb1⟩ : ∃ b1 : Bool, (decide (0 ≤ device) && decide (device ≤ 7)) = b1 := ⟨_, rfl⟩
  have H1 := Lib.hid (fun w => within_any w device 7 b1 hb1)
  have HB := Lib.hid (Below.refl w.heap.size w)
  have hm : seen.length = m := by simpa using hse.1
  have hll : l.length = n := by simpa using hs.sl.1
  unfold nextF at hv
  rw [hb1, hm] at hv
  cases b1
  · rw [if_neg (by simp)] at hv
    subst hv
    clear hb1 hs hse ht hm hll
    go_enter Tryz.func126, Tryz.ntmps126
    go_wp2_with (first | ((with_reducible refine (H1.out _).mono ?_); rintro _ w9 ⟨rfl, hw9⟩; obtain rfl := hw9))
    refine bodyPost_ret (v := .tuple #[.agg #[.int .i64 0, .int .i64 0, .int .i64 0, .slice none 0 0, .string ⟨#[]⟩], .int .i64 1]) (by simp [results, Tryz.results126, go_sem, World.cell?_alloc_at]) rfl ?_
    exact zeroC_post (HB.out.alloc (Nat.le_refl _) _) _
  by_cases h8 : m = 8
  case neg =>
    rw [if_neg (by simp [h8])] at hv
    subst hv
    have hi : ¬ ((m : Int) = 8) := by omega
    have hbn : ((m : Int) == 8) = false := by rw [beq_eq_false_iff_ne]; exact hi
    clear hb1 hs hse ht hm hll h8
    go_enter Tryz.func126, Tryz.ntmps126
    go_wp2_with (first | ((with_reducible refine (H1.out _).mono ?_); rintro _ w9 ⟨rfl, hw9⟩; obtain rfl := hw9))
    refine bodyPost_ret (v := .tuple #[.agg #[.int .i64 0, .int .i64 0, .int .i64 0, .slice none 0 0, .string ⟨#[]⟩], .int .i64 1]) (by simp [results, Tryz.results126, go_sem, World.cell?_alloc_at]) rfl ?_
    exact zeroC_post (HB.out.alloc (Nat.le_refl _) _) _
  subst h8
  rw [if_pos ⟨rfl, rfl⟩] at hv
  have hd : 0 ≤ device ∧ device ≤ 7 := by simpa using hb1
  obtain ⟨k, rfl⟩ : ∃ k : Nat, device = (k : Int) := ⟨device.toNat, by omega⟩
  have HCI := Lib.hid (fun o => CloneI_any As 8 cs seen (w.alloc o) (hse.alloc o) (by omega))
  have hki : (k : Int) < 8 := by omega
  have hk0 : (0 : Int) ≤ (k : Int) := by omega
  have HK : Hid (k < 8) := Lib.hid (by omega)
  have HS := Lib.hid hs
  have HN := Lib.hid hn
  have HT := Lib.hid ht
  have HV := Lib.hid hv
  have HM := Lib.hid hm
  have HL := Lib.hid hll
  clear hb1 hs hse ht hm hll hv hd hn
  go_enter Tryz.func126, Tryz.ntmps126
  go_wp2_with (first | ((with_reducible refine (H1.out _).mono ?_); rintro _ w9 ⟨rfl, hw9⟩; obtain rfl := hw9))
  ((with_reducible refine (HCI.out _).mono ?_); rintro _ w1 ⟨A1, c1, rfl, ho, hb1⟩)
  obtain ⟨hX, hbT⟩ := locs1 hb1
  have X := Lib.hid hX
  have HB1 := Lib.hid (HB.out.trans hbT)
  have HO := Lib.hid (ho.mono (base' := w.heap.size + 1) (by simp))
  clear hX hbT hb1 ho HB HCI H1
  obtain ⟨s0, hs0⟩ : ∃ x, seen[k]? = some x := ⟨_, List.getElem?_eq_getElem (by rw [HM.out]; exact HK.out)⟩
  obtain ⟨g, c', he, hgb, hgz, hcell2, hfz⟩ := HO.out.at_ (i := k) (x := [.int .i64 s0]) (by rw [List.getElem?_map, hs0]; rfl)
  injection he with he1 he2 he3
  subst he1 he3
  have e0 := hcell2 0 _ rfl
  rw [Nat.add_zero, Nat.mul_one] at e0
  have e1 : ∀ o, (w1.alloc o).cell? ⟨g, k, none⟩ = some (.int .i64 s0) := fun o => ((bcell (below_alloc w1 o)).1 _ _ hgz).trans e0
  have f1 : ∀ o, (w1.alloc o).frozen? ⟨g, k, none⟩ = false := fun o => ((bcell (below_alloc w1 o)).2 _ _ hgz).trans (hfz k)
  have HST := Lib.hid (fun o => (HO.out.alloc o).stored (i := k) (j := 0) (x := [.int .i64 s0]) (by rw [List.getElem?_map, hs0]; rfl) (by omega) (.int .i64 (n : Int)))
  clear hcell2 hs0 hfz e0
  go_wp2_with (fail)
  have HO1 : Hid (Own (w1.setCell ⟨g, k, none⟩ (.int .i64 (n : Int))) (w.heap.size + 1) 3 1 (.slice (some ⟨g, 0, none⟩) 8 c1) 8 ((seen.set k (n : Int)).map intC)) := Lib.hid (by
    obtain ⟨s1, hs1⟩ : ∃ x, seen[k]? = some x := ⟨_, List.getElem?_eq_getElem (by rw [HM.out]; exact HK.out)⟩
    have h := HO.out.stored (i := k) (j := 0) (x := [.int .i64 s1]) (by rw [List.getElem?_map, hs1]; rfl) (by omega) (.int .i64 (n : Int))
    rw [Nat.add_zero, Nat.mul_one] at h
    rw [← map_set_intC]
    exact h)
  have X1 := Lib.hid (X.out.far (p := ⟨g, k, none⟩) (Nat.ne_of_gt hgb) (.int .i64 (n : Int)))
  have HB2 := Lib.hid (HB1.out.setCell (p := ⟨g, k, none⟩) (Nat.le_of_lt hgb) (.int .i64 (n : Int)))
  have hsz : w1.heap.size = (w1.setCell ⟨g, k, none⟩ (.int .i64 (n : Int))).heap.size := by simp
  rw [hsz]
  clear hsz HST e1 f1 hgz HO X HB1
  generalize (w1.setCell ⟨g, k, none⟩ (.int .i64 (n : Int))) = W1 at *
  have HO2 := Lib.hid (HO1.out.alloc (.cells #[.int .i64 (k : Int), .int .i64 (n : Int), .int .i64 day, .slice (some ⟨g, 0, none⟩) 8 c1, .string ⟨text.toArray⟩] 32))
  have X2 := Lib.hid (X1.out.alloc (.cells #[.int .i64 (k : Int), .int .i64 (n : Int), .int .i64 day, .slice (some ⟨g, 0, none⟩) 8 c1, .string ⟨text.toArray⟩] 32))
  have Y2 := Lib.hid (Loc.new_ W1 #[.int .i64 (k : Int), .int .i64 (n : Int), .int .i64 day, .slice (some ⟨g, 0, none⟩) 8 c1, .string ⟨text.toArray⟩] 32)
  have HB3 := Lib.hid (HB2.out.alloc HB2.out.size (.cells #[.int .i64 (k : Int), .int .i64 (n : Int), .int .i64 day, .slice (some ⟨g, 0, none⟩) 8 c1, .string ⟨text.toArray⟩] 32))
  clear HO1 X1 HB2
  generalize W1.heap.size = y at *
  generalize W1.alloc (.cells #[.int .i64 (k : Int), .int .i64 (n : Int), .int .i64 day, .slice (some ⟨g, 0, none⟩) 8 c1, .string ⟨text.toArray⟩] 32) = W at *
  have HS2 := Lib.hid (HS.out.below HB3.out)
  obtain ⟨x, hx⟩ : ∃ x : EntC, x = ⟨⟨(k : Int), (n : Int), day, seen.set k (n : Int), text⟩, some ⟨g, 0, none⟩, c1⟩ := ⟨_, rfl⟩
  have hl8 : (seen.set k (n : Int)).length = 8 := by rw [List.length_set]; exact HM.out
  have hxc : x.cells = [.int .i64 (k : Int), .int .i64 (n : Int), .int .i64 day, .slice (some ⟨g, 0, none⟩) 8 c1, .string ⟨text.toArray⟩] := by subst hx; simp only [EntC.cells, hl8]
  have hxv : x.v = nextV (vsOf l) (k : Int) day seen text := by subst hx; unfold nextV; rw [vsOf_len, HL.out, Int.toNat_natCast]
  have HXA : Hid (EntAt W x) := Lib.hid (by have h := Own.sl' HO2.out; subst hx; unfold EntAt; simp only; rw [hl8]; exact h)
  have HXL : Hid (x.v.seen.length ≤ 1099511627776 ∧ x.v.text.length ≤ 140737488351232) := Lib.hid (by subst hx; simp only; rw [hl8]; exact ⟨by omega, HT.out⟩)
  obtain ⟨r, hr⟩ : ∃ r, checkF (vsOf (l ++ [x])) = r := ⟨_, rfl⟩
  have HV2 : Hid ((if r = 0 then (x.v, (0 : Int)) else (.zero, r)) = v) := Lib.hid (by
    have e : vsOf (l ++ [x]) = vsOf l ++ [x.v] := by unfold vsOf; rw [List.map_append]; rfl
    have h := HV.out
    rw [← hxv, ← e, hr] at h
    exact h)
  have HR := Lib.hid hr
  have HXC := Lib.hid hxc
  have HXF : Hid (x.A = some ⟨g, 0, none⟩ ∧ x.v.seen.length = 8 ∧ x.v.seen = seen.set k (n : Int)) := Lib.hid (by subst hx; exact ⟨rfl, hl8, rfl⟩)
  have HGB := Lib.hid hgb
  clear HS hx hl8 hxc hxv hr HV HK HM HT hgb hk0 hki
  obtain ⟨i0, hi0, hz0, hz1, hz2⟩ := info_parts infoEnt
  have HNEW := Lib.hid (Sl.new_ W 32 [.int .i64 (k : Int), .int .i64 (n : Int), .int .i64 day, .slice (some ⟨g, 0, none⟩) 8 c1, .string ⟨text.toArray⟩])
  obtain ⟨zX2, kX2, fX2⟩ := X2.out
  obtain ⟨zY2, kY2, fY2⟩ := Y2.out
  go_region_law (first
    | (refine step_append_sl _ (by rfl) (.tmp 38) (.tmp 40) _ (by rfl) _ _ _ _ 5 64 Tryz.underlying22 hi0 hz0 hz1 hz2 rfl (by omega) _ _ _ (by rfl) (by first | exact hown2 | exact hown2.alloc _) _ _ _ [[.int .i64 (k : Int), .int .i64 (n : Int), .int .i64 day, .slice (some ⟨g, 0, none⟩) 8 c1, .string ⟨text.toArray⟩]] (by rfl) (by first | exact HNEW.out.below (undrew hb2) | exact Sl.new_ _ _ _) (by simp) (by simp [Value.oneCell']) (by have := HN.out; simp only [maxLen]; omega) (by have := HN.out; omega) (by have := hb2.size; simp at this ⊢; omega) ?_
       intro A3 c3 w3 hown3 hg3 hat3
       have hb3 : Below W.heap.size W w3 := by
         first
           | exact hown2.below_grown (by first | omega | (simp <;> omega)) (by first | omega | (simp <;> omega)) hu hg3
           | exact (hown2.alloc _).below_grown (by first | omega | (simp <;> omega)) (by first | omega | (simp <;> omega)) (hu.alloc (by have := hu.size; omega) _) hg3
       have HCH := Lib.hid (HS2.out.snoc HXA.out HXL.out (by rw [HXC.out]; exact hown3) hb3))
    | (go_simp; go_at_call 65
       refine (Check_any w3 A3 (n + 1) c3 (l ++ [x]) HCH.out r HR.out).mono ?_
       rintro _ w4 ⟨rfl, hb4⟩)
    | (go_simp; go_at_call 85
       refine (CloneE_any A n c l _ (by first | exact Sl.drew HS2.out.sl | exact Sl.drew (HS2.out.sl.alloc _)) HN.out).mono ?_
       rintro e w2 ⟨A2, c2, rfl, hown2, hb2⟩
       have hu : Below W.heap.size W w2 := by
         refine Below.trans ?_ ((undrew hb2).mono (by first | omega | (simp <;> omega)))
         repeat (first | exact Below.refl _ _ | refine Below.alloc ?_ (by first | omega | (simp <;> omega)) _)
       have hwu := hu.size
       obtain ⟨zY3, kY3, fY3⟩ := Y2.out.below hu))
  all_goals
    have HB4 := Lib.hid (HB3.out.trans ((hb3.trans (hb4.mono hb3.size)).mono HB3.out.size))
    have X4 := Lib.hid ((X2.out.below hb3).below hb4)
    have Y4 := Lib.hid ((Y2.out.below hb3).below hb4)
    have O4 := Lib.hid ((HO2.out.below hb3).below hb4)
    clear zX2 kX2 fX2 zY2 kY2 fY2 zY3 kY3 fY3 hb4 hown3 hg3 hat3 hb2 hown2 hu hwu hb3
    obtain ⟨zX4, kX4, fX4⟩ := X4.out
    obtain ⟨zY4, kY4, fY4⟩ := Y4.out
    by_cases h0 : r = 0
    · have e := HV2.out
      rw [if_pos h0] at e
      subst e
      subst h0
      go_wp2_with (fail)
      refine bodyPost_ret (v := .tuple #[.agg #[.int .i64 (k : Int), .int .i64 (n : Int), .int .i64 day, .slice (some ⟨g, 0, none⟩) 8 c1, .string ⟨text.toArray⟩], .int .i64 0]) (by simp [results, Tryz.results126, go_sem, *]) rfl ?_
      have HF := (((((O4.out.setBelow (p := ⟨w.heap.size, 0, none⟩) (Nat.lt_succ_self _) (.int .i64 (k : Int))).setBelow (p := ⟨w.heap.size, 1, none⟩) (Nat.lt_succ_self _) (.int .i64 (n : Int))).setBelow (p := ⟨w.heap.size, 2, none⟩) (Nat.lt_succ_self _) (.int .i64 day)).setBelow (p := ⟨w.heap.size, 3, none⟩) (Nat.lt_succ_self _) (.slice (some ⟨g, 0, none⟩) 8 c1)).setBelow (p := ⟨w.heap.size, 4, none⟩) (Nat.lt_succ_self _) (.string ⟨text.toArray⟩))
      obtain ⟨f1, f2, f3⟩ := HXF.out
      refine ⟨x, rfl, by rw [HXC.out], ⟨?_, fun ad e => ?_⟩, (((((HB4.out.setCell (p := ⟨w.heap.size, 0, none⟩) (Nat.le_refl _) (.int .i64 (k : Int))).setCell (p := ⟨w.heap.size, 1, none⟩) (Nat.le_refl _) (.int .i64 (n : Int))).setCell (p := ⟨w.heap.size, 2, none⟩) (Nat.le_refl _) (.int .i64 day)).setCell (p := ⟨w.heap.size, 3, none⟩) (Nat.le_refl _) (.slice (some ⟨g, 0, none⟩) 8 c1)).setCell (p := ⟨w.heap.size, 4, none⟩) (Nat.le_refl _) (.string ⟨text.toArray⟩))⟩
      · have hq := Own.sl' HF
        rw [f2, f1, f3]
        exact hq
      · rw [f1] at e
        injection e with e
        subst e
        exact Nat.le_of_lt HGB.out
    · have e := HV2.out
      rw [if_neg h0] at e
      subst e
      have hrb : (r == 0) = false := by simpa using h0
      go_wp2_with (fail)
      refine bodyPost_ret (v := .tuple #[.agg #[.int .i64 0, .int .i64 0, .int .i64 0, .slice none 0 0, .string ⟨#[]⟩], .int .i64 r]) (by simp [results, Tryz.results126, go_sem, *]) rfl ?_
      exact zeroC_post (((((HB4.out.setCell (p := ⟨w.heap.size, 0, none⟩) (Nat.le_refl _) (.int .i64 0)).setCell (p := ⟨w.heap.size, 1, none⟩) (Nat.le_refl _) (.int .i64 0)).setCell (p := ⟨w.heap.size, 2, none⟩) (Nat.le_refl _) (.int .i64 0)).setCell (p := ⟨w.heap.size, 3, none⟩) (Nat.le_refl _) (.slice none 0 0)).setCell (p := ⟨w.heap.size, 4, none⟩) (Nat.le_refl _) (.string ⟨#[]⟩)) _
end Go.Proofs.YtjncmlglhegnaaaGreatDoor
namespace Go.Proofs.YtjncmlglhegnaaaGreatDoor
open Go.RowKit Go.Sort Go.Lib

def plainB (x : EntV) : Bool := decide (x.seen.length ≤ 12) && (decide (x.text.length ≤ 200) || (decide (3990 < x.text.length) && decide (x.text.length ≤ 4010)))
theorem take_same {xs ys : List Int} {k : Nat} {x : Int} (h : xs.take k = ys.take k) (hx : xs[k]? = some x) (hy : ys[k]? = some x) : xs.take (k + 1) = ys.take (k + 1) := by
  rw [List.take_add_one, List.take_add_one, h, hx, hy]
set_option maxRecDepth 100000 in
set_option maxHeartbeats 2000000 in
theorem SameInts_any (w : World) (A1 A2 : Option Addr) (n c m d : Nat) (xs ys : List Int) (h1 : Sl w 1 A1 n (xs.map intC)) (h2 : Sl w 1 A2 m (ys.map intC)) (hn : n ≤ 1099511627776) (r : Bool) (hr : decide (xs = ys) = r) :
    Calls Tryz.prog 133 #[.slice A1 n c, .slice A2 m d] w fun e w' => e = .returned (.bool r) ∧ Below w.heap.size w w' := by
  obtain ⟨l1, _⟩ := h1.ints
  obtain ⟨l2, _⟩ := h2.ints
  by_cases hnm : n = m
  case neg =>
    have hr2 : r = false := by
      rw [← hr]
      refine decide_eq_false fun h => hnm ?_
      rw [← l1, ← l2, h]
    subst hr2
    have hi : ¬ ((n : Int) = (m : Int)) := by omega
    have hb : ((n : Int) == (m : Int)) = false := by rw [beq_eq_false_iff_ne]; intro h; exact hnm (by omega)
    clear h1 h2 l1 l2 hr hnm hn
    go_enter Tryz.func133, Tryz.ntmps133
    go_wp2_with (fail)
    go_ret
    exact ⟨rfl, Below.refl _ _⟩
  subst hnm
  have H1 := Lib.hid h1
  have H2 := Lib.hid h2
  have L1 := Lib.hid l1
  have L2 := Lib.hid l2
  have HR := Lib.hid hr
  have HN := Lib.hid hn
  clear h1 h2 l1 l2 hr hn
  go_enter Tryz.func133, Tryz.ntmps133
  go_wp2_with (fail)
  go_loopw [5] (fun iv wr => ∃ k : Nat, k ≤ n ∧ iv = .int .i64 (k : Int) ∧ Below w.heap.size w wr ∧ xs.take k = ys.take k) (fun i _ => n - (Go.RowKit.intOf i).toNat)
  case atStart => exact ⟨0, Nat.zero_le _, rfl, Below.refl _ _, rfl⟩
  case round =>
    obtain ⟨k, hk, rfl, hb, hz⟩ := hrel
    obtain ⟨wo, rfl⟩ : ∃ wo : World, wo = wr := ⟨_, rfl⟩
    have HB := Lib.hid hb
    have HZ := Lib.hid hz
    by_cases hlt : k < n
    · obtain ⟨x, hx⟩ : ∃ x, xs[k]? = some x := ⟨_, List.getElem?_eq_getElem (by rw [L1.out]; exact hlt)⟩
      obtain ⟨y, hy⟩ : ∃ x, ys[k]? = some x := ⟨_, List.getElem?_eq_getElem (by rw [L2.out]; exact hlt)⟩
      obtain ⟨b1, o1, rfl, hb1, e1⟩ := (H1.out.below hb).at1 (k := k) (v := .int .i64 x) (by rw [List.getElem?_map, hx]; rfl)
      obtain ⟨b2, o2, rfl, hb2, e2⟩ := (H2.out.below hb).at1 (k := k) (v := .int .i64 y) (by rw [List.getElem?_map, hy]; rfl)
      have hki : (k : Int) < (n : Int) := by omega
      have hk0 : (0 : Int) ≤ (k : Int) := by omega
      have HLT := Lib.hid hlt
      by_cases hxy : x = y
      · subst hxy
        have HZ2 := Lib.hid (take_same hz hx hy)
        have hwk : IntKind.i64.wrap ((k : Int) + 1) = (k : Int) + 1 := IntWalk.i64_in _ (by have := HN.out; omega)
        clear hb hz hlt hk hx hy hb1 hb2
        go_wp2_with (fail)
        go_quiet (fail)
        go_wp2_with (fail)
        go_roundw
        case rel => exact ⟨k + 1, HLT.out, by go_num, bdrewN HB.out _, HZ2.out⟩
        case measure => have := HLT.out; simp [Go.RowKit.intOf]; omega
      · have HR2 : Hid (false = r) := Lib.hid (by
          rw [← HR.out]
          refine (decide_eq_false fun h => hxy ?_).symm
          rw [h, hy] at hx
          exact (Option.some.inj hx).symm)
        have hxb : (x == y) = false := by simpa using hxy
        clear hb hz hlt hk hx hy hb1 hb2
        go_wp2_with (fail)
        go_quiet (fail)
        go_wp2_with (fail)
        go_ret
        exact ⟨by rw [← HR2.out]; rfl, bdrewN HB.out _⟩
    · obtain rfl : k = n := by omega
      have hki : (k : Int) ≤ (k : Int) := Int.le_refl _
      have HR2 : Hid (true = r) := Lib.hid (by
        rw [← HR.out]
        refine (decide_eq_true ?_).symm
        have e1 := hz
        rw [List.take_of_length_le (by rw [L1.out]; exact Nat.le_refl _), List.take_of_length_le (by rw [L2.out]; exact Nat.le_refl _)] at e1
        exact e1)
      clear hb hz hlt hk
      go_wp2_with (fail)
      go_ret
      exact ⟨by rw [← HR2.out]; rfl, HB.out⟩
set_option maxRecDepth 100000 in
set_option maxHeartbeats 2000000 in
theorem RSame_any (w : World) (a b : EntC) (ha : EntAt w a) (hb : EntAt w b) (hn : a.v.seen.length ≤ 1099511627776) (r : Bool) (hr : sameB a.v b.v = r) :
    Calls Tryz.prog 84 #[.agg a.cells.toArray, .agg b.cells.toArray] w fun x w' => x = .returned (.bool r) ∧ Below w.heap.size w w' := by
  obtain ⟨⟨d1, n1, y1, l1, t1⟩, A1, c1⟩ := a
  obtain ⟨⟨d2, n2, y2, l2, t2⟩, A2, c2⟩ := b
  simp only [EntC.cells, EntAt, sameB] at ha hb hn hr ⊢
  have HC := Lib.hid (fun o o' q hq => SameInts_any ((w.alloc o).alloc o') A1 A2 l1.length c1 l2.length c2 l1 l2 ((ha.alloc o).alloc o') ((hb.alloc o).alloc o') hn q hq)
  have HB := Lib.hid (fun o o' => ((Below.refl w.heap.size w).alloc (Nat.le_refl _) o).alloc (by simp) o')
  clear ha hb hn
  have HR := Lib.hid hr
  clear hr
  generalize l1.length = k1 at *
  generalize l2.length = k2 at *
  by_cases hd : d1 = d2
  case neg =>
    have hdb : (d1 == d2) = false := by simpa using hd
    have HR2 : Hid (false = r) := Lib.hid (by rw [← HR.out]; simp [hd])
    clear HR
    go_enter Tryz.func84, Tryz.ntmps84
    go_wp2_with (fail)
    go_ret
    exact ⟨by rw [← HR2.out]; rfl, HB.out _ _⟩
  subst hd
  by_cases hd : n1 = n2
  case neg =>
    have hdb : (n1 == n2) = false := by simpa using hd
    have HR2 : Hid (false = r) := Lib.hid (by rw [← HR.out]; simp [hd])
    clear HR
    go_enter Tryz.func84, Tryz.ntmps84
    go_wp2_with (fail)
    go_ret
    exact ⟨by rw [← HR2.out]; rfl, HB.out _ _⟩
  subst hd
  by_cases hd : y1 = y2
  case neg =>
    have hdb : (y1 == y2) = false := by simpa using hd
    have HR2 : Hid (false = r) := Lib.hid (by rw [← HR.out]; simp [hd])
    clear HR
    go_enter Tryz.func84, Tryz.ntmps84
    go_wp2_with (fail)
    go_ret
    exact ⟨by rw [← HR2.out]; rfl, HB.out _ _⟩
  subst hd
  by_cases hd : t1 = t2
  case neg =>
    have hdb : (t1 == t2) = false := by simpa using hd
    have HR2 : Hid (false = r) := Lib.hid (by rw [← HR.out]; simp [hd])
    clear HR
    go_enter Tryz.func84, Tryz.ntmps84
    go_wp2_with (fail)
    go_ret
    exact ⟨by rw [← HR2.out]; rfl, HB.out _ _⟩
  subst hd
  have HR2 : Hid (decide (l1 = l2) = r) := Lib.hid (by rw [← HR.out]; simp)
  have HC := Lib.hid (fun o o' => HC.out o o' r HR2.out)
  go_enter Tryz.func84, Tryz.ntmps84
  go_wp2_with ((with_reducible refine (HC.out _ _).mono ?_); rintro _ w9 ⟨rfl, hb9⟩)
  go_ret
  exact ⟨rfl, (HB.out _ _).trans (hb9.mono (HB.out _ _).size)⟩
end Go.Proofs.YtjncmlglhegnaaaGreatDoor
