/- chain: the reference's Next, walked (written by wip/gen_chainre.py). -/
import Derived.Test.YtjncmlglhegnaaaGreatDoorDevN
import Derived.Test.YtjncmlglhegnaaaGreatDoorChainJ
namespace Go.Proofs.YtjncmlglhegnaaaGreatDoor
open Go.RowKit Go.Sort Go.Lib

set_option maxRecDepth 100000 in
set_option maxHeartbeats 16000000 in
theorem RNext_any (w : World) (A : Option Addr) (n c : Nat) (l : List EntC) (hs : ChAt w A n l) (hn : n ≤ 1000) (device day : Int) (As : Option Addr) (m cs : Nat) (seen : List Int) (hse : Sl w 1 As m (seen.map intC)) (text : List UInt8) (ht : text.length ≤ 140737488351232) (v : EntV × Int) (hv : nextF (vsOf l) device day seen text = v) :
    Calls Tryz.prog 129 #[.slice A n c, .int .i64 device, .int .i64 day, .slice As m cs, .string ⟨text.toArray⟩] w (EntPost w v.1 (.int .i64 v.2)) := by
  obtain ⟨b1, hb1⟩ : ∃ b1 : Bool, (decide (0 ≤ device) && decide (device ≤ 7)) = b1 := ⟨_, rfl⟩
  have H1 := Lib.hid (fun w => RIn_any w device 0 7 b1 hb1)
  have HB := Lib.hid (Below.refl w.heap.size w)
  have hm : seen.length = m := by simpa using hse.1
  have hll : l.length = n := by simpa using hs.sl.1
  unfold nextF at hv
  rw [hb1, hm] at hv
  cases b1
  · rw [if_neg (by simp)] at hv
    subst hv
    clear hb1 hs hse ht hm hll
    go_enter Tryz.func129, Tryz.ntmps129
    go_wp2_with (first | ((with_reducible refine (H1.out _).mono ?_); rintro _ w9 ⟨rfl, hw9⟩; obtain rfl := hw9))
    refine bodyPost_ret (v := .tuple #[.agg #[.int .i64 0, .int .i64 0, .int .i64 0, .slice none 0 0, .string ⟨#[]⟩], .int .i64 1]) (by simp [results, Tryz.results129, go_sem, World.cell?_alloc_at]) rfl ?_
    exact zeroC_post (HB.out.alloc (Nat.le_refl _) _) _
  by_cases h8 : m = 8
  case neg =>
    rw [if_neg (by simp [h8])] at hv
    subst hv
    have hi : ¬ ((m : Int) = 8) := by omega
    have hbn : ((m : Int) == 8) = false := by rw [beq_eq_false_iff_ne]; exact hi
    clear hb1 hs hse ht hm hll h8
    go_enter Tryz.func129, Tryz.ntmps129
    go_wp2_with (first | ((with_reducible refine (H1.out _).mono ?_); rintro _ w9 ⟨rfl, hw9⟩; obtain rfl := hw9))
    refine bodyPost_ret (v := .tuple #[.agg #[.int .i64 0, .int .i64 0, .int .i64 0, .slice none 0 0, .string ⟨#[]⟩], .int .i64 1]) (by simp [results, Tryz.results129, go_sem, World.cell?_alloc_at]) rfl ?_
    exact zeroC_post (HB.out.alloc (Nat.le_refl _) _) _
  subst h8
  rw [if_pos ⟨rfl, rfl⟩] at hv
  have hd : 0 ≤ device ∧ device ≤ 7 := by simpa using hb1
  obtain ⟨k, rfl⟩ : ∃ k : Nat, device = (k : Int) := ⟨device.toNat, by omega⟩
  have HSE := Lib.hid hse
  have hki : (k : Int) < 8 := by omega
  have hk0 : (0 : Int) ≤ (k : Int) := by omega
  have HK : Hid (k < 8) := Lib.hid (by omega)
  have HS := Lib.hid hs
  have HN := Lib.hid hn
  have HT := Lib.hid ht
  have HV := Lib.hid hv
  have HM := Lib.hid hm
  have HL := Lib.hid hll
  clear hb1 hs hse ht hm hll hv hd hn
  go_enter Tryz.func129, Tryz.ntmps129
  obtain ⟨i1, hj0, hj1, hj2, hj3⟩ := info_parts infoInt
  go_upto_region 4 with (first
    | ((with_reducible refine (H1.out _).mono ?_); rintro _ w9 ⟨rfl, hw9⟩; obtain rfl := hw9)
    | (at_builtin; refine wpList_append_sl _ rfl (.tmp 27) (.tmp 28) _ rfl (w.heap.size + 1) 3 i1 _ 1 8 Tryz.underlying30 hj0 hj1 hj2 hj3 rfl (by omega) (.slice (some ⟨w.heap.size + 1, 0, none⟩) 0 0) 0 [] rfl (Own.empty (by simp) (Nat.le_refl _)) As 8 cs (seen.map intC) rfl ((HSE.out.alloc _).alloc _) (ints_len seen) (ints_one seen) (by simp [maxLen]) (by omega) (by simp) ?_; intro A1 c1 w1 hown1 hg1 hat1; rw [Nat.zero_add, List.nil_append] at hown1; have hbg : Below w.heap.size w w1 := (((Below.refl w.heap.size w).alloc (Nat.le_refl _) _).alloc (by simp) _).grown hg1 (by simp <;> omega) (fun k hk => by simp [Value.ownBlock] at hk; omega); have hXg := (((Loc.new_ w #[.int .i64 0, .int .i64 0, .int .i64 0, .slice none 0 0, .string ⟨#[]⟩] 32).alloc (.cells #[] 3)).grown hg1 (by simp [Value.ownBlock])); have HB1 := Lib.hid hbg; have X := Lib.hid hXg; have HO := Lib.hid hown1; clear hbg hXg hown1 hg1 hat1))
  obtain ⟨s0, hs0⟩ : ∃ x, seen[k]? = some x := ⟨_, List.getElem?_eq_getElem (by rw [HM.out]; exact HK.out)⟩
  obtain ⟨g, c', he, hgb, hgz, hcell2, hfz⟩ := HO.out.at_ (i := k) (x := [.int .i64 s0]) (by rw [List.getElem?_map, hs0]; rfl)
  injection he with he1 he2 he3
  subst he1 he3
  have e0 := hcell2 0 _ rfl
  rw [Nat.add_zero, Nat.mul_one] at e0
  have e1 : ∀ o, (w1.alloc o).cell? ⟨g, k, none⟩ = some (.int .i64 s0) := fun o => ((bcell (below_alloc w1 o)).1 _ _ hgz).trans e0
  have f1 : ∀ o, (w1.alloc o).frozen? ⟨g, k, none⟩ = false := fun o => ((bcell (below_alloc w1 o)).2 _ _ hgz).trans (hfz k)
  have HST := Lib.hid (fun o => (HO.out.alloc o).stored (i := k) (j := 0) (x := [.int .i64 s0]) (by rw [List.getElem?_map, hs0]; rfl) (by omega) (.int .i64 (n : Int)))
  clear hcell2 hs0 hfz e0
  go_wp2_with (fail)
  have HO1 : Hid (Own (w1.setCell ⟨g, k, none⟩ (.int .i64 (n : Int))) (w.heap.size + 1) 3 1 (.slice (some ⟨g, 0, none⟩) 8 c1) 8 ((seen.set k (n : Int)).map intC)) := Lib.hid (by
    obtain ⟨s1, hs1⟩ : ∃ x, seen[k]? = some x := ⟨_, List.getElem?_eq_getElem (by rw [HM.out]; exact HK.out)⟩
    have h := HO.out.stored (i := k) (j := 0) (x := [.int .i64 s1]) (by rw [List.getElem?_map, hs1]; rfl) (by omega) (.int .i64 (n : Int))
    rw [Nat.add_zero, Nat.mul_one] at h
    rw [← map_set_intC]
    exact h)
  have X1 := Lib.hid (X.out.far (p := ⟨g, k, none⟩) (Nat.ne_of_gt hgb) (.int .i64 (n : Int)))
  have HB2 := Lib.hid (HB1.out.setCell (p := ⟨g, k, none⟩) (Nat.le_of_lt hgb) (.int .i64 (n : Int)))
  have hsz : w1.heap.size = (w1.setCell ⟨g, k, none⟩ (.int .i64 (n : Int))).heap.size := by simp
  rw [hsz]
  clear hsz HST e1 f1 hgz HO X HB1
  generalize (w1.setCell ⟨g, k, none⟩ (.int .i64 (n : Int))) = W1 at *
  have HO2 := Lib.hid (HO1.out.alloc (.cells #[.int .i64 (k : Int), .int .i64 (n : Int), .int .i64 day, .slice (some ⟨g, 0, none⟩) 8 c1, .string ⟨text.toArray⟩] 32))
  have X2 := Lib.hid (X1.out.alloc (.cells #[.int .i64 (k : Int), .int .i64 (n : Int), .int .i64 day, .slice (some ⟨g, 0, none⟩) 8 c1, .string ⟨text.toArray⟩] 32))
  have Y2 := Lib.hid (Loc.new_ W1 #[.int .i64 (k : Int), .int .i64 (n : Int), .int .i64 day, .slice (some ⟨g, 0, none⟩) 8 c1, .string ⟨text.toArray⟩] 32)
  have HB3 := Lib.hid (HB2.out.alloc HB2.out.size (.cells #[.int .i64 (k : Int), .int .i64 (n : Int), .int .i64 day, .slice (some ⟨g, 0, none⟩) 8 c1, .string ⟨text.toArray⟩] 32))
  clear HO1 X1 HB2
  generalize W1.heap.size = y at *
  generalize W1.alloc (.cells #[.int .i64 (k : Int), .int .i64 (n : Int), .int .i64 day, .slice (some ⟨g, 0, none⟩) 8 c1, .string ⟨text.toArray⟩] 32) = W at *
  have HS2 := Lib.hid (HS.out.below HB3.out)
  obtain ⟨x, hx⟩ : ∃ x : EntC, x = ⟨⟨(k : Int), (n : Int), day, seen.set k (n : Int), text⟩, some ⟨g, 0, none⟩, c1⟩ := ⟨_, rfl⟩
  have hl8 : (seen.set k (n : Int)).length = 8 := by rw [List.length_set]; exact HM.out
  have hxc : x.cells = [.int .i64 (k : Int), .int .i64 (n : Int), .int .i64 day, .slice (some ⟨g, 0, none⟩) 8 c1, .string ⟨text.toArray⟩] := by subst hx; simp only [EntC.cells, hl8]
  have hxv : x.v = nextV (vsOf l) (k : Int) day seen text := by subst hx; unfold nextV; rw [vsOf_len, HL.out, Int.toNat_natCast]
  have HXA : Hid (EntAt W x) := Lib.hid (by have h := Own.sl' HO2.out; subst hx; unfold EntAt; simp only; rw [hl8]; exact h)
  have HXL : Hid (x.v.seen.length ≤ 1099511627776 ∧ x.v.text.length ≤ 140737488351232) := Lib.hid (by subst hx; simp only; rw [hl8]; exact ⟨by omega, HT.out⟩)
  obtain ⟨r, hr⟩ : ∃ r, checkF (vsOf (l ++ [x])) = r := ⟨_, rfl⟩
  have HV2 : Hid ((if r = 0 then (x.v, (0 : Int)) else (.zero, r)) = v) := Lib.hid (by
    have e : vsOf (l ++ [x]) = vsOf l ++ [x.v] := by unfold vsOf; rw [List.map_append]; rfl
    have h := HV.out
    rw [← hxv, ← e, hr] at h
    exact h)
  have HR := Lib.hid hr
  have HXC := Lib.hid hxc
  have HXF : Hid (x.A = some ⟨g, 0, none⟩ ∧ x.v.seen.length = 8 ∧ x.v.seen = seen.set k (n : Int)) := Lib.hid (by subst hx; exact ⟨rfl, hl8, rfl⟩)
  have HGB := Lib.hid hgb
  clear HS hx hl8 hxc hxv hr HV HK HM HT hgb hk0 hki
  obtain ⟨i0, hi0, hz0, hz1, hz2⟩ := info_parts infoEnt
  have HNEW := Lib.hid (Sl.new_ W 32 [.int .i64 (k : Int), .int .i64 (n : Int), .int .i64 day, .slice (some ⟨g, 0, none⟩) 8 c1, .string ⟨text.toArray⟩])
  obtain ⟨zX2, kX2, fX2⟩ := X2.out
  obtain ⟨zY2, kY2, fY2⟩ := Y2.out
  go_cut [13] (fun s13 wy => s13 = .int .i64 r ∧ Below W.heap.size W wy)
  case first =>
    go_region_law (first
      | (refine step_append_sl _ (by rfl) (.tmp 38) (.tmp 39) _ (by rfl) W.heap.size 32 i0 _ 5 64 Tryz.underlying22 hi0 hz0 hz1 hz2 rfl (by omega) (.slice (some ⟨_, 0, none⟩) 0 0) 0 [] (by rfl) (by first | exact Own.empty (by simp) (by first | exact Nat.le_refl _ | simp) | exact (Own.empty (by simp) (by first | exact Nat.le_refl _ | simp)).alloc _) A n c (l.map EntC.cells) (by rfl) (by first | exact Sl.alloc (Sl.drew HS2.out.sl) _ | exact Sl.alloc (Sl.alloc (Sl.drew HS2.out.sl) _) _) (ents_len _) (ents_one _) (by have := HN.out; simp only [maxLen]; omega) (by have := HN.out; omega) (by simp <;> omega) ?_
         intro Ax cx wA hown1 hg1 hat1
         rw [Nat.zero_add, List.nil_append] at hown1
         have hbA : Below W.heap.size W wA := by
           first
             | exact (((((Below.refl W.heap.size W).alloc (Nat.le_refl _) _).drew).grown hg1 (by simp) (fun k hk => by simp [Value.ownBlock] at hk; omega)))
             | exact ((((((Below.refl W.heap.size W).alloc (Nat.le_refl _) _).alloc (by simp) _).drew).grown hg1 (by simp; omega) (fun k hk => by simp [Value.ownBlock] at hk; omega)))
         obtain ⟨zYA, kYA, fYA⟩ := Y2.out.below hbA)
      | (refine step_append_sl _ (by rfl) (.tmp 40) (.tmp 42) _ (by rfl) W.heap.size 32 i0 _ 5 64 Tryz.underlying22 hi0 hz0 hz1 hz2 rfl (by omega) (.slice Ax n cx) n (l.map EntC.cells) (by rfl) (by first | exact hown1 | exact hown1.alloc _) _ 1 _ [[.int .i64 (k : Int), .int .i64 (n : Int), .int .i64 day, .slice (some ⟨g, 0, none⟩) 8 c1, .string ⟨text.toArray⟩]] (by rfl) (by first | exact Sl.new_ _ _ _ | exact Sl.grown (by first | exact Sl.drew (Sl.alloc (Sl.new_ W _ [.int .i64 (k : Int), .int .i64 (n : Int), .int .i64 day, .slice (some ⟨g, 0, none⟩) 8 c1, .string ⟨text.toArray⟩]) _) | (have h := Sl.drew (Sl.new_ (W.alloc (.cells #[] 32)) 32 [.int .i64 (k : Int), .int .i64 (n : Int), .int .i64 day, .slice (some ⟨g, 0, none⟩) 8 c1, .string ⟨text.toArray⟩]); simp only [World.size_alloc] at h; exact h)) hg1 (.inr (fun ad e => by injection e with e; subst e; simp [Value.ownBlock]))) (by simp) (by simp [Value.oneCell']) (by have := HN.out; simp only [maxLen]; omega) (by have := HN.out; omega) (by first | exact hbA.size | exact Nat.le_trans hbA.size (by simp)) ?_
         intro A2 c2 wB hown2 hg2 hat2
         have hbB : Below W.heap.size W wB := by
           first
             | exact hown1.below_grown (Nat.le_refl _) hbA.size hbA hg2
             | exact (hown1.alloc _).below_grown (Nat.le_refl _) (by have := hbA.size; simp; omega) (hbA.alloc hbA.size _) hg2
         have HCHK := Lib.hid (HS2.out.snoc HXA.out HXL.out (by rw [HXC.out]; exact hown2) hbB))
      | (go_simp; go_at_call 71
         refine (RCheck_any wB A2 (n + 1) c2 (l ++ [x]) HCHK.out r HR.out).mono ?_
         rintro _ w4 ⟨rfl, hb4⟩
         have hbC := hbB.trans (hb4.mono hbB.size)))
    all_goals
      go_wp2_with (fail)
      go_meet
      exact ⟨rfl, hbC⟩
  case rest =>
    obtain ⟨rfl, hbr⟩ := hcut
    obtain ⟨w4, rfl⟩ : ∃ w4 : World, w4 = wc := ⟨_, rfl⟩
    have HB4 := Lib.hid (HB3.out.trans (hbr.mono HB3.out.size))
    have X4 := Lib.hid (X2.out.below hbr)
    have Y4 := Lib.hid (Y2.out.below hbr)
    have O4 := Lib.hid (HO2.out.below hbr)
    clear zX2 kX2 fX2 zY2 kY2 fY2 hbr
    obtain ⟨zX4, kX4, fX4⟩ := X4.out
    obtain ⟨zY4, kY4, fY4⟩ := Y4.out
    by_cases h0 : r = 0
    · have e := HV2.out
      rw [if_pos h0] at e
      subst e
      subst h0
      go_wp2_with (fail)
      refine bodyPost_ret (v := .tuple #[.agg #[.int .i64 (k : Int), .int .i64 (n : Int), .int .i64 day, .slice (some ⟨g, 0, none⟩) 8 c1, .string ⟨text.toArray⟩], .int .i64 0]) (by simp [results, Tryz.results129, go_sem, *]) rfl ?_
      have HF := (((((O4.out.setBelow (p := ⟨w.heap.size, 0, none⟩) (Nat.lt_succ_self _) (.int .i64 (k : Int))).setBelow (p := ⟨w.heap.size, 1, none⟩) (Nat.lt_succ_self _) (.int .i64 (n : Int))).setBelow (p := ⟨w.heap.size, 2, none⟩) (Nat.lt_succ_self _) (.int .i64 day)).setBelow (p := ⟨w.heap.size, 3, none⟩) (Nat.lt_succ_self _) (.slice (some ⟨g, 0, none⟩) 8 c1)).setBelow (p := ⟨w.heap.size, 4, none⟩) (Nat.lt_succ_self _) (.string ⟨text.toArray⟩))
      obtain ⟨f1, f2, f3⟩ := HXF.out
      refine ⟨x, rfl, by rw [HXC.out], ⟨?_, fun ad e => ?_⟩, (((((HB4.out.setCell (p := ⟨w.heap.size, 0, none⟩) (Nat.le_refl _) (.int .i64 (k : Int))).setCell (p := ⟨w.heap.size, 1, none⟩) (Nat.le_refl _) (.int .i64 (n : Int))).setCell (p := ⟨w.heap.size, 2, none⟩) (Nat.le_refl _) (.int .i64 day)).setCell (p := ⟨w.heap.size, 3, none⟩) (Nat.le_refl _) (.slice (some ⟨g, 0, none⟩) 8 c1)).setCell (p := ⟨w.heap.size, 4, none⟩) (Nat.le_refl _) (.string ⟨text.toArray⟩))⟩
      · have hq := Own.sl' HF
        rw [f2, f1, f3]
        exact hq
      · rw [f1] at e
        injection e with e
        subst e
        exact Nat.le_of_lt HGB.out
    · have e := HV2.out
      rw [if_neg h0] at e
      subst e
      have hrb : (r == 0) = false := by simpa using h0
      go_wp2_with (fail)
      refine bodyPost_ret (v := .tuple #[.agg #[.int .i64 0, .int .i64 0, .int .i64 0, .slice none 0 0, .string ⟨#[]⟩], .int .i64 r]) (by simp [results, Tryz.results129, go_sem, *]) rfl ?_
      exact zeroC_post (((((HB4.out.setCell (p := ⟨w.heap.size, 0, none⟩) (Nat.le_refl _) (.int .i64 0)).setCell (p := ⟨w.heap.size, 1, none⟩) (Nat.le_refl _) (.int .i64 0)).setCell (p := ⟨w.heap.size, 2, none⟩) (Nat.le_refl _) (.int .i64 0)).setCell (p := ⟨w.heap.size, 3, none⟩) (Nat.le_refl _) (.slice none 0 0)).setCell (p := ⟨w.heap.size, 4, none⟩) (Nat.le_refl _) (.string ⟨#[]⟩)) _
end Go.Proofs.YtjncmlglhegnaaaGreatDoor
