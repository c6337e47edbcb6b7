/- merge: the law MergeForks, walked. -/
import Derived.Test.YtnnnibkainlplaaDoorMrgG
import Derived.Test.YtnnnibkainlplaaDoorMrgM0
import Derived.Deep.RegionHeld3
namespace Go.Proofs.YtnnnibkainlplaaDoor
open Go.RowKit Go.Sort Go.Lib

theorem Sep.cellB {w0 w : World} {g c n e : Nat} {te : Bool} {t : List Bool} {Rs : List Res} (h : Sep w0 w (ownR 4 1 (.slice (some ⟨g, 0, none⟩) n c) n (t.map boolC) :: Rs)) (ht : t[e]? = some te) :
    g < w.heap.size ∧ w.cell? ⟨g, e, none⟩ = some (.bool te) ∧ ∀ j, w.frozen? ⟨g, j, none⟩ = false := by
  obtain ⟨g', c', hv, _, h1, h2, h3⟩ := h.own.at_ (i := e) (x := boolC te) (by rw [List.getElem?_map, ht]; rfl)
  injection hv with hA
  injection hA with hA
  injection hA with hA
  subst hA
  have := h2 0 _ rfl
  rw [Nat.mul_one, Nat.add_zero] at this
  exact ⟨h1, this, h3⟩
theorem Sep.setB {w0 w : World} {g c n e : Nat} {te : Bool} {t : List Bool} {Rs : List Res} (h : Sep w0 w (ownR 4 1 (.slice (some ⟨g, 0, none⟩) n c) n (t.map boolC) :: Rs)) (ht : t[e]? = some te) (v : Bool) :
    Sep w0 (w.setCell ⟨g, e, none⟩ (.bool v)) (ownR 4 1 (.slice (some ⟨g, 0, none⟩) n c) n ((t.set e v).map boolC) :: Rs) := by
  have := h.stored (i := e) (x := boolC te) (by rw [List.getElem?_map, ht]; rfl) 0 (by omega) (.bool v)
  rw [Nat.mul_one, Nat.add_zero] at this
  rw [List.map_set]
  exact this
def HitF (x : EntV) (L : List EntV) (f : Int) : Int := if HitB x L = true then min f x.no else f
theorem hitF_is (x : EntV) (L : List EntV) (f : Int) : HitF x L f = if HitB x L = true then min f x.no else f := rfl
theorem hitF_nil (x : EntV) (f : Int) : HitF x [] f = f := rfl
theorem hitF_snoc {x y : EntV} {L : List EntV} {k : Nat} {f : Int} {r : Bool} (hy : L[k]? = some y) (hr : convictsB x y = r) : HitF x (L.take (k + 1)) f = if r = true then min (HitF x (L.take k) f) x.no else HitF x (L.take k) f := by
  have e : HitB x (L.take (k + 1)) = (HitB x (L.take k) || r) := by
    rw [take_succ' hy]
    unfold HitB
    rw [List.any_append, List.any_cons, List.any_nil, Bool.or_false, hr]
  unfold HitF
  rw [e]
  cases r
  · simp
  · simp only [Bool.or_true, if_true]
    split <;> omega
set_option maxRecDepth 100000 in
set_option maxHeartbeats 16000000 in
theorem mergeForks_any {B0 : Nat} (w : World) (hE : Env B0 w) (hB0 : B0 ≤ w.heap.size) (A1 : Option Addr) (n1 c1 : Nat) (l1 : List EntC) (hs1 : Sl w 5 A1 n1 (l1.map EntC.cells)) (ho1 : ∀ u ∈ l1, EntAt w u) :
    Calls Tryd.prog 6 #[.slice A1 n1 c1] w fun e w' => e = .returned (.bool true) ∧ Below w.heap.size w w' := by
  obtain ⟨ib, hi0, hi1, hi2, hi3⟩ := info_parts infoBool
  have HEV := Lib.hid (fun W (hb : Below w.heap.size w W) => (⟨hE.below (hb.mono hB0), Nat.le_trans hB0 hb.size⟩ : Env B0 W ∧ B0 ≤ W.heap.size))
  have HSM := Lib.hid (small47_any w hE hB0)
  have HS1 := Lib.hid hs1
  have HC1 := Lib.hid (fun W (hb : Below w.heap.size w W) h => FewM.ch (hs1.below hb) (fun u hu => Sl.below (ho1 u hu) hb) h)
  have HB : Hid (Below w.heap.size w w) := Lib.hid (Below.refl _ _)
  clear hE hB0 hs1 ho1
  go_enter Tryd.func6, Tryd.ntmps6
  go_wp2_with (fail)
  ((with_reducible refine (HSM.out).mono ?_); rintro _ w1 ⟨rfl, hb1⟩)
  have hbT := hb1
  replace HB := Lib.hid (HB.out.trans (hbT.mono HB.out.size))
  clear hbT hb1 
  go_wp2_with (fail)
  ((with_reducible refine (few47_40 w1 A1 n1 c1 l1 (HS1.out.below HB.out)).mono ?_); rintro _ w2 ⟨k1, rfl, hk1, hb2⟩)
  have hbT := hb2
  replace HB := Lib.hid (HB.out.trans (hbT.mono HB.out.size))
  clear hbT hb2 
  have HK1 := Lib.hid hk1
  clear hk1
  cases k1
  case false =>
    go_wp2_with (fail)
    go_ret
    exact ⟨rfl, HB.out⟩
  have HL1 := Lib.hid (HC1.out _ HB.out (HK1.out (by simp)).1)
  have hn1 : n1 ≤ 40 := by rw [← HL1.out.lenEq]; exact (HK1.out (by simp)).2
  clear HC1 HK1 HS1 HSM
  obtain ⟨V, hV⟩ : ∃ V, vsOf l1 = V := ⟨_, rfl⟩
  have HV := Lib.hid hV
  clear hV
  go_wp2_with (fail)
  ((with_reducible refine (Forks_any w2 (HEV.out _ HB.out).1 (HEV.out _ HB.out).2 A1 n1 c1 l1 HL1.out (by omega) (forkO V) (by rw [HV.out])).mono ?_); rintro _ w3 ⟨A3, c3, rfl, h3, hb3⟩)
  have hbT := hb3
  replace HB := Lib.hid (HB.out.trans (hbT.mono HB.out.size))
  replace HL1 := Lib.hid (HL1.out.below hbT)
  clear hbT hb3 
  have HG3 := Lib.hid h3.sl'
  have hn3 : (forkO V).length ≤ 8 := forkO_len V
  obtain ⟨n3, hn3e⟩ : ∃ n, (forkO V).length = n := ⟨_, rfl⟩
  rw [hn3e] at hn3 HG3 ⊢
  clear h3 hn3e
  go_wp2_with (fail)
  ((with_reducible refine (Heads_any w3 (HEV.out _ HB.out).1 (HEV.out _ HB.out).2 A1 n1 c1 l1 HL1.out (by omega)).mono ?_); rintro _ w4 ⟨g4, rfl, h4, hb4⟩)
  have hbT := hb4
  replace HB := Lib.hid (HB.out.trans (hbT.mono HB.out.size))
  replace HL1 := Lib.hid (HL1.out.below hbT)
  replace HG3 := Lib.hid (HG3.out.below hbT)
  clear hbT hb4 
  rw [HV.out] at h4
  have HG4 := Lib.hid h4.sl'
  clear h4
  go_wp2_with (fail)
  ((with_reducible refine (Missing_any w4 (HEV.out _ HB.out).1 (HEV.out _ HB.out).2 A1 n1 c1 l1 HL1.out (by omega) (missF (joinF V)) (by rw [HV.out])).mono ?_); rintro _ w5 ⟨A5, c5, rfl, h5, hb5⟩)
  have hbT := hb5
  replace HB := Lib.hid (HB.out.trans (hbT.mono HB.out.size))
  replace HL1 := Lib.hid (HL1.out.below hbT)
  replace HG3 := Lib.hid (HG3.out.below hbT)
  replace HG4 := Lib.hid (HG4.out.below hbT)
  clear hbT hb5 
  have HG5 := Lib.hid h5
  have hn5 : (missF (joinF V)).length ≤ 8 := miss_le8 _
  obtain ⟨n5, hn5e⟩ : ∃ n, (missF (joinF V)).length = n := ⟨_, rfl⟩
  rw [hn5e] at hn5 HG5 ⊢
  have HN5 := Lib.hid hn5e
  clear h5 hn5e
  go_wp2_with (fail)
  go_loopw [7] (fun iv wr => ∃ d : Nat, d ≤ 8 ∧ iv = .int .i64 (d : Int) ∧ Below w5.heap.size w5 wr) (fun iv _ => 8 - (intOf iv).toNat)
  case atStart => exact ⟨0, by omega, rfl, Below.refl _ _⟩
  case round =>
    obtain ⟨d, hd, rfl, hb⟩ := hrel
    obtain ⟨wo, rfl⟩ : ∃ wo : World, wo = wr := ⟨_, rfl⟩
    have HBR := Lib.hid hb
    by_cases hlt : d < 8
    case neg =>
      obtain rfl : d = 8 := by omega
      have hdi : ¬ ((8 : Nat) : Int) < 8 := by omega
      have HB2 := Lib.hid (HB.out.trans (hb.mono HB.out.size))
      clear hb
      go_wp2_with (fail)
      go_ret
      exact ⟨rfl, HB2.out⟩
    have hdi : (d : Int) < 8 := by omega
    have hd0 : (0 : Int) ≤ (d : Int) := by omega
    have hwd : IntKind.i64.wrap ((d : Int) + 1) = (d : Int) + 1 := IntWalk.i64_in _ (by omega)
    have HLT := Lib.hid hlt
    clear hlt hd hb
    have hbr := HBR.out
    have hbT := hbr
    replace HB := Lib.hid (HB.out.trans (hbT.mono HB.out.size))
    replace HL1 := Lib.hid (HL1.out.below hbT)
    replace HG3 := Lib.hid (HG3.out.below hbT)
    replace HG4 := Lib.hid (HG4.out.below hbT)
    replace HG5 := Lib.hid (HG5.out.below hbT)
    clear hbT hbr 
    go_wp2_with (at_make; refine wpList_make_own wo rfl (.const (.int .i64 401)) (.const (.int .i64 401)) 47 rfl wo.heap.size 4 ib _ 1 1 Tryd.underlying47 hi0 hi1 hi2 hi3 rfl (by omega) 401 rfl rfl (by omega) (by simp only [maxLen]; omega) (Nat.le_refl _) ?_; intro w6 hown6 hb6 hz6)
    have HSW : Hid (Sep wo w6 (ownR 4 1 (.slice (some ⟨wo.heap.size, 0, none⟩) 401 401) 401 ((List.replicate 401 false).map boolC) :: [])) := Lib.hid ((Sep.start wo).ownNew hb6 (by rw [List.map_replicate]; exact hown6))
    clear hown6 hb6 hz6
    generalize hgT : wo.heap.size = gT at *
    go_loopw [8, 9, 11] (fun fv nv iv wr => ∃ (i : Nat) (f m : Int) (t : List Bool), i ≤ n1 ∧ iv = .int .i64 (i : Int) ∧ fv = .int .i64 f ∧ nv = .int .i64 m ∧ m = needR d (V.take i) ∧ FirstI (d : Int) (V.take i) f ∧ ThereI (d : Int) (V.take i) t ∧ Sep wo wr (ownR 4 1 (.slice (some ⟨gT, 0, none⟩) 401 401) 401 (t.map boolC) :: [])) (fun _ _ iv _ => n1 - (intOf iv).toNat)
    case atStart => exact ⟨0, 400, 0, List.replicate 401 false, Nat.zero_le _, rfl, rfl, rfl, rfl, firstI_nil _, thereI_nil _, HSW.out⟩
    case round =>
      obtain ⟨i, f, m, t, hi, rfl, rfl, rfl, hm, hf, ht, hS⟩ := hrel
      obtain ⟨wi, rfl⟩ : ∃ wi : World, wi = wr := ⟨_, rfl⟩
      have HSI := Lib.hid hS
      have HM := Lib.hid hm
      have HF := Lib.hid hf
      have HT := Lib.hid ht
      clear hS hm hf ht HSW
      by_cases hlti : i < n1
      · obtain ⟨x, hx⟩ : ∃ v, l1[i]? = some v := ⟨_, List.getElem?_eq_getElem (by rw [HL1.out.lenEq]; exact hlti)⟩
        have hxv : V[i]? = some x.v := by rw [← HV.out]; exact vsOf_at hx
        have HTK := Lib.hid (take_succ' hxv)
        obtain ⟨b, o, rfl, hbl, d0, d1, d2, d3, d4⟩ := ent_at (HL1.out.sl.below HSI.out.base) hx
        obtain ⟨r, hr⟩ : ∃ r, rightB x.v = r := ⟨_, rfl⟩
        have hxa := HL1.out.at_ x (List.mem_of_getElem? hx)
        have hxl := HL1.out.len x (List.mem_of_getElem? hx)
        have hra := Right_any wi x (Sl.below hxa HSI.out.base) hxl.1 hxl.2 r hr
        simp only [EntC.cells] at hra
        have HRA := Lib.hid hra
        have hii : (i : Int) < (n1 : Int) := by omega
        have hi0 : (0 : Int) ≤ (i : Int) := by omega
        have hwi : IntKind.i64.wrap ((i : Int) + 1) = (i : Int) + 1 := IntWalk.i64_in _ (by omega)
        have HX := Lib.hid hx
        have HR := Lib.hid hr
        have HLI := Lib.hid hlti
        clear hx hxv hr hxa hxl hra hlti hi hbl
        go_wp2_with (fail)
        ((with_reducible refine HRA.out.mono ?_); rintro _ w7 ⟨rfl, hb7⟩)
        have HS7 := Lib.hid (HSI.out.below hb7)
        clear hb7
        cases r
        case false =>
          clear d0 d1 d2 d3 d4
          go_wp2_with (fail)
          go_roundw
          case rel => exact ⟨i + 1, f, m, t, HLI.out, by go_num, rfl, rfl, by rw [HTK.out, needR_skip _ _ HR.out]; exact HM.out, by rw [HTK.out]; exact HF.out.skip (fun h => by rw [← rightB_true, HR.out] at h; cases h.1), by rw [HTK.out]; exact HT.out.skip (fun h => by rw [← rightB_true, HR.out] at h; cases h.1), HS7.out⟩
          case measure => have := HLI.out; simp [intOf]; omega
        have hri : RightE x.v := rightB_true.1 HR.out
        obtain ⟨s, hsd⟩ : ∃ s, x.v.seen[d]? = some s := ⟨_, List.getElem?_eq_getElem (by rw [hri.len]; exact HLT.out)⟩
        have HRI := Lib.hid hri
        have HSD := Lib.hid hsd
        clear hri hsd d0 d1 d2 d3 d4
        obtain ⟨b', o', eb, hbl, d0, d1, d2, d3, d4⟩ := ent_at (HL1.out.sl.below HS7.out.base) HX.out
        injection eb with eb
        injection eb with eb1 eb2
        subst eb1 eb2
        obtain ⟨bs, os, hsA, hbs, cs⟩ := (Sl.below (HL1.out.at_ x (List.mem_of_getElem? HX.out)) HS7.out.base).at1 (k := d) (v := .int .i64 s) (by rw [List.getElem?_map, HSD.out]; rfl)
        rw [hsA] at d3
        have hsl : (x.v.seen.length : Int) = 8 := by rw [HRI.out.len]; rfl
        clear hsA
        by_cases hdv : x.v.dev = (d : Int)
        case neg =>
          have hdb : (x.v.dev != (d : Int)) = true := by simpa using hdv
          have HDV := Lib.hid hdv
          clear hdv
          go_wp2_with (fail)
          go_roundw
          case rel =>
            exact ⟨i + 1, f, _, t, HLI.out, by go_num, rfl, rfl, by rw [HTK.out, needR_step _ _ HR.out, if_neg HDV.out, ← HM.out, List.getD_eq_getElem?_getD, HSD.out]; rfl, by rw [HTK.out]; exact HF.out.skip (fun h => HDV.out h.2), by rw [HTK.out]; exact HT.out.skip (fun h => HDV.out h.2), HS7.out⟩
          case measure => have := HLI.out; simp [intOf]; omega
        have hdb : (x.v.dev != (d : Int)) = false := by simpa using hdv
        obtain ⟨no, hno⟩ : ∃ no : Nat, x.v.no = (no : Int) := ⟨x.v.no.toNat, by have := HRI.out.n0; omega⟩
        have hno4 : no ≤ 399 := by have := HRI.out.n1; omega
        obtain ⟨te, hte⟩ : ∃ te, t[no]? = some te := ⟨_, List.getElem?_eq_getElem (by rw [HT.out.1]; omega)⟩
        obtain ⟨zT, kT, fT⟩ := HS7.out.cellB hte
        have HDV := Lib.hid hdv
        have HNO := Lib.hid hno
        have hnoi : (no : Int) < 401 := by omega
        have hno0 : (0 : Int) ≤ (no : Int) := by omega
        rw [hno] at d1
        have HS8 := Lib.hid (HS7.out.setB hte true)
        have HM8 : Hid (max (max m s) (no : Int) = needR d (V.take (i + 1))) := Lib.hid (by
          rw [HTK.out, needR_step _ _ HR.out, if_pos HDV.out, ← HM.out, List.getD_eq_getElem?_getD, HSD.out, HNO.out]
          simp only [Option.getD_some]
          omega)
        have HT8 : Hid (ThereI (d : Int) (V.take (i + 1)) (t.set no true)) := Lib.hid (by rw [HTK.out]; exact HT.out.step HRI.out HDV.out HNO.out)
        clear hte hdv hno
        go_wp2_with (fail)
        clear d0 d1 d2 d3 d4 zT kT fT cs
        go_loopw [8, 12] (fun fv kv wr => ∃ (k : Nat) (f' : Int), k ≤ i ∧ kv = .int .i64 (k : Int) ∧ fv = .int .i64 f' ∧ f' = HitF x.v (V.take k) f ∧ Sep wo wr (ownR 4 1 (.slice (some ⟨gT, 0, none⟩) 401 401) 401 ((t.set no true).map boolC) :: [])) (fun _ kv _ => i - (intOf kv).toNat)
        case atStart => exact ⟨0, f, Nat.zero_le _, rfl, rfl, (hitF_nil _ _).symm, HS8.out⟩
        case round =>
          obtain ⟨k, f', hk, rfl, rfl, hff, hS⟩ := hrel
          obtain ⟨wk, rfl⟩ : ∃ wk : World, wk = wr := ⟨_, rfl⟩
          have HSK := Lib.hid hS
          have HFF := Lib.hid hff
          clear hS hff HS8
          by_cases hltk : k < i
          · obtain ⟨y, hy⟩ : ∃ v, l1[k]? = some v := ⟨_, List.getElem?_eq_getElem (by rw [HL1.out.lenEq]; have := HLI.out; omega)⟩
            have HO1 := Lib.hid (HL1.out.below HSK.out.base)
            have IX := HO1.out.at_ x (List.mem_of_getElem? HX.out)
            have IY := HO1.out.at_ y (List.mem_of_getElem? hy)
            have LX := HO1.out.len x (List.mem_of_getElem? HX.out)
            have LY := HO1.out.len y (List.mem_of_getElem? hy)
            obtain ⟨r, hcr⟩ : ∃ r, convictsB x.v y.v = r := ⟨_, rfl⟩
            have HC := Lib.hid (fun W (hb : Below wk.heap.size wk W) => Convicts_any W x y (IX.below hb) (IY.below hb) LX LY r hcr)
            have hS : ∀ w', Below wk.heap.size wk w' → _ := fun w' hb => And.intro (ent_is HO1.out.sl HX.out rfl hb).2 (And.intro (ent_is HO1.out.sl hy rfl hb).2 hb)
            simp only [and_assoc] at hS
            have HSS := Lib.hid hS
            have HST := Lib.hid (hitF_snoc (x := x.v) (L := V) (k := k) (f := f) (by rw [← HV.out]; exact vsOf_at hy) hcr)
            simp only [EntC.cells] at HC
            have hki : (k : Int) < (i : Int) := by omega
            have hki1 : (k : Int) < (n1 : Int) := by have := HLI.out; omega
            have hii1 : (i : Int) < (n1 : Int) := by have := HLI.out; omega
            have hk0 : (0 : Int) ≤ (k : Int) := by omega
            have hi00 : (0 : Int) ≤ (i : Int) := by omega
            have hwk : IntKind.i64.wrap ((k : Int) + 1) = (k : Int) + 1 := IntWalk.i64_in _ (by have := HLI.out; omega)
            have HLK := Lib.hid hltk
            have HCR := Lib.hid hcr
            clear hS hy hcr IX IY LX LY hltk hk
            go_upto_region 26 with (fail)
            have hB7 := Below.refl wk.heap.size wk
            go_region_held3 (fun w' => w'.cell? ⟨b, o + i * 5, none⟩ = some (.int .i64 x.v.dev) ∧ w'.cell? ⟨b, o + i * 5 + 1, none⟩ = some (.int .i64 x.v.no) ∧ w'.cell? ⟨b, o + i * 5 + 2, none⟩ = some (.int .i64 x.v.day) ∧ w'.cell? ⟨b, o + i * 5 + 3, none⟩ = some (.slice x.A x.v.seen.length x.c) ∧ w'.cell? ⟨b, o + i * 5 + 4, none⟩ = some (.string ⟨x.v.text.toArray⟩) ∧ w'.cell? ⟨b, o + k * 5, none⟩ = some (.int .i64 y.v.dev) ∧ w'.cell? ⟨b, o + k * 5 + 1, none⟩ = some (.int .i64 y.v.no) ∧ w'.cell? ⟨b, o + k * 5 + 2, none⟩ = some (.int .i64 y.v.day) ∧ w'.cell? ⟨b, o + k * 5 + 3, none⟩ = some (.slice y.A y.v.seen.length y.c) ∧ w'.cell? ⟨b, o + k * 5 + 4, none⟩ = some (.string ⟨y.v.text.toArray⟩) ∧ Below wk.heap.size wk w')
              (first | exact HSS.out _ hB7 | (refine HSS.out _ ?_; repeat (first | exact hB7 | exact Below.refl _ _ | refine Below.drew ?_ | refine Below.alloc ?_ (by first | exact Nat.le_refl _ | exact hB7.size | (simp <;> omega)) _ | refine Below.setCell ?_ (by first | exact Nat.le_refl _ | exact hB7.size | (simp <;> omega)) _)))
              (((with_reducible refine (HC.out _ ?hs1).mono ?_)
                (case hs1 => go_split_ands; assumption)
                rintro e w9 ⟨rfl, hbF⟩
                have hB7 : Below wk.heap.size wk w9 := by go_split_ands; exact Below.trans (by assumption) (hbF.mono (Below.size (by assumption)))))
            have HB7 := Lib.hid hB7
            have HS9 := Lib.hid (HSK.out.below hB7)
            clear hB7 hbF
            cases r
            · go_wp2_with (fail)
              go_roundw
              case rel => exact ⟨k + 1, f', HLK.out, by go_num, rfl, by rw [HST.out, if_neg (by simp)]; exact HFF.out, HS9.out⟩
              case measure => have := HLK.out; simp [intOf]; omega
            · obtain ⟨b', o', eb, hbl, d0, d1, d2, d3, d4⟩ := ent_at (HL1.out.sl.below HS9.out.base) HX.out
              injection eb with eb
              injection eb with eb1 eb2
              subst eb1 eb2
              rw [HNO.out] at d1
              go_wp2_with (fail)
              go_roundw
              case rel => exact ⟨k + 1, min f' x.v.no, HLK.out, by go_num, rfl, by rw [HST.out, if_pos rfl, ← HFF.out], HS9.out⟩
              case measure => have := HLK.out; simp [intOf]; omega
          · obtain rfl : k = i := by omega
            have hki : ¬ ((k : Nat) : Int) < (k : Int) := by omega
            go_wp2_with (fail)
            go_roundw
            case rel => exact ⟨k + 1, f', _, t.set no true, HLI.out, by go_num, rfl, rfl, by first | exact HM8.out | (rw [← Int.max_assoc]; exact HM8.out), by rw [HTK.out, HFF.out, hitF_is]; exact HF.out.step HRI.out HDV.out, HT8.out, HSK.out⟩
            case measure => have := HLI.out; simp [intOf]; omega
      · obtain rfl : i = n1 := by omega
        have hii : ¬ ((i : Nat) : Int) < (i : Int) := by omega
        have htk : V.take i = V := List.take_of_length_le (by rw [← HV.out, vsOf_len, HL1.out.lenEq]; exact Nat.le_refl _)
        have hf := HF.out
        have ht := HT.out
        have hm := HM.out
        rw [htk] at hf ht hm
        have HF2 := Lib.hid hf
        have HT2 := Lib.hid ht
        have HM2 := Lib.hid hm
        have hmr := needR_le d V
        rw [← hm] at hmr
        clear hf ht hm htk HF HT HM hlti hi
        obtain ⟨bf, hbf⟩ : ∃ b, decide ((d : Int) ∈ forkO V) = b := ⟨_, rfl⟩
        have HBF := Lib.hid hbf
        have HHI := Lib.hid (hasI_any wi A3 n3 c3 (forkO V) (HG3.out.below HSI.out.base) (by omega) (d : Int) bf hbf)
        clear hbf
        obtain ⟨hh, hhd⟩ : ∃ p, (ordF V).1[d]? = some p := ⟨_, List.getElem?_eq_getElem (by rw [heads_len]; exact HLT.out)⟩
        have hhf := heads_first HLT.out HF2.out
        rw [List.getD_eq_getElem?_getD, hhd, Option.getD_some] at hhf
        have HHF := Lib.hid hhf
        have HHD := Lib.hid hhd
        clear hhf hhd
        go_wp2_with (fail)
        ((with_reducible refine HHI.out.mono ?_); rintro _ w7 ⟨rfl, hb7⟩)
        have HS7 := Lib.hid (HSI.out.below hb7)
        clear hb7
        obtain ⟨bh, oh, eh, hbh, kh⟩ := (HG4.out.below HS7.out.base).at1 (k := d) (v := .int .i64 (hh : Int)) (by rw [List.getElem?_map, HHD.out]; rfl)
        injection eh with eh
        injection eh with eh1 eh2
        subst eh1 eh2
        rw [Nat.zero_add] at kh
        have hhf : ¬ (f < (hh : Int)) := by have := HHF.out; omega
        have hbd : bf = decide (f < 400) := by
          rw [← HBF.out]
          exact decide_eq_decide.2 (first_forks HF2.out)
        subst hbd
        have hwm : IntKind.i64.wrap (m - 1) = m - 1 := IntWalk.i64_in _ (by omega)
        have hm1 : -1 ≤ m - 1 := by omega
        go_wp2_with (fail)
        clear kh hhf hwm
        go_loopw [13, 14] (fun gv nv wr => ∃ gap n : Int, gv = .int .i64 gap ∧ nv = .int .i64 n ∧ -1 ≤ n ∧ n < m ∧ GapI t m n gap ∧ Sep wo wr (ownR 4 1 (.slice (some ⟨gT, 0, none⟩) 401 401) 401 (t.map boolC) :: [])) (fun _ nv _ => (intOf nv + 1).toNat)
        case atStart => exact ⟨-1, m - 1, rfl, rfl, hm1, by omega, gapI_start t m, HS7.out⟩
        case round =>
          obtain ⟨gap, n, rfl, rfl, hn1', hnm, hg, hS⟩ := hrel
          obtain ⟨wj, rfl⟩ : ∃ wj : World, wj = wr := ⟨_, rfl⟩
          have HSJ := Lib.hid hS
          have HG := Lib.hid hg
          clear hS hg HS7
          by_cases hn0 : 0 ≤ n
          · obtain ⟨k, rfl⟩ : ∃ k : Nat, n = (k : Int) := ⟨n.toNat, by omega⟩
            obtain ⟨tk, htk⟩ : ∃ v, t[k]? = some v := ⟨_, List.getElem?_eq_getElem (by rw [HT2.out.1]; omega)⟩
            obtain ⟨zT, kT, fT⟩ := HSJ.out.cellB htk
            have hki : (k : Int) < 401 := by omega
            have hwk : IntKind.i64.wrap ((k : Int) - 1) = (k : Int) - 1 := IntWalk.i64_in _ (by omega)
            have hst := HG.out.step hnm
            rw [List.getD_eq_getElem?_getD, htk, Option.getD_some] at hst
            have HST := Lib.hid hst
            have HNM := Lib.hid hnm
            clear htk hst
            cases tk
            · go_wp2_with (fail)
              go_roundw
              case rel =>
                have h := HST.out
                rw [if_pos rfl] at h
                exact ⟨_, (k : Int) - 1, rfl, rfl, by omega, by have := HNM.out; omega, h, HSJ.out⟩
              case measure => (simp [intOf] <;> omega)
            · go_wp2_with (fail)
              go_roundw
              case rel =>
                have h := HST.out
                rw [if_neg (by simp)] at h
                exact ⟨_, (k : Int) - 1, rfl, rfl, by omega, by have := HNM.out; omega, h, HSJ.out⟩
              case measure => (simp [intOf] <;> omega)
          · obtain rfl : n = -1 := by omega
            have hn0' : ¬ ((0 : Int) ≤ -1) := by omega
            have hgap : gap = foundF (joinF V) d := gap_end HT2.out (by rw [← HM2.out]; exact HG.out)
            have HGAP := Lib.hid hgap
            clear hgap hn0 hnm hn1'
            go_wp2_with (fail)
            go_loopw [15, 16] (fun fv iv wr => ∃ (i2 : Nat) (f2 : Int), i2 ≤ n5 ∧ iv = .int .i64 (i2 : Int) ∧ fv = .int .i64 f2 ∧ FoundI d ((missF (joinF V)).take i2) f2 ∧ Below wo.heap.size wo wr) (fun _ iv _ => n5 - (intOf iv).toNat)
            case atStart => exact ⟨0, -1, Nat.zero_le _, rfl, rfl, .inl ⟨rfl, by simp⟩, HSJ.out.base⟩
            case round =>
              obtain ⟨i2, f2, hi2', rfl, rfl, hfo, hbq⟩ := hrel
              obtain ⟨wq, rfl⟩ : ∃ wq : World, wq = wr := ⟨_, rfl⟩
              have HFO := Lib.hid hfo
              have HBQ := Lib.hid hbq
              clear hfo
              by_cases hl2 : i2 < n5
              · obtain ⟨⟨pa, pb⟩, hp⟩ : ∃ v, (missF (joinF V))[i2]? = some v := ⟨_, List.getElem?_eq_getElem (by rw [HN5.out]; exact hl2)⟩
                obtain ⟨b5, o5, rfl, hb5', e1, e2⟩ := ref_at (HG5.out.below hbq) hp
                simp only at e1 e2
                have hst := HFO.out.step pa pb
                rw [← take_succ' hp] at hst
                have HST := Lib.hid hst
                have hii2 : (i2 : Int) < (n5 : Int) := by omega
                have hi20 : (0 : Int) ≤ (i2 : Int) := by omega
                have hwi2 : IntKind.i64.wrap ((i2 : Int) + 1) = (i2 : Int) + 1 := IntWalk.i64_in _ (by omega)
                have HL2 := Lib.hid hl2
                clear hst hp hl2 hb5' hbq
                by_cases hpd : pa = d
                · subst hpd
                  go_wp2_with (fail)
                  go_roundw
                  case rel =>
                    have h := HST.out
                    rw [if_pos rfl] at h
                    exact ⟨i2 + 1, _, HL2.out, by go_num, rfl, h, HBQ.out⟩
                  case measure => have := HL2.out; simp [intOf]; omega
                · have hpi : ((pa : Int) == (d : Int)) = false := beq_eq_false_iff_ne.2 (by omega)
                  have hpn : ¬ ((pa : Int) = (d : Int)) := by omega
                  have HPD := Lib.hid hpd
                  clear hpd
                  go_wp2_with (fail)
                  go_roundw
                  case rel =>
                    have h := HST.out
                    rw [if_neg HPD.out] at h
                    exact ⟨i2 + 1, _, HL2.out, by go_num, rfl, h, HBQ.out⟩
                  case measure => have := HL2.out; simp [intOf]; omega
              · obtain rfl : i2 = n5 := by omega
                have hii2 : ¬ ((i2 : Nat) : Int) < (i2 : Int) := by omega
                have hfo := HFO.out
                rw [List.take_of_length_le (by rw [HN5.out]; exact Nat.le_refl _)] at hfo
                have hfg : f2 = gap := by rw [HGAP.out]; exact found_end HLT.out hfo
                subst hfg
                clear hfo hl2 hbq
                go_wp2_with (fail)
                go_roundw
                case rel => exact ⟨d + 1, HLT.out, by go_num, HBR.out.trans (HBQ.out.mono HBR.out.size)⟩
                case measure => have := HLT.out; simp [intOf]; omega
end Go.Proofs.YtnnnibkainlplaaDoor
