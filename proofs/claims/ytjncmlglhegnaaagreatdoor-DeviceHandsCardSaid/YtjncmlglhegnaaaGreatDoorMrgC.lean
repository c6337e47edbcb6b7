/- merge: forks, Forks, walked. -/
/- merge: past, Forks, Past, walked. -/
/- merge: Forks, Past, walked. -/
/- merge: ready, walked. -/
import Derived.Test.YtjncmlglhegnaaaGreatDoorMrgX
import Derived.Test.YtjncmlglhegnaaaGreatDoorWireST
import Derived.Test.YtjncmlglhegnaaaGreatDoorChainF
import Derived.Test.YtjncmlglhegnaaaGreatDoorSlCut
import Derived.Test.YtjncmlglhegnaaaGreatDoorMrgP7
import Derived.Deep.DeepCutAuto
import Derived.Deep.CutBlock
namespace Go.Proofs.YtjncmlglhegnaaaGreatDoor
open Go.RowKit Go.Sort Go.Lib

theorem forkB_snoc (p x : EntV) (d : Int) : ∀ m : List EntV, forkB (m ++ [p, x]) d = (forkB (m ++ [p]) d || (convictsB p x && decide (x.dev = d)))
  | [] => by simp [forkB]
  | [a] => by
    have e : forkB ([a] ++ [p, x]) d = ((convictsB a p && decide (p.dev = d)) || forkB ([] ++ [p, x]) d) := rfl
    have e2 : forkB ([a] ++ [p]) d = ((convictsB a p && decide (p.dev = d)) || forkB ([] ++ [p]) d) := rfl
    rw [e, e2, forkB_snoc p x d [], Bool.or_assoc]
  | a :: b :: m => by
    have e : forkB (a :: b :: m ++ [p, x]) d = ((convictsB a b && decide (b.dev = d)) || forkB (b :: m ++ [p, x]) d) := rfl
    have e2 : forkB (a :: b :: m ++ [p]) d = ((convictsB a b && decide (b.dev = d)) || forkB (b :: m ++ [p]) d) := rfl
    rw [e, e2, forkB_snoc p x d (b :: m), Bool.or_assoc]
/-- who is convicted, device by device -/
def forksL (l : List EntV) : List Bool := (List.range 8).map fun (d : Nat) => forkB l (d : Int)
theorem forksL_len (l : List EntV) : (forksL l).length = 8 := by simp [forksL]
theorem forksL_at (l : List EntV) {d : Nat} (hd : d < 8) : (forksL l)[d]? = some (forkB l (d : Int)) := by simp [forksL, hd]
theorem forksL_step {l : List EntV} {m : Nat} {p x : EntV} (hp : l[m]? = some p) (hx : l[m + 1]? = some x) (hr : 0 ≤ x.dev ∧ x.dev ≤ 7) : forksL (l.take (m + 2)) = if convictsB p x = true then (forksL (l.take (m + 1))).set x.dev.toNat true else forksL (l.take (m + 1)) := by
  have e1 : l.take (m + 2) = l.take m ++ [p, x] := by
    have h1 : l.take (m + 2) = l.take (m + 1) ++ [x] := take_succ' hx
    have h2 : l.take (m + 1) = l.take m ++ [p] := take_succ' hp
    rw [h1, h2, List.append_assoc]
    rfl
  have e2 : l.take (m + 1) = l.take m ++ [p] := take_succ' hp
  rw [e1, e2]
  apply List.ext_getElem?
  intro d
  by_cases hd : d < 8
  · rw [forksL_at _ hd, forkB_snoc]
    by_cases hc : convictsB p x = true
    · rw [if_pos hc, List.getElem?_set, forksL_len, forksL_at _ hd]
      by_cases hxd : x.dev.toNat = d
      · have h3 : x.dev = (d : Int) := by omega
        simp [hxd, hd, h3, hc]
      · have h3 : ¬ x.dev = (d : Int) := by omega
        simp [hxd, h3]
    · rw [if_neg hc, forksL_at _ hd]
      simp [hc]
  · rw [List.getElem?_eq_none (by rw [forksL_len]; omega)]
    split
    · rw [List.getElem?_eq_none (by rw [List.length_set, forksL_len]; omega)]
    · rw [List.getElem?_eq_none (by rw [forksL_len]; omega)]
theorem forksL_small {l : List EntV} {k : Nat} (hk : k ≤ 1) : forksL (l.take k) = List.replicate 8 false := by
  have h : ∀ m : List EntV, m.length ≤ 1 → forksL m = List.replicate 8 false := by
    intro m hm
    rcases m with _ | ⟨a, _ | ⟨b, r⟩⟩
    · rfl
    · simp [forksL, forkB]; rfl
    · simp at hm
  exact h _ (by simp; omega)
def boolC (b : Bool) : List Value := [.bool b]
theorem infoBool : (Tryz.prog.info? 4).map (fun i => (i.zero, i.size, i.bytes)) = some (some (.bool false), 1, 1) := by kernel_rfl
set_option maxRecDepth 100000 in
set_option maxHeartbeats 4000000 in
theorem forks_any (w : World) (A : Option Addr) (n c : Nat) (l : List EntC) (hs : ChAt w A n l) (hr : AllR (vsOf l)) (hn : n ≤ 2000) (fs : List Bool) (hfs : forksL (vsOf l) = fs) :
    Calls Tryz.prog 91 #[.slice A n c] w fun e w' => ∃ g, e = .returned (.slice (some ⟨g, 0, none⟩) 8 8) ∧ Own w' w.heap.size 4 1 (.slice (some ⟨g, 0, none⟩) 8 8) 8 (fs.map boolC) ∧ Below w.heap.size w w' := by
  obtain ⟨i1, hj0, hj1, hj2, hj3⟩ := info_parts infoBool
  have hll : l.length = n := by simpa using hs.sl.1
  have HS := Lib.hid hs
  have HL := Lib.hid hll
  have HR := Lib.hid hr
  have HFS := Lib.hid hfs
  clear hs hll hr hfs
  go_enter Tryz.func91, Tryz.ntmps91
  go_wp2_with (at_make; refine wpList_make_own w rfl (.const (.int .i64 8)) (.const (.int .i64 8)) 137 rfl w.heap.size 4 i1 _ 1 1 Tryz.underlying137 hj0 hj1 hj2 hj3 rfl (by omega) 8 rfl rfl (by omega) (by simp only [maxLen]; omega) (Nat.le_refl _) ?_; intro w1 hown1 hb1 hz1)
  have HO1 := Lib.hid hown1
  have HB1 := Lib.hid hb1
  have HGS := Lib.hid (rfl : w.heap.size = w.heap.size)
  clear hown1 hb1 hz1
  go_loopw [4] (fun i wr => ∃ k : Nat, 0 < k ∧ (k ≤ n ∨ k = 1) ∧ i = .int .i64 (k : Int) ∧ Own wr w.heap.size 4 1 (.slice (some ⟨w.heap.size, 0, none⟩) 8 8) 8 ((forksL ((vsOf l).take k)).map boolC) ∧ Below w.heap.size w wr) (fun i _ => n - (intOf i).toNat)
  case atStart => exact ⟨1, by omega, .inr rfl, rfl, by rw [forksL_small (Nat.le_refl _)]; exact HO1.out, HB1.out⟩
  case round =>
    obtain ⟨k, hk0, hk, rfl, ho, hb⟩ := hrel
    obtain ⟨wo, rfl⟩ : ∃ wo : World, wo = wr := ⟨_, rfl⟩
    have HO := Lib.hid ho
    have HB := Lib.hid hb
    clear ho hb
    by_cases hlt : k < n
    · obtain ⟨x, hx⟩ : ∃ v, l[k]? = some v := ⟨_, List.getElem?_eq_getElem (by rw [HL.out]; exact hlt)⟩
      obtain ⟨m, hm⟩ : ∃ m, k = m + 1 := ⟨k - 1, by omega⟩
      obtain ⟨y, hy⟩ : ∃ v, l[m]? = some v := ⟨_, List.getElem?_eq_getElem (by rw [HL.out]; omega)⟩
      obtain ⟨b, o, rfl, _⟩ := ent_at HS.out.sl hx
      have HO1 := Lib.hid (HS.out.below HB.out)
      have IX := HO1.out.at_ x (List.mem_of_getElem? hx)
      have IY := HO1.out.at_ y (List.mem_of_getElem? hy)
      have LX := HO1.out.len x (List.mem_of_getElem? hx)
      have LY := HO1.out.len y (List.mem_of_getElem? hy)
      obtain ⟨r, hcr⟩ : ∃ r, convictsB y.v x.v = r := ⟨_, rfl⟩
      have HC := Lib.hid (fun W (hb : Below wo.heap.size wo W) => Convicts_any W y x (IY.below hb) (IX.below hb) LY LX r hcr)
      have hS : ∀ w', Below wo.heap.size wo w' → _ := fun w' hb => And.intro (ent_is HO1.out.sl hx rfl hb).2 (And.intro (ent_is HO1.out.sl hy rfl hb).2 hb)
      simp only [and_assoc] at hS
      have HSS := Lib.hid hS
      have HXR := Lib.hid (HR.out x.v (List.mem_of_getElem? (vsOf_at hx)))
      have HST := Lib.hid (forksL_step (vsOf_at hy) (by rw [← hm]; exact vsOf_at hx) ⟨HXR.out.d0, HXR.out.d1⟩)
      simp only [EntC.cells] at HC
      have hki : (k : Int) < (n : Int) := by omega
      have hmi : (m : Int) < (n : Int) := by omega
      have hk00 : (0 : Int) ≤ (k : Int) := by omega
      have hwm : IntKind.i64.wrap ((k : Int) - 1) = (m : Int) := by rw [IntWalk.i64_in _ (by omega)]; omega
      have hw1 : IntKind.i64.wrap ((k : Int) + 1) = (k : Int) + 1 := IntWalk.i64_in _ (by omega)
      have HHX := Lib.hid hx
      have HCR := Lib.hid hcr
      have HM := Lib.hid hm
      clear hS hx hy hcr IX IY LX LY hm
      go_upto_region 5 with (fail)
      have hB7 := Below.refl wo.heap.size wo
      go_region_held3 (fun w' => w'.cell? ⟨b, o + k * 5, none⟩ = some (.int .i64 x.v.dev) ∧ w'.cell? ⟨b, o + k * 5 + 1, none⟩ = some (.int .i64 x.v.no) ∧ w'.cell? ⟨b, o + k * 5 + 2, none⟩ = some (.int .i64 x.v.day) ∧ w'.cell? ⟨b, o + k * 5 + 3, none⟩ = some (.slice x.A x.v.seen.length x.c) ∧ w'.cell? ⟨b, o + k * 5 + 4, none⟩ = some (.string ⟨x.v.text.toArray⟩) ∧ w'.cell? ⟨b, o + m * 5, none⟩ = some (.int .i64 y.v.dev) ∧ w'.cell? ⟨b, o + m * 5 + 1, none⟩ = some (.int .i64 y.v.no) ∧ w'.cell? ⟨b, o + m * 5 + 2, none⟩ = some (.int .i64 y.v.day) ∧ w'.cell? ⟨b, o + m * 5 + 3, none⟩ = some (.slice y.A y.v.seen.length y.c) ∧ w'.cell? ⟨b, o + m * 5 + 4, none⟩ = some (.string ⟨y.v.text.toArray⟩) ∧ Below wo.heap.size wo w')
        (first | exact HSS.out _ hB7 | (refine HSS.out _ ?_; repeat (first | exact hB7 | exact Below.refl _ _ | refine Below.drew ?_ | refine Below.alloc ?_ (by first | exact Nat.le_refl _ | exact hB7.size | (simp <;> omega)) _ | refine Below.setCell ?_ (by first | exact Nat.le_refl _ | exact hB7.size | (simp <;> omega)) _)))
        (((with_reducible refine (HC.out _ ?hs1).mono ?_)
          (case hs1 => go_split_ands; assumption)
          rintro e w3 ⟨rfl, hbF⟩
          have hB7 : Below wo.heap.size wo w3 := by go_split_ands; exact Below.trans (by assumption) (hbF.mono (Below.size (by assumption)))))
      have HB7 := Lib.hid hB7
      have HO3 := Lib.hid (HO.out.below hB7)
      have HB8 := Lib.hid (HB.out.trans (hB7.mono HB.out.size))
      have hst := HST.out
      rw [HCR.out, show m + 2 = k + 1 by have := HM.out; omega, ← HM.out] at hst
      clear hB7 hbF
      cases r
      · have HST2 := Lib.hid hst
        clear hst
        go_wp2_with (fail)
        go_roundw
        case rel => exact ⟨k + 1, by omega, .inl hlt, by go_num, by have h := HST2.out; rw [if_neg (by simp)] at h; rw [h]; exact HO3.out, HB8.out⟩
        case measure => simp [intOf]; omega
      · rw [if_pos rfl] at hst
        have HST2 := Lib.hid hst
        obtain ⟨d, hd⟩ : ∃ d : Nat, x.v.dev = (d : Int) := ⟨x.v.dev.toNat, by have := HXR.out.d0; omega⟩
        have hd8 : d < 8 := by have := HXR.out.d1; omega
        have hdi : x.v.dev < 8 := by omega
        have hdi0 : 0 ≤ x.v.dev := by omega
        have hdn : x.v.dev.toNat = d := by omega
        have HD := Lib.hid hd
        obtain ⟨c0, _⟩ := (HSS.out _ HB7.out)
        obtain ⟨g', c', he, hgb, hgz, hcell2, hfz⟩ := HO3.out.at_ (i := d) (x := boolC (forkB ((vsOf l).take k) (d : Int))) (by rw [List.getElem?_map, forksL_at _ hd8]; rfl)
        cases he
        have e0 := hcell2 0 _ rfl
        have f0 := hfz d
        rw [Nat.mul_one, Nat.add_zero] at e0
        clear hst hd hcell2 hfz
        go_wp2_with (fail)
        go_roundw
        case rel =>
          refine ⟨k + 1, by omega, .inl hlt, by go_num, ?_, HB8.out.setCell (p := ⟨w.heap.size, d, none⟩) (Nat.le_refl _) _⟩
          have h := HO3.out.stored (i := d) (j := 0) (x := boolC (forkB ((vsOf l).take k) (d : Int))) (by rw [List.getElem?_map, forksL_at _ hd8]; rfl) (by omega) (.bool true)
          rw [Nat.mul_one, Nat.add_zero] at h
          have h2 := HST2.out
          rw [HD.out, Int.toNat_natCast] at h2
          rw [h2, List.map_set]
          exact h
        case measure => simp [intOf]; omega
    · have hki : ¬ ((k : Int) < (n : Int)) := by omega
      have hv := HFS.out
      have ho := HO.out
      rw [List.take_of_length_le (by rw [vsOf_len, HL.out]; omega), hv] at ho
      have HO2 := Lib.hid ho
      clear hv ho
      go_wp2_with (fail)
      go_ret
      exact ⟨_, rfl, HO2.out, HB.out⟩
end Go.Proofs.YtjncmlglhegnaaaGreatDoor
namespace Go.Proofs.YtjncmlglhegnaaaGreatDoor
open Go.RowKit Go.Sort Go.Lib

/-- what past hands back: a new row of entries of the list -/
def PastP (w : World) (l : List EntC) (v : List EntV) (e : Ending) (w' : World) : Prop := ∃ A c l', e = .returned (.slice A v.length c) ∧ Own w' w.heap.size 32 5 (.slice A v.length c) v.length (l'.map EntC.cells) ∧ (∀ u ∈ l', u ∈ l) ∧ vsOf l' = v ∧ Below w.heap.size w w'
theorem PastP.gives {w w' : World} {A : Option Addr} {n : Nat} {l : List EntC} {v : List EntV} {e : Ending} (hs : ChAt w A n l) (h : PastP w l v e w') : GivesE w v e w' := by
  obtain ⟨A', c', l', rfl, h1, h2, h3, h4⟩ := h
  exact ⟨A', c', l', rfl, ⟨h1.sl', fun u hu => (hs.at_ u (h2 u hu)).below h4, fun u hu => hs.len u (h2 u hu)⟩, h3, h4⟩
end Go.Proofs.YtjncmlglhegnaaaGreatDoor
namespace Go.Proofs.YtjncmlglhegnaaaGreatDoor
open Go.RowKit Go.Sort Go.Lib

/-- the devices that are convicted -/
def forkI (fs : List Bool) (k : Nat) : List Int := ((List.range k).filter fun d => fs.getD d false).map fun (d : Nat) => (d : Int)
theorem forkI_step (fs : List Bool) {k : Nat} {b : Bool} (h : fs[k]? = some b) : forkI fs (k + 1) = if b = true then forkI fs k ++ [(k : Int)] else forkI fs k := by
  unfold forkI
  rw [List.range_succ, List.filter_append, List.map_append]
  have e : fs.getD k false = b := by rw [List.getD_eq_getElem?_getD, h]; rfl
  cases b
  · rw [List.filter_cons_of_neg (by rw [e]; simp)]; simp
  · rw [List.filter_cons_of_pos (by rw [e])]; simp
theorem forkI_len (fs : List Bool) (k : Nat) : (forkI fs k).length ≤ k := by
  unfold forkI
  rw [List.length_map]
  exact Nat.le_trans (List.length_filter_le _ _) (by simp)
/-- what hands a list of numbers back -/
def GivesI (w : World) (v : List Int) (e : Ending) (w' : World) : Prop := ∃ A c, e = .returned (.slice A v.length c) ∧ Own w' w.heap.size 3 1 (.slice A v.length c) v.length (v.map intC) ∧ Below w.heap.size w w'
def forkO (l : List EntV) : List Int := forkI (forksL (joinF l)) 8
theorem chAt_nil (w : World) : ChAt w none 0 [] := ⟨Sl.nil_ _ _ _, by simp, by simp⟩
set_option maxRecDepth 100000 in
set_option maxHeartbeats 4000000 in
theorem Forks_any {B0 : Nat} (w : World) (hE : Env B0 w) (hB0 : B0 ≤ w.heap.size) (A : Option Addr) (n c : Nat) (l : List EntC) (hs : ChAt w A n l) (hn : n ≤ 1000) (v : List Int) (hv : forkO (vsOf l) = v) :
    Calls Tryz.prog 49 #[.slice A n c] w (GivesI w v) := by
  obtain ⟨i1, hi10, hz10, hz11, hz12⟩ := info_parts infoInt
  have HJ := Lib.hid (Join_any w hE hB0 A none n 0 c 0 l [] hs (chAt_nil w) hn (by omega))
  have HLL : Hid (l.length = n) := Lib.hid (by simpa using hs.sl.1)
  have HV := Lib.hid hv
  clear hE hB0 hs hv
  go_enter Tryz.func49, Tryz.ntmps49
  go_wp2_with (fail)
  ((with_reducible refine HJ.out.mono ?_); rintro e w1 ⟨A1, c1, l1, rfl, h1, hv1, hb1⟩)
  have e0 : vsOf l ++ vsOf [] = vsOf l := by simp [vsOf]
  rw [e0] at hv1 h1 ⊢
  have hjl : (joinF (vsOf l)).length ≤ 1000 := Nat.le_trans (joinF_len _) (by rw [vsOf_len, HLL.out]; exact hn)
  generalize hJN : (joinF (vsOf l)).length = N at *
  have HF := Lib.hid (forks_any w1 A1 N c1 l1 h1 (by rw [hv1]; exact joinF_right _) (by omega) _ rfl)
  rw [hv1] at HF
  have HB1 := Lib.hid hb1
  clear h1 hb1 HJ hJN
  obtain ⟨fs, hfs⟩ : ∃ fs, forksL (joinF (vsOf l)) = fs := ⟨_, rfl⟩
  have HV2 : Hid (forkI fs 8 = v) := Lib.hid (by rw [← hfs]; exact HV.out)
  have HFL : Hid (fs.length = 8) := Lib.hid (by rw [← hfs]; exact forksL_len _)
  rw [hfs] at HF
  clear hfs hv1 e0
  go_wp2_with (fail)
  ((with_reducible refine HF.out.mono ?_); rintro e w2 ⟨g, rfl, ho2, hb2⟩)
  have HO2 := Lib.hid ho2
  have HB2 := Lib.hid (HB1.out.trans (hb2.mono HB1.out.size))
  clear ho2 hb2 HF
  go_wp2_with (fail)
  go_loopw [3, 10] (fun s i wr => ∃ (k m : Nat) (A : Option Addr) (c : Nat), i = .int .i64 (k : Int) ∧ s = .slice A m c ∧ k ≤ 8 ∧ (forkI fs k).length = m ∧ Own wr w.heap.size 3 1 (.slice A m c) m ((forkI fs k).map intC) ∧ Below w.heap.size w wr ∧ Own wr w1.heap.size 4 1 (.slice (some ⟨g, 0, none⟩) 8 8) 8 (fs.map boolC) ∧ (Value.slice A m c).ownBlock ≠ some g) (fun _ i _ => 8 - (intOf i).toNat)
  case atStart => exact ⟨0, 0, none, 0, rfl, rfl, by omega, rfl, Own.nil_ _ _ _ _, HB2.out, HO2.out, by simp [Value.ownBlock]⟩
  case round =>
    obtain ⟨k, m, Ao, co, rfl, rfl, hk, hm, ho, hb, hfb, hne⟩ := hrel
    obtain ⟨wo, rfl⟩ : ∃ wo : World, wo = wr := ⟨_, rfl⟩
    have HO := Lib.hid ho
    have HB := Lib.hid hb
    have HM := Lib.hid hm
    have HFB := Lib.hid hfb
    have HNE := Lib.hid hne
    have hm8 : m ≤ 8 := by have := forkI_len fs k; omega
    have HSZ := Lib.hid hb.size
    clear ho hb hm hne
    by_cases hlt : k < 8
    · obtain ⟨b, hb⟩ : ∃ b, fs[k]? = some b := ⟨_, List.getElem?_eq_getElem (by rw [HFL.out]; exact hlt)⟩
      obtain ⟨g', c', he, hgb, hgz, hcell, hfz⟩ := hfb.at_ (i := k) (x := boolC b) (by rw [List.getElem?_map, hb]; rfl)
      cases he
      have e0 := hcell 0 _ rfl
      rw [Nat.mul_one, Nat.add_zero] at e0
      have hki : (k : Int) < 8 := by omega
      have hk0 : (0 : Int) ≤ (k : Int) := by omega
      have hw1 : IntKind.i64.wrap ((k : Int) + 1) = (k : Int) + 1 := IntWalk.i64_in _ (by omega)
      have HST := Lib.hid (forkI_step fs hb)
      have HS1 : Hid (Sl (wo.alloc (.cells #[.int .i64 (k : Int)] 3)) 1 (some ⟨wo.heap.size, 0, none⟩) 1 ([(k : Int)].map intC)) := Lib.hid (Sl.new_ wo 3 [.int .i64 (k : Int)])
      have HKG := Lib.hid hgz
      clear hcell hfz hfb hb hgb
      cases b
      · go_wp2_with (fail)
        go_roundw
        case rel => exact ⟨k + 1, m, Ao, co, by go_num, by simp, by omega, by rw [HST.out, if_neg (by simp)]; exact HM.out, by rw [HST.out, if_neg (by simp)]; exact HO.out, HB.out, HFB.out, HNE.out⟩
        case measure => simp [intOf]; omega
      · go_wp2_with (at_builtin; (refine wpList_append_sl _ rfl (.tmp 16) (.tmp 18) _ rfl w.heap.size 3 i1 _ 1 8 Tryz.underlying30 hi10 hz10 hz11 hz12 rfl (by omega) _ m ((forkI fs k).map intC) rfl (HO.out.alloc _) (some ⟨wo.heap.size, 0, none⟩) 1 1 ([(k : Int)].map intC) rfl HS1.out (ints_len _) (ints_one _) (by simp only [maxLen]; omega) (by omega) (by have := HSZ.out; simp; omega) ?_); intro A9 c9 w9 hown9 hg9 hat9)
        go_roundw
        case rel =>
          refine ⟨k + 1, m + 1, A9, c9, by go_num, by simp, by omega, by rw [HST.out, if_pos rfl, List.length_append, HM.out]; rfl, ?_, (HO.out.alloc _).below_grown (Nat.le_refl _) (by have := HSZ.out; simp; omega) (HB.out.alloc HSZ.out _) hg9, (HFB.out.alloc _).kept hg9 (.inr fun e => HNE.out e.symm), ?_⟩
          · rw [HST.out, if_pos rfl, List.map_append]
            exact hown9
          · rcases hat9 with h | h
            · rw [h]; exact HNE.out
            · rw [h]; intro e; injection e with e; have := HKG.out; simp at e; omega
        case measure => simp [intOf]; omega
    · obtain rfl : k = 8 := by omega
      have hm := HM.out
      rw [HV2.out] at hm
      have ho := HO.out
      rw [HV2.out] at ho
      have HO9 := Lib.hid ho
      have HM9 := Lib.hid hm
      clear hm ho
      go_wp2_with (fail)
      go_ret
      exact ⟨Ao, co, by rw [HM9.out]; rfl, by rw [HM9.out]; exact HO9.out, HB.out⟩
end Go.Proofs.YtjncmlglhegnaaaGreatDoor
namespace Go.Proofs.YtjncmlglhegnaaaGreatDoor
open Go.RowKit Go.Sort Go.Lib

/-- a past in memory -/
structure PastC where
  A : Option Addr
  c : Nat
  l : List EntC
def PastC.cells (p : PastC) : List Value := [.slice p.A p.l.length p.c]
def natC (n : Nat) : List Value := [.int .i64 (n : Int)]
/-- the state in which entries are taken, in memory -/
structure OrdAt (w : World) (B gP cP gF gT : Nat) (ps : List PastC) (fs : List Bool) (t : List Nat) : Prop where
  loc : Loc w B #[.slice (some ⟨gP, 0, none⟩) 8 cP, .slice (some ⟨gF, 0, none⟩) 8 8, .slice (some ⟨gT, 0, none⟩) 8 8]
  pasts : Sl w 1 (some ⟨gP, 0, none⟩) 8 (ps.map PastC.cells)
  at_ : ∀ p ∈ ps, ChAt w p.A p.l.length p.l
  forks : Sl w 1 (some ⟨gF, 0, none⟩) 8 (fs.map boolC)
  taken : Sl w 1 (some ⟨gT, 0, none⟩) 8 (t.map natC)
section
variable {w w' : World} {B gP cP gF gT : Nat} {ps : List PastC} {fs : List Bool} {t : List Nat}
theorem OrdAt.below (h : OrdAt w B gP cP gF gT ps fs t) (hb : Below w.heap.size w w') : OrdAt w' B gP cP gF gT ps fs t :=
  ⟨h.loc.below hb, h.pasts.below hb, fun p hp => (h.at_ p hp).below hb, h.forks.below hb, h.taken.below hb⟩
theorem OrdAt.len (h : OrdAt w B gP cP gF gT ps fs t) : ps.length = 8 ∧ fs.length = 8 ∧ t.length = 8 := ⟨by simpa using h.pasts.1, by simpa using h.forks.1, by simpa using h.taken.1⟩
theorem OrdAt.past (h : OrdAt w B gP cP gF gT ps fs t) {d : Nat} {p : PastC} (hp : ps[d]? = some p) : w.cell? ⟨gP, d, none⟩ = some (.slice p.A p.l.length p.c) := by
  obtain ⟨b, o, he, _, hc⟩ := h.pasts.2 d p.cells (by rw [List.getElem?_map, hp]; rfl)
  injection he with he
  injection he with h1 h2
  subst h1 h2
  simpa using hc 0 _ rfl
theorem OrdAt.fork (h : OrdAt w B gP cP gF gT ps fs t) {d : Nat} {b : Bool} (hp : fs[d]? = some b) : w.cell? ⟨gF, d, none⟩ = some (.bool b) := by
  obtain ⟨b', o, he, _, hc⟩ := h.forks.2 d (boolC b) (by rw [List.getElem?_map, hp]; rfl)
  injection he with he
  injection he with h1 h2
  subst h1 h2
  simpa using hc 0 _ rfl
theorem OrdAt.take (h : OrdAt w B gP cP gF gT ps fs t) {d n : Nat} (hp : t[d]? = some n) : w.cell? ⟨gT, d, none⟩ = some (.int .i64 (n : Int)) := by
  obtain ⟨b, o, he, _, hc⟩ := h.taken.2 d (natC n) (by rw [List.getElem?_map, hp]; rfl)
  injection he with he
  injection he with h1 h2
  subst h1 h2
  simpa using hc 0 _ rfl
theorem Loc.setEnt {W : World} {n : Nat} {a b c d e : Value} (h : Loc W n #[a, b, c, d, e]) (x : EntC) : Loc (((((W.setCell ⟨n, 0, none⟩ (.int .i64 x.v.dev)).setCell ⟨n, 1, none⟩ (.int .i64 x.v.no)).setCell ⟨n, 2, none⟩ (.int .i64 x.v.day)).setCell ⟨n, 3, none⟩ (.slice x.A x.v.seen.length x.c)).setCell ⟨n, 4, none⟩ (.string ⟨x.v.text.toArray⟩)) n x.cells.toArray := by
  have h5 := ((((h.set_ 0 (.int .i64 x.v.dev)).set_ 1 (.int .i64 x.v.no)).set_ 2 (.int .i64 x.v.day)).set_ 3 (.slice x.A x.v.seen.length x.c)).set_ 4 (.string ⟨x.v.text.toArray⟩)
  exact h5
theorem Below.setEnt {B n : Nat} {w W : World} (h : Below B w W) (hB : B ≤ n) (a b c d e : Value) : Below B w (((((W.setCell ⟨n, 0, none⟩ a).setCell ⟨n, 1, none⟩ b).setCell ⟨n, 2, none⟩ c).setCell ⟨n, 3, none⟩ d).setCell ⟨n, 4, none⟩ e) :=
  ((((h.setCell hB _).setCell hB _).setCell hB _).setCell hB _).setCell hB _
end
end Go.Proofs.YtjncmlglhegnaaaGreatDoor
