/- merge: forks, Forks, walked. -/
/- merge: past, Forks, Past, walked. -/
/- merge: Forks, Past, walked. -/
/- merge: ready, walked. -/
/- merge: who is convicted (plain Lean). -/
import Derived.Test.YtjncmlglhegnaaaGreatDoorMrgX
import Derived.Test.YtjncmlglhegnaaaGreatDoorMakeR
import Derived.Test.YtjncmlglhegnaaaGreatDoorChainF
import Derived.Test.YtjncmlglhegnaaaGreatDoorSlCut
import Derived.Test.YtjncmlglhegnaaaGreatDoorMrgA
import Derived.Deep.DeepCutAuto
import Derived.Deep.CutBlock
namespace Go.Proofs.YtjncmlglhegnaaaGreatDoor
open Go.RowKit Go.Sort Go.Lib

theorem forkB_snoc (p x : EntV) (d : Int) : ∀ m : List EntV, forkB (m ++ [p, x]) d = (forkB (m ++ [p]) d || (convictsB p x && decide (x.dev = d)))
  | [] => by simp [forkB]
  | [a] => by
    have e : forkB ([a] ++ [p, x]) d = ((convictsB a p && decide (p.dev = d)) || forkB ([] ++ [p, x]) d) := rfl
    have e2 : forkB ([a] ++ [p]) d = ((convictsB a p && decide (p.dev = d)) || forkB ([] ++ [p]) d) := rfl
    rw [e, e2, forkB_snoc p x d [], Bool.or_assoc]
  | a :: b :: m => by
    have e : forkB (a :: b :: m ++ [p, x]) d = ((convictsB a b && decide (b.dev = d)) || forkB (b :: m ++ [p, x]) d) := rfl
    have e2 : forkB (a :: b :: m ++ [p]) d = ((convictsB a b && decide (b.dev = d)) || forkB (b :: m ++ [p]) d) := rfl
    rw [e, e2, forkB_snoc p x d (b :: m), Bool.or_assoc]
/-- who is convicted, device by device -/
def forksL (l : List EntV) : List Bool := (List.range 8).map fun (d : Nat) => forkB l (d : Int)
theorem forksL_len (l : List EntV) : (forksL l).length = 8 := by simp [forksL]
theorem forksL_at (l : List EntV) {d : Nat} (hd : d < 8) : (forksL l)[d]? = some (forkB l (d : Int)) := by simp [forksL, hd]
theorem forksL_step {l : List EntV} {m : Nat} {p x : EntV} (hp : l[m]? = some p) (hx : l[m + 1]? = some x) (hr : 0 ≤ x.dev ∧ x.dev ≤ 7) : forksL (l.take (m + 2)) = if convictsB p x = true then (forksL (l.take (m + 1))).set x.dev.toNat true else forksL (l.take (m + 1)) := by
  have e1 : l.take (m + 2) = l.take m ++ [p, x] := by
    have h1 : l.take (m + 2) = l.take (m + 1) ++ [x] := take_succ' hx
    have h2 : l.take (m + 1) = l.take m ++ [p] := take_succ' hp
    rw [h1, h2, List.append_assoc]
    rfl
  have e2 : l.take (m + 1) = l.take m ++ [p] := take_succ' hp
  rw [e1, e2]
  apply List.ext_getElem?
  intro d
  by_cases hd : d < 8
  · rw [forksL_at _ hd, forkB_snoc]
    by_cases hc : convictsB p x = true
    · rw [if_pos hc, List.getElem?_set, forksL_len, forksL_at _ hd]
      by_cases hxd : x.dev.toNat = d
      · have h3 : x.dev = (d : Int) := by omega
        simp [hxd, hd, h3, hc]
      · have h3 : ¬ x.dev = (d : Int) := by omega
        simp [hxd, h3]
    · rw [if_neg hc, forksL_at _ hd]
      simp [hc]
  · rw [List.getElem?_eq_none (by rw [forksL_len]; omega)]
    split
    · rw [List.getElem?_eq_none (by rw [List.length_set, forksL_len]; omega)]
    · rw [List.getElem?_eq_none (by rw [forksL_len]; omega)]
theorem forksL_small {l : List EntV} {k : Nat} (hk : k ≤ 1) : forksL (l.take k) = List.replicate 8 false := by
  have h : ∀ m : List EntV, m.length ≤ 1 → forksL m = List.replicate 8 false := by
    intro m hm
    rcases m with _ | ⟨a, _ | ⟨b, r⟩⟩
    · rfl
    · simp [forksL, forkB]; rfl
    · simp at hm
  exact h _ (by simp; omega)
def boolC (b : Bool) : List Value := [.bool b]
theorem infoBool : (Tryz.prog.info? 4).map (fun i => (i.zero, i.size, i.bytes)) = some (some (.bool false), 1, 1) := by kernel_rfl
set_option maxRecDepth 100000 in
set_option maxHeartbeats 4000000 in
theorem forks_any (w : World) (A : Option Addr) (n c : Nat) (l : List EntC) (hs : ChAt w A n l) (hr : AllR (vsOf l)) (hn : n ≤ 2000) (fs : List Bool) (hfs : forksL (vsOf l) = fs) :
    Calls Tryz.prog 91 #[.slice A n c] w fun e w' => ∃ g, e = .returned (.slice (some ⟨g, 0, none⟩) 8 8) ∧ Own w' w.heap.size 4 1 (.slice (some ⟨g, 0, none⟩) 8 8) 8 (fs.map boolC) ∧ Below w.heap.size w w' := by
  obtain ⟨i1, hj0, hj1, hj2, hj3⟩ := info_parts infoBool
  have hll : l.length = n := by simpa using hs.sl.1
  have HS := Lib.hid hs
  have HL := Lib.hid hll
  have HR := Lib.hid hr
  have HFS := Lib.hid hfs
  clear hs hll hr hfs
  go_enter Tryz.func91, Tryz.ntmps91
  go_wp2_with (at_make; refine wpList_make_own w rfl (.const (.int .i64 8)) (.const (.int .i64 8)) 137 rfl w.heap.size 4 i1 _ 1 1 Tryz.underlying137 hj0 hj1 hj2 hj3 rfl (by omega) 8 rfl rfl (by omega) (by simp only [maxLen]; omega) (Nat.le_refl _) ?_; intro w1 hown1 hb1 hz1)
  have HO1 := Lib.hid hown1
  have HB1 := Lib.hid hb1
  have HGS := Lib.hid (rfl : w.heap.size = w.heap.size)
  clear hown1 hb1 hz1
  go_loopw [4] (fun i wr => ∃ k : Nat, 0 < k ∧ (k ≤ n ∨ k = 1) ∧ i = .int .i64 (k : Int) ∧ Own wr w.heap.size 4 1 (.slice (some ⟨w.heap.size, 0, none⟩) 8 8) 8 ((forksL ((vsOf l).take k)).map boolC) ∧ Below w.heap.size w wr) (fun i _ => n - (intOf i).toNat)
  case atStart => exact ⟨1, by omega, .inr rfl, rfl, by rw [forksL_small (Nat.le_refl _)]; exact HO1.out, HB1.out⟩
  case round =>
    obtain ⟨k, hk0, hk, rfl, ho, hb⟩ := hrel
    obtain ⟨wo, rfl⟩ : ∃ wo : World, wo = wr := ⟨_, rfl⟩
    have HO := Lib.hid ho
    have HB := Lib.hid hb
    clear ho hb
    by_cases hlt : k < n
    · obtain ⟨x, hx⟩ : ∃ v, l[k]? = some v := ⟨_, List.getElem?_eq_getElem (by rw [HL.out]; exact hlt)⟩
      obtain ⟨m, hm⟩ : ∃ m, k = m + 1 := ⟨k - 1, by omega⟩
      obtain ⟨y, hy⟩ : ∃ v, l[m]? = some v := ⟨_, List.getElem?_eq_getElem (by rw [HL.out]; omega)⟩
      obtain ⟨b, o, rfl, _⟩ := ent_at HS.out.sl hx
      have HO1 := Lib.hid (HS.out.below HB.out)
      have IX := HO1.out.at_ x (List.mem_of_getElem? hx)
      have IY := HO1.out.at_ y (List.mem_of_getElem? hy)
      have LX := HO1.out.len x (List.mem_of_getElem? hx)
      have LY := HO1.out.len y (List.mem_of_getElem? hy)
      obtain ⟨r, hcr⟩ : ∃ r, convictsB y.v x.v = r := ⟨_, rfl⟩
      have HC := Lib.hid (fun W (hb : Below wo.heap.size wo W) => Convicts_any W y x (IY.below hb) (IX.below hb) LY LX r hcr)
      have hS : ∀ w', Below wo.heap.size wo w' → _ := fun w' hb => And.intro (ent_is HO1.out.sl hx rfl hb).2 (And.intro (ent_is HO1.out.sl hy rfl hb).2 hb)
      simp only [and_assoc] at hS
      have HSS := Lib.hid hS
      have HXR := Lib.hid (HR.out x.v (List.mem_of_getElem? (vsOf_at hx)))
      have HST := Lib.hid (forksL_step (vsOf_at hy) (by rw [← hm]; exact vsOf_at hx) ⟨HXR.out.d0, HXR.out.d1⟩)
      simp only [EntC.cells] at HC
      have hki : (k : Int) < (n : Int) := by omega
      have hmi : (m : Int) < (n : Int) := by omega
      have hk00 : (0 : Int) ≤ (k : Int) := by omega
      have hwm : IntKind.i64.wrap ((k : Int) - 1) = (m : Int) := by rw [IntWalk.i64_in _ (by omega)]; omega
      have hw1 : IntKind.i64.wrap ((k : Int) + 1) = (k : Int) + 1 := IntWalk.i64_in _ (by omega)
      have HHX := Lib.hid hx
      have HCR := Lib.hid hcr
      have HM := Lib.hid hm
      clear hS hx hy hcr IX IY LX LY hm
      go_upto_region 5 with (fail)
      have hB7 := Below.refl wo.heap.size wo
      go_region_held3 (fun w' => w'.cell? ⟨b, o + k * 5, none⟩ = some (.int .i64 x.v.dev) ∧ w'.cell? ⟨b, o + k * 5 + 1, none⟩ = some (.int .i64 x.v.no) ∧ w'.cell? ⟨b, o + k * 5 + 2, none⟩ = some (.int .i64 x.v.day) ∧ w'.cell? ⟨b, o + k * 5 + 3, none⟩ = some (.slice x.A x.v.seen.length x.c) ∧ w'.cell? ⟨b, o + k * 5 + 4, none⟩ = some (.string ⟨x.v.text.toArray⟩) ∧ w'.cell? ⟨b, o + m * 5, none⟩ = some (.int .i64 y.v.dev) ∧ w'.cell? ⟨b, o + m * 5 + 1, none⟩ = some (.int .i64 y.v.no) ∧ w'.cell? ⟨b, o + m * 5 + 2, none⟩ = some (.int .i64 y.v.day) ∧ w'.cell? ⟨b, o + m * 5 + 3, none⟩ = some (.slice y.A y.v.seen.length y.c) ∧ w'.cell? ⟨b, o + m * 5 + 4, none⟩ = some (.string ⟨y.v.text.toArray⟩) ∧ Below wo.heap.size wo w')
        (first | exact HSS.out _ hB7 | (refine HSS.out _ ?_; repeat (first | exact hB7 | exact Below.refl _ _ | refine Below.drew ?_ | refine Below.alloc ?_ (by first | exact Nat.le_refl _ | exact hB7.size | (simp <;> omega)) _ | refine Below.setCell ?_ (by first | exact Nat.le_refl _ | exact hB7.size | (simp <;> omega)) _)))
        (((with_reducible refine (HC.out _ ?hs1).mono ?_)
          (case hs1 => go_split_ands; assumption)
          rintro e w3 ⟨rfl, hbF⟩
          have hB7 : Below wo.heap.size wo w3 := by go_split_ands; exact Below.trans (by assumption) (hbF.mono (Below.size (by assumption)))))
      have HB7 := Lib.hid hB7
      have HO3 := Lib.hid (HO.out.below hB7)
      have HB8 := Lib.hid (HB.out.trans (hB7.mono HB.out.size))
      have hst := HST.out
      rw [HCR.out, show m + 2 = k + 1 by have := HM.out; omega, ← HM.out] at hst
      clear hB7 hbF
      cases r
      · have HST2 := Lib.hid hst
        clear hst
        go_wp2_with (fail)
        go_roundw
        case rel => exact ⟨k + 1, by omega, .inl hlt, by go_num, by have h := HST2.out; rw [if_neg (by simp)] at h; rw [h]; exact HO3.out, HB8.out⟩
        case measure => simp [intOf]; omega
      · rw [if_pos rfl] at hst
        have HST2 := Lib.hid hst
        obtain ⟨d, hd⟩ : ∃ d : Nat, x.v.dev = (d : Int) := ⟨x.v.dev.toNat, by have := HXR.out.d0; omega⟩
        have hd8 : d < 8 := by have := HXR.out.d1; omega
        have hdi : x.v.dev < 8 := by omega
        have hdi0 : 0 ≤ x.v.dev := by omega
        have hdn : x.v.dev.toNat = d := by omega
        have HD := Lib.hid hd
        obtain ⟨c0, _⟩ := (HSS.out _ HB7.out)
        obtain ⟨g', c', he, hgb, hgz, hcell2, hfz⟩ := HO3.out.at_ (i := d) (x := boolC (forkB ((vsOf l).take k) (d : Int))) (by rw [List.getElem?_map, forksL_at _ hd8]; rfl)
        cases he
        have e0 := hcell2 0 _ rfl
        have f0 := hfz d
        rw [Nat.mul_one, Nat.add_zero] at e0
        clear hst hd hcell2 hfz
        go_wp2_with (fail)
        go_roundw
        case rel =>
          refine ⟨k + 1, by omega, .inl hlt, by go_num, ?_, HB8.out.setCell (p := ⟨w.heap.size, d, none⟩) (Nat.le_refl _) _⟩
          have h := HO3.out.stored (i := d) (j := 0) (x := boolC (forkB ((vsOf l).take k) (d : Int))) (by rw [List.getElem?_map, forksL_at _ hd8]; rfl) (by omega) (.bool true)
          rw [Nat.mul_one, Nat.add_zero] at h
          have h2 := HST2.out
          rw [HD.out, Int.toNat_natCast] at h2
          rw [h2, List.map_set]
          exact h
        case measure => simp [intOf]; omega
    · have hki : ¬ ((k : Int) < (n : Int)) := by omega
      have hv := HFS.out
      have ho := HO.out
      rw [List.take_of_length_le (by rw [vsOf_len, HL.out]; omega), hv] at ho
      have HO2 := Lib.hid ho
      clear hv ho
      go_wp2_with (fail)
      go_ret
      exact ⟨_, rfl, HO2.out, HB.out⟩
end Go.Proofs.YtjncmlglhegnaaaGreatDoor
namespace Go.Proofs.YtjncmlglhegnaaaGreatDoor
open Go.RowKit Go.Sort Go.Lib

def ownC (l : List EntC) (d : Int) : List EntC := l.filter fun e => decide (e.v.dev = d)
theorem vsOf_own (l : List EntC) (d : Int) : vsOf (ownC l d) = ownF (vsOf l) d := by
  unfold vsOf ownC ownF
  rw [List.filter_map]
  rfl
/-- what past hands back: a new row of entries of the list -/
def PastP (w : World) (l : List EntC) (v : List EntV) (e : Ending) (w' : World) : Prop := ∃ A c l', e = .returned (.slice A v.length c) ∧ Own w' w.heap.size 32 5 (.slice A v.length c) v.length (l'.map EntC.cells) ∧ (∀ u ∈ l', u ∈ l) ∧ vsOf l' = v ∧ Below w.heap.size w w'
theorem PastP.gives {w w' : World} {A : Option Addr} {n : Nat} {l : List EntC} {v : List EntV} {e : Ending} (hs : ChAt w A n l) (h : PastP w l v e w') : GivesE w v e w' := by
  obtain ⟨A', c', l', rfl, h1, h2, h3, h4⟩ := h
  exact ⟨A', c', l', rfl, ⟨h1.sl', fun u hu => (hs.at_ u (h2 u hu)).below h4, fun u hu => hs.len u (h2 u hu)⟩, h3, h4⟩
set_option maxRecDepth 100000 in
set_option maxHeartbeats 4000000 in
theorem past_any (w : World) (A : Option Addr) (n c : Nat) (l : List EntC) (hs : ChAt w A n l) (hn : n ≤ 2000) (dev : Int) :
    Calls Tryz.prog 146 #[.slice A n c, .int .i64 dev] w (PastP w l (pastF (vsOf l) dev)) := by
  obtain ⟨i1, hi10, hz10, hz11, hz12⟩ := info_parts infoEnt
  have hll : l.length = n := by simpa using hs.sl.1
  have HS := Lib.hid hs
  have HL := Lib.hid hll
  clear hs hll
  go_enter Tryz.func146, Tryz.ntmps146
  go_wp2_with (fail)
  go_loopw [5, 11] (fun s i wr => ∃ (k m : Nat) (A : Option Addr) (c : Nat), i = .int .i64 (k : Int) ∧ s = .slice A m c ∧ k ≤ n ∧ m ≤ k ∧ Own wr w.heap.size 32 5 (.slice A m c) m ((ownC (l.take k) dev).map EntC.cells) ∧ Below w.heap.size w wr) (fun _ i _ => n - (intOf i).toNat)
  case atStart => exact ⟨0, 0, none, 0, rfl, rfl, Nat.zero_le _, Nat.le_refl _, Own.nil_ _ _ _ _, Below.refl _ _⟩
  case round =>
    obtain ⟨k, m, Ao, co, rfl, rfl, hk, hmk, ho, hb⟩ := hrel
    obtain ⟨wo, rfl⟩ : ∃ wo : World, wo = wr := ⟨_, rfl⟩
    have HO := Lib.hid ho
    have HB := Lib.hid hb
    clear ho hb
    by_cases hlt : k < n
    · obtain ⟨x, hx⟩ : ∃ v, l[k]? = some v := ⟨_, List.getElem?_eq_getElem (by rw [HL.out]; exact hlt)⟩
      obtain ⟨b, o, rfl, hbl, c0, c1, c2, c3, c4⟩ := ent_at (HS.out.sl.below HB.out) hx
      have hki : (k : Int) < (n : Int) := by omega
      have hk0 : (0 : Int) ≤ (k : Int) := by omega
      have hw1 : IntKind.i64.wrap ((k : Int) + 1) = (k : Int) + 1 := IntWalk.i64_in _ (by omega)
      have HXX := Lib.hid hx
      have HZ3 := Lib.hid HB.out.size
      have HLX := Lib.hid (Loc.new_ wo (EntC.cells x).toArray 32)
      simp only [EntC.cells] at HLX
      obtain ⟨zX, kX, fX⟩ := HLX.out
      have HS1 : Hid (∀ o, Sl ((wo.alloc o).alloc (.cells (EntC.cells x).toArray 32)) 5 (some ⟨wo.heap.size + 1, 0, none⟩) 1 ([x].map EntC.cells)) := Lib.hid fun o => by
        have := Sl.new_ (wo.alloc o) 32 (EntC.cells x)
        rw [World.size_alloc] at this
        exact this
      have HT := Lib.hid (take_succ' HXX.out)
      clear hx
      by_cases hd : x.v.dev = dev
      · have hdb : (x.v.dev == dev) = true := by simpa using hd
        have HD := Lib.hid hd
        have hmki : m ≤ n := by omega
        clear hd
        go_wp2_with (at_builtin; (refine wpList_append_sl _ rfl (.tmp 19) (.tmp 21) _ rfl w.heap.size 32 i1 _ 5 64 Tryz.underlying22 hi10 hz10 hz11 hz12 rfl (by omega) _ m ((ownC (l.take k) dev).map EntC.cells) rfl ((HO.out.alloc _).alloc _) (some ⟨wo.heap.size + 1, 0, none⟩) 1 1 ([x].map EntC.cells) rfl (HS1.out _) (ents_len _) (ents_one _) (by simp only [maxLen]; omega) (by omega) (by have := HZ3.out; simp; omega) ?_); intro A9 c9 w9 hown9 hg9 hat9)
        go_roundw
        case rel =>
          refine ⟨k + 1, m + 1, A9, c9, by go_num, by simp, by omega, by omega, ?_, ((HO.out.alloc _).alloc _).below_grown (Nat.le_refl _) (by have := HZ3.out; simp; omega) ((HB.out.alloc HZ3.out _).alloc (by have := HZ3.out; simp; omega) _) hg9⟩
          rw [HT.out, show ownC (l.take k ++ [x]) dev = ownC (l.take k) dev ++ [x] by simp [ownC, HD.out], List.map_append]
          exact hown9
        case measure => simp [intOf]; omega
      · have hdb : (x.v.dev == dev) = false := by simpa using hd
        have HD := Lib.hid hd
        clear hd
        go_wp2_with (fail)
        go_roundw
        case rel =>
          refine ⟨k + 1, m, Ao, co, by go_num, by simp, by omega, by omega, ?_, HB.out.alloc HZ3.out _⟩
          rw [HT.out, show ownC (l.take k ++ [x]) dev = ownC (l.take k) dev by simp [ownC, HD.out]]
          exact HO.out.alloc _
        case measure => simp [intOf]; omega
    · obtain rfl : k = n := by omega
      have hki : ¬ ((k : Int) < (k : Int)) := by omega
      have ho := HO.out
      rw [List.take_of_length_le (by rw [HL.out]; exact Nat.le_refl _)] at ho
      obtain ⟨os, hos⟩ : ∃ os, ownC l dev = os := ⟨_, rfl⟩
      rw [hos] at ho
      have HOS := Lib.hid hos
      have HOL : Hid (os.length = m) := Lib.hid (by have := ho.2.2; simpa using this)
      have HSO : Hid (ChAt wo Ao m os) := Lib.hid ⟨ho.sl', fun u hu => by
          rw [← hos] at hu
          exact (HS.out.at_ u ((List.mem_filter.1 hu).1)).below HB.out, fun u hu => by
          rw [← hos] at hu
          exact HS.out.len u ((List.mem_filter.1 hu).1)⟩
      have hcap : m ≤ co := by
        rcases ho.shape with ⟨_, h, _⟩ | ⟨g, h, _⟩
        · omega
        · exact ho.capM (by rw [h]; simp)
      have HCAP := Lib.hid hcap
      have HZB := Lib.hid HB.out.size
      have HOO := Lib.hid ho
      have HSUB : Hid (∀ u ∈ os, u ∈ l) := Lib.hid fun u hu => by rw [← hos] at hu; exact (List.mem_filter.1 hu).1
      clear hos ho
      go_upto_block 2 with (fail)
      go_cut [8] (fun sv wx => sv = .int .i64 (soloN (vsOf os) : Int) ∧ wx = wo)
      case first =>
        go_wp2_with (fail)
        go_loopw [8] (fun sv wr => ∃ j : Nat, sv = .int .i64 (j : Int) ∧ j ≤ m ∧ soloGo (vsOf os) (m - j) j = soloN (vsOf os) ∧ wr = wo) (fun sv _ => m - (intOf sv).toNat)
        case atStart => exact ⟨0, rfl, Nat.zero_le _, by unfold soloN; rw [vsOf_len, HOL.out]; rfl, rfl⟩
        case round =>
          obtain ⟨j, rfl, hj, hgo, hwr⟩ := hrel
          obtain rfl := hwr.symm
          have HGO := Lib.hid hgo
          clear hgo hwr
          by_cases hlt : j < m
          · obtain ⟨x, hx⟩ : ∃ v, os[j]? = some v := ⟨_, List.getElem?_eq_getElem (by rw [HOL.out]; exact hlt)⟩
            obtain ⟨b, o, rfl, hbl, c0, c1, c2, c3, c4⟩ := ent_at HSO.out.sl hx
            have hji : (j : Int) < (m : Int) := by omega
            have hj0 : (0 : Int) ≤ (j : Int) := by omega
            have hw1 : IntKind.i64.wrap ((j : Int) + 1) = (j : Int) + 1 := IntWalk.i64_in _ (by omega)
            have hgo2 := HGO.out
            rw [show m - j = (m - (j + 1)) + 1 by omega] at hgo2
            simp only [soloGo] at hgo2
            have HGO2 := Lib.hid hgo2
            have HXX := Lib.hid hx
            have HLT := Lib.hid hlt
            clear hx hgo2
            have hsb : soloB (vsOf os) j = (decide (x.v.no = (j : Int)) && (match (vsOf os)[j + 1]? with | none => true | some y => decide ((j : Int) < y.no))) := by
              unfold soloB
              rw [vsOf_at HXX.out]
              rfl
            have HSB := Lib.hid hsb
            clear hsb
            by_cases hxn : x.v.no = (j : Int)
            case neg =>
              have hdb : (x.v.no == (j : Int)) = false := by simpa using hxn
              have HST : Hid (j = soloN (vsOf os)) := Lib.hid (by
                have h := HGO2.out
                rw [HSB.out, decide_eq_false hxn, Bool.false_and, if_neg (by simp)] at h
                exact h)
              go_wp2_with (fail)
              go_meet
              case rel => exact ⟨by rw [← HST.out], rfl⟩
            have hdb : (x.v.no == (j : Int)) = true := by simpa using hxn
            by_cases hl2 : j + 1 < m
            · obtain ⟨y, hy⟩ : ∃ v, os[j + 1]? = some v := ⟨_, List.getElem?_eq_getElem (by rw [HOL.out]; exact hl2)⟩
              obtain ⟨b', o', he, hbl', d0, d1, d2, d3, d4⟩ := ent_at HSO.out.sl hy
              cases he
              have hl2i : (j : Int) + 1 < (m : Int) := by omega
              have hdc : (((j : Int) + 1) == (m : Int)) = false := by simp; omega
              have hj10 : (0 : Int) ≤ (j : Int) + 1 := by omega
              have HYY := Lib.hid hy
              clear hy
              by_cases hyn : (j : Int) < y.v.no
              · have HST : Hid (soloGo (vsOf os) (m - (j + 1)) (j + 1) = soloN (vsOf os)) := Lib.hid (by
                  have h := HGO2.out
                  rw [HSB.out, decide_eq_true hxn, Bool.true_and, vsOf_at HYY.out] at h
                  simp only [decide_eq_true hyn, if_true] at h
                  exact h)
                go_wp2_with (fail)
                go_roundw
                case rel => exact ⟨j + 1, by go_num, HLT.out, HST.out, by first | trivial | rfl⟩
                case measure => simp [intOf]; omega
              · have HST : Hid (j = soloN (vsOf os)) := Lib.hid (by
                  have h := HGO2.out
                  rw [HSB.out, decide_eq_true hxn, Bool.true_and, vsOf_at HYY.out] at h
                  simp only [decide_eq_false hyn, Bool.false_eq_true, if_false] at h
                  exact h)
                have hyn2 : y.v.no ≤ (j : Int) := by omega
                go_wp2_with (fail)
                go_meet
                case rel => exact ⟨by rw [← HST.out], rfl⟩
            · have hdc : (((j : Int) + 1) == (m : Int)) = true := by simp; omega
              have hn1 : (vsOf os)[j + 1]? = none := List.getElem?_eq_none (by rw [vsOf_len, HOL.out]; omega)
              have HST : Hid (soloGo (vsOf os) (m - (j + 1)) (j + 1) = soloN (vsOf os)) := Lib.hid (by
                have h := HGO2.out
                rw [HSB.out, decide_eq_true hxn, Bool.true_and, hn1] at h
                simpa using h)
              clear hn1
              go_wp2_with (fail)
              go_roundw
              case rel => exact ⟨j + 1, by go_num, HLT.out, HST.out, by first | trivial | rfl⟩
              case measure => simp [intOf]; omega
          · obtain rfl : j = m := by omega
            have hji : ¬ ((j : Int) < (j : Int)) := by omega
            have HST : Hid (j = soloN (vsOf os)) := Lib.hid (by have h := HGO.out; rw [Nat.sub_self] at h; exact h)
            go_wp2_with (fail)
            go_meet
            case rel => exact ⟨by rw [← HST.out], rfl⟩
      case rest =>
        obtain ⟨rfl, hwc⟩ := hcut
        obtain rfl := hwc.symm
        clear hwc
        have hNm := soloN_le (vsOf os)
        rw [vsOf_len, HOL.out] at hNm
        obtain ⟨N, hN⟩ : ∃ N, soloN (vsOf os) = N := ⟨_, rfl⟩
        have HPN : Hid (cutGo (vsOf os) N = pastN (vsOf os)) := Lib.hid (by rw [← hN]; rfl)
        have HV : Hid (pastF (vsOf l) dev = (vsOf os).take (pastN (vsOf os))) := Lib.hid (by rw [← HOS.out, vsOf_own]; rfl)
        rw [hN] at hNm ⊢
        clear hN
        have HFIN : Hid (∀ (j : Nat) (W : World), j ≤ m → j = pastN (vsOf os) → Below wo.heap.size wo W → PastP w l (pastF (vsOf l) dev) (.returned (.slice Ao j co)) W) := Lib.hid (fun j W hjm hj hb => by
          have hl : (pastF (vsOf l) dev).length = j := by rw [HV.out, ← hj, List.length_take, vsOf_len, HOL.out]; omega
          refine ⟨Ao, co, os.take j, by rw [hl], ?_, fun u hu => HSUB.out u (List.mem_of_mem_take hu), ?_, HB.out.trans (hb.mono HZB.out)⟩
          · rw [hl, List.map_take]
            rcases HOO.out.shape with ⟨h1, h2, h3, h4⟩ | ⟨g, h1, _⟩
            · obtain rfl : j = 0 := by omega
              rw [h1, h3, List.take_zero]
              exact Own.nil_ _ _ _ _
            · exact (HOO.out.below hb).shrinkM (by rw [h1]; simp) hjm
          · rw [HV.out, ← hj]; exact List.map_take)
        go_wp2_with (fail)
        go_loopw [8] (fun sv wr => ∃ j : Nat, sv = .int .i64 (j : Int) ∧ j ≤ m ∧ cutGo (vsOf os) j = pastN (vsOf os) ∧ Below wo.heap.size wo wr) (fun sv _ => (intOf sv).toNat)
        case atStart => exact ⟨N, rfl, hNm, HPN.out, Below.refl _ _⟩
        case round =>
          obtain ⟨j, rfl, hj, hgo, hbw⟩ := hrel
          obtain ⟨wp, rfl⟩ : ∃ wp : World, wp = wr := ⟨_, rfl⟩
          have HGO := Lib.hid hgo
          have HBW := Lib.hid hbw
          clear hgo hbw
          rcases Nat.eq_zero_or_pos j with h0 | h0
          · subst h0
            have HE0 : Hid (0 = pastN (vsOf os)) := Lib.hid (by rw [← HGO.out]; rfl)
            have hco0 : (0 : Int) ≤ (co : Int) := by omega
            go_wp2_with (fail)
            go_ret
            have hfin := HFIN.out 0 _ hj HE0.out HBW.out
            exact hfin
          · obtain ⟨i, hi⟩ : ∃ i, j = i + 1 := ⟨j - 1, by omega⟩
            have hgo2 := HGO.out
            rw [hi] at hgo2
            simp only [cutGo] at hgo2
            rw [← hi] at hgo2
            obtain ⟨r, hr⟩ : ∃ r, checkF (vsOf (os.take j)) = r := ⟨_, rfl⟩
            have hCH : ChAt wp Ao j (os.take j) := ⟨by rw [List.map_take]; exact (HSO.out.sl.below HBW.out).head hj, fun u hu => (HSO.out.at_ u (List.mem_of_mem_take hu)).below HBW.out, fun u hu => HSO.out.len u (List.mem_of_mem_take hu)⟩
            have HC := Lib.hid (Check_any wp Ao j co (os.take j) hCH r hr)
            have hr2 : checkF ((vsOf os).take j) = r := by rw [← hr]; unfold vsOf; rw [List.map_take]
            rw [hr2] at hgo2
            have HGO2 := Lib.hid hgo2
            have hji : (0 : Int) < (j : Int) := by omega
            have hjc : (j : Int) ≤ (co : Int) := by omega
            have hj00 : (0 : Int) ≤ (j : Int) := by omega
            have hwm : IntKind.i64.wrap ((j : Int) - 1) = (i : Int) := by rw [IntWalk.i64_in _ (by omega)]; omega
            have HI := Lib.hid hi
            clear hgo2 hr hCH hr2 hi
            by_cases hr0 : r = 0
            · subst hr0
              have HE0 : Hid (j = pastN (vsOf os)) := Lib.hid (by have h := HGO2.out; rwa [if_pos rfl] at h)
              go_wp2_with ((with_reducible refine HC.out.mono ?_); rintro e w5 ⟨rfl, hb5⟩)
              go_ret
              have hfin := HFIN.out j _ hj HE0.out (HBW.out.trans (hb5.mono HBW.out.size))
              exact hfin
            · have hrb : (r == 0) = false := by simpa using hr0
              have hrb2 : (r != 0) = true := by simpa using hr0
              have HE0 : Hid (cutGo (vsOf os) i = pastN (vsOf os)) := Lib.hid (by have h := HGO2.out; rwa [if_neg hr0] at h)
              go_wp2_with ((with_reducible refine HC.out.mono ?_); rintro e w5 ⟨rfl, hb5⟩)
              go_roundw
              case rel => exact ⟨i, rfl, by have := HI.out; omega, HE0.out, HBW.out.trans (hb5.mono HBW.out.size)⟩
              case measure => simp [intOf]; have := HI.out; omega
end Go.Proofs.YtjncmlglhegnaaaGreatDoor
namespace Go.Proofs.YtjncmlglhegnaaaGreatDoor
open Go.RowKit Go.Sort Go.Lib

/-- the devices that are convicted -/
def forkI (fs : List Bool) (k : Nat) : List Int := ((List.range k).filter fun d => fs.getD d false).map fun (d : Nat) => (d : Int)
theorem forkI_step (fs : List Bool) {k : Nat} {b : Bool} (h : fs[k]? = some b) : forkI fs (k + 1) = if b = true then forkI fs k ++ [(k : Int)] else forkI fs k := by
  unfold forkI
  rw [List.range_succ, List.filter_append, List.map_append]
  have e : fs.getD k false = b := by rw [List.getD_eq_getElem?_getD, h]; rfl
  cases b
  · rw [List.filter_cons_of_neg (by rw [e]; simp)]; simp
  · rw [List.filter_cons_of_pos (by rw [e])]; simp
theorem forkI_len (fs : List Bool) (k : Nat) : (forkI fs k).length ≤ k := by
  unfold forkI
  rw [List.length_map]
  exact Nat.le_trans (List.length_filter_le _ _) (by simp)
/-- what hands a list of numbers back -/
def GivesI (w : World) (v : List Int) (e : Ending) (w' : World) : Prop := ∃ A c, e = .returned (.slice A v.length c) ∧ Own w' w.heap.size 3 1 (.slice A v.length c) v.length (v.map intC) ∧ Below w.heap.size w w'
def forkO (l : List EntV) : List Int := forkI (forksL (joinF l)) 8
theorem chAt_nil (w : World) : ChAt w none 0 [] := ⟨Sl.nil_ _ _ _, by simp, by simp⟩
set_option maxRecDepth 100000 in
set_option maxHeartbeats 4000000 in
theorem Forks_any {B0 : Nat} (w : World) (hE : Env B0 w) (hB0 : B0 ≤ w.heap.size) (A : Option Addr) (n c : Nat) (l : List EntC) (hs : ChAt w A n l) (hn : n ≤ 1000) (v : List Int) (hv : forkO (vsOf l) = v) :
    Calls Tryz.prog 49 #[.slice A n c] w (GivesI w v) := by
  obtain ⟨i1, hi10, hz10, hz11, hz12⟩ := info_parts infoInt
  have HJ := Lib.hid (Join_any w hE hB0 A none n 0 c 0 l [] hs (chAt_nil w) hn (by omega))
  have HLL : Hid (l.length = n) := Lib.hid (by simpa using hs.sl.1)
  have HV := Lib.hid hv
  clear hE hB0 hs hv
  go_enter Tryz.func49, Tryz.ntmps49
  go_wp2_with (fail)
  ((with_reducible refine HJ.out.mono ?_); rintro e w1 ⟨A1, c1, l1, rfl, h1, hv1, hb1⟩)
  have e0 : vsOf l ++ vsOf [] = vsOf l := by simp [vsOf]
  rw [e0] at hv1 h1 ⊢
  have hjl : (joinF (vsOf l)).length ≤ 1000 := Nat.le_trans (joinF_len _) (by rw [vsOf_len, HLL.out]; exact hn)
  generalize hJN : (joinF (vsOf l)).length = N at *
  have HF := Lib.hid (forks_any w1 A1 N c1 l1 h1 (by rw [hv1]; exact joinF_right _) (by omega) _ rfl)
  rw [hv1] at HF
  have HB1 := Lib.hid hb1
  clear h1 hb1 HJ hJN
  obtain ⟨fs, hfs⟩ : ∃ fs, forksL (joinF (vsOf l)) = fs := ⟨_, rfl⟩
  have HV2 : Hid (forkI fs 8 = v) := Lib.hid (by rw [← hfs]; exact HV.out)
  have HFL : Hid (fs.length = 8) := Lib.hid (by rw [← hfs]; exact forksL_len _)
  rw [hfs] at HF
  clear hfs hv1 e0
  go_wp2_with (fail)
  ((with_reducible refine HF.out.mono ?_); rintro e w2 ⟨g, rfl, ho2, hb2⟩)
  have HO2 := Lib.hid ho2
  have HB2 := Lib.hid (HB1.out.trans (hb2.mono HB1.out.size))
  clear ho2 hb2 HF
  go_wp2_with (fail)
  go_loopw [3, 10] (fun s i wr => ∃ (k m : Nat) (A : Option Addr) (c : Nat), i = .int .i64 (k : Int) ∧ s = .slice A m c ∧ k ≤ 8 ∧ (forkI fs k).length = m ∧ Own wr w.heap.size 3 1 (.slice A m c) m ((forkI fs k).map intC) ∧ Below w.heap.size w wr ∧ Own wr w1.heap.size 4 1 (.slice (some ⟨g, 0, none⟩) 8 8) 8 (fs.map boolC) ∧ (Value.slice A m c).ownBlock ≠ some g) (fun _ i _ => 8 - (intOf i).toNat)
  case atStart => exact ⟨0, 0, none, 0, rfl, rfl, by omega, rfl, Own.nil_ _ _ _ _, HB2.out, HO2.out, by simp [Value.ownBlock]⟩
  case round =>
    obtain ⟨k, m, Ao, co, rfl, rfl, hk, hm, ho, hb, hfb, hne⟩ := hrel
    obtain ⟨wo, rfl⟩ : ∃ wo : World, wo = wr := ⟨_, rfl⟩
    have HO := Lib.hid ho
    have HB := Lib.hid hb
    have HM := Lib.hid hm
    have HFB := Lib.hid hfb
    have HNE := Lib.hid hne
    have hm8 : m ≤ 8 := by have := forkI_len fs k; omega
    have HSZ := Lib.hid hb.size
    clear ho hb hm hne
    by_cases hlt : k < 8
    · obtain ⟨b, hb⟩ : ∃ b, fs[k]? = some b := ⟨_, List.getElem?_eq_getElem (by rw [HFL.out]; exact hlt)⟩
      obtain ⟨g', c', he, hgb, hgz, hcell, hfz⟩ := hfb.at_ (i := k) (x := boolC b) (by rw [List.getElem?_map, hb]; rfl)
      cases he
      have e0 := hcell 0 _ rfl
      rw [Nat.mul_one, Nat.add_zero] at e0
      have hki : (k : Int) < 8 := by omega
      have hk0 : (0 : Int) ≤ (k : Int) := by omega
      have hw1 : IntKind.i64.wrap ((k : Int) + 1) = (k : Int) + 1 := IntWalk.i64_in _ (by omega)
      have HST := Lib.hid (forkI_step fs hb)
      have HS1 : Hid (Sl (wo.alloc (.cells #[.int .i64 (k : Int)] 3)) 1 (some ⟨wo.heap.size, 0, none⟩) 1 ([(k : Int)].map intC)) := Lib.hid (Sl.new_ wo 3 [.int .i64 (k : Int)])
      have HKG := Lib.hid hgz
      clear hcell hfz hfb hb hgb
      cases b
      · go_wp2_with (fail)
        go_roundw
        case rel => exact ⟨k + 1, m, Ao, co, by go_num, by simp, by omega, by rw [HST.out, if_neg (by simp)]; exact HM.out, by rw [HST.out, if_neg (by simp)]; exact HO.out, HB.out, HFB.out, HNE.out⟩
        case measure => simp [intOf]; omega
      · go_wp2_with (at_builtin; (refine wpList_append_sl _ rfl (.tmp 16) (.tmp 18) _ rfl w.heap.size 3 i1 _ 1 8 Tryz.underlying30 hi10 hz10 hz11 hz12 rfl (by omega) _ m ((forkI fs k).map intC) rfl (HO.out.alloc _) (some ⟨wo.heap.size, 0, none⟩) 1 1 ([(k : Int)].map intC) rfl HS1.out (ints_len _) (ints_one _) (by simp only [maxLen]; omega) (by omega) (by have := HSZ.out; simp; omega) ?_); intro A9 c9 w9 hown9 hg9 hat9)
        go_roundw
        case rel =>
          refine ⟨k + 1, m + 1, A9, c9, by go_num, by simp, by omega, by rw [HST.out, if_pos rfl, List.length_append, HM.out]; rfl, ?_, (HO.out.alloc _).below_grown (Nat.le_refl _) (by have := HSZ.out; simp; omega) (HB.out.alloc HSZ.out _) hg9, (HFB.out.alloc _).kept hg9 (.inr fun e => HNE.out e.symm), ?_⟩
          · rw [HST.out, if_pos rfl, List.map_append]
            exact hown9
          · rcases hat9 with h | h
            · rw [h]; exact HNE.out
            · rw [h]; intro e; injection e with e; have := HKG.out; simp at e; omega
        case measure => simp [intOf]; omega
    · obtain rfl : k = 8 := by omega
      have hm := HM.out
      rw [HV2.out] at hm
      have ho := HO.out
      rw [HV2.out] at ho
      have HO9 := Lib.hid ho
      have HM9 := Lib.hid hm
      clear hm ho
      go_wp2_with (fail)
      go_ret
      exact ⟨Ao, co, by rw [HM9.out]; rfl, by rw [HM9.out]; exact HO9.out, HB.out⟩
end Go.Proofs.YtjncmlglhegnaaaGreatDoor
namespace Go.Proofs.YtjncmlglhegnaaaGreatDoor
open Go.RowKit Go.Sort Go.Lib

/-- a past in memory -/
structure PastC where
  A : Option Addr
  c : Nat
  l : List EntC
def PastC.cells (p : PastC) : List Value := [.slice p.A p.l.length p.c]
def natC (n : Nat) : List Value := [.int .i64 (n : Int)]
/-- the state in which entries are taken, in memory -/
structure OrdAt (w : World) (B gP cP gF gT : Nat) (ps : List PastC) (fs : List Bool) (t : List Nat) : Prop where
  loc : Loc w B #[.slice (some ⟨gP, 0, none⟩) 8 cP, .slice (some ⟨gF, 0, none⟩) 8 8, .slice (some ⟨gT, 0, none⟩) 8 8]
  pasts : Sl w 1 (some ⟨gP, 0, none⟩) 8 (ps.map PastC.cells)
  at_ : ∀ p ∈ ps, ChAt w p.A p.l.length p.l
  forks : Sl w 1 (some ⟨gF, 0, none⟩) 8 (fs.map boolC)
  taken : Sl w 1 (some ⟨gT, 0, none⟩) 8 (t.map natC)
def psV (ps : List PastC) : List (List EntV) := ps.map fun p => vsOf p.l
theorem psV_at {ps : List PastC} {d : Nat} {p : PastC} (h : ps[d]? = some p) : (psV ps).getD d [] = vsOf p.l := by unfold psV; rw [List.getD_eq_getElem?_getD, List.getElem?_map, h]; rfl
section
variable {w w' : World} {B gP cP gF gT : Nat} {ps : List PastC} {fs : List Bool} {t : List Nat}
theorem OrdAt.below (h : OrdAt w B gP cP gF gT ps fs t) (hb : Below w.heap.size w w') : OrdAt w' B gP cP gF gT ps fs t :=
  ⟨h.loc.below hb, h.pasts.below hb, fun p hp => (h.at_ p hp).below hb, h.forks.below hb, h.taken.below hb⟩
theorem OrdAt.len (h : OrdAt w B gP cP gF gT ps fs t) : ps.length = 8 ∧ fs.length = 8 ∧ t.length = 8 := ⟨by simpa using h.pasts.1, by simpa using h.forks.1, by simpa using h.taken.1⟩
theorem OrdAt.past (h : OrdAt w B gP cP gF gT ps fs t) {d : Nat} {p : PastC} (hp : ps[d]? = some p) : w.cell? ⟨gP, d, none⟩ = some (.slice p.A p.l.length p.c) := by
  obtain ⟨b, o, he, _, hc⟩ := h.pasts.2 d p.cells (by rw [List.getElem?_map, hp]; rfl)
  injection he with he
  injection he with h1 h2
  subst h1 h2
  simpa using hc 0 _ rfl
theorem OrdAt.fork (h : OrdAt w B gP cP gF gT ps fs t) {d : Nat} {b : Bool} (hp : fs[d]? = some b) : w.cell? ⟨gF, d, none⟩ = some (.bool b) := by
  obtain ⟨b', o, he, _, hc⟩ := h.forks.2 d (boolC b) (by rw [List.getElem?_map, hp]; rfl)
  injection he with he
  injection he with h1 h2
  subst h1 h2
  simpa using hc 0 _ rfl
theorem OrdAt.take (h : OrdAt w B gP cP gF gT ps fs t) {d n : Nat} (hp : t[d]? = some n) : w.cell? ⟨gT, d, none⟩ = some (.int .i64 (n : Int)) := by
  obtain ⟨b, o, he, _, hc⟩ := h.taken.2 d (natC n) (by rw [List.getElem?_map, hp]; rfl)
  injection he with he
  injection he with h1 h2
  subst h1 h2
  simpa using hc 0 _ rfl
theorem OrdAt.lts (h : OrdAt w B gP cP gF gT ps fs t) : gP < w.heap.size ∧ gF < w.heap.size ∧ gT < w.heap.size := by
  obtain ⟨l1, l2, l3⟩ := h.len
  refine ⟨?_, ?_, ?_⟩
  · obtain ⟨b, o, he, hb, _⟩ := h.pasts.2 0 _ (List.getElem?_eq_getElem (by simp; omega))
    injection he with he
    injection he with h1 h2
    omega
  · obtain ⟨b, o, he, hb, _⟩ := h.forks.2 0 _ (List.getElem?_eq_getElem (by simp; omega))
    injection he with he
    injection he with h1 h2
    omega
  · obtain ⟨b, o, he, hb, _⟩ := h.taken.2 0 _ (List.getElem?_eq_getElem (by simp; omega))
    injection he with he
    injection he with h1 h2
    omega
def noEnt : EntC := ⟨⟨0, 0, 0, [], []⟩, none, 0⟩
theorem noEnt_at (w : World) : EntAt w noEnt := Sl.nil_ _ _ _
/-- what ready hands back -/
def ReadyP (w : World) (ps : List PastC) (r : Option EntV) (e : Ending) (w' : World) : Prop := ∃ x : EntC, e = .returned (.tuple #[.agg x.cells.toArray, .bool r.isSome]) ∧ EntAt w x ∧ (x.v.seen.length ≤ 1099511627776 ∧ x.v.text.length ≤ 140737488351232) ∧ (∀ y, r = some y → x.v = y ∧ ∃ p ∈ ps, x ∈ p.l) ∧ Below w.heap.size w w'
theorem results_ready {W : World} {n : Nat} {x : EntC} {b : Bool} {tmps : Array Value} (h : Loc W n x.cells.toArray) (ht : tmps.getD 4 undef = .pointer (some ⟨n, 0, none⟩)) (hb : tmps.getD 5 undef = .bool b) :
    (results Tryz.f147 tmps).run Tryz.prog W = .ok (.tuple #[.agg x.cells.toArray, .bool b]) W := by
  have ht' : tmps[4]?.getD undef = .pointer (some ⟨n, 0, none⟩) := by simpa using ht
  have hb' : tmps[5]?.getD undef = .bool b := by simpa using hb
  simp only [results, show Tryz.f147.results = #[.cell 4 32, .tmp 5] from rfl]
  have hl := loadVar_ent h
  simp [ht', hb', asAddr, hl]
  rfl
theorem Loc.setEnt {W : World} {n : Nat} {a b c d e : Value} (h : Loc W n #[a, b, c, d, e]) (x : EntC) : Loc (((((W.setCell ⟨n, 0, none⟩ (.int .i64 x.v.dev)).setCell ⟨n, 1, none⟩ (.int .i64 x.v.no)).setCell ⟨n, 2, none⟩ (.int .i64 x.v.day)).setCell ⟨n, 3, none⟩ (.slice x.A x.v.seen.length x.c)).setCell ⟨n, 4, none⟩ (.string ⟨x.v.text.toArray⟩)) n x.cells.toArray := by
  have h5 := ((((h.set_ 0 (.int .i64 x.v.dev)).set_ 1 (.int .i64 x.v.no)).set_ 2 (.int .i64 x.v.day)).set_ 3 (.slice x.A x.v.seen.length x.c)).set_ 4 (.string ⟨x.v.text.toArray⟩)
  exact h5
theorem Below.setEnt {B n : Nat} {w W : World} (h : Below B w W) (hB : B ≤ n) (a b c d e : Value) : Below B w (((((W.setCell ⟨n, 0, none⟩ a).setCell ⟨n, 1, none⟩ b).setCell ⟨n, 2, none⟩ c).setCell ⟨n, 3, none⟩ d).setCell ⟨n, 4, none⟩ e) :=
  ((((h.setCell hB _).setCell hB _).setCell hB _).setCell hB _).setCell hB _
set_option maxRecDepth 100000 in
set_option maxHeartbeats 4000000 in
theorem ready_any (h : OrdAt w B gP cP gF gT ps fs t) (hok : PastsOk (psV ps)) (d : Nat) (hd : d < 8) (hle : t.getD d 0 ≤ ((psV ps).getD d []).length) (r : Option EntV) (hr : readyF (psV ps) fs t d = r) :
    Calls Tryz.prog 147 #[.pointer (some ⟨B, 0, none⟩), .int .i64 (d : Int)] w (ReadyP w ps r) := by
  have HO := Lib.hid h
  obtain ⟨l1, l2, l3⟩ := h.len
  obtain ⟨p, hp⟩ : ∃ p, ps[d]? = some p := ⟨_, List.getElem?_eq_getElem (by omega)⟩
  obtain ⟨n, hn⟩ : ∃ n, t[d]? = some n := ⟨_, List.getElem?_eq_getElem (by omega)⟩
  have hnd : t.getD d 0 = n := by rw [List.getD_eq_getElem?_getD, hn]; rfl
  unfold readyF at hr
  rw [hnd, psV_at hp] at hr hle
  rw [vsOf_len] at hle
  have hpl := hok.len d hd
  rw [psV_at hp, vsOf_len] at hpl
  have k1 := h.past hp
  have k2 := h.take hn
  obtain ⟨zP, zF, zT⟩ := h.lts
  obtain ⟨zB, kB, fB⟩ := h.loc
  have hd0 : (0 : Int) ≤ (d : Int) := by omega
  have hd8 : (d : Int) < 8 := by omega
  have HR := Lib.hid hr
  have HOK := Lib.hid hok
  have HP := Lib.hid hp
  have HN := Lib.hid hn
  have HL := Lib.hid (And.intro l1 (And.intro l2 l3))
  clear h hr hok hp hn hnd l1 l2 l3
  rcases Nat.eq_or_lt_of_le hle with hend | hlt
  · have hni : ((n : Int) == (p.l.length : Int)) = true := by simp [hend]
    have HR2 : Hid (r = none) := Lib.hid (by
      have h := HR.out
      rw [List.getElem?_eq_none (by rw [vsOf_len]; omega)] at h
      exact h.symm)
    go_enter Tryz.func147, Tryz.ntmps147
    go_wp2_with (fail)
    go_quiet (fail)
    go_wp2_with (fail)
    (try simp only [Exit.inBlock, Exit.then])
    have hL := Loc.setEnt ((Loc.new_ w #[.int .i64 0, .int .i64 0, .int .i64 0, .slice none 0 0, .string ⟨#[]⟩] 32).drewN nq) noEnt
    refine bodyPost_ret (results_ready (b := false) hL rfl rfl) rfl ⟨noEnt, ?_, noEnt_at _, by decide, ?_, ?_⟩
    · rw [HR2.out]; rfl
    · rw [HR2.out]; simp
    · exact Below.setEnt (bdrewN (below_alloc w _) nq) (Nat.le_refl _) _ _ _ _ _
  · have hni : ((n : Int) == (p.l.length : Int)) = false := by simp; omega
    obtain ⟨x, hx⟩ : ∃ v, p.l[n]? = some v := ⟨_, List.getElem?_eq_getElem hlt⟩
    have hr := HR.out
    rw [vsOf_at hx] at hr
    simp only at hr
    have HR2 := Lib.hid hr
    have HX := Lib.hid hx
    have LB := Lib.hid (Loc.new_ w #[.int .i64 0, .int .i64 0, .int .i64 0, .slice none 0 0, .string ⟨#[]⟩] 32)
    have HB := Lib.hid (below_alloc w (.cells #[.int .i64 0, .int .i64 0, .int .i64 0, .slice none 0 0, .string ⟨#[]⟩] 32))
    clear hr hx HR
    go_enter Tryz.func147, Tryz.ntmps147
    go_wp2_with (fail)
    go_quiet (fail)
    go_wp2_with (fail)
    replace LB := Lib.hid (LB.out.drewN nq)
    replace HB := Lib.hid (bdrewN HB.out nq)
    generalize (w.alloc (.cells #[.int .i64 0, .int .i64 0, .int .i64 0, .slice none 0 0, .string ⟨#[]⟩] 32)).drewN nq = W at *
    have HW := Lib.hid (HO.out.below HB.out)
    have HCH := Lib.hid (HW.out.at_ p (List.mem_of_getElem? HP.out))
    clear zP zF zT zB kB fB k1 k2
    obtain ⟨b, o, hA, hbl, c0, c1, c2, c3, c4⟩ := ent_at HCH.out.sl HX.out
    rw [hA]
    have k1 := HW.out.past HP.out
    have k2 := HW.out.take HN.out
    rw [hA] at k1
    have hni2 : (n : Int) < (p.l.length : Int) := by omega
    have hn0 : (0 : Int) ≤ (n : Int) := by omega
    have hS : ∀ w', Below W.heap.size W w' → (w'.cell? ⟨B, 0, none⟩ = some (.slice (some ⟨gP, 0, none⟩) 8 cP) ∧ w'.cell? ⟨B, 2, none⟩ = some (.slice (some ⟨gT, 0, none⟩) 8 8) ∧ w'.cell? ⟨gP, d, none⟩ = some (.slice p.A p.l.length p.c) ∧ w'.cell? ⟨gT, d, none⟩ = some (.int .i64 (n : Int)) ∧ (w'.cell? ⟨b, o + n * 5, none⟩ = some (.int .i64 x.v.dev) ∧ w'.cell? ⟨b, o + n * 5 + 1, none⟩ = some (.int .i64 x.v.no) ∧ w'.cell? ⟨b, o + n * 5 + 2, none⟩ = some (.int .i64 x.v.day) ∧ w'.cell? ⟨b, o + n * 5 + 3, none⟩ = some (.slice x.A x.v.seen.length x.c) ∧ w'.cell? ⟨b, o + n * 5 + 4, none⟩ = some (.string ⟨x.v.text.toArray⟩)) ∧ Below W.heap.size W w') := fun w' hb =>
      have h := HW.out.below hb
      ⟨h.loc.cell 0, h.loc.cell 2, h.past HP.out, h.take HN.out, (ent_is HCH.out.sl HX.out hA hb).2, hb⟩
    rw [hA] at hS
    simp only [and_assoc] at hS
    have HSS := Lib.hid hS
    have HA := Lib.hid hA
    clear hS k1 k2 c0 c1 c2 c3 c4 hbl hA
    have hB7 := Below.refl W.heap.size W
    go_region_held3 (fun w' => w'.cell? ⟨B, 0, none⟩ = some (.slice (some ⟨gP, 0, none⟩) 8 cP) ∧ w'.cell? ⟨B, 2, none⟩ = some (.slice (some ⟨gT, 0, none⟩) 8 8) ∧ w'.cell? ⟨gP, d, none⟩ = some (.slice (some ⟨b, o, none⟩) p.l.length p.c) ∧ w'.cell? ⟨gT, d, none⟩ = some (.int .i64 (n : Int)) ∧ w'.cell? ⟨b, o + n * 5, none⟩ = some (.int .i64 x.v.dev) ∧ w'.cell? ⟨b, o + n * 5 + 1, none⟩ = some (.int .i64 x.v.no) ∧ w'.cell? ⟨b, o + n * 5 + 2, none⟩ = some (.int .i64 x.v.day) ∧ w'.cell? ⟨b, o + n * 5 + 3, none⟩ = some (.slice x.A x.v.seen.length x.c) ∧ w'.cell? ⟨b, o + n * 5 + 4, none⟩ = some (.string ⟨x.v.text.toArray⟩) ∧ Below W.heap.size W w')
      (first | exact HSS.out _ hB7 | (refine HSS.out _ ?_; repeat (first | exact hB7 | exact Below.refl _ _ | refine Below.drew ?_ | refine Below.alloc ?_ (by first | exact Nat.le_refl _ | exact hB7.size | (simp <;> omega)) _ | refine Below.setCell ?_ (by first | exact Nat.le_refl _ | exact hB7.size | (simp <;> omega)) _)))
      (fail)
    clear hB7
    have LX := Lib.hid (Loc.new_ W #[.int .i64 x.v.dev, .int .i64 x.v.no, .int .i64 x.v.day, .slice x.A x.v.seen.length x.c, .string ⟨x.v.text.toArray⟩] 32)
    have HBX := Lib.hid (below_alloc W (.cells #[.int .i64 x.v.dev, .int .i64 x.v.no, .int .i64 x.v.day, .slice x.A x.v.seen.length x.c, .string ⟨x.v.text.toArray⟩] 32))
    have hxr := (HOK.out.at_ d hd n x.v (by rw [psV_at HP.out]; exact vsOf_at HX.out)).2.2
    have HXR := Lib.hid hxr
    have HXA := Lib.hid (HCH.out.at_ x (List.mem_of_getElem? HX.out))
    have hsl : (x.v.seen.length : Int) = 8 := by rw [hxr.len]; rfl
    clear hxr
    go_wp2_with (fail)
    replace LX := Lib.hid LX.out.drew
    replace HBX := Lib.hid HBX.out.drew
    generalize hWW : (W.alloc (.cells #[.int .i64 x.v.dev, .int .i64 x.v.no, .int .i64 x.v.day, .slice x.A x.v.seen.length x.c, .string ⟨x.v.text.toArray⟩] 32)).drew = V at *
    clear hWW
    have HV := Lib.hid (HW.out.below HBX.out)
    have LBR := Lib.hid (LB.out.below HBX.out)
    have HBB := Lib.hid (HB.out.trans (HBX.out.mono HB.out.size))
    have HVA := Lib.hid (HXA.out.below HBX.out)
    go_loopw [45] (fun i wr => ∃ k : Nat, k ≤ 8 ∧ i = .int .i64 (k : Int) ∧ Below V.heap.size V wr ∧ ∀ j, j < k → j ≠ d → demandF (psV ps) fs x.v j ≤ ((t.getD j 0 : Nat) : Int)) (fun i _ => 8 - (intOf i).toNat)
    case atStart => exact ⟨0, by omega, rfl, Below.refl _ _, fun j hj => by omega⟩
    case round =>
      obtain ⟨k, hk, rfl, hbv, hall⟩ := hrel
      obtain ⟨wo, rfl⟩ : ∃ wo : World, wo = wr := ⟨_, rfl⟩
      have HBV := Lib.hid hbv
      have HALL := Lib.hid hall
      clear hbv hall
      by_cases hlt8 : k < 8
      · obtain ⟨pk, hpk⟩ : ∃ v, ps[k]? = some v := ⟨_, List.getElem?_eq_getElem (by have := HL.out; omega)⟩
        obtain ⟨f, hf⟩ : ∃ v, fs[k]? = some v := ⟨_, List.getElem?_eq_getElem (by have := HL.out; omega)⟩
        obtain ⟨tk, htk⟩ : ∃ v, t[k]? = some v := ⟨_, List.getElem?_eq_getElem (by have := HL.out; omega)⟩
        obtain ⟨q, hq⟩ : ∃ v, x.v.seen[k]? = some v := ⟨_, List.getElem?_eq_getElem (by rw [HXR.out.len]; exact hlt8)⟩
        have HVO := Lib.hid (HV.out.below HBV.out)
        have k1 := HVO.out.past hpk
        have k2 := HVO.out.take htk
        have k3 := HVO.out.fork hf
        obtain ⟨zP, zF, zT⟩ := HVO.out.lts
        obtain ⟨zB, kB, fB⟩ := HVO.out.loc
        obtain ⟨zX, kX, fX⟩ := LX.out.below HBV.out
        obtain ⟨bx, ox, hxA, hbx, c0⟩ := (Sl.below HVA.out HBV.out).at1 (k := k) (v := .int .i64 q) (by rw [List.getElem?_map, hq]; rfl)
        have hki : (k : Int) < 8 := by omega
        have hk0 : (0 : Int) ≤ (k : Int) := by omega
        have hw1 : IntKind.i64.wrap ((k : Int) + 1) = (k : Int) + 1 := IntWalk.i64_in _ (by omega)
        rw [hxA]
        rw [hxA] at kX
        have hdm : demandF (psV ps) fs x.v k = if f = true then min q (pk.l.length : Int) else q := by
          unfold demandF
          rw [psV_at hpk, vsOf_len, List.getD_eq_getElem?_getD, hf, List.getD_eq_getElem?_getD, hq]
          rfl
        have htd : t.getD k 0 = tk := by rw [List.getD_eq_getElem?_getD, htk]; rfl
        have HDM := Lib.hid hdm
        have HTD := Lib.hid htd
        clear hpk hf htk hq hxA hbx hdm htd
        cases f
        · have HQ : Hid (demandF (psV ps) fs x.v k = q) := Lib.hid (by rw [HDM.out]; rfl)
          clear HDM
          by_cases hkd : k = d
          · subst hkd
            have hkdb : ((k : Int) != (k : Int)) = false := by simp
            go_wp2_with (fail)
            go_roundw
            case rel => exact ⟨k + 1, by omega, by go_num, HBV.out, fun j hj hjd => HALL.out j (by omega) hjd⟩
            case measure => simp [intOf]; omega
          · have hkdb : ((k : Int) != (d : Int)) = true := by simp; omega
            have hkdb2 : ((k : Int) == (d : Int)) = false := by simp; omega
            by_cases htq : (tk : Int) < q
            · have HNO : Hid (r = none) := Lib.hid (by
                have hb : blockedB (psV ps) fs t d x.v = true := by
                  rw [← Bool.not_eq_false, blocked_iff]
                  intro h
                  have h2 := h k (by rw [HXR.out.len]; exact hlt8) hkd
                  rw [HQ.out, HTD.out] at h2
                  omega
                have h := HR2.out
                rw [if_pos hb] at h
                exact h.symm)
              obtain ⟨zR, kR, fR⟩ := LBR.out.below HBV.out
              go_wp2_with (fail)
              (try simp only [Exit.inBlock, Exit.then])
              have hL := Loc.setEnt (LBR.out.below HBV.out) noEnt
              refine bodyPost_ret (results_ready (b := false) hL rfl rfl) rfl ⟨noEnt, ?_, noEnt_at _, by decide, ?_, ?_⟩
              · rw [HNO.out]; rfl
              · rw [HNO.out]; simp
              · exact Below.setEnt (HBB.out.trans (HBV.out.mono HBB.out.size)) (Nat.le_refl _) _ _ _ _ _
            · have htq2 : q ≤ (tk : Int) := by omega
              go_wp2_with (fail)
              go_roundw
              case rel =>
                refine ⟨k + 1, by omega, by go_num, HBV.out, fun j hj hjd => ?_⟩
                by_cases hjk : j = k
                · subst hjk
                  rw [HQ.out, HTD.out]; exact htq2
                · exact HALL.out j (by omega) hjd
              case measure => simp [intOf]; omega
        · by_cases hql : q ≤ (pk.l.length : Int)
          · have HQ : Hid (demandF (psV ps) fs x.v k = q) := Lib.hid (by rw [HDM.out]; simp; omega)
            clear HDM
            by_cases hkd : k = d
            · subst hkd
              have hkdb : ((k : Int) != (k : Int)) = false := by simp
              go_wp2_with (fail)
              go_roundw
              case rel => exact ⟨k + 1, by omega, by go_num, HBV.out, fun j hj hjd => HALL.out j (by omega) hjd⟩
              case measure => simp [intOf]; omega
            · have hkdb : ((k : Int) != (d : Int)) = true := by simp; omega
              have hkdb2 : ((k : Int) == (d : Int)) = false := by simp; omega
              by_cases htq : (tk : Int) < q
              · have HNO : Hid (r = none) := Lib.hid (by
                  have hb : blockedB (psV ps) fs t d x.v = true := by
                    rw [← Bool.not_eq_false, blocked_iff]
                    intro h
                    have h2 := h k (by rw [HXR.out.len]; exact hlt8) hkd
                    rw [HQ.out, HTD.out] at h2
                    omega
                  have h := HR2.out
                  rw [if_pos hb] at h
                  exact h.symm)
                obtain ⟨zR, kR, fR⟩ := LBR.out.below HBV.out
                go_wp2_with (fail)
                (try simp only [Exit.inBlock, Exit.then])
                have hL := Loc.setEnt (LBR.out.below HBV.out) noEnt
                refine bodyPost_ret (results_ready (b := false) hL rfl rfl) rfl ⟨noEnt, ?_, noEnt_at _, by decide, ?_, ?_⟩
                · rw [HNO.out]; rfl
                · rw [HNO.out]; simp
                · exact Below.setEnt (HBB.out.trans (HBV.out.mono HBB.out.size)) (Nat.le_refl _) _ _ _ _ _
              · have htq2 : q ≤ (tk : Int) := by omega
                go_wp2_with (fail)
                go_roundw
                case rel =>
                  refine ⟨k + 1, by omega, by go_num, HBV.out, fun j hj hjd => ?_⟩
                  by_cases hjk : j = k
                  · subst hjk
                    rw [HQ.out, HTD.out]; exact htq2
                  · exact HALL.out j (by omega) hjd
                case measure => simp [intOf]; omega
          · have hql2 : (pk.l.length : Int) < q := by omega
            have hql3 : (pk.l.length : Int) ≤ q := by omega
            have HQ : Hid (demandF (psV ps) fs x.v k = (pk.l.length : Int)) := Lib.hid (by rw [HDM.out]; simp; omega)
            clear HDM
            by_cases hkd : k = d
            · subst hkd
              have hkdb : ((k : Int) != (k : Int)) = false := by simp
              go_wp2_with (fail)
              go_roundw
              case rel => exact ⟨k + 1, by omega, by go_num, HBV.out, fun j hj hjd => HALL.out j (by omega) hjd⟩
              case measure => simp [intOf]; omega
            · have hkdb : ((k : Int) != (d : Int)) = true := by simp; omega
              have hkdb2 : ((k : Int) == (d : Int)) = false := by simp; omega
              by_cases htq : (tk : Int) < (pk.l.length : Int)
              · have HNO : Hid (r = none) := Lib.hid (by
                  have hb : blockedB (psV ps) fs t d x.v = true := by
                    rw [← Bool.not_eq_false, blocked_iff]
                    intro h
                    have h2 := h k (by rw [HXR.out.len]; exact hlt8) hkd
                    rw [HQ.out, HTD.out] at h2
                    omega
                  have h := HR2.out
                  rw [if_pos hb] at h
                  exact h.symm)
                obtain ⟨zR, kR, fR⟩ := LBR.out.below HBV.out
                go_wp2_with (fail)
                (try simp only [Exit.inBlock, Exit.then])
                have hL := Loc.setEnt (LBR.out.below HBV.out) noEnt
                refine bodyPost_ret (results_ready (b := false) hL rfl rfl) rfl ⟨noEnt, ?_, noEnt_at _, by decide, ?_, ?_⟩
                · rw [HNO.out]; rfl
                · rw [HNO.out]; simp
                · exact Below.setEnt (HBB.out.trans (HBV.out.mono HBB.out.size)) (Nat.le_refl _) _ _ _ _ _
              · have htq2 : (pk.l.length : Int) ≤ (tk : Int) := by omega
                go_wp2_with (fail)
                go_roundw
                case rel =>
                  refine ⟨k + 1, by omega, by go_num, HBV.out, fun j hj hjd => ?_⟩
                  by_cases hjk : j = k
                  · subst hjk
                    rw [HQ.out, HTD.out]; exact htq2
                  · exact HALL.out j (by omega) hjd
                case measure => simp [intOf]; omega
      · obtain rfl : k = 8 := by omega
        have HNB : Hid (r = some x.v) := Lib.hid (by
          have hb : blockedB (psV ps) fs t d x.v = false := blocked_iff.2 fun j hj hjd => HALL.out j (by rw [HXR.out.len] at hj; exact hj) hjd
          have h := HR2.out
          rw [hb] at h
          simpa using h.symm)
        obtain ⟨zR, kR, fR⟩ := LBR.out.below HBV.out
        obtain ⟨zX, kX, fX⟩ := LX.out.below HBV.out
        go_wp2_with (fail)
        (try simp only [Exit.inBlock, Exit.then])
        have hL := Loc.setEnt (LBR.out.below HBV.out) x
        have HPA := HO.out.at_ p (List.mem_of_getElem? HP.out)
        refine bodyPost_ret (results_ready (b := true) hL rfl rfl) rfl ⟨x, ?_, HPA.at_ x (List.mem_of_getElem? HX.out), HPA.len x (List.mem_of_getElem? HX.out), ?_, ?_⟩
        · rw [HNB.out]; rfl
        · rw [HNB.out]; intro y hy; injection hy with hy; exact ⟨hy, p, List.mem_of_getElem? HP.out, List.mem_of_getElem? HX.out⟩
        · exact Below.setEnt (HBB.out.trans (HBV.out.mono HBB.out.size)) (Nat.le_refl _) _ _ _ _ _
end
end Go.Proofs.YtjncmlglhegnaaaGreatDoor
namespace Go.Proofs.YtjncmlglhegnaaaGreatDoor
open Go.RowKit Go.Sort Go.Lib

theorem forkB_dev {l : List EntV} {d : Int} (h : forkB (joinF l) d = true) : 0 ≤ d ∧ d ≤ 7 := by
  obtain ⟨x, y, hx, _, _, rfl⟩ := (forkB_iff (joinF_asc l) (joinF_right l)).1 h
  exact ⟨(joinF_right l x hx).d0, (joinF_right l x hx).d1⟩
theorem mem_forkO {l : List EntV} {d : Int} : d ∈ forkO l ↔ forkB (joinF l) d = true := by
  unfold forkO forkI
  rw [List.mem_map]
  constructor
  · rintro ⟨a, ha, rfl⟩
    obtain ⟨h1, h2⟩ := List.mem_filter.1 ha
    have h1 := List.mem_range.1 h1
    rw [List.getD_eq_getElem?_getD, forksL_at _ h1] at h2
    exact h2
  · intro h
    obtain ⟨h0, h7⟩ := forkB_dev h
    refine ⟨d.toNat, List.mem_filter.2 ⟨List.mem_range.2 (by omega), ?_⟩, by omega⟩
    rw [List.getD_eq_getElem?_getD, forksL_at _ (by omega), show ((d.toNat : Nat) : Int) = d by omega]
    exact h
end Go.Proofs.YtjncmlglhegnaaaGreatDoor
