/- merge: the reference's Join, forked and Forks, walked. -/
import Derived.Test.YtnnnibkainlplaaGreatDoorMtB
import Derived.Test.YtnnnibkainlplaaGreatDoorMrgG0
namespace Go.Proofs.YtnnnibkainlplaaGreatDoor
open Go.RowKit Go.Sort Go.Lib

def OfTwo (a b lo : List EntC) : Prop := ∀ u ∈ lo, u ∈ a ∨ u ∈ b
theorem foldR_len (l : List EntV) : (l.foldl putR []).length ≤ l.length := by rw [foldR_is]; exact joinF_len _
theorem foldR_asc (l : List EntV) : Asc (l.foldl putR []) := (foldR l [] List.Pairwise.nil fun x h => by simp at h).1
theorem foldR_right (l : List EntV) : AllR (l.foldl putR []) := (foldR l [] List.Pairwise.nil fun x h => by simp at h).2.1
set_option maxRecDepth 100000 in
set_option maxHeartbeats 4000000 in
theorem RJoin_any (w : World) (A1 A2 : Option Addr) (na nb ca cb : Nat) (a b : List EntC) (ha : ChAt w A1 na a) (hb : ChAt w A2 nb b) (hna : na ≤ 400) (hnb : nb ≤ 400) :
    Calls Tryz.prog 8 #[.slice A1 na ca, .slice A2 nb cb] w (GivesR w (fun u => u ∈ a ∨ u ∈ b) (joinF (vsOf a ++ vsOf b))) := by
  have HA := Lib.hid ha
  have HBB := Lib.hid hb
  have HLA : Hid (a.length = na) := Lib.hid (by simpa using ha.sl.1)
  have HLB : Hid (b.length = nb) := Lib.hid (by simpa using hb.sl.1)
  clear ha hb
  go_enter Tryz.func8, Tryz.ntmps8
  go_wp2_with (fail)
  go_loopw [5, 6] (fun ov iv wr => ∃ (k m : Nat) (A' : Option Addr) (c' : Nat) (lo : List EntC), ov = .slice A' m c' ∧ iv = .int .i64 (k : Int) ∧ k ≤ na ∧ ChAt wr A' m lo ∧ vsOf lo = ((vsOf a).take k).foldl putR [] ∧ Below w.heap.size w wr ∧ OfTwo a b lo) (fun _ iv _ => na - (intOf iv).toNat)
  case atStart => exact ⟨0, 0, none, 0, [], rfl, rfl, Nat.zero_le _, chAt_nil _, rfl, Below.refl _ _, fun u hu => by simp at hu⟩
  case round =>
    obtain ⟨k, m, A', c', lo, rfl, rfl, hk, hch, hv, hb, ho2⟩ := hrel
    obtain ⟨wo, rfl⟩ : ∃ wo : World, wo = wr := ⟨_, rfl⟩
    have hm : m ≤ k := by
      have h1 := foldR_len ((vsOf a).take k)
      rw [← hv, vsOf_len, hch.lenEq, List.length_take] at h1
      omega
    have HCH := Lib.hid hch
    have HV := Lib.hid hv
    have HB := Lib.hid hb
    have HO2 := Lib.hid ho2
    clear hch hv hb ho2
    by_cases hlt : k < na
    · obtain ⟨x, hx⟩ : ∃ v, a[k]? = some v := ⟨_, List.getElem?_eq_getElem (by rw [HLA.out]; exact hlt)⟩
      obtain ⟨b2, o2, rfl, hbl, d0, d1, d2, d3, d4⟩ := ent_at (HA.out.below HB.out).sl hx
      have hki : (k : Int) < (na : Int) := by omega
      have hk0 : (0 : Int) ≤ (k : Int) := by omega
      have hwk : IntKind.i64.wrap ((k : Int) + 1) = (k : Int) + 1 := IntWalk.i64_in _ (by omega)
      have HFT := Lib.hid (foldR_take (acc := []) (vsOf_at hx))
      have HPU := Lib.hid (put_any wo A' m c' lo HCH.out (by omega) (by rw [HV.out]; exact foldR_asc _) (by rw [HV.out]; exact foldR_right _) x ((HA.out.below HB.out).at_ x (List.mem_of_getElem? hx)) (HA.out.len x (List.mem_of_getElem? hx)))
      rw [HV.out, ← HFT.out] at HPU
      simp only [EntC.cells] at HPU
      have HLT := Lib.hid hlt
      have HXI := Lib.hid hx
      clear hx hbl hlt hk
      go_wp2_with ((with_reducible refine HPU.out.mono ?_); rintro _ w2 ⟨A2', c2', l2, m2, rfl, h2, hv2, hb2, hs2⟩)
      go_roundw
      case rel => exact ⟨k + 1, m2, A2', c2', l2, rfl, by go_num, HLT.out, h2, hv2, HB.out.trans (hb2.mono HB.out.size), fun u hu => (hs2 u hu).elim (HO2.out u) fun e => e ▸ .inl (List.mem_of_getElem? HXI.out)⟩
      case measure => have := HLT.out; simp [intOf]; omega
    · obtain rfl : k = na := by omega
      have hki : ¬ ((k : Int) < (k : Int)) := by omega
      have hva : vsOf lo = (vsOf a).foldl putR [] := by rw [HV.out, List.take_of_length_le (by rw [vsOf_len, HLA.out]; exact Nat.le_refl _)]
      have HVA := Lib.hid hva
      clear hva hlt hk HV
      go_wp2_with (fail)
      go_loopw [5, 7] (fun ov iv wr => ∃ (j m : Nat) (A' : Option Addr) (c' : Nat) (lo : List EntC), ov = .slice A' m c' ∧ iv = .int .i64 (j : Int) ∧ j ≤ nb ∧ ChAt wr A' m lo ∧ vsOf lo = ((vsOf a) ++ (vsOf b).take j).foldl putR [] ∧ Below w.heap.size w wr ∧ OfTwo a b lo) (fun _ iv _ => nb - (intOf iv).toNat)
      case atStart => exact ⟨0, m, A', c', lo, rfl, rfl, Nat.zero_le _, HCH.out, by rw [HVA.out, List.take_zero, List.append_nil], HB.out, HO2.out⟩
      case round =>
        obtain ⟨j, m2, A2', c2', lo2, rfl, rfl, hj, hch, hv, hb, ho2⟩ := hrel
        obtain ⟨wp, rfl⟩ : ∃ wp : World, wp = wr := ⟨_, rfl⟩
        have hm2 : m2 ≤ k + j := by
          have h1 := foldR_len (vsOf a ++ (vsOf b).take j)
          rw [← hv, vsOf_len, hch.lenEq, List.length_append, List.length_take, vsOf_len, HLA.out] at h1
          omega
        have HCH2 := Lib.hid hch
        have HV2 := Lib.hid hv
        have HB2 := Lib.hid hb
        have HO3 := Lib.hid ho2
        clear hch hv hb ho2
        by_cases hltj : j < nb
        · obtain ⟨x, hx⟩ : ∃ v, b[j]? = some v := ⟨_, List.getElem?_eq_getElem (by rw [HLB.out]; exact hltj)⟩
          obtain ⟨b2, o2, rfl, hbl, d0, d1, d2, d3, d4⟩ := ent_at (HBB.out.below HB2.out).sl hx
          have hji : (j : Int) < (nb : Int) := by omega
          have hj0 : (0 : Int) ≤ (j : Int) := by omega
          have hwj : IntKind.i64.wrap ((j : Int) + 1) = (j : Int) + 1 := IntWalk.i64_in _ (by omega)
          have hft : (vsOf a ++ (vsOf b).take (j + 1)).foldl putR [] = putR ((vsOf a ++ (vsOf b).take j).foldl putR []) x.v := by
            rw [List.take_add_one, vsOf_at hx, ← List.append_assoc, List.foldl_append]
            rfl
          have HFT := Lib.hid hft
          have HPU := Lib.hid (put_any wp A2' m2 c2' lo2 HCH2.out (by omega) (by rw [HV2.out]; exact foldR_asc _) (by rw [HV2.out]; exact foldR_right _) x ((HBB.out.below HB2.out).at_ x (List.mem_of_getElem? hx)) (HBB.out.len x (List.mem_of_getElem? hx)))
          rw [HV2.out, ← HFT.out] at HPU
          simp only [EntC.cells] at HPU
          have HLT := Lib.hid hltj
          have HXI := Lib.hid hx
          clear hx hbl hltj hj hft
          go_wp2_with ((with_reducible refine HPU.out.mono ?_); rintro _ w2 ⟨A3', c3', l3, m3, rfl, h3, hv3, hb3, hs3⟩)
          go_roundw
          case rel => exact ⟨j + 1, m3, A3', c3', l3, rfl, by go_num, HLT.out, h3, hv3, HB2.out.trans (hb3.mono HB2.out.size), fun u hu => (hs3 u hu).elim (HO3.out u) fun e => e ▸ .inr (List.mem_of_getElem? HXI.out)⟩
          case measure => have := HLT.out; simp [intOf]; omega
        · obtain rfl : j = nb := by omega
          have hji : ¬ ((j : Int) < (j : Int)) := by omega
          have e : vsOf lo2 = joinF (vsOf a ++ vsOf b) := by rw [HV2.out, List.take_of_length_le (by rw [vsOf_len, HLB.out]; exact Nat.le_refl _), foldR_is]
          have HVE := Lib.hid e
          clear e hltj hj
          go_wp2_with (fail)
          go_ret
          exact ⟨A2', c2', lo2, m2, rfl, HCH2.out, HVE.out, HB2.out, HO3.out⟩
/-- no two of the first entries convict the device -/
def NoPair (V : List EntV) (d : Int) (i : Nat) : Prop := ∀ (p q : Nat) (x y : EntV), p < i → q < p → V[p]? = some x → V[q]? = some y → x.dev = d → convictsB x y = false
def NoRow (V : List EntV) (d : Int) (x : EntV) (k : Nat) : Prop := ∀ (q : Nat) (y : EntV), q < k → V[q]? = some y → x.dev = d → convictsB x y = false
theorem forked_no {V : List EntV} {d : Int} (h : NoPair V d V.length) : forkB (joinF V) d = false := by
  cases hf : forkB (joinF V) d with
  | false => rfl
  | true =>
    obtain ⟨x, y, hx, hy, hc, hd⟩ := (forkB_iff (joinF_asc V) (joinF_right V)).1 hf
    obtain ⟨p, hp⟩ := List.getElem?_of_mem (mem_joinF.1 hx).1
    obtain ⟨q, hq⟩ := List.getElem?_of_mem (mem_joinF.1 hy).1
    obtain ⟨_, _, e1, _, hne⟩ := convicts_iff.1 hc
    rcases Nat.lt_trichotomy p q with h1 | h1 | h1
    · have := h q p y x (List.getElem?_eq_some_iff.1 hq).1 h1 hq hp (by rw [← e1]; exact hd)
      rw [convicts_symm hc] at this
      cases this
    · rw [h1, hq] at hp
      exact (hne (Option.some.inj hp).symm).elim
    · have := h p q x y (List.getElem?_eq_some_iff.1 hp).1 h1 hp hq hd
      rw [hc] at this
      cases this
theorem forked_yes {V : List EntV} {d : Int} {x y : EntV} (hx : x ∈ V) (hy : y ∈ V) (hc : convictsB x y = true) (hd : x.dev = d) : forkB (joinF V) d = true := by
  obtain ⟨r1, r2, _, _, _⟩ := convicts_iff.1 hc
  exact (forkB_iff (joinF_asc V) (joinF_right V)).2 ⟨x, y, mem_joinF.2 ⟨hx, r1⟩, mem_joinF.2 ⟨hy, r2⟩, hc, hd⟩
set_option maxRecDepth 100000 in
set_option maxHeartbeats 4000000 in
theorem forked_any (w : World) (A : Option Addr) (n c : Nat) (l : List EntC) (hs : ChAt w A n l) (hn : n ≤ 1000) (d : Int) (r : Bool) (hr : forkB (joinF (vsOf l)) d = r) :
    Calls Tryz.prog 30 #[.slice A n c, .int .i64 d] w fun e w' => e = .returned (.bool r) ∧ Below w.heap.size w w' := by
  have HCH := Lib.hid hs
  have HLL : Hid (l.length = n) := Lib.hid (by simpa using hs.sl.1)
  have HR := Lib.hid hr
  clear hs hr
  go_enter Tryz.func30, Tryz.ntmps30
  go_wp2_with (fail)
  go_loopw [5] (fun iv wr => ∃ i : Nat, i ≤ n ∧ iv = .int .i64 (i : Int) ∧ Below w.heap.size w wr ∧ NoPair (vsOf l) d i) (fun iv _ => n - (intOf iv).toNat)
  case atStart => exact ⟨0, Nat.zero_le _, rfl, Below.refl _ _, fun p q x y hp => by omega⟩
  case round =>
    obtain ⟨i, hi, rfl, hb, hno⟩ := hrel
    obtain ⟨wo, rfl⟩ : ∃ wo : World, wo = wr := ⟨_, rfl⟩
    have HB := Lib.hid hb
    have HNO := Lib.hid hno
    clear hb hno
    by_cases hlt : i < n
    · obtain ⟨x, hx⟩ : ∃ v, l[i]? = some v := ⟨_, List.getElem?_eq_getElem (by rw [HLL.out]; exact hlt)⟩
      have hii : (i : Int) < (n : Int) := by omega
      have hi0 : (0 : Int) ≤ (i : Int) := by omega
      have hwi : IntKind.i64.wrap ((i : Int) + 1) = (i : Int) + 1 := IntWalk.i64_in _ (by omega)
      have HX := Lib.hid hx
      have HXV := Lib.hid (vsOf_at hx)
      have HLT := Lib.hid hlt
      clear hx hlt hi
      go_wp2_with (fail)
      go_loopw [6] (fun jv wr => ∃ k : Nat, k ≤ i ∧ jv = .int .i64 (k : Int) ∧ Below wo.heap.size wo wr ∧ NoRow (vsOf l) d x.v k) (fun jv _ => i - (intOf jv).toNat)
      case atStart => exact ⟨0, Nat.zero_le _, rfl, Below.refl _ _, fun q y hq => by omega⟩
      case round =>
        obtain ⟨k, hk, rfl, hb, hno⟩ := hrel
        obtain ⟨wi, rfl⟩ : ∃ wi : World, wi = wr := ⟨_, rfl⟩
        have HBI := Lib.hid hb
        have HRO := Lib.hid hno
        clear hb hno
        by_cases hltk : k < i
        · obtain ⟨y, hy⟩ : ∃ v, l[k]? = some v := ⟨_, List.getElem?_eq_getElem (by rw [HLL.out]; have := HLT.out; omega)⟩
          have HBB := Lib.hid (HB.out.trans (HBI.out.mono HB.out.size))
          have C1 := HCH.out.below HBB.out
          obtain ⟨b, o, rfl, _⟩ := ent_at C1.sl hy
          have IX := C1.at_ x (List.mem_of_getElem? HX.out)
          have IY := C1.at_ y (List.mem_of_getElem? hy)
          have LX := C1.len x (List.mem_of_getElem? HX.out)
          obtain ⟨q, hq⟩ : ∃ q, convictsB x.v y.v = q := ⟨_, rfl⟩
          have HC := Lib.hid (fun W (hb : Below wi.heap.size wi W) => RConvicts_any W x y (IX.below hb) (IY.below hb) LX.1 q hq)
          have hS : ∀ w', Below wi.heap.size wi w' → _ := fun w' hb => And.intro (ent_is C1.sl HX.out rfl hb).2 (And.intro (ent_is C1.sl hy rfl hb).2 hb)
          simp only [and_assoc] at hS
          have HSS := Lib.hid hS
          simp only [EntC.cells] at HC
          have hki : (k : Int) < (i : Int) := by omega
          have hkn : (k : Int) < (n : Int) := by have := HLT.out; omega
          have hk0 : (0 : Int) ≤ (k : Int) := by omega
          have hwk : IntKind.i64.wrap ((k : Int) + 1) = (k : Int) + 1 := IntWalk.i64_in _ (by omega)
          have HY := Lib.hid hy
          have HYV := Lib.hid (vsOf_at hy)
          have HQ := Lib.hid hq
          have HLK := Lib.hid hltk
          by_cases hd : x.v.dev = d
          · have hdb : (x.v.dev == d) = true := by simp [hd]
            have HD := Lib.hid hd
            clear hS hy hq C1 IX IY LX hltk hk hd
            go_upto_region 7 with (fail)
            have hB7 := Below.refl wi.heap.size wi
            go_region_held3 (fun w' => w'.cell? ⟨b, o + i * 5, none⟩ = some (.int .i64 x.v.dev) ∧ w'.cell? ⟨b, o + i * 5 + 1, none⟩ = some (.int .i64 x.v.no) ∧ w'.cell? ⟨b, o + i * 5 + 2, none⟩ = some (.int .i64 x.v.day) ∧ w'.cell? ⟨b, o + i * 5 + 3, none⟩ = some (.slice x.A x.v.seen.length x.c) ∧ w'.cell? ⟨b, o + i * 5 + 4, none⟩ = some (.string ⟨x.v.text.toArray⟩) ∧ w'.cell? ⟨b, o + k * 5, none⟩ = some (.int .i64 y.v.dev) ∧ w'.cell? ⟨b, o + k * 5 + 1, none⟩ = some (.int .i64 y.v.no) ∧ w'.cell? ⟨b, o + k * 5 + 2, none⟩ = some (.int .i64 y.v.day) ∧ w'.cell? ⟨b, o + k * 5 + 3, none⟩ = some (.slice y.A y.v.seen.length y.c) ∧ w'.cell? ⟨b, o + k * 5 + 4, none⟩ = some (.string ⟨y.v.text.toArray⟩) ∧ Below wi.heap.size wi w')
              (first | exact HSS.out _ hB7 | (refine HSS.out _ ?_; repeat (first | exact hB7 | exact Below.refl _ _ | refine Below.drew ?_ | refine Below.alloc ?_ (by first | exact Nat.le_refl _ | exact hB7.size | (simp <;> omega)) _ | refine Below.setCell ?_ (by first | exact Nat.le_refl _ | exact hB7.size | (simp <;> omega)) _)))
              (((with_reducible refine (HC.out _ ?hs1).mono ?_)
                (case hs1 => go_split_ands; assumption)
                rintro e w3 ⟨rfl, hbF⟩
                have hB7 : Below wi.heap.size wi w3 := by go_split_ands; exact Below.trans (by assumption) (hbF.mono (Below.size (by assumption)))))
            have HB7 := Lib.hid hB7
            clear hB7 hbF HC
            cases q
            · go_wp2_with (fail)
              go_roundw
              case rel => exact ⟨k + 1, HLK.out, by go_num, HBI.out.trans (HB7.out.mono HBI.out.size), fun q y' hq hy' hd' => by
                rcases Nat.lt_or_ge q k with h | h
                · exact HRO.out q y' h hy' hd'
                · obtain rfl : q = k := by omega
                  rw [HYV.out] at hy'
                  rw [← Option.some.inj hy']
                  exact HQ.out⟩
              case measure => have := HLK.out; simp [intOf]; omega
            · have HR2 : Hid (true = r) := Lib.hid (by
                rw [← HR.out]
                exact (forked_yes (List.mem_of_getElem? HXV.out) (List.mem_of_getElem? HYV.out) HQ.out HD.out).symm)
              go_wp2_with (fail)
              go_ret
              exact ⟨by rw [← HR2.out]; rfl, HBB.out.trans (HB7.out.mono HBB.out.size)⟩
          · have hdb : (x.v.dev == d) = false := beq_eq_false_iff_ne.2 hd
            have HD := Lib.hid hd
            obtain ⟨b2, o2, eb, hbl, d0, d1, d2, d3, d4⟩ := ent_at C1.sl HX.out
            injection eb with eb
            injection eb with eb1 eb2
            subst eb1 eb2
            clear hS hy hq C1 IX IY LX hltk hk hd HC
            go_upto_region 7 with (fail)
            go_quiet (fail)
            go_wp2_with (fail)
            go_roundw
            case rel => exact ⟨k + 1, HLK.out, by go_num, bdrewN HBI.out _, fun q y' _ _ hd' => absurd hd' HD.out⟩
            case measure => have := HLK.out; simp [intOf]; omega
        · obtain rfl : k = i := by omega
          have hki : ¬ ((k : Int) < (k : Int)) := by omega
          have HBB := Lib.hid (HB.out.trans (HBI.out.mono HB.out.size))
          clear hltk hk
          go_wp2_with (fail)
          go_roundw
          case rel => exact ⟨k + 1, HLT.out, by go_num, HBB.out, fun p q x' y' hp hq hx' hy' hd' => by
            rcases Nat.lt_or_ge p k with h | h
            · exact HNO.out p q x' y' h hq hx' hy' hd'
            · obtain rfl : p = k := by omega
              rw [HXV.out] at hx'
              have e := Option.some.inj hx'
              subst e
              exact HRO.out q y' hq hy' hd'⟩
          case measure => have := HLT.out; simp [intOf]; omega
    · obtain rfl : i = n := by omega
      have hii : ¬ ((i : Int) < (i : Int)) := by omega
      have HR2 : Hid (false = r) := Lib.hid (by
        rw [← HR.out]
        refine (forked_no ?_).symm
        rw [vsOf_len, HLL.out]
        exact HNO.out)
      clear hlt hi
      go_wp2_with (fail)
      go_ret
      exact ⟨by rw [← HR2.out]; rfl, HB.out⟩
set_option maxRecDepth 100000 in
set_option maxHeartbeats 4000000 in
theorem RForks_any (w : World) (A : Option Addr) (n c : Nat) (l : List EntC) (hs : ChAt w A n l) (hn : n ≤ 1000) (v : List Int) (hv : forkO (vsOf l) = v) :
    Calls Tryz.prog 11 #[.slice A n c] w (GivesI w v) := by
  obtain ⟨i1, hi10, hz10, hz11, hz12⟩ := info_parts infoInt
  obtain ⟨fs, hfs⟩ : ∃ fs, forksL (joinF (vsOf l)) = fs := ⟨_, rfl⟩
  have HV2 : Hid (forkI fs 8 = v) := Lib.hid (by rw [← hfs]; exact hv)
  have HFL : Hid (fs.length = 8) := Lib.hid (by rw [← hfs]; exact forksL_len _)
  have HFK := Lib.hid (fun W (hb : Below w.heap.size w W) (d : Int) r hr => forked_any W A n c l (hs.below hb) hn d r hr)
  have HFS : Hid (∀ k : Nat, k < 8 → fs[k]? = some (forkB (joinF (vsOf l)) (k : Int))) := Lib.hid fun k hk => by rw [← hfs]; exact forksL_at _ hk
  clear hs hv hfs
  go_enter Tryz.func11, Tryz.ntmps11
  go_wp2_with (fail)
  go_loopw [3, 4] (fun s i wr => ∃ (k m : Nat) (A : Option Addr) (c : Nat), i = .int .i64 (k : Int) ∧ s = .slice A m c ∧ k ≤ 8 ∧ (forkI fs k).length = m ∧ Own wr w.heap.size 3 1 (.slice A m c) m ((forkI fs k).map intC) ∧ Below w.heap.size w wr) (fun _ i _ => 8 - (intOf i).toNat)
  case atStart => exact ⟨0, 0, none, 0, rfl, rfl, by omega, rfl, Own.nil_ _ _ _ _, Below.refl _ _⟩
  case round =>
    obtain ⟨k, m, Ao, co, rfl, rfl, hk, hm, ho, hb⟩ := hrel
    obtain ⟨wo, rfl⟩ : ∃ wo : World, wo = wr := ⟨_, rfl⟩
    have HO := Lib.hid ho
    have HB := Lib.hid hb
    have HM := Lib.hid hm
    have hm8 : m ≤ 8 := by have := forkI_len fs k; omega
    clear ho hb hm
    by_cases hlt : k < 8
    · obtain ⟨b, hb⟩ : ∃ b, forkB (joinF (vsOf l)) (k : Int) = b := ⟨_, rfl⟩
      have hfk := HFS.out k hlt
      rw [hb] at hfk
      have hki : (k : Int) < 8 := by omega
      have hk0 : (0 : Int) ≤ (k : Int) := by omega
      have hw1 : IntKind.i64.wrap ((k : Int) + 1) = (k : Int) + 1 := IntWalk.i64_in _ (by omega)
      have HST := Lib.hid (forkI_step fs hfk)
      have HCL := Lib.hid (HFK.out wo HB.out (k : Int) b hb)
      clear hfk hb
      go_wp2_with (fail)
      ((with_reducible refine HCL.out.mono ?_); rintro _ w2 ⟨rfl, hb2⟩)
      have HB2 := Lib.hid (HB.out.trans (hb2.mono HB.out.size))
      have HO2 := Lib.hid (HO.out.below hb2)
      have HSZ := Lib.hid HB2.out.size
      clear hb2 HCL
      cases b
      · go_wp2_with (fail)
        go_roundw
        case rel => exact ⟨k + 1, m, Ao, co, by go_num, by simp, by omega, by rw [HST.out, if_neg (by simp)]; exact HM.out, by rw [HST.out, if_neg (by simp)]; exact HO2.out, HB2.out⟩
        case measure => simp [intOf]; omega
      · have HS1 : Hid (Sl (w2.alloc (.cells #[.int .i64 (k : Int)] 3)) 1 (some ⟨w2.heap.size, 0, none⟩) 1 ([(k : Int)].map intC)) := Lib.hid (Sl.new_ w2 3 [.int .i64 (k : Int)])
        go_wp2_with (at_builtin; (refine wpList_append_sl _ rfl (.tmp 12) (.tmp 14) _ rfl w.heap.size 3 i1 _ 1 8 Tryz.underlying28 hi10 hz10 hz11 hz12 rfl (by omega) _ m ((forkI fs k).map intC) rfl (HO2.out.alloc _) (some ⟨w2.heap.size, 0, none⟩) 1 1 ([(k : Int)].map intC) rfl HS1.out (ints_len _) (ints_one _) (by simp only [maxLen]; omega) (by omega) (by have := HSZ.out; simp; omega) ?_); intro A9 c9 w9 hown9 hg9 hat9)
        go_roundw
        case rel =>
          refine ⟨k + 1, m + 1, A9, c9, by go_num, by simp, by omega, by rw [HST.out]; simp [HM.out], ?_, (HO2.out.alloc _).below_grown (Nat.le_refl _) (by have := HSZ.out; simp; omega) (HB2.out.alloc HSZ.out _) hg9⟩
          rw [HST.out]
          (first | rw [if_pos rfl] | rw [ite_true])
          rw [List.map_append]
          exact hown9
        case measure => simp [intOf]; omega
    · obtain rfl : k = 8 := by omega
      have hm := HM.out
      rw [HV2.out] at hm
      have ho := HO.out
      rw [HV2.out] at ho
      have HO9 := Lib.hid ho
      have HM9 := Lib.hid hm
      clear hm ho
      go_wp2_with (fail)
      go_ret
      exact ⟨Ao, co, by rw [HM9.out]; rfl, by rw [HM9.out]; exact HO9.out, HB.out⟩
end Go.Proofs.YtnnnibkainlplaaGreatDoor
