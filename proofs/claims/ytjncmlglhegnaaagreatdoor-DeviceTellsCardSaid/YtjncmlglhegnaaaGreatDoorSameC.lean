/- chain: what the laws say of right chains, in plain Lean. -/
/- chain: the reference's SameChain, walked. -/
import Derived.Test.YtjncmlglhegnaaaGreatDoorChainP
import Derived.Test.YtjncmlglhegnaaaGreatDoorChainK
import Derived.Test.YtjncmlglhegnaaaGreatDoorChainF
import Derived.Deep.RegionHeld3
import Derived.Deep.DeepCutAuto
namespace Go.Proofs.YtjncmlglhegnaaaGreatDoor
open Go.Lib

theorem errAt_congr {l m : List EntV} {i : Nat} (h0 : l.head?.map (·.dev) = m.head?.map (·.dev)) (hi : l[i]? = m[i]?) (hp : ∀ j, i = j + 1 → l[j]? = m[j]?) : errAt l i = errAt m i := by
  unfold errAt
  rw [h0, hi]
  cases i with
  | zero => rfl
  | succ j => simp only [hp j rfl]
theorem errAt_none {l : List EntV} {i : Nat} (h : l.length ≤ i) : errAt l i = 0 := by
  unfold errAt
  rw [List.getElem?_eq_none h]
theorem check_err {l : List EntV} (h : checkF l = 0) (i : Nat) : errAt l i = 0 := by
  rcases Nat.lt_or_ge i l.length with h1 | h1
  · exact (checkF_zero.1 h).2 i h1
  · exact errAt_none h1
/-- two lists with the same first entries -/
theorem errAt_pre {l m : List EntV} {k i : Nat} (hi : i < k) (h : ∀ j, j < k → l[j]? = m[j]?) : errAt l i = errAt m i := by
  refine errAt_congr ?_ (h i hi) (fun j e => h j (by omega))
  rw [List.head?_eq_getElem?, List.head?_eq_getElem?, h 0 (by omega)]
theorem check_take {l : List EntV} (h : checkF l = 0) (k : Nat) : checkF (l.take k) = 0 := by
  refine checkF_zero.2 ⟨by have := (checkF_zero.1 h).1; rw [List.length_take]; omega, fun i hi => ?_⟩
  rw [List.length_take] at hi
  rw [← check_err h i]
  exact errAt_pre (k := k) (by omega) (fun j hj => List.getElem?_take_of_lt hj)
/-! what two right chains say -/
/-! what a right chain says of two entries in a row -/
instance entDec : DecidableEq EntV := fun a b => decidable_of_iff (sameB a b = true) sameB_true
end Go.Proofs.YtjncmlglhegnaaaGreatDoor
namespace Go.Proofs.YtjncmlglhegnaaaGreatDoor
open Go.RowKit Go.Sort Go.Lib

theorem take_sameG {α : Type} {xs ys : List α} {k : Nat} {x : α} (h : xs.take k = ys.take k) (hx : xs[k]? = some x) (hy : ys[k]? = some x) : xs.take (k + 1) = ys.take (k + 1) := by
  rw [List.take_add_one, List.take_add_one, h, hx, hy]
set_option maxRecDepth 100000 in
set_option maxHeartbeats 2000000 in
theorem SameChain_any (w : World) (A1 A2 : Option Addr) (n c m d : Nat) (xs ys : List EntC) (h1 : ChAt w A1 n xs) (h2 : ChAt w A2 m ys) (hn : n ≤ 1099511627776) (r : Bool) (hr : decide (vsOf xs = vsOf ys) = r) :
    Calls Tryz.prog 35 #[.slice A1 n c, .slice A2 m d] w fun e w' => e = .returned (.bool r) ∧ Below w.heap.size w w' := by
  have l1 : xs.length = n := by simpa using h1.sl.1
  have l2 : ys.length = m := by simpa using h2.sl.1
  by_cases hnm : n = m
  case neg =>
    have hr2 : r = false := by
      rw [← hr]
      refine decide_eq_false fun h => hnm ?_
      rw [← l1, ← l2, ← vsOf_len xs, ← vsOf_len ys, h]
    subst hr2
    have hi : ¬ ((n : Int) = (m : Int)) := by omega
    have hb : ((n : Int) == (m : Int)) = false := by rw [beq_eq_false_iff_ne]; intro h; exact hnm (by omega)
    clear h1 h2 l1 l2 hr hnm hn
    go_enter Tryz.func35, Tryz.ntmps35
    go_wp2_with (fail)
    go_ret
    exact ⟨rfl, Below.refl _ _⟩
  subst hnm
  have H1 := Lib.hid h1
  have H2 := Lib.hid h2
  have L1 := Lib.hid l1
  have L2 := Lib.hid l2
  have HR := Lib.hid hr
  have HN := Lib.hid hn
  clear h1 h2 l1 l2 hr hn
  go_enter Tryz.func35, Tryz.ntmps35
  go_wp2_with (fail)
  go_loopw [5] (fun iv wr => ∃ k : Nat, k ≤ n ∧ iv = .int .i64 (k : Int) ∧ Below w.heap.size w wr ∧ (vsOf xs).take k = (vsOf ys).take k) (fun i _ => n - (Go.RowKit.intOf i).toNat)
  case atStart => exact ⟨0, Nat.zero_le _, rfl, Below.refl _ _, rfl⟩
  case round =>
    obtain ⟨k, hk, rfl, hb, hz⟩ := hrel
    obtain ⟨wo, rfl⟩ : ∃ wo : World, wo = wr := ⟨_, rfl⟩
    have HB := Lib.hid hb
    have HZ := Lib.hid hz
    clear hb hz
    by_cases hlt : k < n
    · obtain ⟨x, hx⟩ : ∃ x, xs[k]? = some x := ⟨_, List.getElem?_eq_getElem (by rw [L1.out]; exact hlt)⟩
      obtain ⟨y, hy⟩ : ∃ x, ys[k]? = some x := ⟨_, List.getElem?_eq_getElem (by rw [L2.out]; exact hlt)⟩
      have C1 := H1.out.below HB.out
      have C2 := H2.out.below HB.out
      obtain ⟨b, o, rfl, _⟩ := ent_at C1.sl hx
      obtain ⟨b2, o2, rfl, _⟩ := ent_at C2.sl hy
      obtain ⟨q, hq⟩ : ∃ q, sameB x.v y.v = q := ⟨_, rfl⟩
      have IX := C1.at_ x (List.mem_of_getElem? hx)
      have IY := C2.at_ y (List.mem_of_getElem? hy)
      have LX := C1.len x (List.mem_of_getElem? hx)
      have HC := Lib.hid (fun W (hb : Below wo.heap.size wo W) => RSame_any W x y (IX.below hb) (IY.below hb) LX.1 q hq)
      have hS : ∀ w', Below wo.heap.size wo w' → _ := fun w' hb => And.intro (ent_is C1.sl hx rfl hb).2 (And.intro (ent_is C2.sl hy rfl hb).2 hb)
      simp only [and_assoc] at hS
      have HSS := Lib.hid hS
      simp only [EntC.cells] at HC
      have hki : (k : Int) < (n : Int) := by omega
      have hk0 : (0 : Int) ≤ (k : Int) := by omega
      have hwk : IntKind.i64.wrap ((k : Int) + 1) = (k : Int) + 1 := IntWalk.i64_in _ (by have := HN.out; omega)
      have HX := Lib.hid hx
      have HY := Lib.hid hy
      have HQ := Lib.hid hq
      have HLT := Lib.hid hlt
      clear hS hx hy hq C1 C2 IX IY LX hlt hk
      go_wp2_with (fail)

      have hB7 := Below.refl wo.heap.size wo
      go_region_held3 (fun w' => w'.cell? ⟨b, o + k * 5, none⟩ = some (.int .i64 x.v.dev) ∧ w'.cell? ⟨b, o + k * 5 + 1, none⟩ = some (.int .i64 x.v.no) ∧ w'.cell? ⟨b, o + k * 5 + 2, none⟩ = some (.int .i64 x.v.day) ∧ w'.cell? ⟨b, o + k * 5 + 3, none⟩ = some (.slice x.A x.v.seen.length x.c) ∧ w'.cell? ⟨b, o + k * 5 + 4, none⟩ = some (.string ⟨x.v.text.toArray⟩) ∧ w'.cell? ⟨b2, o2 + k * 5, none⟩ = some (.int .i64 y.v.dev) ∧ w'.cell? ⟨b2, o2 + k * 5 + 1, none⟩ = some (.int .i64 y.v.no) ∧ w'.cell? ⟨b2, o2 + k * 5 + 2, none⟩ = some (.int .i64 y.v.day) ∧ w'.cell? ⟨b2, o2 + k * 5 + 3, none⟩ = some (.slice y.A y.v.seen.length y.c) ∧ w'.cell? ⟨b2, o2 + k * 5 + 4, none⟩ = some (.string ⟨y.v.text.toArray⟩) ∧ Below wo.heap.size wo w')
        (first | exact HSS.out _ hB7 | (refine HSS.out _ ?_; repeat (first | exact hB7 | exact Below.refl _ _ | refine Below.drew ?_ | refine Below.alloc ?_ (by first | exact Nat.le_refl _ | exact hB7.size | (simp <;> omega)) _ | refine Below.setCell ?_ (by first | exact Nat.le_refl _ | exact hB7.size | (simp <;> omega)) _)))
        (((with_reducible refine (HC.out _ ?hs1).mono ?_)
          (case hs1 => go_split_ands; assumption)
          rintro e w3 ⟨rfl, hbF⟩
          have hB7 : Below wo.heap.size wo w3 := by go_split_ands; exact Below.trans (by assumption) (hbF.mono (Below.size (by assumption)))))
      have HB7 := Lib.hid hB7
      clear hB7 hbF
      cases q
      · have HR2 : Hid (false = r) := Lib.hid (by
          rw [← HR.out]
          refine (decide_eq_false fun h => ?_).symm
          have e1 := vsOf_at HX.out
          rw [h, vsOf_at HY.out] at e1
          have e2 := HQ.out
          rw [Option.some.inj e1] at e2
          rw [sameB_true.2 rfl] at e2
          cases e2)
        go_wp2_with (fail)
        go_ret
        exact ⟨by rw [← HR2.out]; rfl, HB.out.trans (HB7.out.mono HB.out.size)⟩
      · have HZ2 := Lib.hid (take_sameG HZ.out (vsOf_at HX.out) (by rw [sameB_true.1 HQ.out]; exact vsOf_at HY.out))
        go_wp2_with (fail)
        go_roundw
        case rel => exact ⟨k + 1, HLT.out, by go_num, HB.out.trans (HB7.out.mono HB.out.size), HZ2.out⟩
        case measure => have := HLT.out; simp [Go.RowKit.intOf]; omega
    · obtain rfl : k = n := by omega
      have hki : (k : Int) ≤ (k : Int) := Int.le_refl _
      have HR2 : Hid (true = r) := Lib.hid (by
        rw [← HR.out]
        refine (decide_eq_true ?_).symm
        have e1 := HZ.out
        rw [List.take_of_length_le (by rw [vsOf_len, L1.out]; exact Nat.le_refl _), List.take_of_length_le (by rw [vsOf_len, L2.out]; exact Nat.le_refl _)] at e1
        exact e1)
      clear hlt hk
      go_wp2_with (fail)
      go_ret
      exact ⟨by rw [← HR2.out]; rfl, HB.out⟩
end Go.Proofs.YtjncmlglhegnaaaGreatDoor
