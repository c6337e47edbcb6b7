/- merge: the law MergeJoins, walked (written by wip/gen_mrgj.py). -/
import Derived.Test.YtnnnibkainlplaaDoorMrgG
import Derived.Test.YtnnnibkainlplaaDoorMrgI
namespace Go.Proofs.YtnnnibkainlplaaDoor
open Go.RowKit Go.Sort Go.Lib

/-- a list that joins to the same entries as another one -/
def SameJoin (l m : List EntC) : Prop := joinF (vsOf l) = joinF (vsOf m)
/-- the function's answers to such a list -/
structure Alike (l m : List EntV) : Prop where
  join : joinF l = joinF m
theorem joins_same {l m : List EntV} (h : ∀ x, RightE x → (x ∈ l ↔ x ∈ m)) : joinF l = joinF m := joinF_congr h
theorem mem_joinJ {l : List EntV} {x : EntV} (h : RightE x) : x ∈ joinF l ↔ x ∈ l := by rw [mem_joinF]; exact ⟨fun a => a.1, fun a => ⟨a, h⟩⟩
theorem natC_int (t : List Nat) : t.map natC = (t.map fun n : Nat => (n : Int)).map intC := by simp [natC, intC]
theorem past_le (l : List EntV) (d : Int) : (pastF l d).length ≤ l.length := by
  unfold pastF ownF
  rw [List.length_take]
  exact Nat.le_trans (Nat.min_le_right _ _) (List.length_filter_le _ _)
theorem miss_len (l : List EntV) : (missF (joinF l)).length ≤ 8 := Nat.le_trans (List.length_filterMap_le _ _) (by simp)
theorem rowsPairs (W : World) (A1 A2 : Option Addr) (n1 n2 c1 c2 : Nat) : Sl (W.alloc (.cells #[.slice A1 n1 c1, .slice A2 n2 c2] 22)) 1 (some ⟨W.heap.size, 0, none⟩) 2 [[.slice A1 n1 c1], [.slice A2 n2 c2]] :=
  ⟨rfl, fun i z hz => by
    match i, hz with
    | 0, hz =>
      simp at hz
      subst hz
      refine ⟨W.heap.size, 0, rfl, by simp, fun j v hv => ?_⟩
      rw [World.cell?_alloc_at _ _ _ _ rfl]
      match j, hv with
      | 0, hv => simpa using hv
      | j + 1, hv => simp at hv
    | 1, hz =>
      simp at hz
      subst hz
      refine ⟨W.heap.size, 0, rfl, by simp, fun j v hv => ?_⟩
      rw [World.cell?_alloc_at _ _ _ _ rfl]
      match j, hv with
      | 0, hv => simpa using hv
      | j + 1, hv => simp at hv⟩
set_option maxRecDepth 100000 in
set_option maxHeartbeats 16000000 in
theorem mergeJoins_any {B0 : Nat} (w : World) (hE : Env B0 w) (hB0 : B0 ≤ w.heap.size) (A1 : Option Addr) (n1 c1 : Nat) (l1 : List EntC) (hs1 : Sl w 5 A1 n1 (l1.map EntC.cells)) (hnc : n1 ≤ c1) (ho1 : ∀ u ∈ l1, EntAt w u) (A2 : Option Addr) (n2 c2 : Nat) (l2 : List EntC) (hs2 : Sl w 5 A2 n2 (l2.map EntC.cells)) (ho2 : ∀ u ∈ l2, EntAt w u) (A3 : Option Addr) (n3 c3 : Nat) (l3 : List EntC) (hs3 : Sl w 5 A3 n3 (l3.map EntC.cells)) (ho3 : ∀ u ∈ l3, EntAt w u)
    (Pb : Option Addr) (nb cb : Nat) (bs : List Int) (hb : Sl w 1 Pb nb (bs.map fun o => [.int .u8 o])) (hbs : ∀ o ∈ bs, 0 ≤ o ∧ o ≤ 255) (cut : Int) (hcut : 0 ≤ cut ∧ cut ≤ 255) (dev : Int) :
    Calls Tryd.prog 3 #[.slice A1 n1 c1, .slice A2 n2 c2, .slice A3 n3 c3, .slice Pb nb cb, .int .u8 cut, .int .i64 dev] w fun e w' => e = .returned (.bool true) ∧ Below w.heap.size w w' := by
  have HEV := Lib.hid (fun W (hb : Below w.heap.size w W) => (⟨hE.below (hb.mono hB0), Nat.le_trans hB0 hb.size⟩ : Env B0 W ∧ B0 ≤ W.heap.size))
  have HSM := Lib.hid (small47_any w hE hB0)
  have HS1 := Lib.hid hs1
  have HS2 := Lib.hid hs2
  have HS3 := Lib.hid hs3
  have HPB := Lib.hid hb
  have HBS := Lib.hid hbs
  have HC1 := Lib.hid (fun W (hb : Below w.heap.size w W) h => FewM.ch (hs1.below hb) (fun u hu => Sl.below (ho1 u hu) hb) h)
  have HC2 := Lib.hid (fun W (hb : Below w.heap.size w W) h => FewM.ch (hs2.below hb) (fun u hu => Sl.below (ho2 u hu) hb) h)
  have HC3 := Lib.hid (fun W (hb : Below w.heap.size w W) h => FewM.ch (hs3.below hb) (fun u hu => Sl.below (ho3 u hu) hb) h)
  have HB : Hid (Below w.heap.size w w) := Lib.hid (Below.refl _ _)
  clear hE hB0 hs1 ho1 hs2 ho2 hs3 ho3 hb hbs
  go_enter Tryd.func3, Tryd.ntmps3
  go_wp2_with (fail)
  ((with_reducible refine (HSM.out).mono ?_); rintro _ w1 ⟨rfl, hb1⟩)
  have hbT := hb1
  replace HB := Lib.hid (HB.out.trans (hbT.mono HB.out.size))
  clear hbT hb1 
  go_wp2_with (fail)
  ((with_reducible refine (few47_25 w1 A1 n1 c1 l1 (HS1.out.below HB.out)).mono ?_); rintro _ w2 ⟨k1, rfl, hk1, hb2⟩)
  have hbT := hb2
  replace HB := Lib.hid (HB.out.trans (hbT.mono HB.out.size))
  clear hbT hb2 
  have HK1 := Lib.hid hk1
  clear hk1
  cases k1
  case false =>
    go_wp2_with (fail)
    go_ret
    exact ⟨rfl, HB.out⟩
  go_wp2_with (fail)
  ((with_reducible refine (few47_25 w2 A2 n2 c2 l2 (HS2.out.below HB.out)).mono ?_); rintro _ w3 ⟨k2, rfl, hk2, hb3⟩)
  have hbT := hb3
  replace HB := Lib.hid (HB.out.trans (hbT.mono HB.out.size))
  clear hbT hb3 
  have HK2 := Lib.hid hk2
  clear hk2
  cases k2
  case false =>
    go_wp2_with (fail)
    go_ret
    exact ⟨rfl, HB.out⟩
  go_wp2_with (fail)
  ((with_reducible refine (few47_25 w3 A3 n3 c3 l3 (HS3.out.below HB.out)).mono ?_); rintro _ w4 ⟨k3, rfl, hk3, hb4⟩)
  have hbT := hb4
  replace HB := Lib.hid (HB.out.trans (hbT.mono HB.out.size))
  clear hbT hb4 
  have HK3 := Lib.hid hk3
  clear hk3
  cases k3
  case false =>
    go_wp2_with (fail)
    go_ret
    exact ⟨rfl, HB.out⟩
  by_cases hnb : 40 < nb
  · have hnbi : (40 : Int) < (nb : Int) := by omega
    go_wp2_with (fail)
    go_ret
    exact ⟨rfl, HB.out⟩
  have hnbi : ¬ ((40 : Int) < (nb : Int)) := by omega
  have HL1 := Lib.hid (HC1.out _ HB.out (HK1.out (by simp)).1)
  have HL2 := Lib.hid (HC2.out _ HB.out (HK2.out (by simp)).1)
  have HL3 := Lib.hid (HC3.out _ HB.out (HK3.out (by simp)).1)
  have hn1 : n1 ≤ 25 := by rw [← HL1.out.lenEq]; exact (HK1.out (by simp)).2
  have hn2 : n2 ≤ 25 := by rw [← HL2.out.lenEq]; exact (HK2.out (by simp)).2
  have hn3 : n3 ≤ 25 := by rw [← HL3.out.lenEq]; exact (HK3.out (by simp)).2
  replace HPB := Lib.hid (HPB.out.below HB.out)
  clear HC1 HC2 HC3 HK1 HK2 HK3 HS1 HS2 HS3 HSM
  obtain ⟨V1, hV1⟩ : ∃ V, vsOf l1 = V := ⟨_, rfl⟩
  obtain ⟨V2, hV2⟩ : ∃ V, vsOf l2 = V := ⟨_, rfl⟩
  obtain ⟨V3, hV3⟩ : ∃ V, vsOf l3 = V := ⟨_, rfl⟩
  have HV1 := Lib.hid hV1
  have HV2 := Lib.hid hV2
  have HV3 := Lib.hid hV3
  clear hV1 hV2 hV3
  have HN1 : Hid (V1.length ≤ 25) := Lib.hid (by rw [← HV1.out, vsOf_len, HL1.out.lenEq]; exact hn1)
  have HN2 : Hid (V2.length ≤ 25) := Lib.hid (by rw [← HV2.out, vsOf_len, HL2.out.lenEq]; exact hn2)
  have HN3 : Hid (V3.length ≤ 25) := Lib.hid (by rw [← HV3.out, vsOf_len, HL3.out.lenEq]; exact hn3)
  go_wp2_with (fail)
  ((with_reducible refine (Join_any w4 (HEV.out _ HB.out).1 (HEV.out _ HB.out).2 A1 A2 n1 n2 c1 c2 l1 l2 HL1.out HL2.out (by omega) (by omega)).mono ?_); rintro _ w5 ⟨A5, c5, l5, rfl, h5, hv5, hb5⟩)
  have hbT := hb5
  replace HB := Lib.hid (HB.out.trans (hbT.mono HB.out.size))
  replace HL1 := Lib.hid (HL1.out.below hbT)
  replace HL2 := Lib.hid (HL2.out.below hbT)
  replace HL3 := Lib.hid (HL3.out.below hbT)
  replace HPB := Lib.hid (HPB.out.below hbT)
  clear hbT hb5 
  have hval5 : joinF (vsOf l1 ++ vsOf l2) = joinF (V1 ++ V2) := by rw [HV1.out, HV2.out]
  rw [hval5] at hv5 h5 ⊢
  have hn5 : (joinF (V1 ++ V2)).length ≤ 75 := Nat.le_trans (joinF_len _) (by have h1 := HN1.out; have h2 := HN2.out; have h3 := HN3.out; (try simp only [List.length_append]); omega)
  obtain ⟨n5, hne5⟩ : ∃ n, (joinF (V1 ++ V2)).length = n := ⟨_, rfl⟩
  rw [hne5] at hn5 h5 ⊢
  have HL5 := Lib.hid h5
  have HV5 := Lib.hid hv5
  clear h5 hv5 hval5 hne5
  go_wp2_with (fail)
  ((with_reducible refine (Join_any w5 (HEV.out _ HB.out).1 (HEV.out _ HB.out).2 A1 none n1 0 c1 0 l1 [] HL1.out (chAt_nil _) (by omega) (by omega)).mono ?_); rintro _ w6 ⟨A6, c6, l6, rfl, h6, hv6, hb6⟩)
  have hbT := hb6
  replace HB := Lib.hid (HB.out.trans (hbT.mono HB.out.size))
  replace HL1 := Lib.hid (HL1.out.below hbT)
  replace HL2 := Lib.hid (HL2.out.below hbT)
  replace HL3 := Lib.hid (HL3.out.below hbT)
  replace HPB := Lib.hid (HPB.out.below hbT)
  replace HL5 := Lib.hid (HL5.out.below hbT)
  clear hbT hb6 
  have hval6 : joinF (vsOf l1 ++ vsOf []) = joinF V1 := by rw [HV1.out]; simp [vsOf]
  rw [hval6] at hv6 h6 ⊢
  have hn6 : (joinF V1).length ≤ 75 := Nat.le_trans (joinF_len _) (by have h1 := HN1.out; have h2 := HN2.out; have h3 := HN3.out; (try simp only [List.length_append]); omega)
  obtain ⟨n6, hne6⟩ : ∃ n, (joinF V1).length = n := ⟨_, rfl⟩
  rw [hne6] at hn6 h6 ⊢
  have HL6 := Lib.hid h6
  have HV6 := Lib.hid hv6
  clear h6 hv6 hval6 hne6
  obtain ⟨a, rfl⟩ : ∃ a : Nat, cut = (a : Int) := ⟨cut.toNat, by omega⟩
  obtain ⟨k, hk, hkn⟩ : ∃ k, a % (n1 + 1) = k ∧ k < n1 + 1 := ⟨_, rfl, Nat.mod_lt _ (by omega)⟩
  have hwn : IntKind.i64.wrap ((n1 : Int) + 1) = (n1 : Int) + 1 := IntWalk.i64_in _ (by omega)
  have tk1 : (a : Int) % ((n1 : Int) + 1) = (k : Int) := by rw [← hk]; norm_cast
  have tk2 : (a : Int).tmod ((n1 : Int) + 1) = (k : Int) := by rw [Int.tmod_eq_emod_of_nonneg (by omega)]; exact tk1
  have hwa : IntKind.i64.wrap (a : Int) = (a : Int) := IntWalk.i64_in _ (by omega)
  have hwk : IntKind.i64.wrap (k : Int) = (k : Int) := IntWalk.i64_in _ (by omega)
  have hnz : ¬ ((n1 : Int) + 1 = 0) := by omega
  have hkc : (k : Int) ≤ (c1 : Int) := by omega
  have hk0 : (0 : Int) ≤ (k : Int) := by omega
  have hkn1 : k ≤ n1 := by omega
  clear hk hkn
  go_wp2_with (fail)
  ((with_reducible refine (Join_any w6 (HEV.out _ HB.out).1 (HEV.out _ HB.out).2 A2 A1 n2 n1 c2 c1 l2 l1 HL2.out HL1.out (by omega) (by omega)).mono ?_); rintro _ w7 ⟨A7, c7, l7, rfl, h7, hv7, hb7⟩)
  have hbT := hb7
  replace HB := Lib.hid (HB.out.trans (hbT.mono HB.out.size))
  replace HL1 := Lib.hid (HL1.out.below hbT)
  replace HL2 := Lib.hid (HL2.out.below hbT)
  replace HL3 := Lib.hid (HL3.out.below hbT)
  replace HPB := Lib.hid (HPB.out.below hbT)
  replace HL5 := Lib.hid (HL5.out.below hbT)
  replace HL6 := Lib.hid (HL6.out.below hbT)
  clear hbT hb7 
  have hval7 : joinF (vsOf l2 ++ vsOf l1) = joinF (V2 ++ V1) := by rw [HV1.out, HV2.out]
  rw [hval7] at hv7 h7 ⊢
  have hn7 : (joinF (V2 ++ V1)).length ≤ 75 := Nat.le_trans (joinF_len _) (by have h1 := HN1.out; have h2 := HN2.out; have h3 := HN3.out; (try simp only [List.length_append]); omega)
  obtain ⟨n7, hne7⟩ : ∃ n, (joinF (V2 ++ V1)).length = n := ⟨_, rfl⟩
  rw [hne7] at hn7 h7 ⊢
  have HL7 := Lib.hid h7
  have HV7 := Lib.hid hv7
  clear h7 hv7 hval7 hne7
  replace HV7 : Hid (vsOf l7 = joinF (V1 ++ V2)) := Lib.hid (by rw [HV7.out]; exact joinF_congr fun x hx => by simp only [List.mem_append]; exact Or.comm)
  go_wp2_with (fail)
  ((with_reducible refine (SameChain_any w7 A5 A7 n5 c5 n7 c7 l5 l7 HL5.out HL7.out (by omega) true (by rw [HV5.out, HV7.out]; simp)).mono ?_); rintro _ w8 ⟨rfl, hb8⟩)
  have hbT := hb8
  replace HB := Lib.hid (HB.out.trans (hbT.mono HB.out.size))
  replace HL1 := Lib.hid (HL1.out.below hbT)
  replace HL2 := Lib.hid (HL2.out.below hbT)
  replace HL3 := Lib.hid (HL3.out.below hbT)
  replace HPB := Lib.hid (HPB.out.below hbT)
  replace HL5 := Lib.hid (HL5.out.below hbT)
  replace HL6 := Lib.hid (HL6.out.below hbT)
  replace HL7 := Lib.hid (HL7.out.below hbT)
  clear hbT hb8 
  clear HL7
  go_wp2_with (fail)
  ((with_reducible refine (Join_any w8 (HEV.out _ HB.out).1 (HEV.out _ HB.out).2 A5 A3 n5 n3 c5 c3 l5 l3 HL5.out HL3.out (by omega) (by omega)).mono ?_); rintro _ w9 ⟨A9, c9, l9, rfl, h9, hv9, hb9⟩)
  have hbT := hb9
  replace HB := Lib.hid (HB.out.trans (hbT.mono HB.out.size))
  replace HL1 := Lib.hid (HL1.out.below hbT)
  replace HL2 := Lib.hid (HL2.out.below hbT)
  replace HL3 := Lib.hid (HL3.out.below hbT)
  replace HPB := Lib.hid (HPB.out.below hbT)
  replace HL5 := Lib.hid (HL5.out.below hbT)
  replace HL6 := Lib.hid (HL6.out.below hbT)
  clear hbT hb9 
  have hval9 : joinF (vsOf l5 ++ vsOf l3) = joinF (V1 ++ (V2 ++ V3)) := by rw [HV5.out, HV3.out]; exact joinF_congr fun x hx => by simp only [List.mem_append, mem_joinJ hx]; exact or_assoc
  rw [hval9] at hv9 h9 ⊢
  have hn9 : (joinF (V1 ++ (V2 ++ V3))).length ≤ 75 := Nat.le_trans (joinF_len _) (by have h1 := HN1.out; have h2 := HN2.out; have h3 := HN3.out; (try simp only [List.length_append]); omega)
  obtain ⟨n9, hne9⟩ : ∃ n, (joinF (V1 ++ (V2 ++ V3))).length = n := ⟨_, rfl⟩
  rw [hne9] at hn9 h9 ⊢
  have HL9 := Lib.hid h9
  have HV9 := Lib.hid hv9
  clear h9 hv9 hval9 hne9
  go_wp2_with (fail)
  ((with_reducible refine (Join_any w9 (HEV.out _ HB.out).1 (HEV.out _ HB.out).2 A2 A3 n2 n3 c2 c3 l2 l3 HL2.out HL3.out (by omega) (by omega)).mono ?_); rintro _ w10 ⟨A10, c10, l10, rfl, h10, hv10, hb10⟩)
  have hbT := hb10
  replace HB := Lib.hid (HB.out.trans (hbT.mono HB.out.size))
  replace HL1 := Lib.hid (HL1.out.below hbT)
  replace HL2 := Lib.hid (HL2.out.below hbT)
  replace HL3 := Lib.hid (HL3.out.below hbT)
  replace HPB := Lib.hid (HPB.out.below hbT)
  replace HL5 := Lib.hid (HL5.out.below hbT)
  replace HL6 := Lib.hid (HL6.out.below hbT)
  replace HL9 := Lib.hid (HL9.out.below hbT)
  clear hbT hb10 
  have hval10 : joinF (vsOf l2 ++ vsOf l3) = joinF (V2 ++ V3) := by rw [HV2.out, HV3.out]
  rw [hval10] at hv10 h10 ⊢
  have hn10 : (joinF (V2 ++ V3)).length ≤ 75 := Nat.le_trans (joinF_len _) (by have h1 := HN1.out; have h2 := HN2.out; have h3 := HN3.out; (try simp only [List.length_append]); omega)
  obtain ⟨n10, hne10⟩ : ∃ n, (joinF (V2 ++ V3)).length = n := ⟨_, rfl⟩
  rw [hne10] at hn10 h10 ⊢
  have HL10 := Lib.hid h10
  have HV10 := Lib.hid hv10
  clear h10 hv10 hval10 hne10
  go_wp2_with (fail)
  ((with_reducible refine (Join_any w10 (HEV.out _ HB.out).1 (HEV.out _ HB.out).2 A1 A10 n1 n10 c1 c10 l1 l10 HL1.out HL10.out (by omega) (by omega)).mono ?_); rintro _ w11 ⟨A11, c11, l11, rfl, h11, hv11, hb11⟩)
  have hbT := hb11
  replace HB := Lib.hid (HB.out.trans (hbT.mono HB.out.size))
  replace HL1 := Lib.hid (HL1.out.below hbT)
  replace HL2 := Lib.hid (HL2.out.below hbT)
  replace HL3 := Lib.hid (HL3.out.below hbT)
  replace HPB := Lib.hid (HPB.out.below hbT)
  replace HL5 := Lib.hid (HL5.out.below hbT)
  replace HL6 := Lib.hid (HL6.out.below hbT)
  replace HL9 := Lib.hid (HL9.out.below hbT)
  replace HL10 := Lib.hid (HL10.out.below hbT)
  clear hbT hb11 
  have hval11 : joinF (vsOf l1 ++ vsOf l10) = joinF (V1 ++ (V2 ++ V3)) := by rw [HV1.out, HV10.out]; exact joinF_congr fun x hx => by simp only [List.mem_append, mem_joinJ hx]
  rw [hval11] at hv11 h11 ⊢
  have hn11 : (joinF (V1 ++ (V2 ++ V3))).length ≤ 75 := Nat.le_trans (joinF_len _) (by have h1 := HN1.out; have h2 := HN2.out; have h3 := HN3.out; (try simp only [List.length_append]); omega)
  obtain ⟨n11, hne11⟩ : ∃ n, (joinF (V1 ++ (V2 ++ V3))).length = n := ⟨_, rfl⟩
  rw [hne11] at hn11 h11 ⊢
  have HL11 := Lib.hid h11
  have HV11 := Lib.hid hv11
  clear h11 hv11 hval11 hne11
  go_wp2_with (fail)
  ((with_reducible refine (SameChain_any w11 A9 A11 n9 c9 n11 c11 l9 l11 HL9.out HL11.out (by omega) true (by rw [HV9.out, HV11.out]; simp)).mono ?_); rintro _ w12 ⟨rfl, hb12⟩)
  have hbT := hb12
  replace HB := Lib.hid (HB.out.trans (hbT.mono HB.out.size))
  replace HL1 := Lib.hid (HL1.out.below hbT)
  replace HL2 := Lib.hid (HL2.out.below hbT)
  replace HL3 := Lib.hid (HL3.out.below hbT)
  replace HPB := Lib.hid (HPB.out.below hbT)
  replace HL5 := Lib.hid (HL5.out.below hbT)
  replace HL6 := Lib.hid (HL6.out.below hbT)
  replace HL9 := Lib.hid (HL9.out.below hbT)
  replace HL10 := Lib.hid (HL10.out.below hbT)
  replace HL11 := Lib.hid (HL11.out.below hbT)
  clear hbT hb12 
  clear HL9 HL10 HL11 HL5
  go_wp2_with (fail)
  ((with_reducible refine (Join_any w12 (HEV.out _ HB.out).1 (HEV.out _ HB.out).2 A1 A1 n1 n1 c1 c1 l1 l1 HL1.out HL1.out (by omega) (by omega)).mono ?_); rintro _ w13 ⟨A13, c13, l13, rfl, h13, hv13, hb13⟩)
  have hbT := hb13
  replace HB := Lib.hid (HB.out.trans (hbT.mono HB.out.size))
  replace HL1 := Lib.hid (HL1.out.below hbT)
  replace HL2 := Lib.hid (HL2.out.below hbT)
  replace HL3 := Lib.hid (HL3.out.below hbT)
  replace HPB := Lib.hid (HPB.out.below hbT)
  replace HL6 := Lib.hid (HL6.out.below hbT)
  clear hbT hb13 
  have hval13 : joinF (vsOf l1 ++ vsOf l1) = joinF V1 := by rw [HV1.out]; exact joinF_congr fun x hx => by simp only [List.mem_append, or_self]
  rw [hval13] at hv13 h13 ⊢
  have hn13 : (joinF V1).length ≤ 75 := Nat.le_trans (joinF_len _) (by have h1 := HN1.out; have h2 := HN2.out; have h3 := HN3.out; (try simp only [List.length_append]); omega)
  obtain ⟨n13, hne13⟩ : ∃ n, (joinF V1).length = n := ⟨_, rfl⟩
  rw [hne13] at hn13 h13 ⊢
  have HL13 := Lib.hid h13
  have HV13 := Lib.hid hv13
  clear h13 hv13 hval13 hne13
  go_wp2_with (fail)
  ((with_reducible refine (SameChain_any w13 A13 A6 n13 c13 n6 c6 l13 l6 HL13.out HL6.out (by omega) true (by rw [HV13.out, HV6.out]; simp)).mono ?_); rintro _ w14 ⟨rfl, hb14⟩)
  have hbT := hb14
  replace HB := Lib.hid (HB.out.trans (hbT.mono HB.out.size))
  replace HL1 := Lib.hid (HL1.out.below hbT)
  replace HL2 := Lib.hid (HL2.out.below hbT)
  replace HL3 := Lib.hid (HL3.out.below hbT)
  replace HPB := Lib.hid (HPB.out.below hbT)
  replace HL6 := Lib.hid (HL6.out.below hbT)
  replace HL13 := Lib.hid (HL13.out.below hbT)
  clear hbT hb14 
  clear HL13
  have HLK : Hid (ChAt w14 A1 k (l1.take k)) := Lib.hid ⟨by rw [List.map_take]; exact HL1.out.sl.head hkn1, fun u hu => HL1.out.at_ u (List.mem_of_mem_take hu), fun u hu => HL1.out.len u (List.mem_of_mem_take hu)⟩
  have htk : ∀ y, y ∈ vsOf (l1.take k) → y ∈ V1 := fun y hy => by rw [← HV1.out]; obtain ⟨u, hu, rfl⟩ := List.mem_map.1 hy; exact List.mem_map.2 ⟨u, List.mem_of_mem_take hu, rfl⟩
  have HTK := Lib.hid htk
  clear htk
  go_wp2_with (fail)
  ((with_reducible refine (Join_any w14 (HEV.out _ HB.out).1 (HEV.out _ HB.out).2 A1 A1 n1 k c1 _ l1 (l1.take k) HL1.out HLK.out (by omega) (by omega)).mono ?_); rintro _ w15 ⟨A15, c15, l15, rfl, h15, hv15, hb15⟩)
  have hbT := hb15
  replace HB := Lib.hid (HB.out.trans (hbT.mono HB.out.size))
  replace HL1 := Lib.hid (HL1.out.below hbT)
  replace HL2 := Lib.hid (HL2.out.below hbT)
  replace HL3 := Lib.hid (HL3.out.below hbT)
  replace HPB := Lib.hid (HPB.out.below hbT)
  replace HL6 := Lib.hid (HL6.out.below hbT)
  replace HLK := Lib.hid (HLK.out.below hbT)
  clear hbT hb15 
  have hval15 : joinF (vsOf l1 ++ vsOf (l1.take k)) = joinF V1 := by rw [HV1.out]; exact joinF_congr fun x hx => by rw [List.mem_append]; exact ⟨fun h => h.elim id (HTK.out x), Or.inl⟩
  rw [hval15] at hv15 h15 ⊢
  have hn15 : (joinF V1).length ≤ 75 := Nat.le_trans (joinF_len _) (by have h1 := HN1.out; have h2 := HN2.out; have h3 := HN3.out; (try simp only [List.length_append]); omega)
  obtain ⟨n15, hne15⟩ : ∃ n, (joinF V1).length = n := ⟨_, rfl⟩
  rw [hne15] at hn15 h15 ⊢
  have HL15 := Lib.hid h15
  have HV15 := Lib.hid hv15
  clear h15 hv15 hval15 hne15
  go_wp2_with (fail)
  ((with_reducible refine (SameChain_any w15 A15 A6 n15 c15 n6 c6 l15 l6 HL15.out HL6.out (by omega) true (by rw [HV15.out, HV6.out]; simp)).mono ?_); rintro _ w16 ⟨rfl, hb16⟩)
  have hbT := hb16
  replace HB := Lib.hid (HB.out.trans (hbT.mono HB.out.size))
  replace HL1 := Lib.hid (HL1.out.below hbT)
  replace HL2 := Lib.hid (HL2.out.below hbT)
  replace HL3 := Lib.hid (HL3.out.below hbT)
  replace HPB := Lib.hid (HPB.out.below hbT)
  replace HL6 := Lib.hid (HL6.out.below hbT)
  replace HLK := Lib.hid (HLK.out.below hbT)
  replace HL15 := Lib.hid (HL15.out.below hbT)
  clear hbT hb16 
  clear HL15
  clear HLK
  go_wp2_with (fail)
  ((with_reducible refine (Join_any w16 (HEV.out _ HB.out).1 (HEV.out _ HB.out).2 A6 A6 n6 n6 c6 c6 l6 l6 HL6.out HL6.out (by omega) (by omega)).mono ?_); rintro _ w17 ⟨A17, c17, l17, rfl, h17, hv17, hb17⟩)
  have hbT := hb17
  replace HB := Lib.hid (HB.out.trans (hbT.mono HB.out.size))
  replace HL1 := Lib.hid (HL1.out.below hbT)
  replace HL2 := Lib.hid (HL2.out.below hbT)
  replace HL3 := Lib.hid (HL3.out.below hbT)
  replace HPB := Lib.hid (HPB.out.below hbT)
  replace HL6 := Lib.hid (HL6.out.below hbT)
  clear hbT hb17 
  have hval17 : joinF (vsOf l6 ++ vsOf l6) = joinF V1 := by rw [HV6.out]; exact joinF_congr fun x hx => by simp only [List.mem_append, mem_joinJ hx, or_self]
  rw [hval17] at hv17 h17 ⊢
  have hn17 : (joinF V1).length ≤ 75 := Nat.le_trans (joinF_len _) (by have h1 := HN1.out; have h2 := HN2.out; have h3 := HN3.out; (try simp only [List.length_append]); omega)
  obtain ⟨n17, hne17⟩ : ∃ n, (joinF V1).length = n := ⟨_, rfl⟩
  rw [hne17] at hn17 h17 ⊢
  have HL17 := Lib.hid h17
  have HV17 := Lib.hid hv17
  clear h17 hv17 hval17 hne17
  go_wp2_with (fail)
  ((with_reducible refine (SameChain_any w17 A17 A6 n17 c17 n6 c6 l17 l6 HL17.out HL6.out (by omega) true (by rw [HV17.out, HV6.out]; simp)).mono ?_); rintro _ w18 ⟨rfl, hb18⟩)
  have hbT := hb18
  replace HB := Lib.hid (HB.out.trans (hbT.mono HB.out.size))
  replace HL1 := Lib.hid (HL1.out.below hbT)
  replace HL2 := Lib.hid (HL2.out.below hbT)
  replace HL3 := Lib.hid (HL3.out.below hbT)
  replace HPB := Lib.hid (HPB.out.below hbT)
  replace HL6 := Lib.hid (HL6.out.below hbT)
  replace HL17 := Lib.hid (HL17.out.below hbT)
  clear hbT hb18 
  clear HL17
  go_wp2_with (fail)
  ((with_reducible refine (shuffled_any w18 A1 n1 c1 l1 HL1.out (by omega) Pb nb cb bs HPB.out HBS.out (by omega)).mono ?_); rintro _ w19 ⟨AS, cS, lS, rfl, hS, hmS, hlS, hb19⟩)
  have hbT := hb19
  replace HB := Lib.hid (HB.out.trans (hbT.mono HB.out.size))
  replace HL1 := Lib.hid (HL1.out.below hbT)
  replace HL2 := Lib.hid (HL2.out.below hbT)
  replace HL3 := Lib.hid (HL3.out.below hbT)
  replace HPB := Lib.hid (HPB.out.below hbT)
  replace HL6 := Lib.hid (HL6.out.below hbT)
  clear hbT hb19 
  have hVS : joinF (vsOf lS) = joinF V1 := joinF_congr fun x hx => by
    rw [← HV1.out]
    constructor
    · intro h; obtain ⟨u, hu, rfl⟩ := List.mem_map.1 h; exact List.mem_map.2 ⟨u, (hmS u).1 hu, rfl⟩
    · intro h; obtain ⟨u, hu, rfl⟩ := List.mem_map.1 h; exact List.mem_map.2 ⟨u, (hmS u).2 hu, rfl⟩
  have HVS := Lib.hid hVS
  obtain ⟨nS, hnS⟩ : ∃ n, lS.length = n := ⟨_, rfl⟩
  rw [hnS] at hS hlS ⊢
  have HLS := Lib.hid hS
  clear hS hmS hVS hnS
  have hnS : nS ≤ 65 := by omega
  have HOT := Lib.hid (rowsPairs w19 A6 AS n6 nS c6 cS)
  have hbo := below_alloc w19 (.cells #[.slice A6 n6 c6, .slice AS nS cS] 22)
  replace HB := Lib.hid (HB.out.trans (hbo.mono HB.out.size))
  replace HL1 := Lib.hid (HL1.out.below hbo)
  replace HLS := Lib.hid (HLS.out.below hbo)
  replace HL6 := Lib.hid (HL6.out.below hbo)
  clear hbo
  go_wp2_with (fail)
  generalize hWW : w19.alloc (.cells #[.slice A6 n6 c6, .slice AS nS cS] 22) = wA at *
  generalize hgO : w19.heap.size = gO at *
  clear hWW hgO
  go_loopw [19] (fun iv wr => ∃ k : Nat, k ≤ 2 ∧ iv = .int .i64 (k : Int) ∧ Below wA.heap.size wA wr) (fun iv _ => 2 - (intOf iv).toNat)
  case atStart => exact ⟨0, by omega, rfl, Below.refl _ _⟩
  case round =>
    obtain ⟨k2, hk2, rfl, hbr0⟩ := hrel
    obtain ⟨wo, rfl⟩ : ∃ wo : World, wo = wr := ⟨_, rfl⟩
    by_cases hlt : k2 < 2
    case neg =>
      obtain rfl : k2 = 2 := by omega
      have hii : ¬ ((2 : Nat) : Int) < 2 := by omega
      have HB2 := Lib.hid (HB.out.trans (hbr0.mono HB.out.size))
      clear hbr0
      go_wp2_with (fail)
      go_ret
      exact ⟨rfl, HB2.out⟩
    obtain ⟨AL, nL, cL, lL, hcell, hL, hjL, hnL⟩ : ∃ (AL : Option Addr) (nL cL : Nat) (lL : List EntC), wo.cell? ⟨gO, k2, none⟩ = some (.slice AL nL cL) ∧ ChAt wo AL nL lL ∧ joinF (vsOf lL) = joinF V1 ∧ nL ≤ 75 := by
      have hk : k2 = 0 ∨ k2 = 1 := by omega
      rcases hk with rfl | rfl
      · obtain ⟨b, o, e, _, hc⟩ := (HOT.out.below hbr0).at1 (k := 0) (v := .slice A6 n6 c6) rfl
        injection e with e
        injection e with e1 e2
        subst e1 e2
        exact ⟨A6, n6, c6, l6, hc, HL6.out.below hbr0, by rw [HV6.out, joinF_join], by omega⟩
      · obtain ⟨b, o, e, _, hc⟩ := (HOT.out.below hbr0).at1 (k := 1) (v := .slice AS nS cS) rfl
        injection e with e
        injection e with e1 e2
        subst e1 e2
        exact ⟨AS, nS, cS, lS, hc, HLS.out.below hbr0, HVS.out, by omega⟩
    have HLL := Lib.hid hL
    have HJL := Lib.hid hjL
    have hii : (k2 : Int) < 2 := by omega
    have hi0 : (0 : Int) ≤ (k2 : Int) := by omega
    have hwi : IntKind.i64.wrap ((k2 : Int) + 1) = (k2 : Int) + 1 := IntWalk.i64_in _ (by omega)
    have hgO := HOT.out.below hbr0
    have HLT := Lib.hid hlt
    have hzO : gO < wo.heap.size := by
      obtain ⟨b, o, e, hb, _⟩ := hgO.at1 (k := 0) (v := .slice A6 n6 c6) rfl
      injection e with e
      injection e with e1 e2
      omega
    have HBW : Hid (Below wA.heap.size wA wo) := Lib.hid hbr0
    have HB2 := Lib.hid (HB.out.trans (hbr0.mono HB.out.size))
    have HM1 := Lib.hid (HL1.out.below hbr0)
    have HMX := Lib.hid (HL6.out.below hbr0)
    clear hL hjL hgO hlt hk2 hbr0
    replace HB := HB2
    clear HB2
    go_wp2_with (fail)
    ((with_reducible refine (Join_any wo (HEV.out _ HB.out).1 (HEV.out _ HB.out).2 AL none nL 0 cL 0 lL [] HLL.out (chAt_nil _) (by omega) (by omega)).mono ?_); rintro _ w20 ⟨A20, c20, l20, rfl, h20, hv20, hb20⟩)
    have hbT := hb20
    replace HB := Lib.hid (HB.out.trans (hbT.mono HB.out.size))
    replace HM1 := Lib.hid (HM1.out.below hbT)
    replace HMX := Lib.hid (HMX.out.below hbT)
    replace HLL := Lib.hid (HLL.out.below hbT)
    replace HBW := Lib.hid (HBW.out.trans (hbT.mono HBW.out.size))
    clear hbT hb20 
    have e20 : joinF (vsOf lL ++ vsOf []) = joinF V1 := by rw [show vsOf lL ++ vsOf [] = vsOf lL by simp [vsOf]]; exact HJL.out
    rw [e20] at hv20 h20 ⊢
    have HH := Lib.hid h20
    have HV := Lib.hid hv20
    clear h20 hv20 e20
    go_wp2_with (fail)
    ((with_reducible refine (SameChain_any w20 A20 A6 (joinF V1).length c20 n6 c6 l20 l6 HH.out HMX.out (Nat.le_trans (joinF_len _) (by have := HN1.out; omega)) true (by rw [HV.out, HV6.out]; simp)).mono ?_); rintro _ w21 ⟨rfl, hb21⟩)
    have hbT := hb21
    replace HB := Lib.hid (HB.out.trans (hbT.mono HB.out.size))
    replace HM1 := Lib.hid (HM1.out.below hbT)
    replace HMX := Lib.hid (HMX.out.below hbT)
    replace HLL := Lib.hid (HLL.out.below hbT)
    replace HBW := Lib.hid (HBW.out.trans (hbT.mono HBW.out.size))
    replace HH := Lib.hid (HH.out.below hbT)
    clear hbT hb21 
    clear HH
    clear HV
    go_wp2_with (fail)
    ((with_reducible refine (Forks_any w21 (HEV.out _ HB.out).1 (HEV.out _ HB.out).2 AL nL cL lL HLL.out (by omega) (forkO V1) (by unfold forkO; rw [HJL.out])).mono ?_); rintro _ w22 ⟨A22, c22, rfl, h22, hb22⟩)
    have hbT := hb22
    replace HB := Lib.hid (HB.out.trans (hbT.mono HB.out.size))
    replace HM1 := Lib.hid (HM1.out.below hbT)
    replace HMX := Lib.hid (HMX.out.below hbT)
    replace HLL := Lib.hid (HLL.out.below hbT)
    replace HBW := Lib.hid (HBW.out.trans (hbT.mono HBW.out.size))
    clear hbT hb22 
    have HG1 := Lib.hid h22.sl'
    clear h22
    go_wp2_with (fail)
    ((with_reducible refine (Forks_any w22 (HEV.out _ HB.out).1 (HEV.out _ HB.out).2 A1 n1 c1 l1 HM1.out (by omega) (forkO V1) (by rw [HV1.out])).mono ?_); rintro _ w23 ⟨A23, c23, rfl, h23, hb23⟩)
    have hbT := hb23
    replace HB := Lib.hid (HB.out.trans (hbT.mono HB.out.size))
    replace HM1 := Lib.hid (HM1.out.below hbT)
    replace HMX := Lib.hid (HMX.out.below hbT)
    replace HLL := Lib.hid (HLL.out.below hbT)
    replace HBW := Lib.hid (HBW.out.trans (hbT.mono HBW.out.size))
    replace HG1 := Lib.hid (HG1.out.below hbT)
    clear hbT hb23 
    have HG2 := Lib.hid h23.sl'
    clear h23
    go_wp2_with (fail)
    ((with_reducible refine (SameInts_any w23 A22 A23 (forkO V1).length c22 (forkO V1).length c23 (forkO V1) (forkO V1) HG1.out HG2.out (Nat.le_trans (forkO_len V1) (by omega)) true (by simp)).mono ?_); rintro _ w24 ⟨rfl, hb24⟩)
    have hbT := hb24
    replace HB := Lib.hid (HB.out.trans (hbT.mono HB.out.size))
    replace HM1 := Lib.hid (HM1.out.below hbT)
    replace HMX := Lib.hid (HMX.out.below hbT)
    replace HLL := Lib.hid (HLL.out.below hbT)
    replace HBW := Lib.hid (HBW.out.trans (hbT.mono HBW.out.size))
    replace HG1 := Lib.hid (HG1.out.below hbT)
    replace HG2 := Lib.hid (HG2.out.below hbT)
    clear hbT hb24 
    clear HG1 HG2
    go_wp2_with (fail)
    ((with_reducible refine (Past_any w24 (HEV.out _ HB.out).1 (HEV.out _ HB.out).2 AL nL cL lL HLL.out (by omega) dev).mono ?_); rintro _ w25 ⟨A25, c25, l25, rfl, h25, hv25, hb25⟩)
    have hbT := hb25
    replace HB := Lib.hid (HB.out.trans (hbT.mono HB.out.size))
    replace HM1 := Lib.hid (HM1.out.below hbT)
    replace HMX := Lib.hid (HMX.out.below hbT)
    replace HLL := Lib.hid (HLL.out.below hbT)
    replace HBW := Lib.hid (HBW.out.trans (hbT.mono HBW.out.size))
    clear hbT hb25 
    rw [HJL.out] at hv25 h25 ⊢
    have HG1 := Lib.hid h25
    have HW1 := Lib.hid hv25
    clear h25 hv25
    go_wp2_with (fail)
    ((with_reducible refine (Past_any w25 (HEV.out _ HB.out).1 (HEV.out _ HB.out).2 A1 n1 c1 l1 HM1.out (by omega) dev).mono ?_); rintro _ w26 ⟨A26, c26, l26, rfl, h26, hv26, hb26⟩)
    have hbT := hb26
    replace HB := Lib.hid (HB.out.trans (hbT.mono HB.out.size))
    replace HM1 := Lib.hid (HM1.out.below hbT)
    replace HMX := Lib.hid (HMX.out.below hbT)
    replace HLL := Lib.hid (HLL.out.below hbT)
    replace HBW := Lib.hid (HBW.out.trans (hbT.mono HBW.out.size))
    replace HG1 := Lib.hid (HG1.out.below hbT)
    clear hbT hb26 
    rw [HV1.out] at hv26 h26 ⊢
    have HG2 := Lib.hid h26
    have HW2 := Lib.hid hv26
    clear h26 hv26
    go_wp2_with (fail)
    ((with_reducible refine (SameChain_any w26 A25 A26 (pastF (joinF V1) dev).length c25 (pastF (joinF V1) dev).length c26 l25 l26 HG1.out HG2.out (Nat.le_trans (past_le _ _) (Nat.le_trans (joinF_len _) (by have := HN1.out; omega))) true (by rw [HW1.out, HW2.out]; simp)).mono ?_); rintro _ w27 ⟨rfl, hb27⟩)
    have hbT := hb27
    replace HB := Lib.hid (HB.out.trans (hbT.mono HB.out.size))
    replace HM1 := Lib.hid (HM1.out.below hbT)
    replace HMX := Lib.hid (HMX.out.below hbT)
    replace HLL := Lib.hid (HLL.out.below hbT)
    replace HBW := Lib.hid (HBW.out.trans (hbT.mono HBW.out.size))
    replace HG1 := Lib.hid (HG1.out.below hbT)
    replace HG2 := Lib.hid (HG2.out.below hbT)
    clear hbT hb27 
    clear HG1 HG2
    clear HW1 HW2
    have hoJ : ordF (vsOf lL) = ordF V1 := by unfold ordF; rw [HJL.out]
    have HOJ := Lib.hid hoJ
    clear hoJ
    go_wp2_with (fail)
    ((with_reducible refine (Order_any w27 (HEV.out _ HB.out).1 (HEV.out _ HB.out).2 AL nL cL lL HLL.out (by omega)).mono ?_); rintro _ w28 ⟨A28, c28, l28, rfl, h28, hv28, hb28⟩)
    have hbT := hb28
    replace HB := Lib.hid (HB.out.trans (hbT.mono HB.out.size))
    replace HM1 := Lib.hid (HM1.out.below hbT)
    replace HMX := Lib.hid (HMX.out.below hbT)
    replace HLL := Lib.hid (HLL.out.below hbT)
    replace HBW := Lib.hid (HBW.out.trans (hbT.mono HBW.out.size))
    clear hbT hb28 
    rw [HOJ.out] at hv28 h28 ⊢
    have HG1 := Lib.hid h28
    have HW1 := Lib.hid hv28
    clear h28 hv28
    go_wp2_with (fail)
    ((with_reducible refine (Order_any w28 (HEV.out _ HB.out).1 (HEV.out _ HB.out).2 A1 n1 c1 l1 HM1.out (by omega)).mono ?_); rintro _ w29 ⟨A29, c29, l29, rfl, h29, hv29, hb29⟩)
    have hbT := hb29
    replace HB := Lib.hid (HB.out.trans (hbT.mono HB.out.size))
    replace HM1 := Lib.hid (HM1.out.below hbT)
    replace HMX := Lib.hid (HMX.out.below hbT)
    replace HLL := Lib.hid (HLL.out.below hbT)
    replace HBW := Lib.hid (HBW.out.trans (hbT.mono HBW.out.size))
    replace HG1 := Lib.hid (HG1.out.below hbT)
    clear hbT hb29 
    rw [HV1.out] at hv29 h29 ⊢
    have HG2 := Lib.hid h29
    have HW2 := Lib.hid hv29
    clear h29 hv29
    go_wp2_with (fail)
    ((with_reducible refine (SameChain_any w29 A28 A29 ((ordF V1).2).length c28 ((ordF V1).2).length c29 l28 l29 HG1.out HG2.out (Nat.le_trans (ord_len V1) (by omega)) true (by rw [HW1.out, HW2.out]; simp)).mono ?_); rintro _ w30 ⟨rfl, hb30⟩)
    have hbT := hb30
    replace HB := Lib.hid (HB.out.trans (hbT.mono HB.out.size))
    replace HM1 := Lib.hid (HM1.out.below hbT)
    replace HMX := Lib.hid (HMX.out.below hbT)
    replace HLL := Lib.hid (HLL.out.below hbT)
    replace HBW := Lib.hid (HBW.out.trans (hbT.mono HBW.out.size))
    replace HG1 := Lib.hid (HG1.out.below hbT)
    replace HG2 := Lib.hid (HG2.out.below hbT)
    clear hbT hb30 
    clear HG1 HG2
    clear HW1 HW2
    go_wp2_with (fail)
    ((with_reducible refine (Heads_any w30 (HEV.out _ HB.out).1 (HEV.out _ HB.out).2 AL nL cL lL HLL.out (by omega)).mono ?_); rintro _ w31 ⟨g31, rfl, h31, hb31⟩)
    have hbT := hb31
    replace HB := Lib.hid (HB.out.trans (hbT.mono HB.out.size))
    replace HM1 := Lib.hid (HM1.out.below hbT)
    replace HMX := Lib.hid (HMX.out.below hbT)
    replace HLL := Lib.hid (HLL.out.below hbT)
    replace HBW := Lib.hid (HBW.out.trans (hbT.mono HBW.out.size))
    clear hbT hb31 
    have HG1 : Hid (Sl w31 1 (some ⟨g31, 0, none⟩) 8 (((ordF V1).1.map fun n : Nat => (n : Int)).map intC)) := Lib.hid (by rw [← natC_int, ← HOJ.out]; exact h31.sl')
    clear h31
    go_wp2_with (fail)
    ((with_reducible refine (Heads_any w31 (HEV.out _ HB.out).1 (HEV.out _ HB.out).2 A1 n1 c1 l1 HM1.out (by omega)).mono ?_); rintro _ w32 ⟨g32, rfl, h32, hb32⟩)
    have hbT := hb32
    replace HB := Lib.hid (HB.out.trans (hbT.mono HB.out.size))
    replace HM1 := Lib.hid (HM1.out.below hbT)
    replace HMX := Lib.hid (HMX.out.below hbT)
    replace HLL := Lib.hid (HLL.out.below hbT)
    replace HBW := Lib.hid (HBW.out.trans (hbT.mono HBW.out.size))
    replace HG1 := Lib.hid (HG1.out.below hbT)
    clear hbT hb32 
    have HG2 : Hid (Sl w32 1 (some ⟨g32, 0, none⟩) 8 (((ordF V1).1.map fun n : Nat => (n : Int)).map intC)) := Lib.hid (by rw [← natC_int, ← HV1.out]; exact h32.sl')
    clear h32
    go_wp2_with (fail)
    ((with_reducible refine (SameInts_any w32 (some ⟨g31, 0, none⟩) (some ⟨g32, 0, none⟩) 8 8 8 8 _ _ HG1.out HG2.out (by omega) true (by simp)).mono ?_); rintro _ w33 ⟨rfl, hb33⟩)
    have hbT := hb33
    replace HB := Lib.hid (HB.out.trans (hbT.mono HB.out.size))
    replace HM1 := Lib.hid (HM1.out.below hbT)
    replace HMX := Lib.hid (HMX.out.below hbT)
    replace HLL := Lib.hid (HLL.out.below hbT)
    replace HBW := Lib.hid (HBW.out.trans (hbT.mono HBW.out.size))
    replace HG1 := Lib.hid (HG1.out.below hbT)
    replace HG2 := Lib.hid (HG2.out.below hbT)
    clear hbT hb33 
    clear HG1 HG2
    go_wp2_with (fail)
    ((with_reducible refine (Missing_any w33 (HEV.out _ HB.out).1 (HEV.out _ HB.out).2 AL nL cL lL HLL.out (by omega) (missF (joinF V1)) (by rw [HJL.out])).mono ?_); rintro _ w34 ⟨A34, c34, rfl, h34, hb34⟩)
    have hbT := hb34
    replace HB := Lib.hid (HB.out.trans (hbT.mono HB.out.size))
    replace HM1 := Lib.hid (HM1.out.below hbT)
    replace HMX := Lib.hid (HMX.out.below hbT)
    replace HLL := Lib.hid (HLL.out.below hbT)
    replace HBW := Lib.hid (HBW.out.trans (hbT.mono HBW.out.size))
    clear hbT hb34 
    have HG1 := Lib.hid h34
    clear h34
    go_wp2_with (fail)
    ((with_reducible refine (Missing_any w34 (HEV.out _ HB.out).1 (HEV.out _ HB.out).2 A1 n1 c1 l1 HM1.out (by omega) (missF (joinF V1)) (by rw [HV1.out])).mono ?_); rintro _ w35 ⟨A35, c35, rfl, h35, hb35⟩)
    have hbT := hb35
    replace HB := Lib.hid (HB.out.trans (hbT.mono HB.out.size))
    replace HM1 := Lib.hid (HM1.out.below hbT)
    replace HMX := Lib.hid (HMX.out.below hbT)
    replace HLL := Lib.hid (HLL.out.below hbT)
    replace HBW := Lib.hid (HBW.out.trans (hbT.mono HBW.out.size))
    replace HG1 := Lib.hid (HG1.out.below hbT)
    clear hbT hb35 
    have HG2 := Lib.hid h35
    clear h35
    go_wp2_with (fail)
    ((with_reducible refine (SameRefs_any w35 A34 A35 (missF (joinF V1)).length c34 (missF (joinF V1)).length c35 _ _ HG1.out HG2.out (Nat.le_trans (miss_len V1) (by omega)) true (by simp)).mono ?_); rintro _ w36 ⟨rfl, hb36⟩)
    have hbT := hb36
    replace HB := Lib.hid (HB.out.trans (hbT.mono HB.out.size))
    replace HM1 := Lib.hid (HM1.out.below hbT)
    replace HMX := Lib.hid (HMX.out.below hbT)
    replace HLL := Lib.hid (HLL.out.below hbT)
    replace HBW := Lib.hid (HBW.out.trans (hbT.mono HBW.out.size))
    replace HG1 := Lib.hid (HG1.out.below hbT)
    replace HG2 := Lib.hid (HG2.out.below hbT)
    clear hbT hb36 
    go_wp2_with (fail)
    go_roundw
    case rel => exact ⟨k2 + 1, HLT.out, by go_num, HBW.out⟩
    case measure => have := HLT.out; simp [intOf]; omega
end Go.Proofs.YtnnnibkainlplaaDoor
