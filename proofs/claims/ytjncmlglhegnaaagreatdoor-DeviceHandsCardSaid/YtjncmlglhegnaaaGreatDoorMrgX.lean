/- merge: Join, walked. -/
import Derived.Test.YtjncmlglhegnaaaGreatDoorMrgW
import Derived.Test.YtjncmlglhegnaaaGreatDoorChainH
namespace Go.Proofs.YtjncmlglhegnaaaGreatDoor
open Go.RowKit Go.Sort Go.Lib

theorem encodeF_right {x : EntV} (h : RightE x) : encodeF x = (encE x, true) := by unfold encodeF; rw [if_pos (rightB_true.2 h)]
theorem ltK_right {x y : EntV} (hx : RightE x) (hy : RightE y) : ltK x y ↔ ltE x y := by unfold ltK ltE; rw [encodeF_right hx, encodeF_right hy]
theorem cmpE_right {x y : EntV} (hx : RightE x) (hy : RightE y) : cmpE x y = 0 ↔ x = y := by
  rw [cmpE_zero, encodeF_right hx, encodeF_right hy]
  exact ⟨fun h => encE_inj hx hy h.2.2, fun h => by subst h; exact ⟨rfl, rfl, rfl⟩⟩
theorem cptGo_is : ∀ (r : List EntC) (p : EntC), (∀ u ∈ p :: r, RightE u.v) → (p :: r).Pairwise (fun a b => ¬ ltK b.v a.v) → Asc (vsOf (p :: cptGo p r)) ∧ ∀ v, v ∈ vsOf (p :: cptGo p r) ↔ v ∈ vsOf (p :: r)
  | [], p, _, _ => by simp [cptGo, vsOf, Asc]
  | x :: r, p, hr, hs => by
    have hs' := List.pairwise_cons.1 hs
    have hp := hr p (by simp)
    have hx := hr x (by simp)
    obtain ⟨ia, im⟩ := cptGo_is r x (fun u hu => hr u (List.mem_cons_of_mem _ hu)) hs'.2
    have ia' := List.pairwise_cons.1 ia
    unfold cptGo
    by_cases h : cmpE x.v p.v = 0
    · rw [if_pos h]
      have e : x.v = p.v := (cmpE_right hx hp).1 h
      refine ⟨List.pairwise_cons.2 ⟨fun z hz => ?_, ia'.2⟩, fun v => ?_⟩
      · have h3 : ltE x.v z := ia'.1 z hz
        rw [e] at h3
        exact h3
      · have := im v
        simp only [vsOf, List.map_cons, List.mem_cons, e] at this ⊢
        rw [this]
        exact ⟨fun h => .inr h, fun h => h.elim .inl id⟩
    · rw [if_neg h]
      have hlt : ltE p.v x.v := by
        rcases ltE_tri hp hx with h1 | h1 | h1
        · exact h1
        · exact (h ((cmpE_right hx hp).2 h1.symm)).elim
        · exact (hs'.1 x (by simp) ((ltK_right hx hp).2 h1)).elim
      refine ⟨List.pairwise_cons.2 ⟨fun z hz => ?_, ia⟩, fun v => ?_⟩
      · rcases List.mem_cons.1 hz with e | e
        · rw [e]; exact hlt
        · exact ltE_trans hlt (ia'.1 z e)
      · have := im v
        simp only [vsOf, List.map_cons, List.mem_cons] at this ⊢
        rw [this]
theorem join_plain {l : List EntV} {xs ys : List EntC} (hx : vsOf xs = l.filter fun x => rightB x) (hp : ys.Perm xs) (hs : ∀ (i j : Nat) (x y : EntC), i < j → ys[i]? = some x → ys[j]? = some y → ¬ ltK y.v x.v) : vsOf (cptF ys) = joinF l := by
  have hr : ∀ u ∈ ys, RightE u.v := fun u hu => by
    have h1 : u.v ∈ vsOf xs := List.mem_map.2 ⟨u, hp.mem_iff.1 hu, rfl⟩
    rw [hx] at h1
    exact rightB_true.1 (List.mem_filter.1 h1).2
  have hmem : ∀ v, v ∈ vsOf ys ↔ v ∈ l ∧ RightE v := fun v => by
    have : v ∈ vsOf ys ↔ v ∈ vsOf xs := (hp.map (·.v)).mem_iff
    rw [this, hx, List.mem_filter, rightB_true]
  rcases ys with _ | ⟨p, r⟩
  · exact joinF_is (by simp [cptF, vsOf, Asc]) fun v => hmem v
  · have hpw : (p :: r).Pairwise (fun a b => ¬ ltK b.v a.v) := by
      rw [List.pairwise_iff_getElem]
      intro i j hi hj hij
      exact hs i j _ _ hij (List.getElem?_eq_getElem hi) (List.getElem?_eq_getElem hj)
    obtain ⟨h1, h2⟩ := cptGo_is r p hr hpw
    exact joinF_is h1 fun v => (h2 v).trans (hmem v)
/-- the items that are collected -/
structure LsAt (w : World) (ob : Option Nat) (ls : List EntC) : Prop where
  at_ : ∀ u ∈ ls, EntAt w u
  right : ∀ u ∈ ls, RightE u.v
  far : ∀ u ∈ ls, ∀ ad, u.A = some ad → ob ≠ some ad.block ∧ ad.block < w.heap.size
theorem LsAt.below {w w' : World} {ob : Option Nat} {ls : List EntC} (h : LsAt w ob ls) (hb : Below w.heap.size w w') : LsAt w' ob ls := ⟨fun u hu => (h.at_ u hu).below hb, h.right, fun u hu ad he => ⟨(h.far u hu ad he).1, Nat.lt_of_lt_of_le (h.far u hu ad he).2 hb.size⟩⟩
theorem LsAt.snoc {w w' : World} {ob ob' : Option Nat} {ls : List EntC} {x : EntC} (h : LsAt w ob (ls ++ [x])) (hg : w.grownBy w' ob) (ho : ob' = ob ∨ ob' = some w.heap.size) : LsAt w' ob' (ls ++ [x]) := by
  refine ⟨fun u hu => Sl.grown (h.at_ u hu) hg (.inr fun ad he => (h.far u hu ad he).1), h.right, fun u hu ad he => ⟨?_, Nat.lt_of_lt_of_le (h.far u hu ad he).2 hg.size⟩⟩
  have h1 := h.far u hu ad he
  rcases ho with rfl | rfl
  · exact h1.1
  · intro e
    injection e with e
    omega
theorem LsAt.put {w w2 : World} {B : Nat} {ob : Option Nat} {ls : List EntC} {x : EntC} {t : TypeId} (h : LsAt w ob ls) (hb : Below w.heap.size w w2) (hB : w.heap.size ≤ B) (hx : Own w2 B t 1 (.slice x.A x.v.seen.length x.c) x.v.seen.length (x.v.seen.map intC)) (hr : RightE x.v) (hob : ∀ g, ob = some g → g < w.heap.size) : LsAt w2 ob (ls ++ [x]) := by
  have h2 := h.below hb
  have hf : ∀ ad, x.A = some ad → B ≤ ad.block ∧ ad.block < w2.heap.size := by
    intro ad he
    have := hx.lt ad.block (by rw [he]; rfl)
    exact this
  refine ⟨fun u hu => ?_, fun u hu => ?_, fun u hu ad he => ?_⟩
  · rcases List.mem_append.1 hu with hu | hu
    · exact h2.at_ u hu
    · rw [List.mem_singleton.1 hu]; exact hx.sl'
  · rcases List.mem_append.1 hu with hu | hu
    · exact h2.right u hu
    · rw [List.mem_singleton.1 hu]; exact hr
  · rcases List.mem_append.1 hu with hu | hu
    · exact h2.far u hu ad he
    · rw [List.mem_singleton.1 hu] at he
      have := hf ad he
      exact ⟨fun e => by have := hob _ e; omega, this.2⟩
theorem LsAt.items {w : World} {g : Nat} {ls : List EntC} (h : LsAt w (some g) ls) : ∀ u ∈ ls, ItemOk w g u := fun u hu =>
  ⟨h.at_ u hu, ⟨by rw [(h.right u hu).len]; omega, Nat.le_trans (h.right u hu).txt (by omega)⟩, fun _ ad he e => (h.far u hu ad he).1 (by rw [e])⟩
/-- what hands a list of entries back -/
def GivesE (w : World) (v : List EntV) (e : Ending) (w' : World) : Prop := ∃ A c l, e = .returned (.slice A v.length c) ∧ ChAt w' A v.length l ∧ vsOf l = v ∧ Below w.heap.size w w'
theorem Own.rebase {w : World} {base g n c size : Nat} {e : TypeId} {xs : List (List Value)} (h : Own w base e size (.slice (some ⟨g, 0, none⟩) n c) n xs) : Own w g e size (.slice (some ⟨g, 0, none⟩) n c) n xs := by
  obtain ⟨⟨h1, h2⟩, h3⟩ := h
  refine ⟨⟨h1, ?_⟩, h3⟩
  rcases h2 with ⟨hv, _⟩ | ⟨g', cap, cur, hv, hb, r⟩
  · cases hv
  · refine .inr ⟨g', cap, cur, hv, ?_, r⟩
    injection hv with hv
    injection hv with hv
    injection hv with hv
    omega
theorem Own.shape {w : World} {base n c size m : Nat} {A : Option Addr} {e : TypeId} {xs : List (List Value)} (h : Own w base e size (.slice A n c) m xs) : (A = none ∧ n = 0 ∧ c = 0 ∧ xs = []) ∨ ∃ g, A = some ⟨g, 0, none⟩ ∧ base ≤ g := by
  rcases h.1.2 with ⟨hv, hm⟩ | ⟨g', cap, cur, hv, hb, r⟩
  · injection hv with h1 h2 h3
    subst hm
    exact .inl ⟨h1, h2, h3, List.eq_nil_of_length_eq_zero h.2.2⟩
  · injection hv with h1
    exact .inr ⟨g', h1, hb⟩
set_option maxRecDepth 100000 in
set_option maxHeartbeats 1000000 in
theorem sorted_both {B0 : Nat} (w : World) (hE : Env B0 w) (B : Nat) (hB0 : B0 ≤ B) (A : Option Addr) (c n : Nat) (xs : List EntC) (ho : Own w B 141 5 (.slice A n c) n (xs.map EntC.cells)) (hn : n ≤ 5000000) (hn0 : A ≠ none → 0 < n) (hat : LsAt w (Value.slice A n c).ownBlock xs) :
    Calls Tryz.prog 95 #[.slice A n c, .func (.func 96) #[] #[]] w fun e w' =>
      ∃ (k : Nat) (ys : List EntC) (c' : Nat), e = .returned (.slice A k c') ∧ k = (cptF ys).length ∧ ys.Perm xs ∧ (∀ (i j : Nat) (x y : EntC), i < j → ys[i]? = some x → ys[j]? = some y → ¬ ltK y.v x.v) ∧ Sl w' 5 A k ((cptF ys).map EntC.cells) ∧ (∀ u ∈ xs, EntAt w' u) ∧ (B ≤ w.heap.size → Below B w w') := by
  rcases ho.shape with ⟨rfl, rfl, rfl, hx⟩ | ⟨g, rfl, hg⟩
  · have hx2 : xs = [] := by simpa using hx
    subst hx2
    refine (sorted_nil w (.int .i64 0)).mono ?_
    rintro _ w' ⟨rfl, hb⟩
    exact ⟨0, [], 0, rfl, rfl, List.Perm.refl _, by simp, Sl.nil_ _ _ _, by simp, fun h => hb.mono h⟩
  · refine (sorted_any w hE g c n (by omega) xs ho.rebase hn (hn0 (by simp)) hat.items).mono ?_
    rintro _ w' ⟨k, ys, rfl, hk, hp, hs, ho2, hg2⟩
    exact ⟨k, ys, c, rfl, hk, hp, hs, ho2.sl', fun u hu => Sl.grown (hat.at_ u hu) hg2 (.inr fun ad he => (hat.far u hu ad he).1), fun hB => below_row hg hB hg2⟩
theorem cptGo_sub : ∀ (r : List EntC) (p : EntC), ∀ u ∈ cptGo p r, u ∈ r
  | [], _, u, h => by simp [cptGo] at h
  | x :: r, p, u, h => by
    unfold cptGo at h
    split at h
    · exact List.mem_cons_of_mem _ (cptGo_sub r x u h)
    · rcases List.mem_cons.1 h with e | e
      · rw [e]; simp
      · exact List.mem_cons_of_mem _ (cptGo_sub r x u e)
theorem cptF_sub {l : List EntC} {u : EntC} (h : u ∈ cptF l) : u ∈ l := by
  cases l with
  | nil => simp [cptF] at h
  | cons a r =>
    rcases List.mem_cons.1 h with e | e
    · rw [e]; simp
    · exact List.mem_cons_of_mem _ (cptGo_sub r a u e)
set_option maxRecDepth 100000 in
set_option maxHeartbeats 4000000 in
theorem Join_any {B0 : Nat} (w : World) (hE : Env B0 w) (hB0 : B0 ≤ w.heap.size) (A1 A2 : Option Addr) (na nb ca cb : Nat) (a b : List EntC) (ha : ChAt w A1 na a) (hb : ChAt w A2 nb b) (hna : na ≤ 1000) (hnb : nb ≤ 1000) :
    Calls Tryz.prog 50 #[.slice A1 na ca, .slice A2 nb cb] w (GivesE w (joinF (vsOf a ++ vsOf b))) := by
  have HA := Lib.hid ha
  have HBB := Lib.hid hb
  have HE := Lib.hid hE
  have HB0 := Lib.hid hB0
  have HCC := Lib.hid (fun W h hh h1 h2 => Concat_any W h na nb ca cb A1 A2 a b hh h1 h2 hna hnb)
  clear ha hb hE hB0
  go_enter Tryz.func50, Tryz.ntmps50
  go_wp2_with (fail)
  have HW1 := Lib.hid (fun o => below_alloc w o)
  ((with_reducible refine (HCC.out _ _ (Loc.new_ w #[.slice A1 na ca, .slice A2 nb cb] 22) (HA.out.sl.below (HW1.out _)) (HBB.out.sl.below (HW1.out _))).mono ?_); rintro _ w1 ⟨Q, cq, rfl, ho, hb1⟩)
  have HB1 := Lib.hid ((HW1.out _).trans (hb1.mono (by simp)))
  obtain ⟨ab, hab⟩ : ∃ ab, a ++ b = ab := ⟨_, rfl⟩
  rw [hab] at ho
  have HAB := Lib.hid hab
  obtain ⟨n, hn⟩ : ∃ n, na + nb = n := ⟨_, rfl⟩
  rw [hn] at ho ⊢
  have HN := Lib.hid hn
  have hl : ab.length = n := by have := ho.2.2; simpa using this
  have HL := Lib.hid hl
  have HCH : Hid (ChAt w1 Q n ab) := by
    refine Lib.hid ⟨ho.sl', fun u hu => ?_, fun u hu => ?_⟩
    · rw [← hab] at hu
      rcases List.mem_append.1 hu with h | h
      · exact ((HA.out.at_ u h).below (HW1.out _)).below hb1
      · exact ((HBB.out.at_ u h).below (HW1.out _)).below hb1
    · rw [← hab] at hu
      rcases List.mem_append.1 hu with h | h
      · exact HA.out.len u h
      · exact HBB.out.len u h
  obtain ⟨i0, hi0, hz0, hz1, hz2⟩ := info_parts infoItem
  clear hab hn ho hb1 HCC hl
  go_wp2_with (fail)
  go_loopw [5, 16] (fun s i wr => ∃ (k m : Nat) (A : Option Addr) (c : Nat) (ls : List EntC), i = .int .i64 (k : Int) ∧ s = .slice A m c ∧ k ≤ n ∧ m ≤ k ∧ (A ≠ none → 0 < m) ∧ Own wr w1.heap.size 141 5 (.slice A m c) m (ls.map EntC.cells) ∧ LsAt wr (Value.slice A m c).ownBlock ls ∧ vsOf ls = ((vsOf ab).take k).filter (fun x => rightB x) ∧ Below w1.heap.size w1 wr) (fun _ i _ => n - (intOf i).toNat)
  case atStart => exact ⟨0, 0, none, 0, [], rfl, rfl, Nat.zero_le _, Nat.le_refl _, fun h => absurd rfl h, Own.nil_ _ _ _ _, ⟨by simp, by simp, by simp⟩, by simp [vsOf], Below.refl _ _⟩
  case round =>
    obtain ⟨k, m, A, c, ls, rfl, rfl, hk, hmk, hm0, ho, hls, hv, hb⟩ := hrel
    obtain ⟨wo, rfl⟩ : ∃ wo : World, wo = wr := ⟨_, rfl⟩
    have HO := Lib.hid ho
    have HM0 := Lib.hid hm0
    have HLS := Lib.hid hls
    have HV := Lib.hid hv
    have HB := Lib.hid hb
    clear ho hls hv hb hm0
    by_cases hlt : k < n
    · obtain ⟨x, hx⟩ : ∃ v, ab[k]? = some v := ⟨_, List.getElem?_eq_getElem (by rw [HL.out]; exact hlt)⟩
      obtain ⟨b, o, rfl, hbl, c0, c1, c2, c3, c4⟩ := ent_at (HCH.out.sl.below HB.out) hx
      have hki : (k : Int) < (n : Int) := by omega
      have hk0 : (0 : Int) ≤ (k : Int) := by omega
      have hw1 : IntKind.i64.wrap ((k : Int) + 1) = (k : Int) + 1 := IntWalk.i64_in _ (by have := HN.out; omega)
      have hxa := HCH.out.at_ x (List.mem_of_getElem? hx)
      have hxl := HCH.out.len x (List.mem_of_getElem? hx)
      obtain ⟨br, hbr⟩ : ∃ br, rightB x.v = br := ⟨_, rfl⟩
      have HCR := Lib.hid (fun W (hb : Below wo.heap.size wo W) => Right_any W x ((hxa.below HB.out).below hb) hxl.1 hxl.2 br hbr)
      have HXA := Lib.hid (hxa.below HB.out)
      have HXX := Lib.hid hx
      have HBR := Lib.hid hbr
      have HLT := Lib.hid hlt
      clear hx hxa hxl hbr
      simp only [EntC.cells] at HCR
      go_wp2_with (fail)
      ((with_reducible refine (HCR.out _ (below_alloc _ _)).mono ?_); rintro e w2 ⟨rfl, hb2'⟩)
      obtain ⟨hlx, hb2⟩ := locs1 hb2'
      have HLX := Lib.hid hlx
      clear hb2' hlx
      clear c0 c1 c2 c3 c4 hbl
      cases br
      · have hv : vsOf ls = ((vsOf ab).take (k + 1)).filter (fun x => rightB x) := by
          rw [take_succ' (vsOf_at HXX.out), List.filter_append, ← HV.out]
          simp [HBR.out]
        have HV2 := Lib.hid hv
        have HB2 := Lib.hid hb2
        clear hv hb2
        go_wp2_with (fail)
        go_roundw
        case rel => exact ⟨k + 1, m, A, c, ls, by go_num, by simp, by omega, by omega, HM0.out, HO.out.below HB2.out, HLS.out.below HB2.out, HV2.out, HB.out.trans (HB2.out.mono HB.out.size)⟩
        case measure => simp [intOf]; omega
      · have hxr := rightB_true.1 HBR.out
        have HCF := Lib.hid (fresh_any w2 x (HXA.out.below hb2) (by rw [hxr.len]; omega))
        have HXR := Lib.hid hxr
        have HB2 := Lib.hid hb2
        obtain ⟨zX, kX, fX⟩ := HLX.out
        clear hb2 hxr
        simp only [EntC.cells] at HCF
        go_wp2_with (fail)
        ((with_reducible refine (HCF.out).mono ?_); rintro e w3 ⟨A', c', rfl, ho3, hb3⟩)
        have HO3 := Lib.hid ho3
        have HB3 := Lib.hid (HB2.out.trans (hb3.mono HB2.out.size))
        clear ho3 hb3 zX kX fX
        have HZ := Lib.hid (HB.out.trans (HB3.out.mono HB.out.size)).size
        have HOL := Lib.hid (HO.out.below HB3.out)
        have HLS2 := Lib.hid (HLS.out.put (x := ⟨x.v, A', c'⟩) HB3.out HB2.out.size HO3.out HXR.out (fun g hg => (HO.out.lt g hg).2))
        go_wp2_with (at_builtin; refine wpList_append_sl _ rfl (.tmp 22) (.tmp 25) _ rfl w1.heap.size 141 i0 _ 5 64 Tryz.underlying139 hi0 hz0 hz1 hz2 rfl (by omega) _ m (ls.map EntC.cells) rfl (HOL.out.alloc _) (some ⟨w3.heap.size, 0, none⟩) 1 1 ([(⟨x.v, A', c'⟩ : EntC)].map EntC.cells) rfl (Sl.new_ w3 141 (EntC.cells ⟨x.v, A', c'⟩)) (ents_len _) (ents_one _) (by have := HN.out; have := HLT.out; simp only [maxLen]; omega) (by have := HN.out; have := HLT.out; omega) (by have := HZ.out; simp; omega) ?_; intro A9 c9 w9 hown9 hg9 hat9)
        go_roundw
        case rel =>
          refine ⟨k + 1, m + 1, A9, c9, ls ++ [⟨x.v, A', c'⟩], by go_num, by simp, by omega, by omega, fun _ => Nat.succ_pos _, by simpa using hown9, (HLS2.out.below (below_alloc _ _)).snoc hg9 hat9, ?_, (HOL.out.alloc _).below_grown (Nat.le_refl _) (by have := HZ.out; simp; omega) ((HB.out.trans (HB3.out.mono HB.out.size)).alloc HZ.out _) hg9⟩
          rw [take_succ' (vsOf_at HXX.out), List.filter_append, ← HV.out]
          simp [HBR.out, vsOf]
        case measure => simp [intOf]; omega
    · obtain rfl : k = n := by omega
      have hki : ¬ ((k : Int) < (k : Int)) := by omega
      have hv := HV.out
      rw [List.take_of_length_le (by rw [vsOf_len, HL.out]; exact Nat.le_refl _)] at hv
      have HV2 := Lib.hid hv
      have HCS := Lib.hid (sorted_both wo (HE.out.below ((HB1.out.trans (HB.out.mono HB1.out.size)).mono HB0.out)) w1.heap.size (Nat.le_trans HB0.out HB1.out.size) A c m ls HO.out (by have := HN.out; omega) HM0.out HLS.out)
      have HSZ := Lib.hid HB.out.size
      clear hv
      go_wp2_with (fail)
      ((with_reducible refine HCS.out.mono ?_); rintro e w2 ⟨q, ys, cs, rfl, hq, hp, hs, hsl, hea, hb2⟩)
      have HQ := Lib.hid hq
      have HP := Lib.hid hp
      have HPL := Lib.hid (join_plain HV2.out hp hs)
      have HSL := Lib.hid hsl
      have HEA := Lib.hid hea
      have HB2 := Lib.hid (HB.out.trans (hb2 HSZ.out))
      clear hq hp hs hsl hea hb2 HCS
      have hlq : (cptF ys).length ≤ m := by
        have h1 := cptF_len ys
        rw [HP.out.length_eq] at h1
        have h2 := HO.out.2.2
        simp only [List.length_map] at h2
        omega
      have HLQ := Lib.hid hlq
      clear hlq
      obtain ⟨zs, hzs⟩ : ∃ zs, cptF ys = zs := ⟨_, rfl⟩
      rw [hzs] at HQ HPL HSL HLQ
      have HZA : Hid (∀ u ∈ zs, EntAt w2 u ∧ u.v.seen.length ≤ 1099511627776 ∧ u.v.text.length ≤ 140737488351232) := Lib.hid fun u hu => by
        rw [← hzs] at hu
        have hu2 := HP.out.mem_iff.1 (cptF_sub hu)
        have hr := HLS.out.right u hu2
        exact ⟨HEA.out u hu2, by rw [hr.len]; omega, Nat.le_trans hr.txt (by omega)⟩
      clear hzs HEA
      obtain ⟨i1, hi10, hz10, hz11, hz12⟩ := info_parts infoEnt
      go_wp2_with (fail)
      go_loopw [8, 31] (fun s i wr => ∃ (j : Nat) (A : Option Addr) (c : Nat), i = .int .i64 (j : Int) ∧ s = .slice A j c ∧ j ≤ q ∧ Own wr w2.heap.size 32 5 (.slice A j c) j ((zs.take j).map EntC.cells) ∧ Below w2.heap.size w2 wr) (fun _ i _ => q - (intOf i).toNat)
      case atStart => exact ⟨0, none, 0, rfl, rfl, Nat.zero_le _, Own.nil_ _ _ _ _, Below.refl _ _⟩
      case round =>
        obtain ⟨j, A0, cA, rfl, rfl, hj, ho, hb⟩ := hrel
        obtain ⟨wp, rfl⟩ : ∃ wp : World, wp = wr := ⟨_, rfl⟩
        have HO2 := Lib.hid ho
        have HB3 := Lib.hid hb
        clear ho hb
        by_cases hlt : j < q
        · obtain ⟨x, hx⟩ : ∃ v, zs[j]? = some v := ⟨_, List.getElem?_eq_getElem (by have := HQ.out; omega)⟩
          obtain ⟨b, o, rfl, hbl, c0, c1, c2, c3, c4⟩ := ent_at (HSL.out.below HB3.out) hx
          have hji : (j : Int) < (q : Int) := by omega
          have hj0 : (0 : Int) ≤ (j : Int) := by omega
          have hw1 : IntKind.i64.wrap ((j : Int) + 1) = (j : Int) + 1 := IntWalk.i64_in _ (by have := HN.out; have := HLQ.out; have := HQ.out; omega)
          have HXX := Lib.hid hx
          have HZ3 := Lib.hid HB3.out.size
          have HLX := Lib.hid (Loc.new_ wp (EntC.cells x).toArray 141)
          simp only [EntC.cells] at HLX
          obtain ⟨zX, kX, fX⟩ := HLX.out
          clear hx
          have HS1 : Hid (∀ o, Sl ((wp.alloc o).alloc (.cells (EntC.cells x).toArray 32)) 5 (some ⟨wp.heap.size + 1, 0, none⟩) 1 ([x].map EntC.cells)) := Lib.hid fun o => by
            have := Sl.new_ (wp.alloc o) 32 (EntC.cells x)
            rw [World.size_alloc] at this
            exact this
          go_wp2_with (at_builtin; (refine wpList_append_sl _ rfl (.tmp 35) (.tmp 37) _ rfl w2.heap.size 32 i1 _ 5 64 Tryz.underlying22 hi10 hz10 hz11 hz12 rfl (by omega) _ j ((zs.take j).map EntC.cells) rfl ((HO2.out.alloc _).alloc _) (some ⟨wp.heap.size + 1, 0, none⟩) 1 1 ([x].map EntC.cells) rfl (HS1.out _) (ents_len _) (ents_one _) (by have := HN.out; have := HLQ.out; have := HQ.out; simp only [maxLen]; omega) (by have := HN.out; have := HLQ.out; have := HQ.out; omega) (by have := HZ3.out; simp; omega) ?_); intro A9 c9 w9 hown9 hg9 hat9)
          go_roundw
          case rel =>
            refine ⟨j + 1, A9, c9, by go_num, by simp, by omega, ?_, ((HO2.out.alloc _).alloc _).below_grown (Nat.le_refl _) (by have := HZ3.out; simp; omega) ((HB3.out.alloc HZ3.out _).alloc (by have := HZ3.out; simp; omega) _) hg9⟩
            rw [take_succ' HXX.out, List.map_append]
            exact hown9
          case measure => simp [intOf]; omega
        · obtain rfl : j = q := by omega
          have hji : ¬ ((j : Int) < (j : Int)) := by omega
          go_wp2_with (fail)
          go_ret
          have ht : zs.take j = zs := List.take_of_length_le (by have := HQ.out; omega)
          have ho := HO2.out
          rw [ht] at ho
          have hlen : (joinF (vsOf a ++ vsOf b)).length = j := by
            have h1 := HPL.out
            rw [← HAB.out] at h1
            rw [show vsOf a ++ vsOf b = vsOf (a ++ b) by simp [vsOf], ← h1, vsOf_len, HQ.out]
          refine ⟨A0, cA, zs, by rw [hlen]; rfl, ⟨by rw [hlen]; exact ho.sl', fun u hu => (HZA.out u hu).1.below HB3.out, fun u hu => (HZA.out u hu).2⟩, ?_, ?_⟩
          · have h1 := HPL.out
            rw [← HAB.out] at h1
            rw [show vsOf a ++ vsOf b = vsOf (a ++ b) by simp [vsOf], ← h1]
          · exact (HB1.out.trans (HB2.out.mono HB1.out.size)).trans (HB3.out.mono (Nat.le_trans HB1.out.size HB2.out.size))
end Go.Proofs.YtjncmlglhegnaaaGreatDoor
