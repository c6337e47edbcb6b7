/- chain: slices.Equal at ints, Same, follows, walked. -/
/- chain: follows, walked. -/
/- chain: Check, walked. -/
/- chain: Convicts, Encode, walked. -/
import Derived.Test.YtjncmlglhegnaaaGreatDoorChainB
import Derived.Test.YtjncmlglhegnaaaGreatDoorWireS
namespace Go.Proofs.YtjncmlglhegnaaaGreatDoor
open Go.RowKit Go.Sort Go.Lib

theorem Sl.ints {w : World} {A : Option Addr} {n : Nat} {l : List Int} (h : Sl w 1 A n (l.map intC)) : l.length = n ∧ (n = 0 ∨ ∃ b o, A = some ⟨b, o, none⟩ ∧ b < w.heap.size ∧ ∀ j, j < l.length → w.cell? ⟨b, o + j, none⟩ = some (.int .i64 (l.getD j 0))) := by
  have hl : l.length = n := by simpa using h.1
  refine ⟨hl, ?_⟩
  rcases Nat.eq_zero_or_pos n with h0 | h0
  · exact .inl h0
  · refine .inr ?_
    have at_ : ∀ j, j < l.length → ∃ b o, A = some ⟨b, o, none⟩ ∧ b < w.heap.size ∧ w.cell? ⟨b, o + j, none⟩ = some (.int .i64 (l.getD j 0)) := fun j hj =>
      h.at1 (k := j) (v := .int .i64 (l.getD j 0)) (by rw [List.getElem?_map, List.getElem?_eq_getElem hj, List.getD_eq_getElem?_getD, List.getElem?_eq_getElem hj]; rfl)
    obtain ⟨b, o, hA, hb, _⟩ := at_ 0 (by omega)
    refine ⟨b, o, hA, hb, fun j hj => ?_⟩
    obtain ⟨b', o', hA', hb', hc⟩ := at_ j hj
    rw [hA] at hA'
    injection hA' with hA'
    injection hA' with e1 e2
    rw [e1, e2]
    exact hc
set_option maxRecDepth 100000 in
set_option maxHeartbeats 1000000 in
set_option maxRecDepth 100000 in
set_option maxHeartbeats 1000000 in
set_option maxRecDepth 100000 in
set_option maxHeartbeats 1000000 in
theorem Equal_any (w : World) (A1 A2 : Option Addr) (n c m d : Nat) (xs ys : List Int) (h1 : Sl w 1 A1 n (xs.map intC)) (h2 : Sl w 1 A2 m (ys.map intC)) (hn : n ≤ 1099511627776) (hm : m ≤ 1099511627776) (r : Bool) (hr : decide (xs = ys) = r) :
    Calls Tryz.prog 203 #[.slice A1 n c, .slice A2 m d] w fun e w' => e = .returned (.bool r) ∧ ∃ q, w' = w.drewN q := by
  obtain ⟨l1, g1⟩ := h1.ints
  obtain ⟨l2, g2⟩ := h2.ints
  by_cases hnm : n = m
  · subst hnm
    rcases g1 with rfl | ⟨b1, o1, rfl, _, c1⟩
    · refine (slices_Equal_int_empty A1 A2 c 0 d w (by omega)).mono fun e w' ⟨he, hw⟩ => ⟨?_, 0, hw⟩
      rw [he, ← hr]
      have hx : xs = [] := List.length_eq_zero_iff.1 l1
      have hy : ys = [] := List.length_eq_zero_iff.1 l2
      subst hx hy
      rfl
    · rcases g2 with rfl | ⟨b2, o2, rfl, _, c2⟩
      · refine (slices_Equal_int_empty (some ⟨b1, o1, none⟩) A2 c 0 d w (by omega)).mono fun e w' ⟨he, hw⟩ => ⟨?_, 0, hw⟩
        rw [he, ← hr]
        have hx : xs = [] := List.length_eq_zero_iff.1 l1
        have hy : ys = [] := List.length_eq_zero_iff.1 l2
        subst hx hy
        rfl
      · refine (slices_Equal_int b1 o1 n c b2 o2 n d xs ys w (by omega) (by omega) (by omega) (by omega) c1 c2).mono fun e w' ⟨he, hw⟩ => ⟨?_, hw⟩
        have e1 : xs.take n = xs := by rw [← l1, List.take_length]
        have e2 : ys.take n = ys := by rw [← l2, List.take_length]
        rw [he, ← hr, e1, e2]
        by_cases h : xs = ys <;> simp [h]
  · have hr2 : r = false := by
      rw [← hr]
      refine decide_eq_false fun h => hnm ?_
      rw [← l1, ← l2, h]
    subst hr2
    have hi : ¬ ((n : Int) = (m : Int)) := by omega
    have hb : ((n : Int) == (m : Int)) = false := by rw [beq_eq_false_iff_ne]; intro h; exact hnm (by omega)
    clear h1 h2 l1 l2 g1 g2 hr hnm
    go_enter Tryz.func203, Tryz.ntmps203
    go_wp2_with (fail)
    go_ret
    exact ⟨rfl, 0, rfl⟩
set_option maxRecDepth 100000 in
set_option maxHeartbeats 2000000 in
theorem Same_any (w : World) (a b : EntC) (ha : EntAt w a) (hb : EntAt w b) (hn : a.v.seen.length ≤ 1099511627776) (hm : b.v.seen.length ≤ 1099511627776) (r : Bool) (hr : sameB a.v b.v = r) :
    Calls Tryz.prog 178 #[.agg a.cells.toArray, .agg b.cells.toArray] w fun x w' => x = .returned (.bool r) ∧ Below w.heap.size w w' := by
  obtain ⟨⟨d1, n1, y1, l1, t1⟩, A1, c1⟩ := a
  obtain ⟨⟨d2, n2, y2, l2, t2⟩, A2, c2⟩ := b
  simp only [EntC.cells, EntAt, sameB] at ha hb hn hm hr ⊢
  have HC := Lib.hid (fun o o' q hq => Equal_any ((w.alloc o).alloc o') A1 A2 l1.length c1 l2.length c2 l1 l2 ((ha.alloc o).alloc o') ((hb.alloc o).alloc o') hn hm q hq)
  have HB := Lib.hid (fun o o' => ((Below.refl w.heap.size w).alloc (Nat.le_refl _) o).alloc (by simp) o')
  clear ha hb hn hm
  have HR := Lib.hid hr
  clear hr
  generalize l1.length = k1 at *
  generalize l2.length = k2 at *
  by_cases hd : d1 = d2
  case neg =>
    have hdb : (d1 == d2) = false := by simpa using hd
    have HR2 : Hid (false = r) := Lib.hid (by rw [← HR.out]; simp [hd])
    clear HR
    go_enter Tryz.func178, Tryz.ntmps178
    go_wp2_with (fail)
    go_ret
    exact ⟨by rw [← HR2.out]; rfl, HB.out _ _⟩
  subst hd
  by_cases hd : n1 = n2
  case neg =>
    have hdb : (n1 == n2) = false := by simpa using hd
    have HR2 : Hid (false = r) := Lib.hid (by rw [← HR.out]; simp [hd])
    clear HR
    go_enter Tryz.func178, Tryz.ntmps178
    go_wp2_with (fail)
    go_ret
    exact ⟨by rw [← HR2.out]; rfl, HB.out _ _⟩
  subst hd
  by_cases hd : y1 = y2
  case neg =>
    have hdb : (y1 == y2) = false := by simpa using hd
    have HR2 : Hid (false = r) := Lib.hid (by rw [← HR.out]; simp [hd])
    clear HR
    go_enter Tryz.func178, Tryz.ntmps178
    go_wp2_with (fail)
    go_ret
    exact ⟨by rw [← HR2.out]; rfl, HB.out _ _⟩
  subst hd
  by_cases hd : l1 = l2
  case neg =>
    have HC := Lib.hid (fun o o' => HC.out o o' false (by simpa using hd))
    have HR2 : Hid (false = r) := Lib.hid (by rw [← HR.out]; simp [hd])
    clear HR
    clear hd
    go_enter Tryz.func178, Tryz.ntmps178
    go_wp2_with ((with_reducible refine (HC.out _ _).mono ?_); rintro _ w9 ⟨rfl, nq, hw9⟩; subst hw9)
    go_ret
    exact ⟨by rw [← HR2.out]; rfl, bdrewN (HB.out _ _) _⟩
  subst hd
  have HC := Lib.hid (fun o o' => HC.out o o' true (by simp))
  by_cases hd : t1 = t2
  case neg =>
    have HR2 : Hid (false = r) := Lib.hid (by rw [← HR.out]; simp [hd])
    clear HR
    have hdb : (t1 == t2) = false := by simpa using hd
    clear hd
    go_enter Tryz.func178, Tryz.ntmps178
    go_wp2_with ((with_reducible refine (HC.out _ _).mono ?_); rintro _ w9 ⟨rfl, nq, hw9⟩; subst hw9)
    go_ret
    exact ⟨by rw [← HR2.out]; rfl, bdrewN (HB.out _ _) _⟩
  subst hd
  have HR2 : Hid (true = r) := Lib.hid (by rw [← HR.out]; simp)
  clear HR
  go_enter Tryz.func178, Tryz.ntmps178
  go_wp2_with ((with_reducible refine (HC.out _ _).mono ?_); rintro _ w9 ⟨rfl, nq, hw9⟩; subst hw9)
  go_ret
  exact ⟨by rw [← HR2.out]; rfl, bdrewN (HB.out _ _) _⟩
end Go.Proofs.YtjncmlglhegnaaaGreatDoor
namespace Go.Proofs.YtjncmlglhegnaaaGreatDoor
open Go.RowKit Go.Sort Go.Lib

theorem lessSome_drop {l m : List Int} {k : Nat} {x y : Int} (hx : l[k]? = some x) (hy : m[k]? = some y) : lessSome (l.drop k) (m.drop k) = (decide (y < x) || lessSome (l.drop (k + 1)) (m.drop (k + 1))) := by
  rw [drop_at' hx, drop_at' hy]
  rfl
set_option maxRecDepth 100000 in
set_option maxHeartbeats 2000000 in
theorem follows_any (w : World) (a b : EntC) (ha : EntAt w a) (hb : EntAt w b) (hn : a.v.seen.length = 8) (hm : b.v.seen.length = 8) (r : Int) (hr : followsF a.v b.v = r) :
    Calls Tryz.prog 109 #[.agg a.cells.toArray, .agg b.cells.toArray] w fun x w' => x = .returned (.int .i64 r) ∧ Below w.heap.size w w' := by
  obtain ⟨⟨d1, n1, y1, l1, t1⟩, A1, c1⟩ := a
  obtain ⟨⟨d2, n2, y2, l2, t2⟩, A2, c2⟩ := b
  simp only [EntC.cells, EntAt, followsF] at ha hb hn hm hr ⊢
  rw [hn, hm]
  have HB := Lib.hid (fun o o' => ((Below.refl w.heap.size w).alloc (Nat.le_refl _) o).alloc (by simp) o')
  by_cases hd : y2 < y1
  · rw [if_pos hd] at hr
    have HR := Lib.hid hr
    clear hr ha hb hn hm
    go_enter Tryz.func109, Tryz.ntmps109
    go_wp2_with (fail)
    go_ret
    exact ⟨by rw [← HR.out]; rfl, HB.out _ _⟩
  · have hd' : y1 ≤ y2 := by omega
    rw [if_neg hd] at hr
    have HR := Lib.hid hr
    have HA := Lib.hid ha
    have HB2 := Lib.hid hb
    have H1 := Lib.hid hn
    have H2 := Lib.hid hm
    clear hr ha hb hn hm hd
    go_enter Tryz.func109, Tryz.ntmps109
    go_wp2_with (fail)
    go_loop [15] (fun i => ∃ k : Nat, k ≤ 8 ∧ i = .int .i64 (k : Int) ∧ lessSome (l1.drop k) (l2.drop k) = lessSome l1 l2) (fun i => 8 - (Go.RowKit.intOf i).toNat)
    case atStart => exact ⟨0, Nat.zero_le _, rfl, rfl⟩
    case round =>
      obtain ⟨k, hk, rfl, hf⟩ := hrel
      have HF := Lib.hid hf
      clear hf
      by_cases hlt : k < 8
      · obtain ⟨x, hx⟩ : ∃ x, l1[k]? = some x := ⟨_, List.getElem?_eq_getElem (by have := H1.out; omega)⟩
        obtain ⟨y, hy⟩ : ∃ x, l2[k]? = some x := ⟨_, List.getElem?_eq_getElem (by have := H2.out; omega)⟩
        obtain ⟨b1, o1, rfl, hb1, e1⟩ := HA.out.at1 (k := k) (v := .int .i64 x) (by rw [List.getElem?_map, hx]; rfl)
        obtain ⟨b2, o2, rfl, hb2, e2⟩ := HB2.out.at1 (k := k) (v := .int .i64 y) (by rw [List.getElem?_map, hy]; rfl)
        have f1 : ∀ o o', ((w.alloc o).alloc o').cell? ⟨b1, o1 + k, none⟩ = some (.int .i64 x) := fun o o' => by
          rw [World.cell?_alloc_lt (w.alloc o) o' _ (by simp; omega), World.cell?_alloc_lt w o _ hb1]
          exact e1
        have f2 : ∀ o o', ((w.alloc o).alloc o').cell? ⟨b2, o2 + k, none⟩ = some (.int .i64 y) := fun o o' => by
          rw [World.cell?_alloc_lt (w.alloc o) o' _ (by simp; omega), World.cell?_alloc_lt w o _ hb2]
          exact e2
        have hki : (k : Int) < 8 := by omega
        have hk0 : (0 : Int) ≤ (k : Int) := by omega
        have HLT := Lib.hid hlt
        have hf := HF.out
        rw [lessSome_drop hx hy] at hf
        by_cases hxy : y < x
        · rw [decide_eq_true hxy, Bool.true_or] at hf
          have HF2 : Hid (7 = r) := Lib.hid (by rw [← HR.out, ← hf]; rfl)
          clear hlt hk hx hy hf e1 e2 hb1 hb2
          go_wp2_with (fail)
          go_ret
          exact ⟨by rw [← HF2.out]; rfl, HB.out _ _⟩
        · rw [decide_eq_false hxy, Bool.false_or] at hf
          have hxy' : x ≤ y := by omega
          have HF2 := Lib.hid hf
          have hwk : IntKind.i64.wrap ((k : Int) + 1) = (k : Int) + 1 := IntWalk.i64_in _ (by omega)
          clear hlt hk hx hy hf hxy e1 e2 hb1 hb2
          go_wp2_with (fail)
          go_round
          case rel => exact ⟨k + 1, HLT.out, by go_num, HF2.out⟩
          case measure => have := HLT.out; simp [Go.RowKit.intOf]; omega
      · obtain rfl : k = 8 := by omega
        have hf := HF.out
        rw [List.drop_eq_nil_of_le (by rw [H1.out]; exact Nat.le_refl _)] at hf
        have HF2 : Hid (0 = r) := Lib.hid (by rw [← HR.out, ← hf]; rfl)
        clear hlt hk hf
        go_wp2_with (fail)
        go_ret
        exact ⟨by rw [← HF2.out]; rfl, HB.out _ _⟩
end Go.Proofs.YtjncmlglhegnaaaGreatDoor
namespace Go.Proofs.YtjncmlglhegnaaaGreatDoor
open Go.RowKit Go.Sort Go.Lib

theorem ent_at {w : World} {A : Option Addr} {n k : Nat} {l : List EntC} {v : EntC} (h : Sl w 5 A n (l.map EntC.cells)) (hx : l[k]? = some v) : ∃ b o, A = some ⟨b, o, none⟩ ∧ b < w.heap.size ∧
    w.cell? ⟨b, o + k * 5, none⟩ = some (.int .i64 v.v.dev) ∧ w.cell? ⟨b, o + k * 5 + 1, none⟩ = some (.int .i64 v.v.no) ∧ w.cell? ⟨b, o + k * 5 + 2, none⟩ = some (.int .i64 v.v.day) ∧ w.cell? ⟨b, o + k * 5 + 3, none⟩ = some (.slice v.A v.v.seen.length v.c) ∧ w.cell? ⟨b, o + k * 5 + 4, none⟩ = some (.string ⟨v.v.text.toArray⟩) := by
  obtain ⟨b, o, hA, hb, hc⟩ := h.2 k v.cells (by rw [List.getElem?_map, hx]; rfl)
  exact ⟨b, o, hA, hb, hc 0 _ rfl, hc 1 _ rfl, hc 2 _ rfl, hc 3 _ rfl, hc 4 _ rfl⟩
theorem ent_is {w w' : World} {A : Option Addr} {n k b o : Nat} {l : List EntC} {v : EntC} (h : Sl w 5 A n (l.map EntC.cells)) (hx : l[k]? = some v) (hA : A = some ⟨b, o, none⟩) (hb : Below w.heap.size w w') : b < w'.heap.size ∧
    w'.cell? ⟨b, o + k * 5, none⟩ = some (.int .i64 v.v.dev) ∧ w'.cell? ⟨b, o + k * 5 + 1, none⟩ = some (.int .i64 v.v.no) ∧ w'.cell? ⟨b, o + k * 5 + 2, none⟩ = some (.int .i64 v.v.day) ∧ w'.cell? ⟨b, o + k * 5 + 3, none⟩ = some (.slice v.A v.v.seen.length v.c) ∧ w'.cell? ⟨b, o + k * 5 + 4, none⟩ = some (.string ⟨v.v.text.toArray⟩) := by
  obtain ⟨b2, o2, hA2, hb2, hc⟩ := ent_at (h.below hb) hx
  rw [hA] at hA2
  injection hA2 with hA2
  injection hA2 with h1 h2
  subst h1 h2
  exact ⟨hb2, hc⟩
/-- a list of entries in memory -/
structure ChAt (w : World) (A : Option Addr) (n : Nat) (l : List EntC) : Prop where
  sl : Sl w 5 A n (l.map EntC.cells)
  at_ : ∀ e ∈ l, EntAt w e
  len : ∀ e ∈ l, e.v.seen.length ≤ 1099511627776 ∧ e.v.text.length ≤ 140737488351232
theorem ChAt.below {w w' : World} {A : Option Addr} {n : Nat} {l : List EntC} (h : ChAt w A n l) (hb : Below w.heap.size w w') : ChAt w' A n l := ⟨h.sl.below hb, fun e he => (h.at_ e he).below hb, h.len⟩
def vsOf (l : List EntC) : List EntV := l.map (·.v)
theorem vsOf_at {l : List EntC} {k : Nat} {e : EntC} (h : l[k]? = some e) : (vsOf l)[k]? = some e.v := by unfold vsOf; rw [List.getElem?_map, h]; rfl
theorem vsOf_len (l : List EntC) : (vsOf l).length = l.length := by unfold vsOf; exact List.length_map ..
theorem scanE_step {f : Nat → Int} {k i : Nat} {r : Int} (h : scanE f (k + 1) i = r) : (f i = 0 ∧ scanE f k (i + 1) = r) ∨ (f i ≠ 0 ∧ f i = r) := by
  simp only [scanE] at h
  by_cases h0 : f i = 0
  · rw [if_pos h0] at h; exact .inl ⟨h0, h⟩
  · rw [if_neg h0] at h; exact .inr ⟨h0, h⟩
theorem errAt_arg {l : List EntV} {k : Nat} {x : EntV} (hx : l[k]? = some x) (hr : rightB x = false) : errAt l k = 1 := by
  unfold errAt
  rw [hx]
  simp only [hr, Bool.false_eq_true, if_false]
theorem errAt_is {l : List EntV} {k : Nat} {x e : EntV} (hx : l[k]? = some x) (hr : rightB x = true) (h0 : l[0]? = some e) : errAt l k = if e.dev = x.dev then (if (k : Int) < x.no then 23 else if x.no < (k : Int) then 5 else (match k with | 0 => 0 | j + 1 => match l[j]? with | none => 0 | some p => followsF p x)) else 21 := by
  have hh : l.head?.map (·.dev) = some e.dev := by
    cases l with
    | nil => simp at h0
    | cons a t => simp at h0; subst h0; rfl
  unfold errAt
  rw [hx, hh]
  simp only [hr, if_true, Option.some.injEq]
  cases k <;> rfl
theorem errAt_owner {l : List EntV} {k : Nat} {x e : EntV} (hx : l[k]? = some x) (hr : rightB x = true) (h0 : l[0]? = some e) (h : e.dev ≠ x.dev) : errAt l k = 21 := by
  rw [errAt_is hx hr h0, if_neg h]
theorem errAt_gap {l : List EntV} {k : Nat} {x e : EntV} (hx : l[k]? = some x) (hr : rightB x = true) (h0 : l[0]? = some e) (h : e.dev = x.dev) (h1 : (k : Int) < x.no) : errAt l k = 23 := by
  rw [errAt_is hx hr h0, if_pos h, if_pos h1]
theorem errAt_twice {l : List EntV} {k : Nat} {x e : EntV} (hx : l[k]? = some x) (hr : rightB x = true) (h0 : l[0]? = some e) (h : e.dev = x.dev) (h1 : x.no < (k : Int)) : errAt l k = 5 := by
  rw [errAt_is hx hr h0, if_pos h, if_neg (by omega), if_pos h1]
theorem errAt_first {l : List EntV} {x e : EntV} (hx : l[0]? = some x) (hr : rightB x = true) (h0 : l[0]? = some e) (h : e.dev = x.dev) (h1 : x.no = 0) : errAt l 0 = 0 := by
  rw [errAt_is hx hr h0, if_pos h, if_neg (by omega), if_neg (by omega)]
theorem errAt_next {l : List EntV} {m : Nat} {x e p : EntV} (hx : l[m + 1]? = some x) (hr : rightB x = true) (h0 : l[0]? = some e) (h : e.dev = x.dev) (h1 : x.no = ((m + 1 : Nat) : Int)) (hp : l[m]? = some p) : errAt l (m + 1) = followsF p x := by
  rw [errAt_is hx hr h0, if_pos h, if_neg (by omega), if_neg (by omega)]
  simp only [hp]
theorem errAt_right {l : List EntV} {k : Nat} {x : EntV} (hx : l[k]? = some x) (h : errAt l k = 0) : RightE x := ((errAt_zero hx).1 h).right
/-- the first entries have no error -/
def FirstOk (l : List EntV) (k : Nat) : Prop := ∀ j, j < k → errAt l j = 0
theorem FirstOk.next {l : List EntV} {k : Nat} (h : FirstOk l k) (h1 : errAt l k = 0) : FirstOk l (k + 1) := fun j hj => by
  rcases Nat.lt_or_ge j k with h2 | h2
  · exact h j h2
  · obtain rfl : j = k := by omega
    exact h1
set_option maxRecDepth 100000 in
set_option maxHeartbeats 8000000 in
theorem Check_any (w : World) (A : Option Addr) (n c : Nat) (l : List EntC) (hs : ChAt w A n l) (r : Int) (hr : checkF (vsOf l) = r) :
    Calls Tryz.prog 65 #[.slice A n c] w fun x w' => x = .returned (.int .i64 r) ∧ Below w.heap.size w w' := by
  have hll : l.length = n := by simpa using hs.sl.1
  have hr2 := hr
  unfold checkF at hr2
  rw [vsOf_len, hll] at hr2
  by_cases hn : 400 < n
  · rw [if_pos hn] at hr2
    have hni : 400 < (n : Int) := by omega
    clear hs hr hn
    have HR := Lib.hid hr2
    clear hr2
    go_enter Tryz.func65, Tryz.ntmps65
    go_wp2_with (fail)
    go_ret
    exact ⟨by rw [← HR.out]; rfl, Below.refl _ _⟩
  rw [if_neg hn] at hr2
  have hni : (n : Int) ≤ 400 := by omega
  have HN := Lib.hid hni
  have HL := Lib.hid hll
  have HS := Lib.hid hs
  have HR := Lib.hid hr2
  clear hll hr hr2 hs hn
  go_enter Tryz.func65, Tryz.ntmps65
  go_wp2_with (fail)
  go_loopw [11] (fun iv wr => ∃ k : Nat, k ≤ n ∧ iv = .int .i64 (k : Int) ∧ Below w.heap.size w wr ∧ FirstOk (vsOf l) k ∧ scanE (errAt (vsOf l)) (n - k) k = r) (fun i _ => n - (Go.RowKit.intOf i).toNat)
  case atStart => exact ⟨0, Nat.zero_le _, rfl, Below.refl _ _, fun j hj => absurd hj (Nat.not_lt_zero _), HR.out⟩
  case round =>
    obtain ⟨k, hk, rfl, hb, hz, hf⟩ := hrel
    obtain ⟨wo, rfl⟩ : ∃ wo : World, wo = wr := ⟨_, rfl⟩
    have HB := Lib.hid hb
    have HZ := Lib.hid hz
    have HF := Lib.hid hf
    clear hb hf hz
    by_cases hlt : k < n
    · obtain ⟨x, hx⟩ : ∃ v, l[k]? = some v := ⟨_, List.getElem?_eq_getElem (by rw [HL.out]; exact hlt)⟩
      obtain ⟨e0, h0⟩ : ∃ v, l[0]? = some v := ⟨_, List.getElem?_eq_getElem (by rw [HL.out]; omega)⟩
      have HO := Lib.hid (HS.out.below HB.out)
      obtain ⟨b, o, rfl, hbl, c0, c1, c2, c3, c4⟩ := ent_at HO.out.sl hx
      have hki : (k : Int) < (n : Int) := by omega
      have hk0 : (0 : Int) ≤ (k : Int) := by omega
      have HX := Lib.hid hx
      have H0 := Lib.hid h0
      have HLT := Lib.hid hlt
      have hf := HF.out
      rw [show n - k = (n - (k + 1)) + 1 by omega] at hf
      have HW := Lib.hid (scanE_step hf)
      obtain ⟨br, hbr⟩ : ∃ br, rightB x.v = br := ⟨_, rfl⟩
      have HC := Lib.hid (fun W (hb : Below wo.heap.size wo W) => Right_any W x ((HO.out.at_ x (List.mem_of_getElem? HX.out)).below hb) (HO.out.len x (List.mem_of_getElem? HX.out)).1 (HO.out.len x (List.mem_of_getElem? HX.out)).2 br hbr)
      have HBR := Lib.hid hbr
      obtain ⟨⟨dev, no, day, seen, text⟩, Ax, cx⟩ := x
      simp only [EntC.cells] at HC c0 c1 c2 c3 c4
      simp only at hbr
      clear h0 hf hlt hk HF
      go_wp2_with (fail)
      ((with_reducible refine (HC.out _ ((Below.refl wo.heap.size wo).alloc (Nat.le_refl _) _)).mono ?_); rintro _ w1 ⟨rfl, hb1⟩)
      obtain ⟨hX, hbT⟩ := locs1 hb1
      have X := Lib.hid hX
      clear hX
      replace HB := Lib.hid (HB.out.trans (hbT.mono HB.out.size))
      replace HO := Lib.hid (HO.out.below hbT)
      clear hbT hb1 
      have HBL := Lib.hid (Below.refl w1.heap.size w1)
      clear c0 c1 c2 c3 c4 hbl
      cases br
      · have e1 := errAt_arg (vsOf_at hx) hbr
        have HF2 : Hid (1 = r) := Lib.hid (by rcases HW.out with ⟨h, _⟩ | ⟨_, h⟩ <;> omega)
        clear hx hbr e1
        go_wp2_with (fail)
        go_ret
        exact ⟨by rw [← HF2.out]; rfl, HB.out⟩
      obtain ⟨hbl, d0, d1, d2, d3, d4⟩ := ent_is HO.out.sl H0.out rfl HBL.out
      rw [Nat.zero_mul, Nat.add_zero] at d0
      by_cases hd : e0.v.dev = dev
      case neg =>
        have e1 := errAt_owner (vsOf_at hx) hbr (vsOf_at H0.out) hd
        have HF2 : Hid (21 = r) := Lib.hid (by rcases HW.out with ⟨h, _⟩ | ⟨_, h⟩ <;> omega)
        have hdb : (dev == e0.v.dev) = false := by rw [beq_eq_false_iff_ne]; exact fun h => hd h.symm
        have hdn : ¬ dev = e0.v.dev := fun h => hd h.symm
        clear hx hbr e1 hd d1 d2 d3 d4
        obtain ⟨zX, kX, fX⟩ := X.out
        go_wp2_with (fail)
        go_quiet (fail)
        go_wp2_with (fail)
        go_ret
        exact ⟨by rw [← HF2.out]; rfl, bdrewN HB.out _⟩
      by_cases hg : (k : Int) < no
      · have e1 := errAt_gap (vsOf_at hx) hbr (vsOf_at H0.out) hd hg
        have HF2 : Hid (23 = r) := Lib.hid (by rcases HW.out with ⟨h, _⟩ | ⟨_, h⟩ <;> omega)
        rw [hd] at d0
        clear hx hbr e1 hd d1 d2 d3 d4
        obtain ⟨zX, kX, fX⟩ := X.out
        go_wp2_with (fail)
        go_quiet (fail)
        go_wp2_with (fail)
        go_ret
        exact ⟨by rw [← HF2.out]; rfl, bdrewN HB.out _⟩
      have hg1 : no ≤ (k : Int) := by omega
      by_cases ht : no < (k : Int)
      · have e1 := errAt_twice (vsOf_at hx) hbr (vsOf_at H0.out) hd ht
        have HF2 : Hid (5 = r) := Lib.hid (by rcases HW.out with ⟨h, _⟩ | ⟨_, h⟩ <;> omega)
        rw [hd] at d0
        clear hx hbr e1 hd d1 d2 d3 d4 hg
        obtain ⟨zX, kX, fX⟩ := X.out
        go_wp2_with (fail)
        go_quiet (fail)
        go_wp2_with (fail)
        go_ret
        exact ⟨by rw [← HF2.out]; rfl, bdrewN HB.out _⟩
      obtain rfl : no = (k : Int) := by omega
      have hwk : IntKind.i64.wrap ((k : Int) + 1) = (k : Int) + 1 := IntWalk.i64_in _ (by have := HN.out; omega)
      by_cases hz : k = 0
      · have e1 : errAt (vsOf l) k = 0 := by subst hz; exact errAt_first (vsOf_at hx) hbr (vsOf_at H0.out) hd rfl
        have HF2 : Hid (scanE (errAt (vsOf l)) (n - (k + 1)) (k + 1) = r) := Lib.hid (by rcases HW.out with ⟨_, h⟩ | ⟨h, _⟩ <;> first | exact h | exact absurd e1 h)
        have HE1 := Lib.hid e1
        have hz2 : (k : Int) ≤ 0 := by omega
        rw [hd] at d0
        clear hx hbr e1 hd d1 d2 d3 d4 hg hz ht
        obtain ⟨zX, kX, fX⟩ := X.out
        go_wp2_with (fail)
        go_quiet (fail)
        go_wp2_with (fail)
        go_roundw
        case rel => exact ⟨k + 1, HLT.out, by go_num, bdrewN HB.out _, HZ.out.next HE1.out, HF2.out⟩
        case measure => have := HLT.out; simp [Go.RowKit.intOf]; omega
      obtain ⟨m, hm⟩ : ∃ m, k = m + 1 := ⟨k - 1, by omega⟩
      obtain ⟨p, hp⟩ : ∃ v, l[m]? = some v := ⟨_, List.getElem?_eq_getElem (by have := HLT.out; rw [HL.out]; omega)⟩
      have hpr : RightE p.v := errAt_right (vsOf_at hp) (HZ.out m (by omega))
      have hxr : RightE ⟨dev, (k : Int), day, seen, text⟩ := rightB_true.1 hbr
      have e1 : errAt (vsOf l) k = followsF p.v ⟨dev, (k : Int), day, seen, text⟩ := by
        subst hm
        exact errAt_next (vsOf_at hx) hbr (vsOf_at H0.out) hd rfl (vsOf_at hp)
      obtain ⟨ff, hff⟩ : ∃ ff, followsF p.v ⟨dev, (k : Int), day, seen, text⟩ = ff := ⟨_, rfl⟩
      rw [hff] at e1
      have HFO := Lib.hid (fun W (hb : Below w1.heap.size w1 W) => follows_any W p ⟨⟨dev, (k : Int), day, seen, text⟩, Ax, cx⟩ ((HO.out.at_ p (List.mem_of_getElem? hp)).below hb) ((HO.out.at_ _ (List.mem_of_getElem? hx)).below hb) hpr.len hxr.len ff hff)
      obtain ⟨_, p0, p1, p2, p3, p4⟩ := ent_is HO.out.sl hp rfl HBL.out
      have HP := Lib.hid (fun q => ent_is HO.out.sl hp rfl (bdrewN HBL.out q))
      simp only [EntC.cells] at HFO
      have hwm : IntKind.i64.wrap ((k : Int) - 1) = (m : Int) := by rw [IntWalk.i64_in _ (by have := HN.out; have := HLT.out; omega)]; omega
      have hkz : 0 < (k : Int) := by omega
      have hmn : (m : Int) < (n : Int) := by have := HLT.out; omega
      have hm0 : (0 : Int) ≤ (m : Int) := by omega
      have HM := Lib.hid hm
      have HE1 := Lib.hid e1
      rw [hd] at d0
      clear hx hbr e1 hd d1 d2 d3 d4 hg hz ht hm hp hpr hxr hff
      obtain ⟨zX, kX, fX⟩ := X.out
      go_wp2_with (fail)
      go_quiet (fail)
      have HBq := Lib.hid (bdrewN HBL.out nq)
      have HBr := Lib.hid (bdrewN HB.out nq)
      have XQ := Lib.hid (X.out.drewN nq)
      clear zX kX fX p0 p1 p2 p3 p4 hbl d0
      obtain ⟨hbl, p0, p1, p2, p3, p4⟩ := HP.out nq
      generalize w1.drewN nq = W1 at *
      obtain ⟨zXQ, kXQ, fXQ⟩ := XQ.out
      go_wp2_with (fail)
      go_region_with ((with_reducible refine (HFO.out _ ?hs1).mono ?_); (case hs1 => first | exact HBq.out | exact HBq.out.drew); rintro _ w2 ⟨rfl, hb2⟩)
      all_goals
        have HB2 := Lib.hid (HBr.out.trans ((Below.trans (Below.refl W1.heap.size W1).drew (by assumption)).mono HBr.out.size))
        clear zXQ kXQ fXQ p0 p1 p2 p3 p4 hbl hb2
        by_cases hf0 : ff = 0
        · have e1 := HE1.out
          rw [hf0] at e1
          have HF2 : Hid (scanE (errAt (vsOf l)) (n - (k + 1)) (k + 1) = r) := Lib.hid (by rcases HW.out with ⟨_, h⟩ | ⟨h, _⟩ <;> first | exact h | exact absurd e1 h)
          have HE2 := Lib.hid e1
          subst hf0
          clear e1
          go_wp2_with (fail)
          go_roundw
          case rel => exact ⟨k + 1, HLT.out, by go_num, HB2.out, HZ.out.next HE2.out, HF2.out⟩
          case measure => have := HLT.out; simp [Go.RowKit.intOf]; omega
        · have HF2 : Hid (ff = r) := Lib.hid (by rcases HW.out with ⟨h, _⟩ | ⟨_, h⟩; · exact absurd (HE1.out.symm.trans h) hf0
                                                 · exact HE1.out.symm.trans h)
          have hfb : (ff == 0) = false := by simpa using hf0
          go_wp2_with (fail)
          go_ret
          exact ⟨by rw [← HF2.out]; rfl, HB2.out⟩
    · obtain rfl : k = n := by omega
      have hki : (k : Int) ≤ (k : Int) := Int.le_refl _
      have hf := HF.out
      rw [Nat.sub_self] at hf
      have HF2 : Hid (0 = r) := Lib.hid hf
      clear hlt hk hf
      go_wp2_with (fail)
      go_ret
      exact ⟨by rw [← HF2.out]; rfl, HB.out⟩
end Go.Proofs.YtjncmlglhegnaaaGreatDoor
namespace Go.Proofs.YtjncmlglhegnaaaGreatDoor
open Go.RowKit Go.Sort Go.Lib

set_option maxRecDepth 100000 in
set_option maxHeartbeats 8000000 in
theorem Convicts_any (w : World) (a b : EntC) (ha : EntAt w a) (hb : EntAt w b) (la : a.v.seen.length ≤ 1099511627776 ∧ a.v.text.length ≤ 140737488351232) (lb : b.v.seen.length ≤ 1099511627776 ∧ b.v.text.length ≤ 140737488351232) (r : Bool) (hr : convictsB a.v b.v = r) :
    Calls Tryz.prog 135 #[.agg a.cells.toArray, .agg b.cells.toArray] w fun x w' => x = .returned (.bool r) ∧ Below w.heap.size w w' := by
  obtain ⟨ra, hra⟩ : ∃ q, rightB a.v = q := ⟨_, rfl⟩
  obtain ⟨rb, hrb⟩ : ∃ q, rightB b.v = q := ⟨_, rfl⟩
  obtain ⟨rs, hrs⟩ : ∃ q, sameB a.v b.v = q := ⟨_, rfl⟩
  unfold convictsB at hr
  rw [hra, hrb, hrs] at hr
  have HA := Lib.hid (fun W (h : Below w.heap.size w W) => Right_any W a (ha.below h) la.1 la.2 ra hra)
  have HC := Lib.hid (fun W (h : Below w.heap.size w W) => Right_any W b (hb.below h) lb.1 lb.2 rb hrb)
  have HS := Lib.hid (fun W (h : Below w.heap.size w W) => Same_any W a b (ha.below h) (hb.below h) la.1 lb.1 rs hrs)
  have HB := Lib.hid (Below.refl w.heap.size w)
  obtain ⟨⟨d1, n1, y1, l1, t1⟩, A1, c1⟩ := a
  obtain ⟨⟨d2, n2, y2, l2, t2⟩, A2, c2⟩ := b
  simp only [EntC.cells, EntAt] at HA HC HS hr ⊢
  generalize l1.length = k1 at *
  generalize l2.length = k2 at *
  have HR := Lib.hid hr
  clear ha hb la lb hr hra hrb hrs
  cases ra
  · go_enter Tryz.func135, Tryz.ntmps135
    go_wp2_with (fail)
    ((with_reducible refine (HA.out _ ((HB.out.alloc (Nat.le_refl _) _).alloc (by simp) _)).mono ?_); rintro _ w1 ⟨rfl, hb1⟩)
    obtain ⟨hX, hY, hbT⟩ := locs2 hb1
    have X := Lib.hid hX
    have Y := Lib.hid hY
    clear hX hY
    replace HB := Lib.hid (HB.out.trans (hbT.mono HB.out.size))
    clear hbT hb1 
    go_wp2_with (fail)
    go_ret
    exact ⟨by rw [← HR.out]; rfl, HB.out⟩
  cases rb
  · go_enter Tryz.func135, Tryz.ntmps135
    go_wp2_with (fail)
    ((with_reducible refine (HA.out _ ((HB.out.alloc (Nat.le_refl _) _).alloc (by simp) _)).mono ?_); rintro _ w1 ⟨rfl, hb1⟩)
    obtain ⟨hX, hY, hbT⟩ := locs2 hb1
    have X := Lib.hid hX
    have Y := Lib.hid hY
    clear hX hY
    replace HB := Lib.hid (HB.out.trans (hbT.mono HB.out.size))
    clear hbT hb1 
    obtain ⟨zX, kX, fX⟩ := X.out
    obtain ⟨zY, kY, fY⟩ := Y.out
    go_wp2_with (fail)
    ((with_reducible refine (HC.out _ HB.out).mono ?_); rintro _ w2 ⟨rfl, hb2⟩)
    have hbT := hb2
    replace HB := Lib.hid (HB.out.trans (hbT.mono HB.out.size))
    replace X := Lib.hid (X.out.below hbT)
    replace Y := Lib.hid (Y.out.below hbT)
    clear hbT hb2 zX kX fX zY kY fY
    go_wp2_with (fail)
    go_ret
    exact ⟨by rw [← HR.out]; rfl, HB.out⟩
  by_cases hd : d1 = d2
  case neg =>
    have hdb : (d1 == d2) = false := by simpa using hd
    have HR2 : Hid (false = r) := Lib.hid (by rw [← HR.out]; simp [hd])
    go_enter Tryz.func135, Tryz.ntmps135
    go_wp2_with (fail)
    ((with_reducible refine (HA.out _ ((HB.out.alloc (Nat.le_refl _) _).alloc (by simp) _)).mono ?_); rintro _ w1 ⟨rfl, hb1⟩)
    obtain ⟨hX, hY, hbT⟩ := locs2 hb1
    have X := Lib.hid hX
    have Y := Lib.hid hY
    clear hX hY
    replace HB := Lib.hid (HB.out.trans (hbT.mono HB.out.size))
    clear hbT hb1 
    obtain ⟨zX, kX, fX⟩ := X.out
    obtain ⟨zY, kY, fY⟩ := Y.out
    go_wp2_with (fail)
    ((with_reducible refine (HC.out _ HB.out).mono ?_); rintro _ w2 ⟨rfl, hb2⟩)
    have hbT := hb2
    replace HB := Lib.hid (HB.out.trans (hbT.mono HB.out.size))
    replace X := Lib.hid (X.out.below hbT)
    replace Y := Lib.hid (Y.out.below hbT)
    clear hbT hb2 zX kX fX zY kY fY
    obtain ⟨zX, kX, fX⟩ := X.out
    obtain ⟨zY, kY, fY⟩ := Y.out
    go_wp2_with (fail)
    go_ret
    exact ⟨by rw [← HR2.out]; rfl, HB.out⟩
  subst hd
  by_cases hd : n1 = n2
  case neg =>
    have hdb : (n1 == n2) = false := by simpa using hd
    have HR2 : Hid (false = r) := Lib.hid (by rw [← HR.out]; simp [hd])
    go_enter Tryz.func135, Tryz.ntmps135
    go_wp2_with (fail)
    ((with_reducible refine (HA.out _ ((HB.out.alloc (Nat.le_refl _) _).alloc (by simp) _)).mono ?_); rintro _ w1 ⟨rfl, hb1⟩)
    obtain ⟨hX, hY, hbT⟩ := locs2 hb1
    have X := Lib.hid hX
    have Y := Lib.hid hY
    clear hX hY
    replace HB := Lib.hid (HB.out.trans (hbT.mono HB.out.size))
    clear hbT hb1 
    obtain ⟨zX, kX, fX⟩ := X.out
    obtain ⟨zY, kY, fY⟩ := Y.out
    go_wp2_with (fail)
    ((with_reducible refine (HC.out _ HB.out).mono ?_); rintro _ w2 ⟨rfl, hb2⟩)
    have hbT := hb2
    replace HB := Lib.hid (HB.out.trans (hbT.mono HB.out.size))
    replace X := Lib.hid (X.out.below hbT)
    replace Y := Lib.hid (Y.out.below hbT)
    clear hbT hb2 zX kX fX zY kY fY
    obtain ⟨zX, kX, fX⟩ := X.out
    obtain ⟨zY, kY, fY⟩ := Y.out
    go_wp2_with (fail)
    go_ret
    exact ⟨by rw [← HR2.out]; rfl, HB.out⟩
  subst hd
  have HR2 : Hid ((!rs) = r) := Lib.hid (by rw [← HR.out]; simp)
  cases rs
  all_goals
    go_enter Tryz.func135, Tryz.ntmps135
    go_wp2_with (fail)
    ((with_reducible refine (HA.out _ ((HB.out.alloc (Nat.le_refl _) _).alloc (by simp) _)).mono ?_); rintro _ w1 ⟨rfl, hb1⟩)
    obtain ⟨hX, hY, hbT⟩ := locs2 hb1
    have X := Lib.hid hX
    have Y := Lib.hid hY
    clear hX hY
    replace HB := Lib.hid (HB.out.trans (hbT.mono HB.out.size))
    clear hbT hb1 
    obtain ⟨zX, kX, fX⟩ := X.out
    obtain ⟨zY, kY, fY⟩ := Y.out
    go_wp2_with (fail)
    ((with_reducible refine (HC.out _ HB.out).mono ?_); rintro _ w2 ⟨rfl, hb2⟩)
    have hbT := hb2
    replace HB := Lib.hid (HB.out.trans (hbT.mono HB.out.size))
    replace X := Lib.hid (X.out.below hbT)
    replace Y := Lib.hid (Y.out.below hbT)
    clear hbT hb2 zX kX fX zY kY fY
    obtain ⟨zX, kX, fX⟩ := X.out
    obtain ⟨zY, kY, fY⟩ := Y.out
    go_wp2_with (fail)
    ((with_reducible refine (HS.out _ HB.out).mono ?_); rintro _ w3 ⟨rfl, hb3⟩)
    have hbT := hb3
    replace HB := Lib.hid (HB.out.trans (hbT.mono HB.out.size))
    replace X := Lib.hid (X.out.below hbT)
    replace Y := Lib.hid (Y.out.below hbT)
    clear hbT hb3 zX kX fX zY kY fY
    go_wp2_with (fail)
    go_ret
    exact ⟨by rw [← HR2.out]; rfl, HB.out⟩
end Go.Proofs.YtjncmlglhegnaaaGreatDoor
