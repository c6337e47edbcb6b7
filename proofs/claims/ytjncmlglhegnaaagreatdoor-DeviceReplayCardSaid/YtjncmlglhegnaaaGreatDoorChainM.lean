/- chain: the reference's Plain, SameInts, Same, Few, walked. -/
/- chain: the reference's Few, the laws' seen and entry, walked. -/
import Derived.Test.YtjncmlglhegnaaaGreatDoorChainJ
namespace Go.Proofs.YtjncmlglhegnaaaGreatDoor
open Go.RowKit Go.Sort Go.Lib

def plainB (x : EntV) : Bool := decide (x.seen.length ≤ 12) && (decide (x.text.length ≤ 200) || (decide (3990 < x.text.length) && decide (x.text.length ≤ 4010)))
set_option maxRecDepth 100000 in
set_option maxHeartbeats 2000000 in
theorem Plain_any (w : World) (e : EntC) (r : Bool) (hr : plainB e.v = r) :
    Calls Tryz.prog 55 #[.agg e.cells.toArray] w fun x w' => x = .returned (.bool r) ∧ Below w.heap.size w w' := by
  obtain ⟨⟨dev, no, day, seen, text⟩, A, c⟩ := e
  simp only [EntC.cells, plainB] at hr ⊢
  have HB := Lib.hid (fun o => (Below.refl w.heap.size w).alloc (Nat.le_refl _) o)
  have HR := Lib.hid hr
  have hsz := str_size text
  clear hr
  by_cases h1 : seen.length ≤ 12
  case neg =>
    have HR2 : Hid (false = r) := Lib.hid (by rw [← HR.out]; simp [h1])
    have hi : ¬ ((seen.length : Int) ≤ 12) := by omega
    have hi2 : decide ((seen.length : Int) ≤ 12) = false := decide_eq_false hi
    clear HR h1
    go_enter Tryz.func55, Tryz.ntmps55
    go_wp2_with (fail)
    go_ret
    exact ⟨by rw [← HR2.out, ← hi2]; rfl, HB.out _⟩
  have hi : (seen.length : Int) ≤ 12 := by omega
  by_cases h2 : text.length ≤ 200
  · have HR2 : Hid (true = r) := Lib.hid (by rw [← HR.out]; simp [h1, h2])
    have hj : (text.length : Int) ≤ 200 := by omega
    clear HR h1 h2
    go_enter Tryz.func55, Tryz.ntmps55
    go_wp2_with (fail)
    go_ret
    exact ⟨by rw [← HR2.out]; rfl, HB.out _⟩
  have hj : ¬ ((text.length : Int) ≤ 200) := by omega
  have hj2 : decide ((text.length : Int) ≤ 200) = false := decide_eq_false hj
  by_cases h3 : 3990 < text.length
  case neg =>
    have HR2 : Hid (false = r) := Lib.hid (by rw [← HR.out]; simp [h1, h2, h3])
    have hk : ¬ (3990 < (text.length : Int)) := by omega
    have hk2 : decide (3990 < (text.length : Int)) = false := decide_eq_false hk
    clear HR h1 h2 h3
    go_enter Tryz.func55, Tryz.ntmps55
    go_wp2_with (fail)
    go_ret
    exact ⟨by rw [← HR2.out]; rfl, HB.out _⟩
  have hk : 3990 < (text.length : Int) := by omega
  by_cases h4 : text.length ≤ 4010
  case neg =>
    have HR2 : Hid (false = r) := Lib.hid (by rw [← HR.out]; simp [h1, h2, h3, h4])
    have hl : ¬ ((text.length : Int) ≤ 4010) := by omega
    have hl2 : decide ((text.length : Int) ≤ 4010) = false := decide_eq_false hl
    clear HR h1 h2 h3 h4
    go_enter Tryz.func55, Tryz.ntmps55
    go_wp2_with (fail)
    go_ret
    exact ⟨by rw [← HR2.out]; rfl, HB.out _⟩
  have hl : (text.length : Int) ≤ 4010 := by omega
  have HR2 : Hid (true = r) := Lib.hid (by rw [← HR.out]; simp [h1, h2, h3, h4])
  clear HR h1 h2 h3 h4
  go_enter Tryz.func55, Tryz.ntmps55
  go_wp2_with (fail)
  go_ret
  exact ⟨by rw [← HR2.out]; rfl, HB.out _⟩
theorem take_same {xs ys : List Int} {k : Nat} {x : Int} (h : xs.take k = ys.take k) (hx : xs[k]? = some x) (hy : ys[k]? = some x) : xs.take (k + 1) = ys.take (k + 1) := by
  rw [List.take_add_one, List.take_add_one, h, hx, hy]
set_option maxRecDepth 100000 in
set_option maxHeartbeats 2000000 in
theorem SameInts_any (w : World) (A1 A2 : Option Addr) (n c m d : Nat) (xs ys : List Int) (h1 : Sl w 1 A1 n (xs.map intC)) (h2 : Sl w 1 A2 m (ys.map intC)) (hn : n ≤ 1099511627776) (r : Bool) (hr : decide (xs = ys) = r) :
    Calls Tryz.prog 133 #[.slice A1 n c, .slice A2 m d] w fun e w' => e = .returned (.bool r) ∧ Below w.heap.size w w' := by
  obtain ⟨l1, _⟩ := h1.ints
  obtain ⟨l2, _⟩ := h2.ints
  by_cases hnm : n = m
  case neg =>
    have hr2 : r = false := by
      rw [← hr]
      refine decide_eq_false fun h => hnm ?_
      rw [← l1, ← l2, h]
    subst hr2
    have hi : ¬ ((n : Int) = (m : Int)) := by omega
    have hb : ((n : Int) == (m : Int)) = false := by rw [beq_eq_false_iff_ne]; intro h; exact hnm (by omega)
    clear h1 h2 l1 l2 hr hnm hn
    go_enter Tryz.func133, Tryz.ntmps133
    go_wp2_with (fail)
    go_ret
    exact ⟨rfl, Below.refl _ _⟩
  subst hnm
  have H1 := Lib.hid h1
  have H2 := Lib.hid h2
  have L1 := Lib.hid l1
  have L2 := Lib.hid l2
  have HR := Lib.hid hr
  have HN := Lib.hid hn
  clear h1 h2 l1 l2 hr hn
  go_enter Tryz.func133, Tryz.ntmps133
  go_wp2_with (fail)
  go_loopw [5] (fun iv wr => ∃ k : Nat, k ≤ n ∧ iv = .int .i64 (k : Int) ∧ Below w.heap.size w wr ∧ xs.take k = ys.take k) (fun i _ => n - (Go.RowKit.intOf i).toNat)
  case atStart => exact ⟨0, Nat.zero_le _, rfl, Below.refl _ _, rfl⟩
  case round =>
    obtain ⟨k, hk, rfl, hb, hz⟩ := hrel
    obtain ⟨wo, rfl⟩ : ∃ wo : World, wo = wr := ⟨_, rfl⟩
    have HB := Lib.hid hb
    have HZ := Lib.hid hz
    by_cases hlt : k < n
    · obtain ⟨x, hx⟩ : ∃ x, xs[k]? = some x := ⟨_, List.getElem?_eq_getElem (by rw [L1.out]; exact hlt)⟩
      obtain ⟨y, hy⟩ : ∃ x, ys[k]? = some x := ⟨_, List.getElem?_eq_getElem (by rw [L2.out]; exact hlt)⟩
      obtain ⟨b1, o1, rfl, hb1, e1⟩ := (H1.out.below hb).at1 (k := k) (v := .int .i64 x) (by rw [List.getElem?_map, hx]; rfl)
      obtain ⟨b2, o2, rfl, hb2, e2⟩ := (H2.out.below hb).at1 (k := k) (v := .int .i64 y) (by rw [List.getElem?_map, hy]; rfl)
      have hki : (k : Int) < (n : Int) := by omega
      have hk0 : (0 : Int) ≤ (k : Int) := by omega
      have HLT := Lib.hid hlt
      by_cases hxy : x = y
      · subst hxy
        have HZ2 := Lib.hid (take_same hz hx hy)
        have hwk : IntKind.i64.wrap ((k : Int) + 1) = (k : Int) + 1 := IntWalk.i64_in _ (by have := HN.out; omega)
        clear hb hz hlt hk hx hy hb1 hb2
        go_wp2_with (fail)
        go_quiet (fail)
        go_wp2_with (fail)
        go_roundw
        case rel => exact ⟨k + 1, HLT.out, by go_num, bdrewN HB.out _, HZ2.out⟩
        case measure => have := HLT.out; simp [Go.RowKit.intOf]; omega
      · have HR2 : Hid (false = r) := Lib.hid (by
          rw [← HR.out]
          refine (decide_eq_false fun h => hxy ?_).symm
          rw [h, hy] at hx
          exact (Option.some.inj hx).symm)
        have hxb : (x == y) = false := by simpa using hxy
        clear hb hz hlt hk hx hy hb1 hb2
        go_wp2_with (fail)
        go_quiet (fail)
        go_wp2_with (fail)
        go_ret
        exact ⟨by rw [← HR2.out]; rfl, bdrewN HB.out _⟩
    · obtain rfl : k = n := by omega
      have hki : (k : Int) ≤ (k : Int) := Int.le_refl _
      have HR2 : Hid (true = r) := Lib.hid (by
        rw [← HR.out]
        refine (decide_eq_true ?_).symm
        have e1 := hz
        rw [List.take_of_length_le (by rw [L1.out]; exact Nat.le_refl _), List.take_of_length_le (by rw [L2.out]; exact Nat.le_refl _)] at e1
        exact e1)
      clear hb hz hlt hk
      go_wp2_with (fail)
      go_ret
      exact ⟨by rw [← HR2.out]; rfl, HB.out⟩
set_option maxRecDepth 100000 in
set_option maxHeartbeats 2000000 in
theorem RSame_any (w : World) (a b : EntC) (ha : EntAt w a) (hb : EntAt w b) (hn : a.v.seen.length ≤ 1099511627776) (r : Bool) (hr : sameB a.v b.v = r) :
    Calls Tryz.prog 84 #[.agg a.cells.toArray, .agg b.cells.toArray] w fun x w' => x = .returned (.bool r) ∧ Below w.heap.size w w' := by
  obtain ⟨⟨d1, n1, y1, l1, t1⟩, A1, c1⟩ := a
  obtain ⟨⟨d2, n2, y2, l2, t2⟩, A2, c2⟩ := b
  simp only [EntC.cells, EntAt, sameB] at ha hb hn hr ⊢
  have HC := Lib.hid (fun o o' q hq => SameInts_any ((w.alloc o).alloc o') A1 A2 l1.length c1 l2.length c2 l1 l2 ((ha.alloc o).alloc o') ((hb.alloc o).alloc o') hn q hq)
  have HB := Lib.hid (fun o o' => ((Below.refl w.heap.size w).alloc (Nat.le_refl _) o).alloc (by simp) o')
  clear ha hb hn
  have HR := Lib.hid hr
  clear hr
  generalize l1.length = k1 at *
  generalize l2.length = k2 at *
  by_cases hd : d1 = d2
  case neg =>
    have hdb : (d1 == d2) = false := by simpa using hd
    have HR2 : Hid (false = r) := Lib.hid (by rw [← HR.out]; simp [hd])
    clear HR
    go_enter Tryz.func84, Tryz.ntmps84
    go_wp2_with (fail)
    go_ret
    exact ⟨by rw [← HR2.out]; rfl, HB.out _ _⟩
  subst hd
  by_cases hd : n1 = n2
  case neg =>
    have hdb : (n1 == n2) = false := by simpa using hd
    have HR2 : Hid (false = r) := Lib.hid (by rw [← HR.out]; simp [hd])
    clear HR
    go_enter Tryz.func84, Tryz.ntmps84
    go_wp2_with (fail)
    go_ret
    exact ⟨by rw [← HR2.out]; rfl, HB.out _ _⟩
  subst hd
  by_cases hd : y1 = y2
  case neg =>
    have hdb : (y1 == y2) = false := by simpa using hd
    have HR2 : Hid (false = r) := Lib.hid (by rw [← HR.out]; simp [hd])
    clear HR
    go_enter Tryz.func84, Tryz.ntmps84
    go_wp2_with (fail)
    go_ret
    exact ⟨by rw [← HR2.out]; rfl, HB.out _ _⟩
  subst hd
  by_cases hd : t1 = t2
  case neg =>
    have hdb : (t1 == t2) = false := by simpa using hd
    have HR2 : Hid (false = r) := Lib.hid (by rw [← HR.out]; simp [hd])
    clear HR
    go_enter Tryz.func84, Tryz.ntmps84
    go_wp2_with (fail)
    go_ret
    exact ⟨by rw [← HR2.out]; rfl, HB.out _ _⟩
  subst hd
  have HR2 : Hid (decide (l1 = l2) = r) := Lib.hid (by rw [← HR.out]; simp)
  have HC := Lib.hid (fun o o' => HC.out o o' r HR2.out)
  go_enter Tryz.func84, Tryz.ntmps84
  go_wp2_with ((with_reducible refine (HC.out _ _).mono ?_); rintro _ w9 ⟨rfl, hb9⟩)
  go_ret
  exact ⟨rfl, (HB.out _ _).trans (hb9.mono (HB.out _ _).size)⟩
end Go.Proofs.YtjncmlglhegnaaaGreatDoor
namespace Go.Proofs.YtjncmlglhegnaaaGreatDoor
open Go.RowKit Go.Sort Go.Lib

/-- what Few leaves -/
def FewPost (w : World) (l : List EntC) (most : Nat) (e : Ending) (w' : World) : Prop := ∃ k : Bool, e = .returned (.bool k) ∧ (k = true → (∀ x ∈ l, plainB x.v = true) ∧ (l.length ≤ most ∨ (400 < l.length ∧ l.length ≤ 420))) ∧ Below w.heap.size w w'
theorem FewPost.no {w w' : World} {l : List EntC} {most : Nat} (h : Below w.heap.size w w') : FewPost w l most (.returned (.bool false)) w' := ⟨false, rfl, (fun h => by cases h), h⟩
set_option maxRecDepth 100000 in
set_option maxHeartbeats 4000000 in
theorem Few_any (w : World) (A : Option Addr) (n c : Nat) (l : List EntC) (hs : Sl w 5 A n (l.map EntC.cells)) (most : Nat) (hm : most ≤ 400) :
    Calls Tryz.prog 9 #[.slice A n c, .int .i64 (most : Int)] w (FewPost w l most) := by
  have hll : l.length = n := by simpa using hs.1
  have HS := Lib.hid hs
  have HL := Lib.hid hll
  have HM := Lib.hid hm
  clear hs hll hm
  go_enter Tryz.func9, Tryz.ntmps9
  go_wp2_with (fail)
  go_loopw [5] (fun iv wr => ∃ k : Nat, k ≤ n ∧ k ≤ 421 ∧ iv = .int .i64 (k : Int) ∧ Below w.heap.size w wr ∧ ∀ v ∈ l.take k, plainB v.v = true) (fun i _ => n - (Go.RowKit.intOf i).toNat)
  case atStart => exact ⟨0, Nat.zero_le _, by omega, rfl, Below.refl _ _, by simp⟩
  case round =>
    obtain ⟨k, hk, hk2, rfl, hb, hf⟩ := hrel
    obtain ⟨wo, rfl⟩ : ∃ wo : World, wo = wr := ⟨_, rfl⟩
    have HB := Lib.hid hb
    have HF := Lib.hid hf
    clear hb hf
    by_cases hlt : k < n
    · have hki : (k : Int) < (n : Int) := by omega
      have hk0 : (0 : Int) ≤ (k : Int) := by omega
      have HLT := Lib.hid hlt
      by_cases h4 : k ≤ 420
      · obtain ⟨x, hx⟩ : ∃ v, l[k]? = some v := ⟨_, List.getElem?_eq_getElem (by rw [HL.out]; exact hlt)⟩
        obtain ⟨b, o, rfl, hbl, c0, c1, c2, c3, c4⟩ := ent_at (HS.out.below HB.out) hx
        obtain ⟨q, hq⟩ : ∃ q, plainB x.v = q := ⟨_, rfl⟩
        have HC := Lib.hid (Plain_any wo x q hq)
        simp only [EntC.cells] at HC
        have h4i : (k : Int) ≤ 420 := by omega
        have hwk : IntKind.i64.wrap ((k : Int) + 1) = (k : Int) + 1 := IntWalk.i64_in _ (by omega)
        have H4 := Lib.hid h4
        have HX := Lib.hid hx
        have HQ := Lib.hid hq
        clear hx hq hlt hk hk2 h4
        cases q
        · go_wp2_with ((with_reducible refine (HC.out).mono ?_); rintro _ w9 ⟨rfl, hb9⟩)
          go_ret
          exact FewPost.no (HB.out.trans (hb9.mono HB.out.size))
        · go_wp2_with ((with_reducible refine (HC.out).mono ?_); rintro _ w9 ⟨rfl, hb9⟩)
          go_roundw
          case rel => exact ⟨k + 1, HLT.out, by have := H4.out; omega, by go_num, HB.out.trans (hb9.mono HB.out.size), fun v hv => by
            rw [take_succ' HX.out] at hv
            rcases List.mem_append.1 hv with hv | hv
            · exact HF.out v hv
            · simp only [List.mem_singleton] at hv; subst hv; exact HQ.out⟩
          case measure => have := HLT.out; simp [Go.RowKit.intOf]; omega
      · have h5 : ¬ ((k : Int) ≤ 420) := by omega
        have h5d : decide ((k : Int) ≤ 420) = false := decide_eq_false h5
        have h6 : ¬ ((n : Int) ≤ (most : Int)) := by have := HM.out; omega
        have h6d : decide ((n : Int) ≤ (most : Int)) = false := decide_eq_false h6
        have h7 : 400 < (n : Int) := by omega
        have h8 : ¬ ((n : Int) ≤ 420) := by omega
        have h8d : decide ((n : Int) ≤ 420) = false := decide_eq_false h8
        clear hlt hk hk2 h4
        go_wp2_with (fail)
        go_ret
        exact ⟨_, rfl, (fun h => by simp at h), HB.out⟩
    · obtain rfl : k = n := by omega
      have hki : (k : Int) ≤ (k : Int) := Int.le_refl _
      have HALL : Hid (∀ x ∈ l, plainB x.v = true) := Lib.hid (by
        have h := HF.out
        rw [List.take_of_length_le (by rw [HL.out]; exact Nat.le_refl _)] at h
        exact h)
      by_cases h1 : k ≤ most
      · have HK : Hid (k ≤ most) := Lib.hid h1
        have h1i : (k : Int) ≤ (most : Int) := by omega
        clear hlt hk hk2 h1
        go_wp2_with (fail)
        go_ret
        exact ⟨true, rfl, fun _ => ⟨HALL.out, .inl (by rw [HL.out]; exact HK.out)⟩, HB.out⟩
      · have h1i : ¬ ((k : Int) ≤ (most : Int)) := by omega
        have h1d : decide ((k : Int) ≤ (most : Int)) = false := decide_eq_false h1i
        by_cases h2 : 400 < k
        · by_cases h3 : k ≤ 420
          · have HK : Hid (400 < k ∧ k ≤ 420) := Lib.hid ⟨h2, h3⟩
            have h2i : 400 < (k : Int) := by omega
            have h3i : (k : Int) ≤ 420 := by omega
            clear hlt hk hk2 h1 h2 h3
            go_wp2_with (fail)
            go_ret
            exact ⟨true, rfl, fun _ => ⟨HALL.out, .inr (by rw [HL.out]; exact HK.out)⟩, HB.out⟩
          · have h2i : 400 < (k : Int) := by omega
            have h3i : ¬ ((k : Int) ≤ 420) := by omega
            have h3d : decide ((k : Int) ≤ 420) = false := decide_eq_false h3i
            clear hlt hk hk2 h1 h2 h3
            go_wp2_with (fail)
            go_ret
            exact ⟨_, rfl, (fun h => by simp at h), HB.out⟩
        · have h2i : ¬ (400 < (k : Int)) := by omega
          have h2d : decide (400 < (k : Int)) = false := decide_eq_false h2i
          clear hlt hk hk2 h1 h2
          go_wp2_with (fail)
          go_ret
          exact ⟨_, rfl, (fun h => by simp at h), HB.out⟩
end Go.Proofs.YtjncmlglhegnaaaGreatDoor
