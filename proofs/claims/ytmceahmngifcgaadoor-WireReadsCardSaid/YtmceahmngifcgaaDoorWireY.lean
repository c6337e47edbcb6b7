/- kerbsidelaw01: values; kind, number, few, walked. -/
import Derived.Test.YtmceahmngifcgaaDoorWireX
namespace Go.Proofs.YtmceahmngifcgaaDoor
open Go.RowKit Go.Sort Go.Lib

/-- a value to write, with where its lists lie -/
structure ValC where
  k : Int
  n : Int
  s : List UInt8
  L : List Int
  T : List (List UInt8)
  A : Option Addr
  c : Nat
  A' : Option Addr
  c' : Nat
def ValC.cells (v : ValC) : List Value := [.int .i64 v.k, .int .i64 v.n, .string ⟨v.s.toArray⟩, .slice v.A v.L.length v.c, .slice v.A' v.T.length v.c']
def ValC.agg (v : ValC) : Value := .agg #[.int .i64 v.k, .int .i64 v.n, .string ⟨v.s.toArray⟩, .slice v.A v.L.length v.c, .slice v.A' v.T.length v.c']
def inI (x : Int) : Prop := -9223372036854775808 ≤ x ∧ x ≤ 9223372036854775807
structure ValAt (w : World) (v : ValC) : Prop where
  ints : Sl w 1 v.A v.L.length (v.L.map intC)
  strs : Sl w 1 v.A' v.T.length (v.T.map strC)
theorem ValAt.below {w w' : World} {v : ValC} (h : ValAt w v) (hb : Below w.heap.size w w') : ValAt w' v := ⟨h.ints.below hb, h.strs.below hb⟩
structure ValC.ok (v : ValC) : Prop where
  k : inI v.k
  n : inI v.n
  L : ∀ x ∈ v.L, inI x
  z : v.L.length ≤ maxLen ∧ v.T.length ≤ maxLen ∧ v.s.length ≤ maxLen
  t : ∀ x ∈ v.T, x.length ≤ maxLen
def ValC.few (v : ValC) : Prop := v.L.length ≤ 400 ∧ v.T.length ≤ 400 ∧ v.s.length ≤ 400 ∧ ∀ t ∈ v.T, t.length ≤ 400
def FewOk (l : List ValC) : Prop := l.length ≤ 20 ∧ ∀ v ∈ l, v.few
def FewPost (w : World) (l : List ValC) (e : Ending) (w' : World) : Prop := ∃ k : Bool, e = .returned (.bool k) ∧ (k = true → FewOk l) ∧ Below w.heap.size w w'
theorem FewPost.no {w w' : World} {l : List ValC} (h : Below w.heap.size w w') : FewPost w l (.returned (.bool false)) w' := ⟨false, rfl, fun h => (by cases h), h⟩
def kindF (k : Int) : Int := k % 5
set_option maxHeartbeats 1000000 in
theorem kind_any (w : World) (k n : Int) (s : ByteArray) (x y : Value) (hk : inI k) (r : Int) (hr : kindF k = r) :
    Calls Tryd.prog 22 #[.agg #[.int .i64 k, .int .i64 n, .string s, x, y]] w fun e w' => e = .returned (.int .i64 r) ∧ Below w.heap.size w w' := by
  obtain ⟨m, hm⟩ : ∃ m, k.tmod 5 = m := ⟨_, rfl⟩
  have hm2 : -5 < m ∧ m < 5 ∧ (m < 0 → r = m + 5) ∧ (0 ≤ m → r = m) := by
    unfold kindF at hr
    rcases Int.lt_or_le k 0 with h | h
    · have h1 : m = -((-k) % 5) := by rw [← hm, ← Int.tmod_eq_emod_of_nonneg (show 0 ≤ -k by omega), Int.neg_tmod, Int.neg_neg]
      omega
    · rw [Int.tmod_eq_emod_of_nonneg h] at hm
      omega
  obtain ⟨h1, h2, h3, h4⟩ := hm2
  by_cases hn : m < 0
  · obtain rfl := h3 hn
    have hm5 : -5 < m := h1
    clear hr hk h3 h4 h1 h2
    go_enter Tryd.func22, Tryd.ntmps22
    go_wp2_with (fail)
    go_ret
    exact ⟨rfl, below_alloc w _⟩
  · have hn' : 0 ≤ m := by omega
    obtain rfl := h4 hn'
    clear hr hk h3 h4 hn h1
    go_enter Tryd.func22, Tryd.ntmps22
    go_wp2_with (fail)
    go_ret
    exact ⟨rfl, below_alloc w _⟩
def numberF (n : Int) : Int := if n < 0 then -(n + 1) else n
theorem numberF_rng {n : Int} (h : inI n) : 0 ≤ numberF n ∧ numberF n ≤ 9223372036854775807 := by
  unfold numberF inI at *
  split <;> omega
set_option maxHeartbeats 1000000 in
theorem lawNumber_any (w : World) (n : Int) (hn : inI n) (r : Int) (hr : numberF n = r) :
    Calls Tryd.prog 53 #[.int .i64 n] w fun e w' => e = .returned (.int .i64 r) ∧ w = w' := by
  unfold numberF at hr
  unfold inI at hn
  by_cases h : n < 0
  · rw [if_pos h] at hr
    subst hr
    have w1 : IntKind.i64.wrap (n + 1) = n + 1 := IntWalk.i64_in _ (by omega)
    have w2 : IntKind.i64.wrap (-(n + 1)) = -(n + 1) := IntWalk.i64_in _ (by omega)
    clear hn
    go_enter Tryd.func53, Tryd.ntmps53
    go_wp2_with (fail)
    go_ret
    exact ⟨rfl, rfl⟩
  · rw [if_neg h] at hr
    subst hr
    have h' : 0 ≤ n := by omega
    clear hn h
    go_enter Tryd.func53, Tryd.ntmps53
    go_wp2_with (fail)
    go_ret
    exact ⟨rfl, rfl⟩
theorem val_at {w : World} {A : Option Addr} {n k : Nat} {l : List ValC} {v : ValC} (h : Sl w 5 A n (l.map ValC.cells)) (hx : l[k]? = some v) : ∃ b o, A = some ⟨b, o, none⟩ ∧ b < w.heap.size ∧
    w.cell? ⟨b, o + k * 5, none⟩ = some (.int .i64 v.k) ∧ w.cell? ⟨b, o + k * 5 + 1, none⟩ = some (.int .i64 v.n) ∧ w.cell? ⟨b, o + k * 5 + 2, none⟩ = some (.string ⟨v.s.toArray⟩) ∧ w.cell? ⟨b, o + k * 5 + 3, none⟩ = some (.slice v.A v.L.length v.c) ∧ w.cell? ⟨b, o + k * 5 + 4, none⟩ = some (.slice v.A' v.T.length v.c') := by
  obtain ⟨b, o, hA, hb, hc⟩ := h.2 k v.cells (by rw [List.getElem?_map, hx]; rfl)
  exact ⟨b, o, hA, hb, hc 0 _ rfl, hc 1 _ rfl, hc 2 _ rfl, hc 3 _ rfl, hc 4 _ rfl⟩
theorem val_is {w w' : World} {A : Option Addr} {n k b o : Nat} {l : List ValC} {v : ValC} (h : Sl w 5 A n (l.map ValC.cells)) (hx : l[k]? = some v) (hA : A = some ⟨b, o, none⟩) (hb : Below w.heap.size w w') : b < w'.heap.size ∧
    w'.cell? ⟨b, o + k * 5, none⟩ = some (.int .i64 v.k) ∧ w'.cell? ⟨b, o + k * 5 + 1, none⟩ = some (.int .i64 v.n) ∧ w'.cell? ⟨b, o + k * 5 + 2, none⟩ = some (.string ⟨v.s.toArray⟩) ∧ w'.cell? ⟨b, o + k * 5 + 3, none⟩ = some (.slice v.A v.L.length v.c) ∧ w'.cell? ⟨b, o + k * 5 + 4, none⟩ = some (.slice v.A' v.T.length v.c') := by
  obtain ⟨b2, o2, hA2, hb2, hc⟩ := val_at (h.below hb) hx
  rw [hA] at hA2
  injection hA2 with hA2
  injection hA2 with h1 h2
  subst h1 h2
  exact ⟨hb2, hc⟩
set_option maxRecDepth 100000 in
set_option maxHeartbeats 8000000 in
theorem few_any (w : World) (A : Option Addr) (n c : Nat) (l : List ValC) (hs : Sl w 5 A n (l.map ValC.cells)) (hv : ∀ v ∈ l, ValAt w v) :
    Calls Tryd.prog 10 #[.slice A n c] w (FewPost w l) := by
  have hll : l.length = n := by simpa using hs.1
  have HS := Lib.hid hs
  have HL := Lib.hid hll
  have HV := Lib.hid hv
  clear hs hll hv
  by_cases hn : 20 < (n : Int)
  · go_enter Tryd.func10, Tryd.ntmps10
    go_wp2_with (fail)
    go_ret
    exact FewPost.no (Below.refl _ _)
  have hn' : (n : Int) ≤ 20 := by omega
  have HN := Lib.hid hn'
  clear hn
  go_enter Tryd.func10, Tryd.ntmps10
  go_wp2_with (fail)
  go_loopw [3, 4] (fun sv iv wr => ∃ (k : Nat) (x : Int), k ≤ n ∧ iv = .int .i64 (k : Int) ∧ sv = .int .i64 x ∧ Below w.heap.size w wr ∧ ∀ v ∈ l.take k, v.few) (fun _ i _ => n - (Go.RowKit.intOf i).toNat)
  case atStart => exact ⟨0, 0, Nat.zero_le _, rfl, rfl, Below.refl _ _, by simp⟩
  case round =>
    obtain ⟨k, x, hk, rfl, rfl, hb, hf⟩ := hrel
    obtain ⟨wo, rfl⟩ : ∃ wo : World, wo = wr := ⟨_, rfl⟩
    have HB := Lib.hid hb
    have HF := Lib.hid hf
    clear hb hf
    by_cases hlt : k < n
    · obtain ⟨v, hx⟩ : ∃ v, l[k]? = some v := ⟨_, List.getElem?_eq_getElem (by rw [HL.out]; exact hlt)⟩
      obtain ⟨b, o, rfl, hbl, c0, c1, c2, c3, c4⟩ := val_at (HS.out.below HB.out) hx
      have hvt := HV.out v (List.mem_of_getElem? hx)
      have HVT := Lib.hid (hvt.below HB.out)
      have hsz := str_size v.s
      have hki : (k : Int) < (n : Int) := by omega
      have hk0 : (0 : Int) ≤ (k : Int) := by omega
      have HX := Lib.hid hx
      have HLT := Lib.hid hlt
      clear hx hvt hlt
      by_cases h1 : 400 < (v.L.length : Int)
      · clear hk
        go_wp2_with (fail)
        go_ret
        exact FewPost.no HB.out
      have h1' : (v.L.length : Int) ≤ 400 := by omega
      clear h1
      by_cases h2 : 400 < (v.T.length : Int)
      · clear hk
        go_wp2_with (fail)
        go_ret
        exact FewPost.no HB.out
      have h2' : (v.T.length : Int) ≤ 400 := by omega
      clear h2
      by_cases h3 : 400 < (v.s.length : Int)
      · clear hk
        go_wp2_with (fail)
        go_ret
        exact FewPost.no HB.out
      have h3' : (v.s.length : Int) ≤ 400 := by omega
      clear h3 hk
      go_wp2_with (fail)
      go_quiet (fail)
      have HB2 := Lib.hid (bdrewN HB.out nq)
      have HB3 := Lib.hid (bdrewN (Below.refl wo.heap.size wo) nq)
      generalize wo.drewN nq = W at *
      clear c0 c1 c2 c3 c4 hbl
      go_wp2_with (fail)
      go_loopw [3, 5] (fun sv iv wr => ∃ (j : Nat) (y : Int), j ≤ v.T.length ∧ iv = .int .i64 (j : Int) ∧ sv = .int .i64 y ∧ Below w.heap.size w wr ∧ ∀ t ∈ v.T.take j, t.length ≤ 400) (fun _ i _ => v.T.length - (Go.RowKit.intOf i).toNat)
      case atStart => exact ⟨0, _, Nat.zero_le _, rfl, rfl, HB2.out, by simp⟩
      case round =>
        obtain ⟨j, y, hj, rfl, rfl, hb, hf⟩ := hrel
        obtain ⟨wp, rfl⟩ : ∃ wp : World, wp = wr := ⟨_, rfl⟩
        have HBP := Lib.hid hb
        have HFP := Lib.hid hf
        obtain ⟨hbl, c0, c1, c2, c3, c4⟩ := val_is HS.out HX.out rfl hb
        clear hb hf HB2 HB3
        by_cases hlt2 : j < v.T.length
        · obtain ⟨t, ht⟩ : ∃ t, v.T[j]? = some t := ⟨_, List.getElem?_eq_getElem hlt2⟩
          have hvt := (HV.out v (List.mem_of_getElem? HX.out)).below HBP.out
          obtain ⟨b2, o2, hA2, hbl2, d0⟩ := hvt.strs.at1 (k := j) (v := .string ⟨t.toArray⟩) (by rw [List.getElem?_map, ht]; rfl)
          rw [hA2] at c4
          have hst := str_size t
          have hji : (j : Int) < (v.T.length : Int) := by omega
          have hj0 : (0 : Int) ≤ (j : Int) := by omega
          have HLT2 := Lib.hid hlt2
          have HTT := Lib.hid ht
          clear hvt hA2 ht hlt2 hj
          by_cases h4 : 400 < (t.length : Int)
          · go_wp2_with (fail)
            go_ret
            exact FewPost.no HBP.out
          have h4' : (t.length : Int) ≤ 400 := by omega
          clear h4
          go_wp2_with (fail)
          go_roundw
          case rel => exact ⟨j + 1, _, HLT2.out, by go_num, rfl, HBP.out, by
            rw [take_succ' HTT.out]
            intro q hq
            rcases List.mem_append.1 hq with hq | hq
            · exact HFP.out q hq
            · simp only [List.mem_singleton] at hq
              subst hq
              omega⟩
          case measure => have := HLT2.out; simp [Go.RowKit.intOf]; omega
        · obtain rfl : j = v.T.length := by omega
          have hji : (v.T.length : Int) ≤ (v.T.length : Int) := Int.le_refl _
          have hfp := HFP.out
          rw [List.take_length] at hfp
          have HFV : Hid v.few := ⟨by omega, by omega, by omega, hfp⟩
          clear hfp hlt2 hj
          go_wp2_with (fail)
          go_roundw
          case rel => exact ⟨k + 1, _, HLT.out, by go_num, rfl, HBP.out, by
            rw [take_succ' HX.out]
            intro q hq
            rcases List.mem_append.1 hq with hq | hq
            · exact HF.out q hq
            · simp only [List.mem_singleton] at hq
              subst hq
              exact HFV.out⟩
          case measure => have := HLT.out; simp [Go.RowKit.intOf]; omega
    · obtain rfl : k = n := by omega
      have hki : (k : Int) ≤ (k : Int) := Int.le_refl _
      go_wp2_with (fail)
      go_ret
      have hf := HF.out
      rw [List.take_of_length_le (by rw [HL.out]; exact Nat.le_refl _)] at hf
      exact ⟨_, rfl, fun _ => ⟨by have := HN.out; have := HL.out; omega, hf⟩, HB.out⟩
set_option maxRecDepth 100000 in
set_option maxHeartbeats 2000000 in
theorem SameNums_any (w : World) (A A' : Option Addr) (n m c c' : Nat) (a b : List Int) (ha : Sl w 1 A n (a.map intC)) (hb : Sl w 1 A' m (b.map intC)) (hn : n ≤ 1099511627776) (r : Bool) (hr : decide (a = b) = r) :
    Calls Tryd.prog 36 #[.slice A n c, .slice A' m c'] w fun e w' => e = .returned (.bool r) ∧ Below w.heap.size w w' := by
  have hal : a.length = n := by have := ha.len; simpa using this
  have hbl : b.length = m := by have := hb.len; simpa using this
  have HA := Lib.hid ha
  have HB := Lib.hid hb
  have HLA := Lib.hid hal
  have HLB := Lib.hid hbl
  have HR := Lib.hid hr
  have HN := Lib.hid hn
  clear hn
  by_cases hnm : n = m
  · subst hnm
    clear ha hb hal hbl hr
    have hnn : (n : Int) = (n : Int) := rfl
    clear hnn
    go_enter Tryd.func36, Tryd.ntmps36
    go_wp2_with (fail)
    go_loopw [5] (fun iv wr => ∃ k : Nat, k ≤ n ∧ iv = .int .i64 (k : Int) ∧ a.take k = b.take k ∧ Below w.heap.size w wr) (fun i _ => n - (Go.RowKit.intOf i).toNat)
    case atStart => exact ⟨0, Nat.zero_le _, rfl, by simp, Below.refl _ _⟩
    case round =>
      obtain ⟨k, hk, rfl, heq, hbw⟩ := hrel
      obtain ⟨wo, rfl⟩ : ∃ wo : World, wo = wr := ⟨_, rfl⟩
      have HW := Lib.hid hbw
      have HEQ := Lib.hid heq
      clear hbw heq
      by_cases hlt : k < n
      · obtain ⟨x, hx⟩ : ∃ x, a[k]? = some x := ⟨_, List.getElem?_eq_getElem (by rw [HLA.out]; exact hlt)⟩
        obtain ⟨y, hy⟩ : ∃ y, b[k]? = some y := ⟨_, List.getElem?_eq_getElem (by rw [HLB.out]; exact hlt)⟩
        obtain ⟨b1, o1, rfl, hb1, c1⟩ := (HA.out.below HW.out).at1 (k := k) (v := .int .i64 x) (by rw [List.getElem?_map, hx]; rfl)
        obtain ⟨b2, o2, rfl, hb2, c2⟩ := (HB.out.below HW.out).at1 (k := k) (v := .int .i64 y) (by rw [List.getElem?_map, hy]; rfl)
        have hki : (k : Int) < (n : Int) := by omega
        have hk0 : (0 : Int) ≤ (k : Int) := by omega
        have HLT := Lib.hid hlt
        have HX := Lib.hid hx
        have HY := Lib.hid hy
        clear hx hy hlt hk
        by_cases hxy : x = y
        · subst hxy
          have HNX : Hid (a.take (k + 1) = b.take (k + 1)) := Lib.hid (by rw [take_succ' HX.out, take_succ' HY.out, HEQ.out])
          have hwk : IntKind.i64.wrap ((k : Int) + 1) = (k : Int) + 1 := IntWalk.i64_in _ (by have := HN.out; have := HLT.out; omega)
          go_wp2_with (fail)
          go_quiet (fail)
          have HW2 := Lib.hid (bdrewN HW.out nq)
          go_wp2_with (fail)
          go_roundw
          case rel => exact ⟨k + 1, HLT.out, by go_num, HNX.out, HW2.out⟩
          case measure => have := HLT.out; simp [Go.RowKit.intOf]; omega
        · have hrf : r = false := by
            rw [← HR.out, decide_eq_false_iff_not]
            intro h
            rw [h, HY.out] at HX
            have := HX.out
            injection this with this
            exact hxy this.symm
          subst hrf
          have hne : (x != y) = true := bne_iff_ne.2 hxy
          have hne2 : (x == y) = false := beq_eq_false_iff_ne.2 hxy
          clear hxy
          go_wp2_with (fail)
          go_quiet (fail)
          have HW2 := Lib.hid (bdrewN HW.out nq)
          go_wp2_with (fail)
          go_ret
          exact ⟨rfl, HW2.out⟩
      · obtain rfl : k = n := by omega
        have hki : (k : Int) ≤ (k : Int) := Int.le_refl _
        have hrt : r = true := by
          have h := HEQ.out
          rw [List.take_of_length_le (by rw [HLA.out]; exact Nat.le_refl _), List.take_of_length_le (by rw [HLB.out]; exact Nat.le_refl _)] at h
          rw [← HR.out, decide_eq_true_eq]
          exact h
        subst hrt
        go_wp2_with (fail)
        go_ret
        exact ⟨rfl, HW.out⟩
  · have hrf : r = false := by
      rw [← hr, decide_eq_false_iff_not]
      intro h
      rw [h] at hal
      omega
    subst hrf
    have hne : (((n : Int)) != ((m : Int))) = true := bne_iff_ne.2 (by omega)
    have hne2 : (n != m) = true := bne_iff_ne.2 hnm
    clear ha hb hal hbl hr
    go_enter Tryd.func36, Tryd.ntmps36
    go_wp2_with (fail)
    go_ret
    exact ⟨rfl, Below.refl _ _⟩
set_option maxRecDepth 100000 in
set_option maxHeartbeats 2000000 in
theorem SameTexts_any (w : World) (A A' : Option Addr) (n m c c' : Nat) (a b : List (List UInt8)) (ha : Sl w 1 A n (a.map strC)) (hb : Sl w 1 A' m (b.map strC)) (hn : n ≤ 1099511627776) (r : Bool) (hr : decide (a = b) = r) :
    Calls Tryd.prog 38 #[.slice A n c, .slice A' m c'] w fun e w' => e = .returned (.bool r) ∧ Below w.heap.size w w' := by
  have hal : a.length = n := by have := ha.len; simpa using this
  have hbl : b.length = m := by have := hb.len; simpa using this
  have HA := Lib.hid ha
  have HB := Lib.hid hb
  have HLA := Lib.hid hal
  have HLB := Lib.hid hbl
  have HR := Lib.hid hr
  have HN := Lib.hid hn
  clear hn
  by_cases hnm : n = m
  · subst hnm
    clear ha hb hal hbl hr
    have hnn : (n : Int) = (n : Int) := rfl
    clear hnn
    go_enter Tryd.func38, Tryd.ntmps38
    go_wp2_with (fail)
    go_loopw [5] (fun iv wr => ∃ k : Nat, k ≤ n ∧ iv = .int .i64 (k : Int) ∧ a.take k = b.take k ∧ Below w.heap.size w wr) (fun i _ => n - (Go.RowKit.intOf i).toNat)
    case atStart => exact ⟨0, Nat.zero_le _, rfl, by simp, Below.refl _ _⟩
    case round =>
      obtain ⟨k, hk, rfl, heq, hbw⟩ := hrel
      obtain ⟨wo, rfl⟩ : ∃ wo : World, wo = wr := ⟨_, rfl⟩
      have HW := Lib.hid hbw
      have HEQ := Lib.hid heq
      clear hbw heq
      by_cases hlt : k < n
      · obtain ⟨x, hx⟩ : ∃ x, a[k]? = some x := ⟨_, List.getElem?_eq_getElem (by rw [HLA.out]; exact hlt)⟩
        obtain ⟨y, hy⟩ : ∃ y, b[k]? = some y := ⟨_, List.getElem?_eq_getElem (by rw [HLB.out]; exact hlt)⟩
        obtain ⟨b1, o1, rfl, hb1, c1⟩ := (HA.out.below HW.out).at1 (k := k) (v := .string ⟨x.toArray⟩) (by rw [List.getElem?_map, hx]; rfl)
        obtain ⟨b2, o2, rfl, hb2, c2⟩ := (HB.out.below HW.out).at1 (k := k) (v := .string ⟨y.toArray⟩) (by rw [List.getElem?_map, hy]; rfl)
        have hki : (k : Int) < (n : Int) := by omega
        have hk0 : (0 : Int) ≤ (k : Int) := by omega
        have HLT := Lib.hid hlt
        have HX := Lib.hid hx
        have HY := Lib.hid hy
        clear hx hy hlt hk
        by_cases hxy : x = y
        · subst hxy
          have HNX : Hid (a.take (k + 1) = b.take (k + 1)) := Lib.hid (by rw [take_succ' HX.out, take_succ' HY.out, HEQ.out])
          have hwk : IntKind.i64.wrap ((k : Int) + 1) = (k : Int) + 1 := IntWalk.i64_in _ (by have := HN.out; have := HLT.out; omega)
          go_wp2_with (fail)
          go_quiet (fail)
          have HW2 := Lib.hid (bdrewN HW.out nq)
          go_wp2_with (fail)
          go_roundw
          case rel => exact ⟨k + 1, HLT.out, by go_num, HNX.out, HW2.out⟩
          case measure => have := HLT.out; simp [Go.RowKit.intOf]; omega
        · have hrf : r = false := by
            rw [← HR.out, decide_eq_false_iff_not]
            intro h
            rw [h, HY.out] at HX
            have := HX.out
            injection this with this
            exact hxy this.symm
          subst hrf
          have hne : (x != y) = true := bne_iff_ne.2 hxy
          have hne2 : (x == y) = false := beq_eq_false_iff_ne.2 hxy
          clear hxy
          go_wp2_with (fail)
          go_quiet (fail)
          have HW2 := Lib.hid (bdrewN HW.out nq)
          go_wp2_with (fail)
          go_ret
          exact ⟨rfl, HW2.out⟩
      · obtain rfl : k = n := by omega
        have hki : (k : Int) ≤ (k : Int) := Int.le_refl _
        have hrt : r = true := by
          have h := HEQ.out
          rw [List.take_of_length_le (by rw [HLA.out]; exact Nat.le_refl _), List.take_of_length_le (by rw [HLB.out]; exact Nat.le_refl _)] at h
          rw [← HR.out, decide_eq_true_eq]
          exact h
        subst hrt
        go_wp2_with (fail)
        go_ret
        exact ⟨rfl, HW.out⟩
  · have hrf : r = false := by
      rw [← hr, decide_eq_false_iff_not]
      intro h
      rw [h] at hal
      omega
    subst hrf
    have hne : (((n : Int)) != ((m : Int))) = true := bne_iff_ne.2 (by omega)
    have hne2 : (n != m) = true := bne_iff_ne.2 hnm
    clear ha hb hal hbl hr
    go_enter Tryd.func38, Tryd.ntmps38
    go_wp2_with (fail)
    go_ret
    exact ⟨rfl, Below.refl _ _⟩
end Go.Proofs.YtmceahmngifcgaaDoor
