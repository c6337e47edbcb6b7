/- journal: All, Len, Get, walked. -/
/- kerbsidelaw03: few, texts, disky, begins, walked. -/
/- kerbsidelaw03: small, walked. -/
import Derived.Test.YtniiahmpdkgplaaGreatDoorJrnE
import Derived.Test.YtniiahmpdkgplaaGreatDoorMakeR
import Derived.Laws.CopyOwn
import Derived.Test.YtniiahmpdkgplaaGreatDoorWireST
namespace Go.Proofs.YtniiahmpdkgplaaGreatDoor
open Go.RowKit Go.Sort Go.Lib

theorem own_cells {w : World} {base g n c : Nat} {e : TypeId} {xs : List (List Value)} (h : Own w base e 1 (.slice (some ⟨g, 0, none⟩) n c) n xs) : ∃ cur : Array Value, w.heap[g]? = some (.cells cur e (0, 0)) ∧ cur.size = c ∧ n ≤ c ∧ c ≤ maxLen ∧ base ≤ g := by
  rcases h.1.2 with ⟨h', _⟩ | ⟨g', cap, cur, hv, hb, hg, h1, h2, h3, _⟩
  · cases h'
  · injection hv with e1 e2 e3
    injection e1 with e1
    injection e1 with e4
    subst e4 e3
    exact ⟨cur, hg, by omega, h1, h2, hb⟩
theorem flat_one {α : Type} : ∀ cs : List α, (cs.map fun v => [v]).flatten = cs
  | [] => rfl
  | a :: l => by rw [List.map_cons, List.flatten_cons, flat_one l]; rfl
theorem own_of {w : World} {base g n : Nat} {e : TypeId} {cs : List Value} (hg : w.heap[g]? = some (.cells cs.toArray e (0, 0))) (hn : cs.length = n) (hm : n ≤ maxLen) (hb : base ≤ g) : Own w base e 1 (.slice (some ⟨g, 0, none⟩) n n) n (cs.map fun v => [v]) := by
  have hf := flat_one cs
  refine ⟨⟨by rw [hf]; omega, .inr ⟨g, n, cs.toArray, rfl, hb, hg, Nat.le_refl _, hm, by simp; omega, ?_⟩⟩, fun x hx => ?_, by simpa using hn⟩
  · rw [hf, Nat.mul_one, ← hn]
    simp
  · obtain ⟨v, _, rfl⟩ := List.mem_map.1 hx
    rfl
theorem splice_all {α : Type} (L cs : List α) (h : L.length = cs.length) : splice L 0 cs = cs := by
  unfold splice
  simp [h]
theorem str_src {w : World} {A : Option Addr} {n : Nat} {recs : List (List UInt8)} {p : Addr} (h : Sl w 1 A n (recs.map strC)) : 0 < (recs.map fun s => (Value.string ⟨s.toArray⟩)).length → some p = some p ∧ ∃ ad, A = some ad ∧ ∀ j v, (recs.map fun s => (Value.string ⟨s.toArray⟩))[j]? = some v → w.cell? (ad.add j) = some v := by
  intro hpos
  simp only [List.length_map] at hpos
  have at_ : ∀ j v, (recs.map fun s => (Value.string ⟨s.toArray⟩))[j]? = some v → ∃ b o, A = some ⟨b, o, none⟩ ∧ w.cell? ⟨b, o + j, none⟩ = some v := fun j v hj => by
    rw [List.getElem?_map] at hj
    cases hr : recs[j]? with
    | none => rw [hr] at hj; cases hj
    | some s =>
      rw [hr] at hj
      simp only [Option.map_some, Option.some.injEq] at hj
      subst hj
      obtain ⟨b, o, hA, _, hc⟩ := h.at1 (k := j) (v := .string ⟨s.toArray⟩) (by rw [List.getElem?_map, hr]; rfl)
      exact ⟨b, o, hA, hc⟩
  obtain ⟨b, o, hA, _⟩ := at_ 0 _ (by rw [List.getElem?_map, List.getElem?_eq_getElem hpos]; rfl)
  refine ⟨rfl, ⟨b, o, none⟩, hA, fun j v hj => ?_⟩
  obtain ⟨b', o', hA', hc⟩ := at_ j v hj
  rw [hA] at hA'
  injection hA' with hA'
  injection hA' with e1 e2
  subst e1 e2
  by_cases hz : j = 0
  · subst hz; simpa [Addr.add] using hc
  · simpa [Addr.add, hz] using hc
section
variable {w0 w w' : World} {Rs : List Res} {B J : Nat} {d d' : DV} {j : JV}
theorem strCell (l : List (List UInt8)) : (l.map fun s => (Value.string ⟨s.toArray⟩)).map (fun v => [v]) = l.map strC := by rw [List.map_map]; rfl
set_option maxRecDepth 100000 in
set_option maxHeartbeats 8000000 in
theorem All_sep (h : Sep w0 w (jourR B J j :: Rs)) (hl : j.recs.length ≤ 1099511627776) :
    Calls Tryz.prog 25 #[.pointer (some ⟨J, 0, none⟩)] w fun e w' => ∃ A c, e = .returned (.slice A j.recs.length c) ∧ Sep w0 w' (ownR 9 1 (.slice A j.recs.length c) j.recs.length (j.recs.map strC) :: jourR B J j :: Rs) := by
  obtain ⟨A, c, hp⟩ := h.jour_part
  have HP := Lib.hid hp
  have HS := Lib.hid h
  obtain ⟨file, recs, bytes, broken⟩ := j
  obtain ⟨n, hn⟩ : ∃ n, recs.length = n := ⟨_, rfl⟩
  simp only [hn] at hl HP ⊢
  have HL := Lib.hid hl
  have HN := Lib.hid hn
  clear hl hp h
  obtain ⟨zJ, kJ, fJ⟩ := HP.out.loc
  simp only [jourX, hn] at kJ
  clear hn
  obtain ⟨i0, hi0, hi1, hi2, hi3⟩ := info_parts infoStr
  have hmx : n ≤ maxLen := by have := HL.out; simp only [maxLen]; omega
  have HMX := Lib.hid hmx
  clear hmx
  go_enter Tryz.func25, Tryz.ntmps25
  go_wp2_with (first
    | (at_make
       refine wpList_make_own w rfl (.tmp 8) (.tmp 8) 46 rfl w.heap.size 9 i0 _ 1 16 Tryz.underlying46 hi0 hi1 hi2 hi3 rfl (by omega) n rfl rfl (by have := HL.out; omega) HMX.out (Nat.le_refl _) ?_
       intro w1 hown1 hb1 hz1
       obtain ⟨cur, hg, hcs, _, _, hbg⟩ := own_cells hown1
       have HP1 := Lib.hid (HP.out.below hb1)
       obtain ⟨zK, kK, fK⟩ := HP1.out.loc
       have HKN := HN.out
       simp only [jourX, HKN] at kK
       have HPOS := Lib.hid (str_src (w := w1) (recs := recs) (n := n) (p := ⟨w.heap.size, 0, none⟩) (Own.sl' HP1.out.sw.own))
       clear HKN zJ kJ fJ)
    | (refine wpList_copy_splice rfl (.tmp 10) (.tmp 14) 46 46 rfl 9 Tryz.underlying46 (by rw [hi0]; exact congrArg some hi2) (some ⟨w.heap.size, 0, none⟩) A n n n c rfl rfl w.heap.size 0 cur.toList 9 (by simpa using hg) (recs.map fun s => (.string ⟨s.toArray⟩ : Value)) (by have := HN.out; simp [this]) HPOS.out (by have := HN.out; simp; omega) (by intro v hv; obtain ⟨s, _, rfl⟩ := List.mem_map.1 hv; rfl) w.heap.size w hb1 (Nat.le_refl _) ?_
       intro w2 hheap hb2))
  go_ret
  have e := HN.out
  have hc : (cur.toList).length = (recs.map fun s => (Value.string ⟨s.toArray⟩)).length := by simp; omega
  have hh := hheap.out
  rw [splice_all _ _ hc] at hh
  have ho := own_of (base := w.heap.size) hh (n := n) (by simp [e]) HMX.out (Nat.le_refl _)
  rw [strCell] at ho
  exact ⟨_, _, rfl, HS.out.ownNew hb2 ho⟩
set_option maxRecDepth 100000 in
set_option maxHeartbeats 2000000 in
theorem Len_sep (h : Sep w0 w (jourR B J j :: Rs)) (n : Nat) (hn : j.recs.length = n) :
    Calls Tryz.prog 31 #[.pointer (some ⟨J, 0, none⟩)] w fun e w' => e = .returned (.int .i64 (n : Int)) ∧ w = w' := by
  subst hn
  obtain ⟨A, c, hp⟩ := h.jour_part
  obtain ⟨zJ, kJ, fJ⟩ := hp.loc
  simp only [jourX] at kJ
  clear h hp
  go_enter Tryz.func31, Tryz.ntmps31
  go_wp2_with (fail)
  go_ret
  exact ⟨rfl, rfl⟩
set_option maxRecDepth 100000 in
set_option maxHeartbeats 4000000 in
theorem Get_sep (h : Sep w0 w (jourR B J j :: Rs)) (i : Int) (s : List UInt8) (hs : (if i < 0 then [] else (j.recs[i.toNat]?).getD []) = s) :
    Calls Tryz.prog 32 #[.pointer (some ⟨J, 0, none⟩), .int .i64 i] w fun e w' => e = .returned (.string ⟨s.toArray⟩) ∧ w = w' := by
  obtain ⟨A, c, hp⟩ := h.jour_part
  have HP := Lib.hid hp
  obtain ⟨zJ, kJ, fJ⟩ := hp.loc
  simp only [jourX] at kJ
  clear h hp
  by_cases h0 : i < 0
  · rw [if_pos h0] at hs
    subst hs
    go_enter Tryz.func32, Tryz.ntmps32
    go_wp2_with (fail)
    go_ret
    exact ⟨rfl, rfl⟩
  rw [if_neg h0] at hs
  obtain ⟨k, rfl⟩ : ∃ k : Nat, i = (k : Int) := ⟨i.toNat, by omega⟩
  rw [Int.toNat_natCast] at hs
  have hk0 : (0 : Int) ≤ (k : Int) := by omega
  by_cases h1 : k < j.recs.length
  · obtain ⟨x, hx⟩ : ∃ x, j.recs[k]? = some x := ⟨_, List.getElem?_eq_getElem h1⟩
    rw [hx, Option.getD_some] at hs
    subst hs
    obtain ⟨b, o, hA, hbl, c0⟩ := (Own.sl' HP.out.sw.own).at1 (k := k) (v := .string ⟨x.toArray⟩) (by rw [List.getElem?_map, hx]; rfl)
    subst hA
    have hki : (k : Int) < (j.recs.length : Int) := by omega
    clear h0 h1 hx
    go_enter Tryz.func32, Tryz.ntmps32
    go_wp2_with (fail)
    go_ret
    exact ⟨rfl, rfl⟩
  · rw [List.getElem?_eq_none (by omega), Option.getD_none] at hs
    subst hs
    have hki : (j.recs.length : Int) ≤ (k : Int) := by omega
    clear h0 h1
    go_enter Tryz.func32, Tryz.ntmps32
    go_wp2_with (fail)
    go_ret
    exact ⟨rfl, rfl⟩
end
end Go.Proofs.YtniiahmpdkgplaaGreatDoor
namespace Go.Proofs.YtniiahmpdkgplaaGreatDoor
open Go.RowKit Go.Sort Go.Lib

/-- an operation, with where its keep list lies -/
structure OpC where
  kind : Int
  s : List UInt8
  n : Int
  keep : List Int
  A : Option Addr
  c : Nat
def OpC.cells (a : OpC) : List Value := [.int .i64 a.kind, .string ⟨a.s.toArray⟩, .int .i64 a.n, .slice a.A a.keep.length a.c]
theorem Sl.headJ {w : World} {size n k : Nat} {A : Option Addr} {xs : List (List Value)} (h : Sl w size A n xs) (hk : k ≤ n) : Sl w size A k (xs.take k) := by
  refine ⟨by rw [List.length_take, h.1]; omega, fun i x hx => ?_⟩
  rw [List.getElem?_take] at hx
  split at hx
  · exact h.2 i x hx
  · cases hx
def i64In (x : Int) : Prop := -9223372036854775808 ≤ x ∧ x ≤ 9223372036854775807
def OpC.ok (a : OpC) : Prop := i64In a.kind ∧ i64In a.n
def OpC.few (a : OpC) : Prop := a.s.length ≤ 200 ∧ a.keep.length ≤ 50
instance (a : OpC) : Decidable a.few := by unfold OpC.few; exact inferInstance
def OpsAt (w : World) (l : List OpC) : Prop := ∀ a ∈ l, Sl w 1 a.A a.keep.length (a.keep.map fun k => [.int .i64 k])
def fewOps (l : List OpC) : Bool := decide (∀ a ∈ l, a.few) && decide (l.length ≤ 25)
theorem strLen (s : List UInt8) : (⟨s.toArray⟩ : ByteArray).size = s.length := by simp [ByteArray.size]
set_option maxRecDepth 100000 in
set_option maxHeartbeats 4000000 in
theorem few_any (w : World) (A : Option Addr) (n c : Nat) (l : List OpC) (hs : Sl w 4 A n (l.map OpC.cells)) (hn : n ≤ maxLen) (r : Bool) (hr : fewOps l = r) :
    Calls Tryz.prog 5 #[.slice A n c] w fun e w' => e = .returned (.bool r) ∧ w = w' := by
  unfold maxLen at hn
  have hll : l.length = n := by simpa using hs.1
  have HS := Lib.hid hs
  have HL := Lib.hid hll
  have HR := Lib.hid hr
  clear hs hll hr
  go_enter Tryz.func5, Tryz.ntmps5
  go_wp2_with (fail)
  go_loop [3] (fun i => ∃ k : Nat, k ≤ n ∧ i = .int .i64 k ∧ ∀ a ∈ l.take k, a.few) (fun i => n - (Go.RowKit.intOf i).toNat)
  case atStart => exact ⟨0, Nat.zero_le _, rfl, by simp⟩
  case round =>
    obtain ⟨k, hk, rfl, hf⟩ := hrel
    have HF := Lib.hid hf
    clear hf
    by_cases hlt : k < n
    · obtain ⟨a, ha⟩ : ∃ a, l[k]? = some a := ⟨_, List.getElem?_eq_getElem (by rw [HL.out]; exact hlt)⟩
      obtain ⟨b, o, rfl, hbl, hcell⟩ := HS.out.2 k a.cells (by rw [List.getElem?_map, ha]; rfl)
      have c2 := hcell 1 _ rfl
      have c3 := hcell 3 _ rfl
      have hsl := strLen a.s
      have hki : (k : Int) < (n : Int) := by omega
      have HA := Lib.hid ha
      have hyes : a.few → ∀ x ∈ l.take (k + 1), x.few := fun h x hx => by
        rw [List.take_add_one, HA.out] at hx
        simp only [List.mem_append, Option.toList_some, List.mem_singleton] at hx
        rcases hx with hx | rfl
        · exact HF.out x hx
        · exact h
      have hno : ¬ a.few → r = false := fun h => by
        rw [← HR.out, fewOps]
        have : ¬ ∀ x ∈ l, x.few := fun h' => h (h' a (List.mem_of_getElem? HA.out))
        simp [this]
      have HY := Lib.hid hyes
      have HN := Lib.hid hno
      clear hcell hyes hno ha
      by_cases h1 : 200 < (a.s.length : Int)
      · obtain rfl : false = r := (HN.out (fun h => by have := h.1; omega)).symm
        go_wp2_with (fail)
        go_ret
        exact ⟨rfl, rfl⟩
      by_cases h2 : 50 < (a.keep.length : Int)
      · obtain rfl : false = r := (HN.out (fun h => by have := h.2; omega)).symm
        have h1' : (a.s.length : Int) ≤ 200 := by omega
        clear h1
        go_wp2_with (fail)
        go_ret
        exact ⟨rfl, rfl⟩
      have h1' : (a.s.length : Int) ≤ 200 := by omega
      have h2' : (a.keep.length : Int) ≤ 50 := by omega
      have HFW : Hid a.few := ⟨by omega, by omega⟩
      clear h1 h2
      go_wp2_with (fail)
      go_round
      case rel => exact ⟨k + 1, by omega, by go_num, HY.out HFW.out⟩
      case measure => simp [Go.RowKit.intOf]; omega
    · obtain rfl : k = n := by omega
      have hki : (k : Int) ≤ (k : Int) := Int.le_refl _
      go_wp2_with (fail)
      go_ret
      refine ⟨ret_bool ?_, rfl⟩
      rw [← HR.out, fewOps, HL.out]
      have hf := HF.out
      rw [List.take_of_length_le (by rw [HL.out]; exact Nat.le_refl _)] at hf
      have h5 : decide (∀ a ∈ l, a.few) = true := by simpa using hf
      rw [h5]
      simp
      omega
def textsB (l : List (List UInt8)) : Bool := decide (∀ a ∈ l, a.length ≤ 200) && decide (l.length ≤ 8)
end Go.Proofs.YtniiahmpdkgplaaGreatDoor
namespace Go.Proofs.YtniiahmpdkgplaaGreatDoor
open Go.RowKit Go.Sort Go.Lib

def fAB : List UInt8 := [50, 58, 97, 98, 44, 50, 57, 51, 59]
def fE : List UInt8 := [48, 58, 44, 48, 59]
def fX : List UInt8 := [49, 58, 97, 44, 57, 56, 59]
theorem form_ab : formB [97, 98] = fAB := by simp [formB, fAB, encT, encN, encI, Lib.itoa, Lib.decDigits, sumF, sumGo]
theorem form_e : formB [] = fE := by simp [formB, fE, encT, encN, encI, Lib.itoa, Lib.decDigits, sumF, sumGo]
theorem form_a : formB [97] = [49, 58, 97, 44, 57, 55, 59] := by simp [formB, encT, encN, encI, Lib.itoa, Lib.decDigits, sumF, sumGo]
theorem enc_a : encT [97] = [49, 58, 97, 44] := by simp [encT, Lib.itoa, Lib.decDigits]
theorem step_x : stepJ fX = none := by
  cases h : stepJ fX with
  | none => rfl
  | some t =>
    obtain ⟨h1, r, h2⟩ := stepJ_iff.1 h
    have h3 := (form_read (t := t) (by omega) r).1
    have h4 := textF_read (s := [97]) (by simp) [57, 56, 59]
    rw [enc_a] at h4
    rw [h2] at h3
    have h5 : (fX : List UInt8) = [49, 58, 97, 44] ++ [57, 56, 59] := rfl
    rw [h5, h4] at h3
    have h6 : ([97] : List UInt8) = t := congrArg (fun x => x.1) h3
    subst h6
    rw [form_a] at h2
    exact absurd h2 (by simp [fX])
theorem recs_x : recsF (fAB ++ fX) = [[97, 98]] := by
  have h := recsF_forms [[97, 98]] fX (fun t ht => by simp only [List.mem_singleton] at ht; subst ht; simp)
  rw [formsB_one, form_ab, recsF_none step_x] at h
  exact h
def sj1 : DV := (openJ newD 3).1
def sj2 : DV := (WriteF sj1 3 0 fAB).1
def sj3 : DV := (WriteF sj2 3 9 fE).1
def sj4 : DV := (WriteF sj3 4 0 (fAB ++ fX)).1
def sj5 : DV := (SyncF sj4 4).1
def sj6 : DV := (TruncF sj5 4 9).1
theorem sf1 : openJ newD 3 = (sj1, some ⟨3, [], 0, false⟩, 0) := by kernel_rfl
theorem sf2 : appendJ sj1 ⟨3, [], 0, false⟩ [97, 98] = (sj2, ⟨3, [[97, 98]], 9, false⟩, 0) := by
  unfold appendJ
  rw [form_ab]
  kernel_rfl
theorem sf3 : appendJ sj2 ⟨3, [[97, 98]], 9, false⟩ [] = (sj3, ⟨3, [[97, 98], []], 14, false⟩, 0) := by
  unfold appendJ
  rw [form_e]
  kernel_rfl
theorem sf4 : ReadF sj3 3 0 99 = ([50, 58, 97, 98, 44, 50, 57, 51, 59, 48, 58, 44, 48, 59], 0) := by kernel_rfl
theorem sf5 : WriteF sj3 4 0 [50, 58, 97, 98, 44, 50, 57, 51, 59, 49, 58, 97, 44, 57, 56, 59] = (sj4, 0) := by kernel_rfl
theorem sf6 : openJ sj4 4 = (sj6, some ⟨4, [[97, 98]], 9, false⟩, 0) := by
  have h1 : SyncF sj4 4 = (sj5, 0) := by kernel_rfl
  have h2 : (sj5.file 4).now = fAB ++ fX := by kernel_rfl
  have h3 : TruncF sj5 4 9 = (sj6, 0) := by kernel_rfl
  unfold openJ
  dsimp only
  rw [h1]
  dsimp only
  rw [h2, recs_x, formsB_one, form_ab]
  have h4 : ((fAB.length : Nat) : Int) = 9 := rfl
  rw [h4, h3]
  rfl
theorem sf7 : ((sj6.file 4).now.length : Int) = 9 := by kernel_rfl
theorem sum_e : sumF [] = 0 := by kernel_rfl
theorem sum_a : sumF [97] = 97 := by kernel_rfl
theorem sum_ab : sumF [97, 98] = 293 := by kernel_rfl
theorem Sl.lit1 (w : World) (e : TypeId) (x : Value) : Sl (w.alloc (.cells #[x] e)) 1 (some ⟨w.heap.size, 0, none⟩) 1 [[x]] :=
  ⟨rfl, fun i z hz => by
    match i, hz with
    | 0, hz =>
      simp at hz
      subst hz
      refine ⟨w.heap.size, 0, rfl, by simp, fun j v hv => ?_⟩
      rw [World.cell?_alloc_at _ _ _ _ rfl]
      match j, hv with
      | 0, hv => simpa using hv
      | j + 1, hv => simp at hv
    | i + 1, hz => simp at hz⟩
set_option maxRecDepth 100000 in
set_option maxHeartbeats 4000000 in
theorem small_any (w : World) (hE : Env w.heap.size w) : Calls Tryz.prog 4 #[] w fun e w' => e = .returned (.bool true) ∧ Below w.heap.size w w' := by
  have HE := Lib.hid hE
  clear hE
  go_enter Tryz.func4, Tryz.ntmps4
  go_wp2_with (fail)
  ((with_reducible refine (New_sep (Sep.start w)).mono ?_); rintro e w1 ⟨B, rfl, h1⟩)
  have H1 := Lib.hid h1
  clear h1
  go_wp2_with (fail)
  ((with_reducible refine (Open_sep H1.out HE.out 3 _ sf1).mono ?_); rintro e w2 ⟨J, rfl, h1⟩)
  have H2 := Lib.hid h1
  clear h1
  go_wp2_with (fail)
  ((with_reducible refine (Append_sep H2.out HE.out (by simp) (by simp) [97, 98] (by simp) _ sf2).mono ?_); rintro e w3 ⟨rfl, h1⟩)
  have H3 : Hid (Sep w w3 (jourR B J ⟨3, [[97, 98]], 9, false⟩ :: diskR B sj2 :: [])) := h1
  clear h1
  go_wp2_with (fail)
  ((with_reducible refine (Append_sep H3.out HE.out (by simp) (by simp) [] (by simp) _ sf3).mono ?_); rintro e w4 ⟨rfl, h1⟩)
  have H4 : Hid (Sep w w4 (jourR B J ⟨3, [[97, 98], []], 14, false⟩ :: diskR B sj3 :: [])) := h1
  clear h1
  go_wp2_with (fail)
  ((with_reducible refine (Read_sep H4.out.sw 3 0 99 _ sf4).mono ?_); rintro _ _ ⟨rfl, rfl⟩)
  go_wp2_with (fail)
  ((with_reducible refine (Write_sep H4.out.sw 4 0 [50, 58, 97, 98, 44, 50, 57, 51, 59, 49, 58, 97, 44, 57, 56, 59] (by simp) (by simp) _ sf5).mono ?_); rintro e w5 ⟨rfl, h1⟩)
  have H5 : Hid (Sep w w5 (diskR B sj4 :: jourR B J ⟨3, [[97, 98], []], 14, false⟩ :: [])) := h1
  clear h1
  go_wp2_with (fail)
  ((with_reducible refine (Open_sep H5.out HE.out 4 _ sf6).mono ?_); rintro e w6 ⟨K, rfl, h1⟩)
  have H6 := Lib.hid h1
  clear h1
  go_wp2_with (fail)
  ((with_reducible refine (Sum_any _ [] (by simp) _ sum_e).mono ?_); rintro _ _ ⟨rfl, rfl⟩)
  go_wp2_with (fail)
  ((with_reducible refine (Sum_any _ [97] (by simp) _ sum_a).mono ?_); rintro _ _ ⟨rfl, rfl⟩)
  go_wp2_with (fail)
  ((with_reducible refine (Sum_any _ [97, 98] (by simp) _ sum_ab).mono ?_); rintro _ _ ⟨rfl, rfl⟩)
  go_wp2_with (fail)
  ((with_reducible refine (Len_sep H6.out.r3 2 rfl).mono ?_); rintro _ _ ⟨rfl, rfl⟩)
  go_wp2_with (fail)
  ((with_reducible refine (Get_sep H6.out.r3 0 [97, 98] rfl).mono ?_); rintro _ _ ⟨rfl, rfl⟩)
  go_wp2_with (fail)
  ((with_reducible refine (All_sep H6.out (by simp)).mono ?_); rintro e w7 ⟨A, c, rfl, h1⟩)
  have H7 := Lib.hid h1
  clear h1
  go_wp2_with (fail)
  ((with_reducible refine (SameTexts_any _ A _ 1 1 c 1 [[97, 98]] [[97, 98]] (Own.sl' (H7.out.alloc _).own) (Sl.lit1 _ _ _) (by simp) true rfl).mono ?_); rintro _ w8 ⟨rfl, hb8⟩)
  have H8 := Lib.hid ((H7.out.alloc _).below hb8)
  clear hb8
  go_wp2_with (fail)
  ((with_reducible refine (Size_sep H8.out.r3 4 9 sf7).mono ?_); rintro _ _ ⟨rfl, rfl⟩)
  go_wp2_with (fail)
  go_ret
  exact ⟨rfl, H8.out.base⟩
end Go.Proofs.YtniiahmpdkgplaaGreatDoor
