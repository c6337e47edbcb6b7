/- wire: a reader in memory; Open, Left, Done, Rest, fail, walked (both readers). -/
/- wire: words for both readers' walks: strings, what a method of a reader leaves, a run of items (plain Lean). -/
import Derived.Test.YtjncmlglhegnaaaGreatDoorBase4
import Derived.Test.YtjncmlglhegnaaaGreatDoorChainP
import Derived.IntWalk
namespace Go.Proofs.YtjncmlglhegnaaaGreatDoor
open Go.RowKit

/-- a reader's two cells -/
def RdAt (w : World) (b : Nat) (r : RdV) : Prop := Loc w b #[.string ⟨r.rest.toArray⟩, .bool r.bad]
theorem RdAt.set2 {w : World} {b : Nat} {r : RdV} (h : RdAt w b r) (t : List UInt8) (x : Bool) : RdAt ((w.setCell ⟨b, 0, none⟩ (.string ⟨t.toArray⟩)).setCell ⟨b, 1, none⟩ (.bool x)) b ⟨t, x⟩ := (h.set_ 0 (.string ⟨t.toArray⟩)).set_ 1 (.bool x)
theorem RdAt.set1 {w : World} {b : Nat} {r : RdV} (h : RdAt w b r) (t : List UInt8) : RdAt (w.setCell ⟨b, 0, none⟩ (.string ⟨t.toArray⟩)) b ⟨t, r.bad⟩ := h.set_ 0 (.string ⟨t.toArray⟩)
theorem grown_set2 (w : World) (b i j : Nat) (u v : Value) : w.grownBy ((w.setCell ⟨b, i, none⟩ u).setCell ⟨b, j, none⟩ v) (some b) := (grownBy_setCell w ⟨b, i, none⟩ u).trans (grownBy_setCell _ ⟨b, j, none⟩ v)
set_option maxRecDepth 100000 in
set_option maxHeartbeats 1000000 in
theorem fail_any {w : World} {b : Nat} {r : RdV} (h : RdAt w b r) :
    Calls Tryz.prog 185 #[.pointer (some ⟨b, 0, none⟩)] w fun e w' => e = .returned (.tuple #[]) ∧ RdAt w' b .fail ∧ w.grownBy w' (some b) := by
  have H2 := Lib.hid (h.set2 [] true)
  have G2 := Lib.hid (grown_set2 w b 0 1 (.string ⟨#[]⟩) (.bool true))
  obtain ⟨z, k, f⟩ := h
  go_enter Tryz.func185, Tryz.ntmps185
  go_wp2_with (fail)
  first
    | exact bodyPost_ret (v := .tuple #[]) (by simp [results, Tryz.results185, go_sem]) rfl ⟨rfl, H2.out, G2.out⟩
    | exact ⟨rfl, .tuple #[], by simp [results, Tryz.results185, go_sem], rfl, H2.out, G2.out⟩
    | exact ⟨rfl, _, rfl, rfl, H2.out, G2.out⟩
def doneB (r : RdV) : Bool := !r.bad && decide (r.rest = [])
set_option maxRecDepth 100000 in
set_option maxHeartbeats 1000000 in
theorem Done_any {w : World} {b : Nat} {r : RdV} (h : RdAt w b r) (d : Bool) (hd : doneB r = d) :
    Calls Tryz.prog 101 #[.pointer (some ⟨b, 0, none⟩)] w fun e w' => e = .returned (.bool d) ∧ w = w' := by
  subst hd
  obtain ⟨l, x⟩ := r
  obtain ⟨z, k, f⟩ := h
  cases x
  · by_cases hl : l = []
    · subst hl
      go_enter Tryz.func101, Tryz.ntmps101
      go_wp2_with (fail)
      go_ret
      exact ⟨by simp [doneB], rfl⟩
    · go_enter Tryz.func101, Tryz.ntmps101
      go_wp2_with (fail)
      go_ret
      exact ⟨by simp [doneB, hl], rfl⟩
  · go_enter Tryz.func101, Tryz.ntmps101
    go_wp2_with (fail)
    go_ret
    exact ⟨by simp [doneB], rfl⟩
set_option maxRecDepth 100000 in
set_option maxHeartbeats 1000000 in
theorem Open_any (w : World) (s : List UInt8) :
    Calls Tryz.prog 99 #[.string ⟨s.toArray⟩] w fun e w' => e = .returned (.pointer (some ⟨w.heap.size, 0, none⟩)) ∧ RdAt w' w.heap.size ⟨s, false⟩ ∧ Below w.heap.size w w' := by
  go_enter Tryz.func99, Tryz.ntmps99
  go_wp2_with (fail)
  go_ret
  exact ⟨rfl, Loc.new_ _ _ _, below_alloc w _⟩
end Go.Proofs.YtjncmlglhegnaaaGreatDoor
namespace Go.Proofs.YtjncmlglhegnaaaGreatDoor
open Go.RowKit Go.Lib

theorem str_app (a b : List UInt8) : (⟨a.toArray⟩ : ByteArray) ++ (⟨b.toArray⟩ : ByteArray) = ⟨(a ++ b).toArray⟩ := by
  apply ByteArray.ext
  simp
theorem str_at {s : List UInt8} {k : Nat} {c : UInt8} (h : s[k]? = some c) (hk : k < (⟨s.toArray⟩ : ByteArray).size) : (⟨s.toArray⟩ : ByteArray)[k]'hk = c := by
  have h2 : (⟨s.toArray⟩ : ByteArray)[k]'hk = s[k]'(by simpa [ByteArray.size] using hk) := rfl
  rw [h2]
  exact (List.getElem_eq_iff _).2 h
theorem str_size (s : List UInt8) : (⟨s.toArray⟩ : ByteArray).size = s.length := by simp [ByteArray.size]
theorem str_ext (l : List UInt8) (a b : Nat) : (⟨l.toArray⟩ : ByteArray).extract a b = ⟨((l.take b).drop a).toArray⟩ := by
  apply ByteArray.ext
  simp [ByteArray.data_extract]
  rw [List.drop_take]
theorem grown_row {w w' : World} (b : Nat) (h : Below w.heap.size w w') : w.grownBy w' (some b) := ⟨h.os, h.tape, h.output, h.size, fun k hk _ => h.block k hk⟩
theorem RdAt.below {w w' : World} {b : Nat} {r : RdV} (h : RdAt w b r) (hb : Below w.heap.size w w') : RdAt w' b r := Loc.below h hb
theorem RdAt.is {w : World} {b : Nat} {r r' : RdV} (h : RdAt w b r) (e : r = r') : RdAt w b r' := e ▸ h
/-- what a method of a reader leaves -/
def RdPost (w : World) (b : Nat) (v : Value) (r : RdV) (e : Ending) (w' : World) : Prop := e = .returned v ∧ RdAt w' b r ∧ w.grownBy w' (some b)
def closeB (e : UInt8) (r : RdV) : Bool := decide (r.rest.head? = some e)
theorem numF_ok {e : UInt8} {least : Int} {r : RdV} (h : r.ok) : (numF e least r).2 = .fail ∧ (numF e least r).1 = 0 ∨ (numF e least r).2.bad = false ∧ r.bad = false ∧ least ≤ (numF e least r).1 ∧ (numF e least r).1 ≤ 9223372036854775807 ∧ -9223372036854775808 ≤ (numF e least r).1 ∧ (numF e least r).2.rest.length < r.rest.length := by
  obtain ⟨n, r', hn⟩ : ∃ n r', numF e least r = (n, r') := ⟨_, _, rfl⟩
  rw [hn]
  rcases numF_was hn with ⟨h1, h2⟩ | ⟨h1, h2, h3, h4, h5⟩
  · exact .inl ⟨h2, h1⟩
  · have hb : r.bad = false := by
      by_cases hb : r.bad = true
      · rw [h hb] at h1
        simp at h1
      · simpa using hb
    refine .inr ⟨h2.trans hb, hb, h3, h5, h4, ?_⟩
    have := congrArg List.length h1
    rw [List.length_append, List.length_cons] at this
    show r'.rest.length < r.rest.length
    omega
theorem fail_ok : RdV.fail.ok := fun _ => rfl
theorem ok_of {r : RdV} (h : r.bad = false) : r.ok := fun h2 => by rw [h] at h2; cases h2
theorem numF_keeps {e : UInt8} {least : Int} {r : RdV} (h : r.ok) : (numF e least r).2.ok ∧ (numF e least r).2.rest.length ≤ r.rest.length := by
  rcases numF_ok (e := e) (least := least) h with ⟨h1, _⟩ | ⟨h1, _, _, _, _, h2⟩
  · rw [h1]; exact ⟨fail_ok, Nat.zero_le _⟩
  · exact ⟨ok_of h1, by omega⟩
theorem closeF_keeps {e : UInt8} {r : RdV} (h : r.ok) : (closeF e r).ok ∧ (closeF e r).rest.length ≤ r.rest.length := by
  unfold closeF
  split
  · exact ⟨fail_ok, Nat.zero_le _⟩
  · rename_i c t hc
    split
    · refine ⟨fun h2 => ?_, by rw [hc]; simp⟩
      have := h h2
      rw [hc] at this
      cases this
    · exact ⟨fail_ok, Nat.zero_le _⟩
/-- the ways of a text -/
theorem textF_ways {r r1 : RdV} {n : Int} (hn : numF 58 0 r = (n, r1)) (x : List UInt8 × RdV) (hx : textF r = x) (hok : r.ok) :
    (r1 = .fail ∧ n = 0 ∧ x = ([], .fail)) ∨
    (∃ k : Nat, n = (k : Int) ∧ r1.bad = false ∧ ((r1.rest.length < k ∧ x = ([], .fail)) ∨
      (k ≤ r1.rest.length ∧ closeF 44 ⟨r1.rest.drop k, false⟩ = .fail ∧ closeB 44 ⟨r1.rest.drop k, false⟩ = false ∧ x = ([], .fail)) ∨
      (k < r1.rest.length ∧ (closeF 44 ⟨r1.rest.drop k, false⟩).bad = false ∧ closeB 44 ⟨r1.rest.drop k, false⟩ = true ∧ x = (r1.rest.take k, closeF 44 ⟨r1.rest.drop k, false⟩)))) := by
  have ho := numF_ok (e := 58) (least := 0) hok
  rw [hn] at ho
  unfold textF at hx
  rw [hn] at hx
  simp only at hx ho
  rcases ho with ⟨h1, h2⟩ | ⟨h1, h2, h3, h4, _⟩
  · subst h1 h2
    refine .inl ⟨rfl, rfl, ?_⟩
    rw [← hx]
    simp [RdV.fail, closeF]
  · refine .inr ⟨n.toNat, by omega, h1, ?_⟩
    rw [h1] at hx
    by_cases hlt : (r1.rest.length : Int) < n
    · rw [if_pos hlt] at hx
      exact .inl ⟨by omega, hx.symm⟩
    · rw [if_neg hlt] at hx
      refine .inr ?_
      cases hd : r1.rest.drop n.toNat with
      | nil =>
        rw [hd] at hx
        refine .inl ⟨by omega, rfl, rfl, ?_⟩
        rw [← hx]
        rfl
      | cons c t =>
        rw [hd] at hx
        have hlen : n.toNat < r1.rest.length := by
          have := congrArg List.length hd
          simp at this
          omega
        by_cases hc : c = 44
        · subst hc
          refine .inr ⟨hlen, rfl, by simp [closeB], ?_⟩
          rw [← hx]
          rfl
        · refine .inl ⟨by omega, by simp [closeF, hc], by simp [closeB, hc], ?_⟩
          rw [← hx]
          simp [closeF, hc, RdV.fail]
theorem textF_keeps {r : RdV} (hok : r.ok) : (textF r).2.ok ∧ ((textF r).2.rest.length < r.rest.length ∨ (textF r).2 = .fail) := by
  rcases textF_ways (r := r) (r1 := (numF 58 0 r).2) (n := (numF 58 0 r).1) rfl _ rfl hok with ⟨_, _, h⟩ | ⟨k, h1, h2, ⟨_, h⟩ | ⟨_, _, _, h⟩ | ⟨_, h4, _, h⟩⟩
  · rw [h]; exact ⟨fail_ok, .inr rfl⟩
  · rw [h]; exact ⟨fail_ok, .inr rfl⟩
  · rw [h]; exact ⟨fail_ok, .inr rfl⟩
  · rw [h]
    have h5 := (closeF_keeps (e := 44) (r := ⟨(numF 58 0 r).2.rest.drop k, false⟩) (ok_of rfl)).2
    rcases numF_ok (e := 58) (least := 0) hok with ⟨h6, _⟩ | ⟨_, _, _, _, _, h6⟩
    · rw [h6] at h2; cases h2
    · refine ⟨ok_of h4, .inl ?_⟩
      rw [List.length_drop] at h5
      show (closeF 44 ⟨(numF 58 0 r).2.rest.drop k, false⟩).rest.length < _
      omega

section
variable {α : Type} {one : RdV → α × RdV}
/-- what the reader of one item keeps -/
def Steps (one : RdV → α × RdV) : Prop := ∀ r : RdV, r.ok → (one r).2.ok ∧ ((one r).2.rest.length < r.rest.length ∨ (one r).2 = .fail)
structure RunAt (one : RdV → α × RdV) (N : Nat) (r1 : RdV) (i : Nat) (xs : List α) (ri : RdV) : Prop where
  le : i ≤ N
  ok : ri.ok
  run : runF one N r1 = (xs ++ (runF one (N - i) ri).1, (runF one (N - i) ri).2)
  few : xs.length ≤ r1.rest.length + 1
  more : ri.bad = false → xs.length + ri.rest.length ≤ r1.rest.length
  less : xs.length ≤ i
theorem RunAt.start {N : Nat} {r1 : RdV} (h : r1.ok) : RunAt one N r1 0 [] r1 := ⟨Nat.zero_le _, h, by simp, by simp, by simp, by simp⟩
theorem RunAt.next (hs : Steps one) {N : Nat} {r1 ri : RdV} {i : Nat} {xs : List α} (h : RunAt one N r1 i xs ri) (hi : i < N) (hb : ri.bad = false) : RunAt one N r1 (i + 1) (xs ++ [(one ri).1]) (one ri).2 := by
  have h1 := hs ri h.ok
  have h2 := h.more hb
  refine ⟨hi, h1.1, ?_, ?_, ?_, ?_⟩
  · rw [h.run, show N - i = (N - (i + 1)) + 1 by omega, runF, if_neg (by rw [hb]; simp)]
    simp
  · simp; omega
  · intro hb2
    rcases h1.2 with h3 | h3
    · simp; omega
    · rw [h3] at hb2
      cases hb2
  · have := h.less; simp; omega
theorem RunAt.stop {N : Nat} {r1 ri : RdV} {i : Nat} {xs : List α} (h : RunAt one N r1 i xs ri) (hi : i = N ∨ ri.bad = true) : runF one N r1 = (xs, ri) := by
  rw [h.run]
  rcases hi with rfl | hb
  · simp [runF]
  · cases hk : N - i with
    | zero => simp [runF]
    | succ k => simp [runF, hb]
theorem is_fail {r : RdV} (h : r.ok) (hb : r.bad = true) : r = .fail := by
  obtain ⟨l, x⟩ := r
  have := h hb
  simp only at this hb
  subst this hb
  rfl
theorem itemsF_ways {r r1 ri : RdV} {n : Int} {xs : List α} (hn : numF 91 0 r = (n, r1)) (hr : runF one n.toNat r1 = (xs, ri)) (hok : ri.ok) (x : List α × RdV) (hx : itemsF one r = x) :
    (ri = .fail ∧ x = ([], .fail)) ∨ (ri.bad = false ∧ closeB 93 ri = false ∧ closeF 93 ri = .fail ∧ x = ([], .fail)) ∨ (ri.bad = false ∧ closeB 93 ri = true ∧ (closeF 93 ri).bad = false ∧ x = (xs, closeF 93 ri)) := by
  unfold itemsF at hx
  rw [hn] at hx
  simp only [hr] at hx
  cases hb : ri.bad with
  | true =>
    have hf := is_fail hok hb
    subst hf
    exact .inl ⟨rfl, hx.symm⟩
  | false =>
    obtain ⟨l, bd⟩ := ri
    simp only at hb
    subst hb
    cases l with
    | nil => exact .inr (.inl ⟨rfl, rfl, rfl, hx.symm⟩)
    | cons c t =>
      by_cases hc : c = 93
      · subst hc
        exact .inr (.inr ⟨rfl, rfl, rfl, hx.symm⟩)
      · have h1 : closeF 93 ⟨c :: t, false⟩ = .fail := by simp [closeF, hc]
        rw [h1] at hx
        exact .inr (.inl ⟨rfl, by simp [closeB, hc], h1, hx.symm⟩)
end
theorem intF_steps : Steps intF := fun r h => by
  rcases numF_ok (e := 59) (least := -9223372036854775808) h with ⟨h1, _⟩ | ⟨h1, _, _, _, _, h2⟩
  · exact ⟨by unfold intF; rw [h1]; exact fail_ok, .inr h1⟩
  · exact ⟨ok_of h1, .inl h2⟩
theorem nat_of_num {e : UInt8} {r r1 : RdV} {n : Int} (hok : r.ok) (hn : numF e 0 r = (n, r1)) : ∃ N : Nat, n = (N : Int) ∧ r1.ok ∧ r1.rest.length ≤ r.rest.length ∧ (N : Int) ≤ 9223372036854775807 := by
  have h1 := numF_ok (e := e) (least := 0) hok
  have h2 := numF_keeps (e := e) (least := 0) hok
  rw [hn] at h1 h2
  simp only at h1 h2
  exact ⟨n.toNat, by omega, h2.1, h2.2, by omega⟩
/-- what a reader of a list leaves -/
def ListPost {α : Type} (cells : α → List Value) (size : Nat) (w : World) (b : Nat) (x : List α × RdV) (e : Ending) (w' : World) : Prop :=
  ∃ A c, e = .returned (.slice A x.1.length c) ∧ SlF w w' size A x.1.length (x.1.map cells) ∧ RdAt w' b x.2 ∧ w.grownBy w' (some b)
def intC (n : Int) : List Value := [.int .i64 n]
def strC (s : List UInt8) : List Value := [.string ⟨s.toArray⟩]
theorem grown_over {w wa wb : World} {b : Nat} {e : TypeId} {size n : Nat} {v : Value} {xs : List (List Value)} (h : w.grownBy wa (some b)) (ho : Own wa w.heap.size e size v n xs) (hg : wa.grownBy wb v.ownBlock) : w.grownBy wb (some b) :=
  ⟨hg.os.trans h.os, hg.tape.trans h.tape, hg.output.trans h.output, Nat.le_trans h.size hg.size, fun k hk hne => (hg.block k (Nat.lt_of_lt_of_le hk h.size) (fun e => Nat.lt_irrefl _ (Nat.lt_of_lt_of_le hk (ho.lt k e.symm).1))).trans (h.block k hk hne)⟩
theorem RdAt.grown {w w' : World} {b : Nat} {r : RdV} {row : Option Nat} (h : RdAt w b r) (hg : w.grownBy w' row) (hne : row ≠ some b) : RdAt w' b r := Loc.grown h hg hne
theorem RdAt.alloc {w : World} {b : Nat} {r : RdV} (h : RdAt w b r) (o : Obj) : RdAt (w.alloc o) b r := Loc.alloc h o
theorem infoInt : (Tryz.prog.info? 3).map (fun i => (i.zero, i.size, i.bytes)) = some (some (.int .i64 0), 1, 8) := by kernel_rfl
theorem infoStr : (Tryz.prog.info? 9).map (fun i => (i.zero, i.size, i.bytes)) = some (some (.string ⟨#[]⟩), 1, 16) := by kernel_rfl
theorem alloc_le (w : World) (o : Obj) : w.heap.size ≤ (w.alloc o).heap.size := by simp
theorem Sl.at1 {w : World} {A : Option Addr} {n k : Nat} {xs : List (List Value)} {v : Value} (h : Sl w 1 A n xs) (hx : xs[k]? = some [v]) : ∃ b o, A = some ⟨b, o, none⟩ ∧ b < w.heap.size ∧ w.cell? ⟨b, o + k, none⟩ = some v := by
  obtain ⟨b, o, hA, hb, hc⟩ := h.2 k _ hx
  exact ⟨b, o, hA, hb, by have := hc 0 v rfl; rwa [Nat.mul_one, Nat.add_zero] at this⟩
theorem flat_part {α : Type} (f : α → List UInt8) : ∀ {l : List α} {k : Nat} {x : α}, l[k]? = some x → ((l.take k).map f).flatten.length + (f x).length ≤ (l.map f).flatten.length
  | [], k, x, h => by simp at h
  | a :: l, 0, x, h => by
    simp at h
    subst h
    simp
  | a :: l, k + 1, x, h => by
    have := flat_part f (l := l) (k := k) (x := x) (by simpa using h)
    simp only [List.take_succ_cons, List.map_cons, List.flatten_cons, List.length_append]
    omega
theorem take_succ' {α : Type} {l : List α} {k : Nat} {x : α} (h : l[k]? = some x) : l.take (k + 1) = l.take k ++ [x] := by
  rw [List.take_add_one, h]
  rfl
def inI (x : Int) : Prop := -9223372036854775808 ≤ x ∧ x ≤ 9223372036854775807
theorem flat_le {α : Type} (f : α → List UInt8) (M : Nat) : ∀ (l : List α), (∀ x ∈ l, (f x).length ≤ M) → (l.map f).flatten.length ≤ l.length * M
  | [], _ => by simp
  | a :: l, h => by
    have h1 := h a (by simp)
    have h2 := flat_le f M l fun x hx => h x (by simp [hx])
    simp only [List.map_cons, List.flatten_cons, List.length_append, List.length_cons, Nat.add_mul, Nat.one_mul]
    omega
theorem encI_len {n : Int} (h : inI n) : (encI n).length ≤ 21 := by
  have := itoa_length h.1 h.2
  unfold encI
  simp
  omega
theorem encT_len {s : List UInt8} (h : s.length ≤ 140737488351232) : (encT s).length ≤ s.length + 22 := by
  have := itoa_length (n := (s.length : Int)) (by omega) (by omega)
  unfold encT
  simp
  omega
end Go.Proofs.YtjncmlglhegnaaaGreatDoor
