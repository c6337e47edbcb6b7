/- disk: how a disk lies in memory; the small methods, walked. -/
import Derived.Test.YthnechlnaacgfaaDiskP
import Derived.Test.YthnechlnaacgfaaDiskK
import Derived.Deep.QuietTactic
import Derived.BigQuiet
namespace Go.Proofs.Ythnechlnaacgfaa
open Go.RowKit

def strV (l : List UInt8) : Value := .string ⟨l.toArray⟩
def fileV (x : FileV) : Value := .agg #[strV x.now, strV x.last]
def secCells (p : Int × Int) : List Value := [.int .i64 p.1, .int .i64 p.2]
/-- The struct of a disk lies in block B; it writes blocks of F alone. -/
structure DiskAt (w : World) (F : Nat → Prop) (B : Nat) (d : DV) (mf ms : Nat) (Q : Option Addr) (cq : Nat) (K : Option Addr) (ck : Nat) : Prop where
  loc : Loc w B #[.map (some mf), .slice Q d.queue.length cq, .map (some ms), .int .i64 d.lost, .bool d.down, .int .i64 d.armed, .slice K d.keep.length ck]
  files : MapAt w mf (entV (Value.int .i64) fileV d.files)
  set : MapAt w ms (entV secV Value.bool (d.queue.map fun p => (p, true)))
  queue : Own w 0 70 2 (.slice Q d.queue.length cq) d.queue.length (d.queue.map secCells)
  keep : Sl w 1 K d.keep.length (d.keep.map fun k => [.int .i64 k])
  fB : F B
  ff : F mf
  fs : F ms
  fq : ∀ b, (Value.slice Q 0 0).ownBlock = some b → F b
  fk : d.keep ≠ [] → ∀ ad, K = some ad → ¬ F ad.block
  ne : mf ≠ ms
  nq : (Value.slice Q 0 0).ownBlock ≠ some B
  lt : ∀ b, F b → b < w.heap.size

/-- Nothing has turned but the blocks of F, and new ones. -/
structure Keeps (F : Nat → Prop) (w w' : World) : Prop where
  os : w'.os = w.os
  tape : w'.tape = w.tape
  output : w'.output = w.output
  size : w.heap.size ≤ w'.heap.size
  block : ∀ k, k < w.heap.size → ¬ F k → w'.heap[k]? = w.heap[k]?
/-- F, and what has been made since -/
def Plus (F : Nat → Prop) (w w' : World) (k : Nat) : Prop := F k ∨ (w.heap.size ≤ k ∧ k < w'.heap.size)
section
variable {F G : Nat → Prop} {w w' w'' : World}
theorem Keeps.refl (F : Nat → Prop) (w : World) : Keeps F w w := ⟨rfl, rfl, rfl, Nat.le_refl _, fun _ _ _ => rfl⟩
theorem Keeps.trans (h : Keeps F w w') (k : Keeps (Plus F w w') w' w'') : Keeps F w w'' :=
  ⟨k.os.trans h.os, k.tape.trans h.tape, k.output.trans h.output, Nat.le_trans h.size k.size, fun i hi hf => (k.block i (Nat.lt_of_lt_of_le hi h.size) (fun hp => by rcases hp with hp | hp; exact hf hp; omega)).trans (h.block i hi hf)⟩
theorem Keeps.mono (h : Keeps F w w') (hg : ∀ k, F k → G k) : Keeps G w w' := ⟨h.os, h.tape, h.output, h.size, fun k hk hn => h.block k hk (fun hf => hn (hg k hf))⟩
theorem Keeps.grown {row : Option Nat} (hg : w.grownBy w' row) (hr : ∀ b, row = some b → F b) : Keeps F w w' :=
  ⟨hg.os, hg.tape, hg.output, hg.size, fun k hk hn => hg.block k hk (fun e => hn (hr k e.symm))⟩
theorem Keeps.setCell {p : Addr} (hp : F p.block) (v : Value) : Keeps F w (w.setCell p v) := Keeps.grown (grownBy_setCell w p v) (fun b hb => by injection hb with hb; rw [← hb]; exact hp)
theorem Keeps.below (hb : Below w.heap.size w w') : Keeps F w w' := ⟨hb.os, hb.tape, hb.output, hb.size, fun k hk _ => hb.block k hk⟩
theorem MapAt.grown {b : Nat} {es : List (Value × Value)} {row : Option Nat} (h : MapAt w b es) (hg : w.grownBy w' row) (hne : row ≠ some b) : MapAt w' b es := by
  obtain ⟨arr, clock, hb, r⟩ := h
  exact ⟨arr, clock, by rw [hg.block b (Array.getElem?_eq_some_iff.1 hb).1 (fun e => hne e.symm)]; exact hb, r⟩
theorem MapAt.lt {b : Nat} {es : List (Value × Value)} (h : MapAt w b es) : b < w.heap.size := by
  obtain ⟨arr, clock, hb, _⟩ := h
  exact (Array.getElem?_eq_some_iff.1 hb).1
theorem loc_ne_map {n b : Nat} {X : Array Value} {es : List (Value × Value)} (hl : Loc w n X) (hX : 0 < X.size) (hm : MapAt w b es) : n ≠ b := by
  rintro rfl
  obtain ⟨arr, clock, hb, _⟩ := hm
  have h0 := hl.cell 0
  simp only [World.cell?, hb] at h0
  rw [Array.getElem?_eq_getElem hX] at h0
  cases h0
end

section
variable {w : World} {F : Nat → Prop} {B : Nat} {d : DV} {mf ms : Nat} {Q : Option Addr} {cq : Nat} {K : Option Addr} {ck : Nat}
set_option maxHeartbeats 400000 in
theorem may_any (h : DiskAt w F B d mf ms Q cq K ck) (f : Int) (r : Int) (hr : mayF d f = r) :
    Calls Try.prog 44 #[.pointer (some ⟨B, 0, none⟩), .int .i64 f] w fun e w' => e = .returned (.int .i64 r) ∧ w = w' := by
  obtain ⟨zB, kB, fB⟩ := h.loc
  subst hr
  unfold mayF
  rcases hd : d.down with _ | _
  · rw [hd] at kB
    rw [if_neg (by simp)]
    clear h hd
    by_cases h1 : f < 0
    · rw [if_pos (Or.inl h1)]
      go_enter Try.func44, Try.ntmps44
      go_wp2_with (fail)
      go_ret
      exact ⟨rfl, rfl⟩
    · by_cases h2 : 16 ≤ f
      · rw [if_pos (Or.inr h2)]
        go_enter Try.func44, Try.ntmps44
        go_wp2_with (fail)
        go_ret
        exact ⟨rfl, rfl⟩
      · rw [if_neg (by omega)]
        go_enter Try.func44, Try.ntmps44
        go_wp2_with (fail)
        go_ret
        exact ⟨rfl, rfl⟩
  · rw [hd] at kB
    rw [if_pos rfl]
    clear h hd
    go_enter Try.func44, Try.ntmps44
    go_wp2_with (fail)
    go_ret
    exact ⟨rfl, rfl⟩

/-- a number or a bool of the struct is stored -/
theorem DiskAt.setField (h : DiskAt w F B d mf ms Q cq K ck) (lost armed : Int) (down : Bool) {i : Nat} {v : Value} (hX : (#[.map (some mf), .slice Q d.queue.length cq, .map (some ms), .int .i64 d.lost, .bool d.down, .int .i64 d.armed, .slice K d.keep.length ck] : Array Value).setIfInBounds i v = #[.map (some mf), .slice Q d.queue.length cq, .map (some ms), .int .i64 lost, .bool down, .int .i64 armed, .slice K d.keep.length ck]) :
    DiskAt (w.setCell ⟨B, i, none⟩ v) F B { d with lost := lost, armed := armed, down := down } mf ms Q cq K ck := by
  have hg := grownBy_setCell w ⟨B, i, none⟩ v
  have hl := h.loc.set_ i v
  rw [hX] at hl
  refine ⟨hl, h.files.grown hg (fun e => loc_ne_map h.loc (by simp) h.files (by injection e)), h.set.grown hg (fun e => loc_ne_map h.loc (by simp) h.set (by injection e)), h.queue.kept hg ?_, ?_, h.fB, h.ff, h.fs, h.fq, h.fk, h.ne, h.nq, fun b hb => by rw [World.size_setCell]; exact h.lt b hb⟩
  · exact .inr (fun e => h.nq (by rw [slice_block] at e; exact e))
  · refine h.keep.grown hg ?_
    by_cases hk : d.keep = []
    · exact .inl (by rw [hk]; rfl)
    · exact .inr fun ad e e' => h.fk hk ad e (by injection e' with e'; rw [← e']; exact h.fB)

set_option maxHeartbeats 1000000 in
theorem ends_any (h : DiskAt w F B d mf ms Q cq K ck) (ha : 0 ≤ d.armed ∧ d.armed ≤ 9223372036854775807) :
    Calls Try.prog 43 #[.pointer (some ⟨B, 0, none⟩)] w fun e w' => e = .returned (.bool (endsF d).2) ∧ DiskAt w' F B (endsF d).1 mf ms Q cq K ck ∧ Keeps F w w' ∧ w'.heap.size = w.heap.size := by
  have H := Lib.hid h
  obtain ⟨zB, kB, fB⟩ := h.loc
  obtain ⟨a1, a2⟩ := ha
  clear h
  rcases hd : d.down with _ | _
  · by_cases h0 : d.armed = 0
    · have h0' : (d.armed == 0) = true := by simpa using h0
      have e1 : endsF d = (d, false) := by unfold endsF; rw [if_pos (Or.inr h0)]
      rw [e1]
      rw [hd] at kB
      clear hd h0
      go_enter Try.func43, Try.ntmps43
      go_wp2_with (fail)
      go_ret
      exact ⟨rfl, H.out, Keeps.refl _ _, rfl⟩
    · have h0' : (d.armed == 0) = false := by simpa using h0
      have e1 : endsF d = ({ d with armed := d.armed - 1 }, decide (d.armed - 1 = 0)) := by unfold endsF; rw [if_neg (by simp [hd, h0])]
      rw [e1]
      have HF := Lib.hid (H.out.setField d.lost (d.armed - 1) d.down (i := 5) (v := .int .i64 (d.armed - 1)) (by simp))
      rw [hd] at kB
      have hpos : 1 ≤ d.armed := by omega
      clear hd h0 e1
      go_enter Try.func43, Try.ntmps43
      go_wp2_with (fail)
      go_ret
      exact ⟨ret_bool (by rw [Bool.eq_iff_iff]; simp), HF.out, Keeps.setCell H.out.fB _, by rw [World.size_setCell]⟩
  · have e1 : endsF d = (d, false) := by unfold endsF; rw [if_pos (Or.inl hd)]
    rw [e1]
    rw [hd] at kB
    clear hd
    go_enter Try.func43, Try.ntmps43
    go_wp2_with (fail)
    go_ret
    exact ⟨rfl, H.out, Keeps.refl _ _, rfl⟩

set_option maxHeartbeats 400000 in
theorem Down_any (h : DiskAt w F B d mf ms Q cq K ck) :
    Calls Try.prog 14 #[.pointer (some ⟨B, 0, none⟩)] w fun e w' => e = .returned (.bool d.down) ∧ w = w' := by
  obtain ⟨zB, kB, fB⟩ := h.loc
  clear h
  go_enter Try.func14, Try.ntmps14
  go_wp2_with (fail)
  go_ret
  exact ⟨rfl, rfl⟩

set_option maxHeartbeats 400000 in
theorem Start_any (h : DiskAt w F B d mf ms Q cq K ck) :
    Calls Try.prog 26 #[.pointer (some ⟨B, 0, none⟩)] w fun e w' => e = .returned (.tuple #[]) ∧ DiskAt w' F B (StartF d) mf ms Q cq K ck ∧ Keeps F w w' ∧ w'.heap.size = w.heap.size := by
  have HF := Lib.hid (h.setField d.lost d.armed false (i := 4) (v := .bool false) (by simp))
  have HB := Lib.hid h.fB
  obtain ⟨zB, kB, fB⟩ := h.loc
  clear h
  go_enter Try.func26, Try.ntmps26
  go_wp2_with (fail)
  go_end0
  exact ⟨rfl, HF.out, Keeps.setCell HB.out _, by rw [World.size_setCell]⟩

set_option maxHeartbeats 400000 in
theorem Lose_any (h : DiskAt w F B d mf ms Q cq K ck) (n : Int) :
    Calls Try.prog 31 #[.pointer (some ⟨B, 0, none⟩), .int .i64 n] w fun e w' => e = .returned (.tuple #[]) ∧ DiskAt w' F B (LoseF d n) mf ms Q cq K ck ∧ Keeps F w w' ∧ w'.heap.size = w.heap.size := by
  have HB := Lib.hid h.fB
  obtain ⟨zB, kB, fB⟩ := h.loc
  by_cases hn : n < 0
  · have e : LoseF d n = { d with lost := 0 } := by unfold LoseF; rw [show max n 0 = 0 by omega]
    rw [e]
    have HF := Lib.hid (h.setField 0 d.armed d.down (i := 3) (v := .int .i64 0) (by simp))
    clear h e
    go_enter Try.func31, Try.ntmps31
    go_wp2_with (fail)
    go_end0
    exact ⟨rfl, HF.out, Keeps.setCell HB.out _, by rw [World.size_setCell]⟩
  · have e : LoseF d n = { d with lost := n } := by unfold LoseF; rw [show max n 0 = n by omega]
    rw [e]
    have HF := Lib.hid (h.setField n d.armed d.down (i := 3) (v := .int .i64 n) (by simp))
    have hn' : 0 ≤ n := by omega
    clear h e
    go_enter Try.func31, Try.ntmps31
    go_wp2_with (fail)
    go_end0
    exact ⟨rfl, HF.out, Keeps.setCell HB.out _, by rw [World.size_setCell]⟩
end
end Go.Proofs.Ythnechlnaacgfaa
