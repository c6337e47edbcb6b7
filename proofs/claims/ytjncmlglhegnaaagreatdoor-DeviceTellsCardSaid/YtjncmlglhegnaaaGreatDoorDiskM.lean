/- disk: sectors as keys of a map. -/
/- disk: how a disk lies in memory; the small methods, walked. -/
import Derived.Test.YtjncmlglhegnaaaGreatDoorDiskP
import Derived.Test.YtjncmlglhegnaaaGreatDoorSep
import Derived.Deep.QuietTactic
import Derived.BigQuiet
namespace Go.Proofs.YtjncmlglhegnaaaGreatDoor
open Go.RowKit

def secV (p : Int × Int) : Value := .agg #[.int .i64 p.1, .int .i64 p.2]
theorem stoodSector : Tryz.prog.stoodInHeld 119 = false := by kernel_rfl
theorem run_eq_sector (p q : Int × Int) (n : Nat) (w : World) :
    (Op.equalIn (n + 2) 119 (secV p) (secV q)).run Tryz.prog w = .ok (decide (p = q)) w := by
  obtain ⟨a, b⟩ := p
  obtain ⟨c, d⟩ := q
  unfold secV
  rw [run_equalIn_struct w _ _ _ _ (by simp [Program.fieldsOf, Tryz.underlying119]) stoodSector]
  by_cases h1 : a = c
  · subst h1
    by_cases h2 : b = d
    · subst h2
      simp [Program.fieldsOf, Tryz.underlying119, Op.eqFields, go_sem]
    · have h2' : (b == d) = false := by simpa using h2
      simp [Program.fieldsOf, Tryz.underlying119, Op.eqFields, go_sem, h2, h2']
  · have h1' : (a == c) = false := by simpa using h1
    simp [Program.fieldsOf, Tryz.underlying119, Op.eqFields, go_sem, h1, h1']
theorem equal_sector (p q : Int × Int) (w : World) : (Op.equal 119 (secV p) (secV q)).run Tryz.prog w = .ok (decide (p = q)) w := run_eq_sector p q 9998 w
theorem findAsking_sector (k : Int × Int) (w : World) : ∀ (arr : List MapEntry) (ks : List (Int × Int)) (i : Nat), arr.map (·.key) = ks.map secV → (Instr.findAsking 119 (secV k) arr i).run Tryz.prog w = .ok (findIn k ks arr i) w
  | [], [], i, _ => by simp [Instr.findAsking, findIn]
  | [], k' :: ks, i, h => by simp at h
  | e :: es, [], i, h => by simp at h
  | e :: es, k' :: ks, i, h => by
    simp only [List.map_cons, List.cons.injEq] at h
    have ih := findAsking_sector k w es ks (i + 1) h.2
    unfold Instr.findAsking
    simp only [Sem.run_bind, h.1, equal_sector, Result.andThen_ok, findIn]
    by_cases hx : k = k'
    · subst hx; simp
    · simp only [hx, decide_false, if_false, Bool.false_eq_true]
      exact ih
theorem check_sector (em : Bool) (k : Int × Int) (n : Nat) (w : World) : (Instr.checkKey em (n + 2) 119 (secV k)).run Tryz.prog w = .ok () w := by
  rw [Instr.checkKey]
  simp only [secV, Sem.run_bind, run_underlying Tryz.underlying119, Result.andThen_ok]
  simp [Instr.checkKey, run_underlying Tryz.underlying3, go_sem, part]
theorem keyW_sector : KeyW Tryz.prog 119 secV where
  check := fun em k w => check_sector em k 9998 w
  find := fun k arr ks w h => by
    unfold Instr.findKey
    simp only [Sem.run_bind, run_underlying Tryz.underlying119, Result.andThen_ok]
    cases arr with
    | nil => simp [Instr.findNow]; cases ks <;> simp_all [findIn]
    | cons e es =>
      cases ks with
      | nil => simp at h
      | cons k' ks =>
        simp only [Instr.findNow, Instr.sameNow, secV]
        exact findAsking_sector k w (e :: es) (k' :: ks) 0 h
  stays := fun k w => by
    have h : Instr.sameBits 10000 (secV k) (secV k) = true := by
      show Instr.sameBits (9998 + 1 + 1) (secV k) (secV k) = true
      simp [secV, Instr.sameBits]
    simp [Instr.keyThatStays, h]
end Go.Proofs.YtjncmlglhegnaaaGreatDoor
namespace Go.Proofs.YtjncmlglhegnaaaGreatDoor
open Go.RowKit

def strV (l : List UInt8) : Value := .string ⟨l.toArray⟩
def fileV (x : FileV) : Value := .agg #[strV x.now, strV x.last]
def secCells (p : Int × Int) : List Value := [.int .i64 p.1, .int .i64 p.2]
/-- The struct of a disk lies in block B; it writes blocks of F alone. -/
structure DiskAt (w : World) (F : Nat → Prop) (B : Nat) (d : DV) (mf ms : Nat) (Q : Option Addr) (cq : Nat) (K : Option Addr) (ck : Nat) : Prop where
  loc : Loc w B #[.map (some mf), .slice Q d.queue.length cq, .map (some ms), .int .i64 d.lost, .bool d.down, .int .i64 d.armed, .slice K d.keep.length ck]
  files : MapAt w mf (entV (Value.int .i64) fileV d.files)
  set : MapAt w ms (entV secV Value.bool (d.queue.map fun p => (p, true)))
  queue : Own w 0 119 2 (.slice Q d.queue.length cq) d.queue.length (d.queue.map secCells)
  keep : Sl w 1 K d.keep.length (d.keep.map fun k => [.int .i64 k])
  fB : F B
  ff : F mf
  fs : F ms
  fq : ∀ b, (Value.slice Q 0 0).ownBlock = some b → F b
  fk : d.keep ≠ [] → ∀ ad, K = some ad → ¬ F ad.block
  ne : mf ≠ ms
  nq : (Value.slice Q 0 0).ownBlock ≠ some B
  lt : ∀ b, F b → b < w.heap.size

section
variable {F G : Nat → Prop} {w w' w'' : World}
theorem MapAt.grown {b : Nat} {es : List (Value × Value)} {row : Option Nat} (h : MapAt w b es) (hg : w.grownBy w' row) (hne : row ≠ some b) : MapAt w' b es := by
  obtain ⟨arr, clock, hb, r⟩ := h
  exact ⟨arr, clock, by rw [hg.block b (Array.getElem?_eq_some_iff.1 hb).1 (fun e => hne e.symm)]; exact hb, r⟩
theorem MapAt.lt {b : Nat} {es : List (Value × Value)} (h : MapAt w b es) : b < w.heap.size := by
  obtain ⟨arr, clock, hb, _⟩ := h
  exact (Array.getElem?_eq_some_iff.1 hb).1
theorem loc_ne_map {n b : Nat} {X : Array Value} {es : List (Value × Value)} (hl : Loc w n X) (hX : 0 < X.size) (hm : MapAt w b es) : n ≠ b := by
  rintro rfl
  obtain ⟨arr, clock, hb, _⟩ := hm
  have h0 := hl.cell 0
  simp only [World.cell?, hb] at h0
  rw [Array.getElem?_eq_getElem hX] at h0
  cases h0
end

section
variable {w : World} {F : Nat → Prop} {B : Nat} {d : DV} {mf ms : Nat} {Q : Option Addr} {cq : Nat} {K : Option Addr} {ck : Nat}
set_option maxRecDepth 100000 in
set_option maxHeartbeats 400000 in
theorem may_any (h : DiskAt w F B d mf ms Q cq K ck) (f : Int) (r : Int) (hr : mayF d f = r) :
    Calls Tryz.prog 152 #[.pointer (some ⟨B, 0, none⟩), .int .i64 f] w fun e w' => e = .returned (.int .i64 r) ∧ w = w' := by
  obtain ⟨zB, kB, fB⟩ := h.loc
  subst hr
  unfold mayF
  rcases hd : d.down with _ | _
  · rw [hd] at kB
    rw [if_neg (by simp)]
    clear h hd
    by_cases h1 : f < 0
    · rw [if_pos (Or.inl h1)]
      go_enter Tryz.func152, Tryz.ntmps152
      go_wp2_with (fail)
      go_ret
      exact ⟨rfl, rfl⟩
    · by_cases h2 : 16 ≤ f
      · rw [if_pos (Or.inr h2)]
        go_enter Tryz.func152, Tryz.ntmps152
        go_wp2_with (fail)
        go_ret
        exact ⟨rfl, rfl⟩
      · rw [if_neg (by omega)]
        go_enter Tryz.func152, Tryz.ntmps152
        go_wp2_with (fail)
        go_ret
        exact ⟨rfl, rfl⟩
  · rw [hd] at kB
    rw [if_pos rfl]
    clear h hd
    go_enter Tryz.func152, Tryz.ntmps152
    go_wp2_with (fail)
    go_ret
    exact ⟨rfl, rfl⟩

/-- a number or a bool of the struct is stored -/
theorem DiskAt.setField (h : DiskAt w F B d mf ms Q cq K ck) (lost armed : Int) (down : Bool) {i : Nat} {v : Value} (hX : (#[.map (some mf), .slice Q d.queue.length cq, .map (some ms), .int .i64 d.lost, .bool d.down, .int .i64 d.armed, .slice K d.keep.length ck] : Array Value).setIfInBounds i v = #[.map (some mf), .slice Q d.queue.length cq, .map (some ms), .int .i64 lost, .bool down, .int .i64 armed, .slice K d.keep.length ck]) :
    DiskAt (w.setCell ⟨B, i, none⟩ v) F B { d with lost := lost, armed := armed, down := down } mf ms Q cq K ck := by
  have hg := grownBy_setCell w ⟨B, i, none⟩ v
  have hl := h.loc.set_ i v
  rw [hX] at hl
  refine ⟨hl, h.files.grown hg (fun e => loc_ne_map h.loc (by simp) h.files (by injection e)), h.set.grown hg (fun e => loc_ne_map h.loc (by simp) h.set (by injection e)), h.queue.kept hg ?_, ?_, h.fB, h.ff, h.fs, h.fq, h.fk, h.ne, h.nq, fun b hb => by rw [World.size_setCell]; exact h.lt b hb⟩
  · exact .inr (fun e => h.nq (by rw [slice_block] at e; exact e))
  · refine h.keep.grown hg ?_
    by_cases hk : d.keep = []
    · exact .inl (by rw [hk]; rfl)
    · exact .inr fun ad e e' => h.fk hk ad e (by injection e' with e'; rw [← e']; exact h.fB)

set_option maxRecDepth 100000 in
set_option maxHeartbeats 1000000 in
theorem ends_any (h : DiskAt w F B d mf ms Q cq K ck) (ha : 0 ≤ d.armed ∧ d.armed ≤ 9223372036854775807) :
    Calls Tryz.prog 151 #[.pointer (some ⟨B, 0, none⟩)] w fun e w' => e = .returned (.bool (endsF d).2) ∧ DiskAt w' F B (endsF d).1 mf ms Q cq K ck ∧ Keeps F w w' ∧ w'.heap.size = w.heap.size := by
  have H := Lib.hid h
  obtain ⟨zB, kB, fB⟩ := h.loc
  obtain ⟨a1, a2⟩ := ha
  clear h
  rcases hd : d.down with _ | _
  · by_cases h0 : d.armed = 0
    · have h0' : (d.armed == 0) = true := by simpa using h0
      have e1 : endsF d = (d, false) := by unfold endsF; rw [if_pos (Or.inr h0)]
      rw [e1]
      rw [hd] at kB
      clear hd h0
      go_enter Tryz.func151, Tryz.ntmps151
      go_wp2_with (fail)
      go_ret
      exact ⟨rfl, H.out, Keeps.refl _ _, rfl⟩
    · have h0' : (d.armed == 0) = false := by simpa using h0
      have e1 : endsF d = ({ d with armed := d.armed - 1 }, decide (d.armed - 1 = 0)) := by unfold endsF; rw [if_neg (by simp [hd, h0])]
      rw [e1]
      have HF := Lib.hid (H.out.setField d.lost (d.armed - 1) d.down (i := 5) (v := .int .i64 (d.armed - 1)) (by simp))
      rw [hd] at kB
      have hpos : 1 ≤ d.armed := by omega
      clear hd h0 e1
      go_enter Tryz.func151, Tryz.ntmps151
      go_wp2_with (fail)
      go_ret
      exact ⟨ret_bool (by rw [Bool.eq_iff_iff]; simp), HF.out, Keeps.setCell H.out.fB _, by rw [World.size_setCell]⟩
  · have e1 : endsF d = (d, false) := by unfold endsF; rw [if_pos (Or.inl hd)]
    rw [e1]
    rw [hd] at kB
    clear hd
    go_enter Tryz.func151, Tryz.ntmps151
    go_wp2_with (fail)
    go_ret
    exact ⟨rfl, H.out, Keeps.refl _ _, rfl⟩

set_option maxRecDepth 100000 in
set_option maxHeartbeats 400000 in
theorem Start_any (h : DiskAt w F B d mf ms Q cq K ck) :
    Calls Tryz.prog 25 #[.pointer (some ⟨B, 0, none⟩)] w fun e w' => e = .returned (.tuple #[]) ∧ DiskAt w' F B (StartF d) mf ms Q cq K ck ∧ Keeps F w w' ∧ w'.heap.size = w.heap.size := by
  have HF := Lib.hid (h.setField d.lost d.armed false (i := 4) (v := .bool false) (by simp))
  have HB := Lib.hid h.fB
  obtain ⟨zB, kB, fB⟩ := h.loc
  clear h
  go_enter Tryz.func25, Tryz.ntmps25
  go_wp2_with (fail)
  go_end0
  exact ⟨rfl, HF.out, Keeps.setCell HB.out _, by rw [World.size_setCell]⟩

set_option maxRecDepth 100000 in
set_option maxHeartbeats 400000 in
theorem Lose_any (h : DiskAt w F B d mf ms Q cq K ck) (n : Int) :
    Calls Tryz.prog 19 #[.pointer (some ⟨B, 0, none⟩), .int .i64 n] w fun e w' => e = .returned (.tuple #[]) ∧ DiskAt w' F B (LoseF d n) mf ms Q cq K ck ∧ Keeps F w w' ∧ w'.heap.size = w.heap.size := by
  have HB := Lib.hid h.fB
  obtain ⟨zB, kB, fB⟩ := h.loc
  by_cases hn : n < 0
  · have e : LoseF d n = { d with lost := 0 } := by unfold LoseF; rw [show max n 0 = 0 by omega]
    rw [e]
    have HF := Lib.hid (h.setField 0 d.armed d.down (i := 3) (v := .int .i64 0) (by simp))
    clear h e
    go_enter Tryz.func19, Tryz.ntmps19
    go_wp2_with (fail)
    go_end0
    exact ⟨rfl, HF.out, Keeps.setCell HB.out _, by rw [World.size_setCell]⟩
  · have e : LoseF d n = { d with lost := n } := by unfold LoseF; rw [show max n 0 = n by omega]
    rw [e]
    have HF := Lib.hid (h.setField n d.armed d.down (i := 3) (v := .int .i64 n) (by simp))
    have hn' : 0 ≤ n := by omega
    clear h e
    go_enter Tryz.func19, Tryz.ntmps19
    go_wp2_with (fail)
    go_end0
    exact ⟨rfl, HF.out, Keeps.setCell HB.out _, by rw [World.size_setCell]⟩
end
end Go.Proofs.YtjncmlglhegnaaaGreatDoor
