/- kerbsideref02: how a reference's disk lies in memory; the small methods, walked. -/
import Derived.Test.YthnechlnaacgfaaRefP2
import Derived.Test.YthnechlnaacgfaaDiskT
import Derived.Deep.QuietTactic
import Derived.BigQuiet
namespace Go.Proofs.Ythnechlnaacgfaa
open Go.RowKit

def fileCells (p : Int × FileV) : List Value := [.int .i64 p.1, strV p.2.now, strV p.2.last]
/-- The struct lies in block B; all that it owns lies in blocks of F. -/
structure RefAt (w : World) (F : Nat → Prop) (B : Nat) (r : DV) (FA : Option Addr) (cf : Nat) (Q : Option Addr) (cq : Nat) (K : Option Addr) (ck : Nat) : Prop where
  loc : Loc w B #[.slice FA r.files.length cf, .slice Q r.queue.length cq, .int .i64 r.lost, .bool r.down, .int .i64 r.armed, .slice K r.keep.length ck]
  files : Sl w 3 FA r.files.length (r.files.map fileCells)
  queue : Own w 0 78 2 (.slice Q r.queue.length cq) r.queue.length (r.queue.map secCells)
  keep : Sl w 1 K r.keep.length (r.keep.map fun k => [.int .i64 k])
  fB : F B
  fq : ∀ b, (Value.slice Q 0 0).ownBlock = some b → F b
  ff : r.files ≠ [] → ∀ ad, FA = some ad → F ad.block ∧ ad.block ≠ B ∧ (Value.slice Q 0 0).ownBlock ≠ some ad.block
  fk : r.keep ≠ [] → ∀ ad, K = some ad → F ad.block ∧ ad.block ≠ B ∧ (Value.slice Q 0 0).ownBlock ≠ some ad.block
  nq : (Value.slice Q 0 0).ownBlock ≠ some B
  lt : ∀ b, F b → b < w.heap.size
def Ref (w : World) (F : Nat → Prop) (B : Nat) (r : DV) : Prop := ∃ FA cf Q cq K ck, RefAt w F B r FA cf Q cq K ck
/-- behind a call: the reference's disk is r -/
def RefTo (F : Nat → Prop) (w : World) (B : Nat) (r : DV) (w' : World) : Prop := ∃ F', Ref w' F' B r ∧ Ext F F' w w'
section
variable {w w' : World} {F G : Nat → Prop} {B : Nat} {r : DV} {FA : Option Addr} {cf : Nat} {Q : Option Addr} {cq : Nat} {K : Option Addr} {ck : Nat}
theorem RefAt.below (h : RefAt w F B r FA cf Q cq K ck) (hb : Below w.heap.size w w') : RefAt w' F B r FA cf Q cq K ck :=
  ⟨h.loc.below hb, h.files.below hb, h.queue.below hb, h.keep.below hb, h.fB, h.fq, h.ff, h.fk, h.nq, fun b hb' => Nat.lt_of_lt_of_le (h.lt b hb') hb.size⟩
/-- it stays while other blocks are written -/
theorem RefAt.keeps (h : RefAt w F B r FA cf Q cq K ck) (hk : Keeps G w w') (ha : ∀ k, F k → ¬ G k) : RefAt w' F B r FA cf Q cq K ck := by
  have hb : ∀ k, F k → w'.heap[k]? = w.heap[k]? := fun k hf => hk.block k (h.lt k hf) (ha k hf)
  refine ⟨h.loc.ofBlock hk.size (hb B h.fB), h.files.keeps hk (fun hne ad he => ha _ (h.ff (fun e => hne (by rw [e]; rfl)) ad he).1), h.queue.ofBlock (fun b hq => hb b (h.fq b (by rw [← slice_block Q r.queue.length cq]; exact hq))),
    h.keep.keeps hk (fun hne ad he => ha _ (h.fk (fun e => hne (by rw [e]; rfl)) ad he).1), h.fB, h.fq, h.ff, h.fk, h.nq, fun b hf => Nat.lt_of_lt_of_le (h.lt b hf) hk.size⟩
theorem RefAt.wide (h : RefAt w F B r FA cf Q cq K ck) (hg : ∀ k, F k → G k) (hlt : ∀ k, G k → k < w.heap.size) : RefAt w G B r FA cf Q cq K ck :=
  ⟨h.loc, h.files, h.queue, h.keep, hg _ h.fB, fun b hb => hg _ (h.fq b hb), fun hne ad he => ⟨hg _ (h.ff hne ad he).1, (h.ff hne ad he).2⟩, fun hne ad he => ⟨hg _ (h.fk hne ad he).1, (h.fk hne ad he).2⟩, h.nq, hlt⟩
theorem RefAt.ref (h : RefAt w F B r FA cf Q cq K ck) : Ref w F B r := ⟨_, _, _, _, _, _, h⟩
/-- a number or a bool of the struct is stored -/
theorem RefAt.setField (h : RefAt w F B r FA cf Q cq K ck) (lost armed : Int) (down : Bool) {i : Nat} {v : Value} (hX : (#[.slice FA r.files.length cf, .slice Q r.queue.length cq, .int .i64 r.lost, .bool r.down, .int .i64 r.armed, .slice K r.keep.length ck] : Array Value).setIfInBounds i v = #[.slice FA r.files.length cf, .slice Q r.queue.length cq, .int .i64 lost, .bool down, .int .i64 armed, .slice K r.keep.length ck]) :
    RefAt (w.setCell ⟨B, i, none⟩ v) F B { r with lost := lost, armed := armed, down := down } FA cf Q cq K ck := by
  have hg := grownBy_setCell w ⟨B, i, none⟩ v
  have hl := h.loc.set_ i v
  rw [hX] at hl
  refine ⟨hl, h.files.grown hg ?_, h.queue.kept hg (.inr (fun e => h.nq (by rw [slice_block] at e; exact e))), h.keep.grown hg ?_, h.fB, h.fq, h.ff, h.fk, h.nq, fun b hb => by rw [World.size_setCell]; exact h.lt b hb⟩
  · by_cases hk : r.files = []
    · exact .inl (by rw [hk]; rfl)
    · exact .inr fun ad e e' => (h.ff hk ad e).2.1 (by injection e' with e'; exact e'.symm)
  · by_cases hk : r.keep = []
    · exact .inl (by rw [hk]; rfl)
    · exact .inr fun ad e e' => (h.fk hk ad e).2.1 (by injection e' with e'; exact e'.symm)
set_option maxHeartbeats 400000 in
theorem New_ref (w : World) :
    Calls Try.prog 11 #[] w fun e w' => ∃ B, e = .returned (.pointer (some ⟨B, 0, none⟩)) ∧ Ref w' (fun k => w.heap.size ≤ k ∧ k < w'.heap.size) B newD ∧ Below w.heap.size w w' := by
  go_enter Try.func11, Try.ntmps11
  go_wp2_with (fail)
  go_ret
  refine ⟨_, rfl, ⟨none, 0, none, 0, none, 0, ?_⟩, below_alloc w _⟩
  exact ⟨Loc.new_ w #[.slice none 0 0, .slice none 0 0, .int .i64 0, .bool false, .int .i64 0, .slice none 0 0] _, Sl.nil_ _ _ _, Own.nil_ _ _ _ _, Sl.nil_ _ _ _, ⟨Nat.le_refl _, by simp⟩, fun b hb => by simp [Value.ownBlock] at hb, fun h => absurd rfl h, fun h => absurd rfl h, by simp [Value.ownBlock], fun b hb => hb.2⟩
set_option maxHeartbeats 400000 in
theorem may_ref (h : RefAt w F B r FA cf Q cq K ck) (f : Int) (x : Int) (hx : mayF r f = x) :
    Calls Try.prog 46 #[.pointer (some ⟨B, 0, none⟩), .int .i64 f] w fun e w' => e = .returned (.int .i64 x) ∧ w' = w := by
  obtain ⟨zB, kB, fB⟩ := h.loc
  subst hx
  unfold mayF
  rcases hd : r.down with _ | _
  · rw [hd] at kB
    rw [if_neg (by simp)]
    clear h hd
    by_cases h1 : f < 0
    · rw [if_pos (Or.inl h1)]
      go_enter Try.func46, Try.ntmps46
      go_wp2_with (fail)
      go_ret
      exact ⟨rfl, rfl⟩
    · by_cases h2 : 16 ≤ f
      · rw [if_pos (Or.inr h2)]
        have h3 : 15 < f := by omega
        go_enter Try.func46, Try.ntmps46
        go_wp2_with (fail)
        go_ret
        exact ⟨rfl, rfl⟩
      · rw [if_neg (by omega)]
        have h3 : f ≤ 15 := by omega
        go_enter Try.func46, Try.ntmps46
        go_wp2_with (fail)
        go_ret
        exact ⟨rfl, rfl⟩
  · rw [hd] at kB
    rw [if_pos rfl]
    clear h hd
    go_enter Try.func46, Try.ntmps46
    go_wp2_with (fail)
    go_ret
    exact ⟨rfl, rfl⟩
set_option maxHeartbeats 400000 in
theorem Down_ref (h : RefAt w F B r FA cf Q cq K ck) (x : Bool) (hx : r.down = x) :
    Calls Try.prog 15 #[.pointer (some ⟨B, 0, none⟩)] w fun e w' => e = .returned (.bool x) ∧ w' = w := by
  subst hx
  obtain ⟨zB, kB, fB⟩ := h.loc
  clear h
  go_enter Try.func15, Try.ntmps15
  go_wp2_with (fail)
  go_ret
  exact ⟨rfl, rfl⟩
set_option maxHeartbeats 400000 in
theorem Start_ref (h : RefAt w F B r FA cf Q cq K ck) :
    Calls Try.prog 37 #[.pointer (some ⟨B, 0, none⟩)] w fun e w' => e = .returned (.tuple #[]) ∧ RefTo F w B (StartF r) w' := by
  have HF := Lib.hid (h.setField r.lost r.armed false (i := 3) (v := .bool false) (by simp))
  have HB := Lib.hid h.fB
  obtain ⟨zB, kB, fB⟩ := h.loc
  clear h
  go_enter Try.func37, Try.ntmps37
  go_wp2_with (fail)
  go_end0
  exact ⟨rfl, F, HF.out.ref, Ext.same (Keeps.setCell HB.out _)⟩
set_option maxHeartbeats 400000 in
theorem Lose_ref (h : RefAt w F B r FA cf Q cq K ck) (n : Int) :
    Calls Try.prog 34 #[.pointer (some ⟨B, 0, none⟩), .int .i64 n] w fun e w' => e = .returned (.tuple #[]) ∧ RefTo F w B (LoseF r n) w' := by
  have HB := Lib.hid h.fB
  obtain ⟨zB, kB, fB⟩ := h.loc
  by_cases hn : n < 0
  · have e : LoseF r n = { r with lost := 0 } := by unfold LoseF; rw [show max n 0 = 0 by omega]
    rw [e]
    have HF := Lib.hid (h.setField 0 r.armed r.down (i := 2) (v := .int .i64 0) (by simp))
    clear h e
    go_enter Try.func34, Try.ntmps34
    go_wp2_with (fail)
    go_end0
    exact ⟨rfl, F, HF.out.ref, Ext.same (Keeps.setCell HB.out _)⟩
  · have e : LoseF r n = { r with lost := n } := by unfold LoseF; rw [show max n 0 = n by omega]
    rw [e]
    have HF := Lib.hid (h.setField n r.armed r.down (i := 2) (v := .int .i64 n) (by simp))
    have hn' : 0 ≤ n := by omega
    clear h e
    go_enter Try.func34, Try.ntmps34
    go_wp2_with (fail)
    go_end0
    exact ⟨rfl, F, HF.out.ref, Ext.same (Keeps.setCell HB.out _)⟩
set_option maxHeartbeats 400000 in
theorem fits_ref (w : World) (at_ : Int) (s : List UInt8) (hs : s.length ≤ 140737488351232) (hat : inI at_) (x : Bool) (hx : fitsR at_ s = x) :
    Calls Try.prog 53 #[.int .i64 at_, strV s] w fun e w' => e = .returned (.bool x) ∧ w' = w := by
  subst hx
  unfold fitsR
  unfold inI at hat
  have z1 := strV_len s
  have hs' : (s.length : Int) ≤ 140737488351232 := by omega
  unfold strV
  by_cases h1 : 0 ≤ at_
  · by_cases h2 : at_ ≤ 16777216
    · by_cases h3 : at_ + (s.length : Int) ≤ 16777216
      all_goals
        go_enter Try.func53, Try.ntmps53
        go_wp2_with (fail)
        go_ret
        exact ⟨ret_bool (by simp [h1, h2, h3]), rfl⟩
    · have h2' : 16777216 < at_ := by omega
      go_enter Try.func53, Try.ntmps53
      go_wp2_with (fail)
      go_ret
      exact ⟨ret_bool (by simp [h1, h2]; omega), rfl⟩
  · have h1' : at_ < 0 := by omega
    go_enter Try.func53, Try.ntmps53
    go_wp2_with (fail)
    go_ret
    exact ⟨ret_bool (by simp [h1]; omega), rfl⟩
end
end Go.Proofs.Ythnechlnaacgfaa
