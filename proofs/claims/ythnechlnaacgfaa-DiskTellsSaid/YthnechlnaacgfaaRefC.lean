/- kerbsideref02: Arm, walked. -/
import Derived.Test.YthnechlnaacgfaaRefB
namespace Go.Proofs.Ythnechlnaacgfaa
open Go.RowKit

section
variable {w w' : World} {F G : Nat → Prop} {B : Nat} {r : DV} {FA : Option Addr} {cf : Nat} {Q : Option Addr} {cq : Nat} {K : Option Addr} {ck : Nat}
/-- a new keep list is laid -/
theorem RefAt.setKeep (h : RefAt w F B r FA cf Q cq K ck) {base : Nat} (hb : ∀ k, F k → k < base) {A : Option Addr} {c : Nat} {keep : List Int}
    (ho : Own w base 3 1 (.slice A keep.length c) keep.length (keep.map fun k => [.int .i64 k])) :
    RefAt (w.setCell ⟨B, 5, none⟩ (.slice A keep.length c)) (fun k => F k ∨ (base ≤ k ∧ k < w.heap.size)) B { r with keep := keep } FA cf Q cq A c := by
  have hg := grownBy_setCell w ⟨B, 5, none⟩ (.slice A keep.length c)
  have hl := h.loc.set_ 5 (.slice A keep.length c)
  have hB := hb B h.fB
  have hA : ∀ ad, A = some ad → base ≤ ad.block ∧ ad.block < w.heap.size := fun ad he => by subst he; exact ho.lt ad.block rfl
  refine ⟨by simpa using hl, h.files.grown hg ?_, h.queue.kept hg (.inr (fun e => h.nq (by rw [slice_block] at e; exact e))), (ho.setBelow (p := ⟨B, 5, none⟩) hB _).sl', .inl h.fB, fun b hq => .inl (h.fq b hq), fun hne ad he => ⟨.inl (h.ff hne ad he).1, (h.ff hne ad he).2⟩, fun _ ad he => ⟨.inr (hA ad he), ?_, fun e => ?_⟩, h.nq, fun b hf => ?_⟩
  · by_cases hk : r.files = []
    · exact .inl (by rw [hk]; rfl)
    · exact .inr fun ad e e' => (h.ff hk ad e).2.1 (by injection e' with e'; exact e'.symm)
  · have := (hA ad he).1; omega
  · have := hb _ (h.fq _ e); have := (hA ad he).1; omega
  · rw [World.size_setCell]
    rcases hf with hf | hf
    · exact h.lt b hf
    · exact hf.2
theorem ext_plus {w1 : World} (hk : Keeps F w w1) : Ext F (fun k => F k ∨ (w.heap.size ≤ k ∧ k < w1.heap.size)) w w1 := ⟨hk, fun _ h => .inl h, fun _ h => h⟩
set_option maxHeartbeats 1000000 in
theorem Arm_ref (h : RefAt w F B r FA cf Q cq K ck) (n : Int) (keep : List Int) (A : Option Addr) (c : Nat) (hs : IntsAt w A keep) (hk : keep.length ≤ 60) (hkf : keep ≠ [] → ∀ ad, A = some ad → ¬ F ad.block) :
    Calls Try.prog 35 #[.pointer (some ⟨B, 0, none⟩), .int .i64 n, .slice A keep.length c] w fun e w' => e = .returned (.tuple #[]) ∧ RefTo F w B (ArmF r n keep) w' := by
  obtain ⟨i0, hi0, hi1, hi2, hi3⟩ := info_parts infoInt
  have LB := Lib.hid h.loc
  have H := Lib.hid h
  have hSS : ∀ m : Int, IntsAt (w.setCell ⟨B, 4, none⟩ (.int .i64 m)) A keep := fun m => hs.grown (grownBy_setCell w ⟨B, 4, none⟩ _) (by
    by_cases he : keep = []
    · exact .inl (by rw [he]; rfl)
    · exact .inr fun ad e e' => hkf he ad e (by injection e' with e'; rw [← e']; exact h.fB))
  have HSS := Lib.hid hSS
  have fin : ∀ (m : Int) w1 A1 c1, max n 0 = m → ((w.setCell ⟨B, 4, none⟩ (.int .i64 m)).alloc (.cells #[] 3)).grownBy w1 (some w.heap.size) → Own w1 w.heap.size 3 1 (.slice A1 keep.length c1) keep.length (keep.map fun k => [.int .i64 k]) →
      RefTo F w B (ArmF r n keep) (w1.setCell ⟨B, 5, none⟩ (.slice A1 keep.length c1)) := fun m w1 A1 c1 hm hg ho => by
    unfold ArmF
    rw [hm]
    have h1 := h.setField r.lost m r.down (i := 4) (v := .int .i64 m) (by simp)
    have hbl : Below (w.setCell ⟨B, 4, none⟩ (.int .i64 m)).heap.size (w.setCell ⟨B, 4, none⟩ (.int .i64 m)) w1 := below_of_fresh (by rw [World.size_setCell]; exact hg)
    have h2 := (h1.below hbl).setKeep (fun k hf => h.lt k hf) ho
    have hk1 : Keeps F w w1 := (Keeps.setCell (p := ⟨B, 4, none⟩) h.fB _).trans (Keeps.below hbl)
    exact ⟨_, h2.ref, by
      have := (hk1.trans (Keeps.setCell (F := Plus F w w1) (p := ⟨B, 5, none⟩) (.inl h.fB) (.slice A1 keep.length c1)))
      refine ⟨this, fun _ h => .inl h, fun k h => ?_⟩
      unfold Plus
      rw [World.size_setCell]
      exact h⟩
  have HFin := Lib.hid fin
  obtain ⟨zB, kB, fB⟩ := h.loc
  clear h hs hSS fin
  by_cases hn : n < 0
  · have hm0 := Lib.hid (show max n 0 = (0 : Int) by omega)
    go_enter Try.func35, Try.ntmps35
    go_wp2_with (at_builtin; refine wpList_append_sl _ rfl (.tmp 12) (.tmp 13) 31 rfl w.heap.size 3 i0 _ 1 8 Try.underlying31 hi0 hi1 hi2 hi3 rfl (by omega) (.slice (some ⟨w.heap.size, 0, none⟩) 0 0) 0 [] rfl (Own.empty (by simp) (Nat.le_refl _)) A keep.length c (keep.map fun k => [.int .i64 k]) rfl ((HSS.out 0).alloc _) (int_len keep) (int_one keep) (by simp only [maxLen]; omega) (by omega) (by simp) ?_; intro A1 c1 w1 hown hg hat; rw [Nat.zero_add, List.nil_append] at hown; obtain ⟨zB1, kB1, fB1⟩ := (LB.out.set_ 4 (.int .i64 0)).below (below_of_fresh (by rw [World.size_setCell]; exact hg)))
    go_end0
    exact ⟨rfl, HFin.out _ _ _ _ hm0.out hg (by simpa using hown)⟩
  · have hn' : 0 ≤ n := by omega
    have hm0 := Lib.hid (show max n 0 = n by omega)
    go_enter Try.func35, Try.ntmps35
    go_wp2_with (at_builtin; refine wpList_append_sl _ rfl (.tmp 12) (.tmp 13) 31 rfl w.heap.size 3 i0 _ 1 8 Try.underlying31 hi0 hi1 hi2 hi3 rfl (by omega) (.slice (some ⟨w.heap.size, 0, none⟩) 0 0) 0 [] rfl (Own.empty (by simp) (Nat.le_refl _)) A keep.length c (keep.map fun k => [.int .i64 k]) rfl ((HSS.out n).alloc _) (int_len keep) (int_one keep) (by simp only [maxLen]; omega) (by omega) (by simp) ?_; intro A1 c1 w1 hown hg hat; rw [Nat.zero_add, List.nil_append] at hown; obtain ⟨zB1, kB1, fB1⟩ := (LB.out.set_ 4 (.int .i64 n)).below (below_of_fresh (by rw [World.size_setCell]; exact hg)))
    go_end0
    exact ⟨rfl, HFin.out _ _ _ _ hm0.out hg (by simpa using hown)⟩
end
end Go.Proofs.Ythnechlnaacgfaa
