/- disk: Copy, Arm. -/
import Derived.Test.YtjncmlglhegnaaaGreatDoorDiskC
import Derived.Deep.RegionHeld3
namespace Go.Proofs.YtjncmlglhegnaaaGreatDoor
open Go.RowKit

section
variable {w : World} {F : Nat → Prop} {B : Nat} {d : DV} {mf ms : Nat} {Q : Option Addr} {cq : Nat} {K : Option Addr} {ck : Nat}
theorem DiskAt.below {w' : World} (h : DiskAt w F B d mf ms Q cq K ck) (hb : Below w.heap.size w w') : DiskAt w' F B d mf ms Q cq K ck :=
  ⟨h.loc.below hb, h.files.below hb, h.set.below hb, h.queue.below hb, h.keep.below hb, h.fB, h.ff, h.fs, h.fq, h.fk, h.ne, h.nq, fun b hb' => Nat.lt_of_lt_of_le (h.lt b hb') hb.size⟩
theorem DiskAt.arm {w1 : World} {A2 : Option Addr} {c2 : Nat} {keep : List Int} (h : DiskAt w F B d mf ms Q cq K ck) (hb : Below w.heap.size w w1)
    (ho : Own w1 w.heap.size 3 1 (.slice A2 keep.length c2) keep.length (keep.map fun k => [.int .i64 k])) (n : Int) :
    DiskAt ((w1.setCell ⟨B, 5, none⟩ (.int .i64 n)).setCell ⟨B, 6, none⟩ (.slice A2 keep.length c2)) F B { d with armed := n, keep := keep } mf ms Q cq A2 c2 := by
  have h1 := h.below hb
  have hB := h.lt B h.fB
  have far : ∀ {x : World} {b : Nat} {es : List (Value × Value)} (i : Nat) (v : Value), MapAt x b es → b ≠ B → MapAt (x.setCell ⟨B, i, none⟩ v) b es := fun i v h hne => h.grown (grownBy_setCell _ ⟨B, i, none⟩ v) (fun e => hne (by injection e with e; exact e.symm))
  have n1 : mf ≠ B := (loc_ne_map h1.loc (by simp) h1.files).symm
  have n2 : ms ≠ B := (loc_ne_map h1.loc (by simp) h1.set).symm
  have hq : (Value.slice Q d.queue.length cq).ownBlock ≠ some B := fun e => h.nq (by rw [slice_block] at e; exact e)
  have hl := (h1.loc.set_ 5 (.int .i64 n)).set_ 6 (.slice A2 keep.length c2)
  have hkb : ∀ ad, A2 = some ad → w.heap.size ≤ ad.block := fun ad he => by subst he; exact (ho.lt ad.block rfl).1
  have ofar : ∀ {x : World} (i : Nat) (v : Value), Own x w.heap.size 3 1 (.slice A2 keep.length c2) keep.length (keep.map fun k => [.int .i64 k]) → Own (x.setCell ⟨B, i, none⟩ v) w.heap.size 3 1 (.slice A2 keep.length c2) keep.length (keep.map fun k => [.int .i64 k]) := fun i v h => h.setBelow (p := ⟨B, i, none⟩) hB v
  refine ⟨hl, far _ _ (far _ _ h1.files n1) n1, far _ _ (far _ _ h1.set n2) n2, (h1.queue.other (p := ⟨B, 5, none⟩) hq _).other (p := ⟨B, 6, none⟩) hq _, (ofar _ _ (ofar _ _ ho)).sl', h.fB, h.ff, h.fs, h.fq, fun _ ad he hf => ?_, h.ne, h.nq, fun b hb' => by simp only [World.size_setCell]; exact h1.lt b hb'⟩
  have := h.lt _ hf
  have := hkb ad he
  omega
set_option maxRecDepth 100000 in
set_option maxHeartbeats 1000000 in
theorem Arm_any (h : DiskAt w F B d mf ms Q cq K ck) (n : Int) (keep : List Int) (A : Option Addr) (c : Nat) (hs : Sl w 1 A keep.length (keep.map fun k => [.int .i64 k])) (hk : keep.length ≤ 4194320) :
    Calls Tryz.prog 21 #[.pointer (some ⟨B, 0, none⟩), .int .i64 n, .slice A keep.length c] w fun e w' => e = .returned (.tuple #[]) ∧ DskTo F w B (ArmF d n keep) w' := by
  have H := Lib.hid h
  have HS := Lib.hid hs
  have LB := Lib.hid h.loc
  obtain ⟨zB, kB, fB⟩ := h.loc
  clear h hs
  obtain ⟨m, hm⟩ : ∃ m, max n 0 = m := ⟨_, rfl⟩
  unfold ArmF
  rw [hm]
  have fin : ∀ w1 A2 c2, Below w.heap.size w w1 → Own w1 w.heap.size 3 1 (.slice A2 keep.length c2) keep.length (keep.map fun k => [.int .i64 k]) →
      DskTo F w B { d with armed := m, keep := keep } ((w1.setCell ⟨B, 5, none⟩ (.int .i64 m)).setCell ⟨B, 6, none⟩ (.slice A2 keep.length c2)) := fun w1 A2 c2 hb ho =>
    ⟨F, ⟨_, _, _, _, _, _, H.out.arm hb ho m⟩, Ext.same (((Keeps.below hb).trans ((Keeps.setCell (p := ⟨B, 5, none⟩) (.inl H.out.fB) _))).trans ((Keeps.setCell (p := ⟨B, 6, none⟩) (.inl H.out.fB) _))), .inr fun A n c hc ad he => by
      have h6 := (H.out.arm hb ho m).loc.cell 6
      rw [hc] at h6
      have h7 : Value.slice A n c = .slice A2 keep.length c2 := by simpa using h6
      injection h7 with h7
      subst h7
      subst he
      exact (ho.lt ad.block rfl).1⟩
  have HFin := Lib.hid fin
  clear fin
  by_cases hn : n < 0
  · obtain rfl : (0 : Int) = m := by omega
    clear hm
    go_enter Tryz.func21, Tryz.ntmps21
    go_wp2_with ((with_reducible refine (CloneInt_any _ A keep.length c keep HS.out hk).mono ?_); rintro e w1 ⟨A2, c2, rfl, ho, hb⟩; have HO := Lib.hid ho; have HB := Lib.hid hb; clear ho; obtain ⟨zB1, kB1, fB1⟩ := LB.out.below hb; clear hb)
    go_end0
    exact ⟨rfl, HFin.out _ _ _ HB.out HO.out⟩
  · obtain rfl : n = m := by omega
    have hn' : 0 ≤ n := by omega
    clear hm
    go_enter Tryz.func21, Tryz.ntmps21
    go_wp2_with ((with_reducible refine (CloneInt_any _ A keep.length c keep HS.out hk).mono ?_); rintro e w1 ⟨A2, c2, rfl, ho, hb⟩; have HO := Lib.hid ho; have HB := Lib.hid hb; clear ho; obtain ⟨zB1, kB1, fB1⟩ := LB.out.below hb; clear hb)
    go_end0
    exact ⟨rfl, HFin.out _ _ _ HB.out HO.out⟩
end
end Go.Proofs.YtjncmlglhegnaaaGreatDoor
