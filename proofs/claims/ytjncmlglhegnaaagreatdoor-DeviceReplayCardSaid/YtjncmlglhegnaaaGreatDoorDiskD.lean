/- disk: Copy, Arm. -/
import Derived.Test.YtjncmlglhegnaaaGreatDoorDiskC
import Derived.Deep.RegionHeld3
namespace Go.Proofs.YtjncmlglhegnaaaGreatDoor
open Go.RowKit

section
variable {w : World} {F : Nat → Prop} {B : Nat} {d : DV} {mf ms : Nat} {Q : Option Addr} {cq : Nat} {K : Option Addr} {ck : Nat}
theorem DiskAt.below {w' : World} (h : DiskAt w F B d mf ms Q cq K ck) (hb : Below w.heap.size w w') : DiskAt w' F B d mf ms Q cq K ck :=
  ⟨h.loc.below hb, h.files.below hb, h.set.below hb, h.queue.below hb, h.keep.below hb, h.fB, h.ff, h.fs, h.fq, h.fk, h.ne, h.nq, fun b hb' => Nat.lt_of_lt_of_le (h.lt b hb') hb.size⟩
theorem copy_fin {W w3 w4 w5 : World} {b1 b3 : Nat} {A2 : Option Addr} {c2 : Nat} (H : DiskAt w F B d mf ms Q cq K ck)
    (LA : Loc W w.heap.size #[.map (some mf), .slice Q d.queue.length cq, .map (some ms), .int .i64 d.lost, .bool d.down, .int .i64 d.armed, .slice K d.keep.length ck]) (HZ : Below w.heap.size w W)
    (hb1 : W.drew.heap.size ≤ b1) (hm1 : MapAt w3 b1 (entV (Value.int .i64) fileV d.files)) (hbF : Below W.drew.heap.size W.drew w3)
    (ho2 : Own w4 w3.heap.size 119 2 (.slice A2 d.queue.length c2) d.queue.length (d.queue.map secCells)) (hbG : Below w3.heap.size w3 w4)
    (hb3 : w4.heap.size ≤ b3) (hm3 : MapAt w5 b3 (entV secV Value.bool (d.queue.map fun p => (p, true)))) (hbH : Below w4.heap.size w4 w5) :
    Dsk (((w5.setCell ⟨w.heap.size, 0, none⟩ (.map (some b1))).setCell ⟨w.heap.size, 1, none⟩ (.slice A2 d.queue.length c2)).setCell ⟨w.heap.size, 2, none⟩ (.map (some b3))) (fun k => w.heap.size ≤ k ∧ k < (((w5.setCell ⟨w.heap.size, 0, none⟩ (.map (some b1))).setCell ⟨w.heap.size, 1, none⟩ (.slice A2 d.queue.length c2)).setCell ⟨w.heap.size, 2, none⟩ (.map (some b3))).heap.size) w.heap.size d ∧
    Below w.heap.size w (((w5.setCell ⟨w.heap.size, 0, none⟩ (.map (some b1))).setCell ⟨w.heap.size, 1, none⟩ (.slice A2 d.queue.length c2)).setCell ⟨w.heap.size, 2, none⟩ (.map (some b3))) ∧
    (((w5.setCell ⟨w.heap.size, 0, none⟩ (.map (some b1))).setCell ⟨w.heap.size, 1, none⟩ (.slice A2 d.queue.length c2)).setCell ⟨w.heap.size, 2, none⟩ (.map (some b3))).cell? ⟨w.heap.size, 6, none⟩ = w.cell? ⟨B, 6, none⟩ := by
  have hLA := ((LA.drew.below hbF).below hbG).below hbH
  have z0 := LA.lt
  have zb : W.heap.size ≤ b1 := hb1
  have z1 : W.heap.size ≤ w3.heap.size := hbF.size
  have z2 := hbG.size
  have z3 := hbH.size
  have B3 : Below w.heap.size w w3 := HZ.drew.trans (hbF.mono (by show w.heap.size ≤ W.heap.size; omega))
  have B4 := B3.trans (hbG.mono (by omega))
  have B5 := B4.trans (hbH.mono (by omega))
  have hM1 := (hm1.below hbG).below hbH
  have hO := ho2.below hbH
  have hK := H.keep.below B5
  have hL := ((hLA.set_ 0 (.map (some b1))).set_ 1 (.slice A2 d.queue.length c2)).set_ 2 (.map (some b3))
  have hlt1 := hM1.lt
  have hlt0 := hm1.lt
  have hlt3 := hm3.lt
  refine ⟨⟨b1, b3, A2, c2, K, ck, ?_⟩, ((B5.setCell (p := ⟨w.heap.size, 0, none⟩) (Nat.le_refl _) _).setCell (p := ⟨w.heap.size, 1, none⟩) (Nat.le_refl _) _).setCell (p := ⟨w.heap.size, 2, none⟩) (Nat.le_refl _) _, (hL.cell 6).trans (H.loc.cell 6).symm⟩
  have far : ∀ {x : World} {b : Nat} {es : List (Value × Value)} (i : Nat) (v : Value), MapAt x b es → b ≠ w.heap.size → MapAt (x.setCell ⟨w.heap.size, i, none⟩ v) b es := fun i v h hne => h.grown (grownBy_setCell _ ⟨w.heap.size, i, none⟩ v) (fun e => hne (by injection e with e; exact e.symm))
  have hob : ∀ b, (Value.slice A2 d.queue.length c2).ownBlock = some b → w3.heap.size ≤ b ∧ b < w5.heap.size := fun b hb => hO.lt b hb
  have ofar : ∀ {x : World} (i : Nat) (v : Value), Own x w3.heap.size 119 2 (.slice A2 d.queue.length c2) d.queue.length (d.queue.map secCells) → Own (x.setCell ⟨w.heap.size, i, none⟩ v) w3.heap.size 119 2 (.slice A2 d.queue.length c2) d.queue.length (d.queue.map secCells) := fun i v h => h.setBelow (p := ⟨w.heap.size, i, none⟩) (by show w.heap.size < w3.heap.size; omega) v
  refine ⟨hL, far _ _ (far _ _ (far _ _ hM1 (by omega)) (by omega)) (by omega), far _ _ (far _ _ (far _ _ hm3 (by omega)) (by omega)) (by omega), (ofar _ _ (ofar _ _ (ofar _ _ hO))).mono (Nat.zero_le _), ?_, ⟨Nat.le_refl _, by simp only [World.size_setCell]; omega⟩, ⟨by omega, by simpa only [World.size_setCell] using hlt1⟩, ⟨by omega, by simpa only [World.size_setCell] using hlt3⟩, fun b hb => ?_, fun hk ad he => ?_, by omega, fun e => ?_, fun b hb => hb.2⟩
  · by_cases hk : d.keep = []
    · rw [hk] at hK ⊢
      exact ⟨hK.1, fun i x hx => by simp at hx⟩
    · have hkb : ∀ ad, K = some ad → ad.block < w.heap.size := fun ad he => by
        obtain ⟨k, ks, e⟩ := List.exists_cons_of_ne_nil hk
        obtain ⟨b, o, hA, hb, _⟩ := H.keep.2 0 [.int .i64 k] (by rw [e]; rfl)
        rw [he] at hA
        injection hA with hA
        rw [hA]
        exact hb
      exact ((hK.grown (grownBy_setCell _ _ _) (.inr fun ad he e => by have := hkb ad he; injection e with e; have e' : w.heap.size = ad.block := e; omega)).grown (grownBy_setCell _ _ _) (.inr fun ad he e => by have := hkb ad he; injection e with e; have e' : w.heap.size = ad.block := e; omega)).grown (grownBy_setCell _ _ _) (.inr fun ad he e => by have := hkb ad he; injection e with e; have e' : w.heap.size = ad.block := e; omega)
  · have := hob b (by rw [slice_block]; exact hb)
    exact ⟨by omega, by simp only [World.size_setCell]; omega⟩
  · obtain ⟨k, ks, e⟩ := List.exists_cons_of_ne_nil hk
    obtain ⟨b, o, hA, hb, _⟩ := H.keep.2 0 [.int .i64 k] (by rw [e]; rfl)
    rw [he] at hA
    injection hA with hA
    rw [hA]
    intro hh
    have := hh.1
    simp only at this
    omega
  · have := hob _ (by rw [slice_block]; exact e)
    omega
theorem DiskAt.arm {w1 : World} {A2 : Option Addr} {c2 : Nat} {keep : List Int} (h : DiskAt w F B d mf ms Q cq K ck) (hb : Below w.heap.size w w1)
    (ho : Own w1 w.heap.size 3 1 (.slice A2 keep.length c2) keep.length (keep.map fun k => [.int .i64 k])) (n : Int) :
    DiskAt ((w1.setCell ⟨B, 5, none⟩ (.int .i64 n)).setCell ⟨B, 6, none⟩ (.slice A2 keep.length c2)) F B { d with armed := n, keep := keep } mf ms Q cq A2 c2 := by
  have h1 := h.below hb
  have hB := h.lt B h.fB
  have far : ∀ {x : World} {b : Nat} {es : List (Value × Value)} (i : Nat) (v : Value), MapAt x b es → b ≠ B → MapAt (x.setCell ⟨B, i, none⟩ v) b es := fun i v h hne => h.grown (grownBy_setCell _ ⟨B, i, none⟩ v) (fun e => hne (by injection e with e; exact e.symm))
  have n1 : mf ≠ B := (loc_ne_map h1.loc (by simp) h1.files).symm
  have n2 : ms ≠ B := (loc_ne_map h1.loc (by simp) h1.set).symm
  have hq : (Value.slice Q d.queue.length cq).ownBlock ≠ some B := fun e => h.nq (by rw [slice_block] at e; exact e)
  have hl := (h1.loc.set_ 5 (.int .i64 n)).set_ 6 (.slice A2 keep.length c2)
  have hkb : ∀ ad, A2 = some ad → w.heap.size ≤ ad.block := fun ad he => by subst he; exact (ho.lt ad.block rfl).1
  have ofar : ∀ {x : World} (i : Nat) (v : Value), Own x w.heap.size 3 1 (.slice A2 keep.length c2) keep.length (keep.map fun k => [.int .i64 k]) → Own (x.setCell ⟨B, i, none⟩ v) w.heap.size 3 1 (.slice A2 keep.length c2) keep.length (keep.map fun k => [.int .i64 k]) := fun i v h => h.setBelow (p := ⟨B, i, none⟩) hB v
  refine ⟨hl, far _ _ (far _ _ h1.files n1) n1, far _ _ (far _ _ h1.set n2) n2, (h1.queue.other (p := ⟨B, 5, none⟩) hq _).other (p := ⟨B, 6, none⟩) hq _, (ofar _ _ (ofar _ _ ho)).sl', h.fB, h.ff, h.fs, h.fq, fun _ ad he hf => ?_, h.ne, h.nq, fun b hb' => by simp only [World.size_setCell]; exact h1.lt b hb'⟩
  have := h.lt _ hf
  have := hkb ad he
  omega
set_option maxRecDepth 100000 in
set_option maxHeartbeats 1000000 in
theorem Arm_any (h : DiskAt w F B d mf ms Q cq K ck) (n : Int) (keep : List Int) (A : Option Addr) (c : Nat) (hs : Sl w 1 A keep.length (keep.map fun k => [.int .i64 k])) (hk : keep.length ≤ 4194320) :
    Calls Tryz.prog 21 #[.pointer (some ⟨B, 0, none⟩), .int .i64 n, .slice A keep.length c] w fun e w' => e = .returned (.tuple #[]) ∧ DskTo F w B (ArmF d n keep) w' := by
  have H := Lib.hid h
  have HS := Lib.hid hs
  have LB := Lib.hid h.loc
  obtain ⟨zB, kB, fB⟩ := h.loc
  clear h hs
  obtain ⟨m, hm⟩ : ∃ m, max n 0 = m := ⟨_, rfl⟩
  unfold ArmF
  rw [hm]
  have fin : ∀ w1 A2 c2, Below w.heap.size w w1 → Own w1 w.heap.size 3 1 (.slice A2 keep.length c2) keep.length (keep.map fun k => [.int .i64 k]) →
      DskTo F w B { d with armed := m, keep := keep } ((w1.setCell ⟨B, 5, none⟩ (.int .i64 m)).setCell ⟨B, 6, none⟩ (.slice A2 keep.length c2)) := fun w1 A2 c2 hb ho =>
    ⟨F, ⟨_, _, _, _, _, _, H.out.arm hb ho m⟩, Ext.same (((Keeps.below hb).trans ((Keeps.setCell (p := ⟨B, 5, none⟩) (.inl H.out.fB) _))).trans ((Keeps.setCell (p := ⟨B, 6, none⟩) (.inl H.out.fB) _))), .inr fun A n c hc ad he => by
      have h6 := (H.out.arm hb ho m).loc.cell 6
      rw [hc] at h6
      have h7 : Value.slice A n c = .slice A2 keep.length c2 := by simpa using h6
      injection h7 with h7
      subst h7
      subst he
      exact (ho.lt ad.block rfl).1⟩
  have HFin := Lib.hid fin
  clear fin
  by_cases hn : n < 0
  · obtain rfl : (0 : Int) = m := by omega
    clear hm
    go_enter Tryz.func21, Tryz.ntmps21
    go_wp2_with ((with_reducible refine (CloneInt_any _ A keep.length c keep HS.out hk).mono ?_); rintro e w1 ⟨A2, c2, rfl, ho, hb⟩; have HO := Lib.hid ho; have HB := Lib.hid hb; clear ho; obtain ⟨zB1, kB1, fB1⟩ := LB.out.below hb; clear hb)
    go_end0
    exact ⟨rfl, HFin.out _ _ _ HB.out HO.out⟩
  · obtain rfl : n = m := by omega
    have hn' : 0 ≤ n := by omega
    clear hm
    go_enter Tryz.func21, Tryz.ntmps21
    go_wp2_with ((with_reducible refine (CloneInt_any _ A keep.length c keep HS.out hk).mono ?_); rintro e w1 ⟨A2, c2, rfl, ho, hb⟩; have HO := Lib.hid ho; have HB := Lib.hid hb; clear ho; obtain ⟨zB1, kB1, fB1⟩ := LB.out.below hb; clear hb)
    go_end0
    exact ⟨rfl, HFin.out _ _ _ HB.out HO.out⟩
end
end Go.Proofs.YtjncmlglhegnaaaGreatDoor
