/- kerbsideref02: set, walked. -/
import Derived.Test.YthnechlnaacgfaaRefC
namespace Go.Proofs.Ythnechlnaacgfaa
open Go.RowKit

theorem infoFile : (Try.prog.info? 65).map (fun i => (i.zero, i.size, i.bytes)) = some (some (.agg #[.int .i64 0, .string ⟨#[]⟩, .string ⟨#[]⟩]), 3, 40) := by kernel_rfl
theorem sl_file (W : World) (p : Int × FileV) (t : TypeId) : Sl (W.alloc (.cells #[.int .i64 p.1, .string ⟨p.2.now.toArray⟩, .string ⟨p.2.last.toArray⟩] t)) 3 (some ⟨W.heap.size, 0, none⟩) 1 [fileCells p] := by
  refine ⟨rfl, fun i x hx => ⟨_, _, rfl, by simp, fun j v hv => ?_⟩⟩
  match i, hx with
  | 0, hx =>
    simp only [List.getElem?_cons_zero, Option.some.injEq] at hx
    subst hx
    rw [World.cell?_alloc_at _ _ _ _ rfl]
    simpa [fileCells, strV] using hv
  | i + 1, hx => simp at hx
theorem file_one (p : Int × FileV) : ∀ x ∈ [fileCells p], ∀ u ∈ x, u.oneCell' = true := by
  intro x hx u hu
  simp only [List.mem_singleton] at hx
  subst hx
  simp only [fileCells, strV, List.mem_cons, List.not_mem_nil, or_false] at hu
  rcases hu with rfl | rfl | rfl <;> rfl
theorem filter_next {f : Int} {fs : List (Int × FileV)} {k : Nat} {p : Int × FileV} (hp : fs[k]? = some p) :
    ((fs.take (k + 1)).filter (fun p => p.1 ≠ f)).map fileCells = ((fs.take k).filter (fun p => p.1 ≠ f)).map fileCells ++ (if p.1 = f then [] else [fileCells p]) := by
  rw [List.take_add_one, hp, List.filter_append, List.map_append]
  congr 1
  by_cases h : p.1 = f <;> simp [h]
section
variable {w w' : World} {F G : Nat → Prop} {B : Nat} {r : DV} {FA : Option Addr} {cf : Nat} {Q : Option Addr} {cq : Nat} {K : Option Addr} {ck : Nat}
/-- behind a call that leaves the keep list alone: the reference's disk is r -/
def RefToK (F : Nat → Prop) (w : World) (B : Nat) (r : DV) (K : Option Addr) (ck : Nat) (w' : World) : Prop := ∃ F' FA cf Q cq, RefAt w' F' B r FA cf Q cq K ck ∧ Ext F F' w w'
theorem RefToK.to (h : RefToK F w B r K ck w') : RefTo F w B r w' := by
  obtain ⟨F', FA, cf, Q, cq, h1, h2⟩ := h
  exact ⟨F', ⟨_, _, _, _, _, _, h1⟩, h2⟩
theorem RefToK.from {w1 w2 : World} (h : RefToK G w1 B r K ck w2) (hE : Ext F G w w1) : RefToK F w B r K ck w2 := by
  obtain ⟨F', FA, cf, Q, cq, h1, h2⟩ := h
  exact ⟨F', FA, cf, Q, cq, h1, hE.trans h2⟩
/-- a new list of files is laid -/
theorem RefAt.setFiles (h : RefAt w F B r FA cf Q cq K ck) {base : Nat} (hb : ∀ k, F k → k < base) {A : Option Addr} {c n : Nat} {fs : List (Int × FileV)}
    (ho : Own w base 65 3 (.slice A n c) n (fs.map fileCells)) :
    RefAt (w.setCell ⟨B, 0, none⟩ (.slice A n c)) (fun k => F k ∨ (base ≤ k ∧ k < w.heap.size)) B { r with files := fs } A c Q cq K ck := by
  obtain rfl : fs.length = n := by have := ho.2.2; rwa [List.length_map] at this
  have hg := grownBy_setCell w ⟨B, 0, none⟩ (.slice A fs.length c)
  have hl := h.loc.set_ 0 (.slice A fs.length c)
  have hB := hb B h.fB
  have hA : ∀ ad, A = some ad → base ≤ ad.block ∧ ad.block < w.heap.size := fun ad he => by subst he; exact ho.lt ad.block rfl
  refine ⟨by simpa using hl, (ho.setBelow (p := ⟨B, 0, none⟩) hB _).sl', h.queue.kept hg (.inr (fun e => h.nq (by rw [slice_block] at e; exact e))), h.keep.grown hg ?_, .inl h.fB, fun b hq => .inl (h.fq b hq), fun _ ad he => ⟨.inr (hA ad he), ?_, fun e => ?_⟩, fun hne ad he => ⟨.inl (h.fk hne ad he).1, (h.fk hne ad he).2⟩, h.nq, fun b hf => ?_⟩
  · by_cases hk : r.keep = []
    · exact .inl (by rw [hk]; rfl)
    · exact .inr fun ad e e' => (h.fk hk ad e).2.1 (by injection e' with e'; exact e'.symm)
  · have := (hA ad he).1; omega
  · have := hb _ (h.fq _ e); have := (hA ad he).1; omega
  · rw [World.size_setCell]
    rcases hf with hf | hf
    · exact h.lt b hf
    · exact hf.2
set_option maxHeartbeats 2000000 in
theorem set_ref (h : RefAt w F B r FA cf Q cq K ck) (hn : r.files.length ≤ 16) (f : Int) (x : FileV) :
    Calls Try.prog 60 #[.pointer (some ⟨B, 0, none⟩), .agg #[.int .i64 f, .string ⟨x.now.toArray⟩, .string ⟨x.last.toArray⟩]] w fun e w' => e = .returned (.tuple #[]) ∧ RefToK F w B { r with files := setL f x r.files } K ck w' := by
  obtain ⟨i0, hi0, hi1, hi2, hi3⟩ := info_parts infoFile
  obtain ⟨n, hnn⟩ : ∃ n, r.files.length = n := ⟨_, rfl⟩
  have hfl := h.files
  have hlo := h.loc
  rw [hnn] at hn hfl hlo
  have H := Lib.hid h
  obtain ⟨fs, hfs⟩ : ∃ fs, r.files = fs := ⟨_, rfl⟩
  rw [hfs] at hfl hnn
  have HS := Lib.hid hfl
  have LB := Lib.hid hlo
  have HL := Lib.hid hnn
  clear h hfl hlo hnn
  go_enter Try.func60, Try.ntmps60
  go_wp2_with (fail)
  go_loopw [4, 5] (fun v i wr => ∃ (k m : Nat) (A : Option Addr) (c : Nat), k ≤ n ∧ i = .int .i64 (k : Int) ∧ v = .slice A m c ∧ Below w.heap.size w wr ∧ Loc wr w.heap.size #[.int .i64 f, .string ⟨x.now.toArray⟩, .string ⟨x.last.toArray⟩] ∧
      Own wr (w.heap.size + 1) 65 3 (.slice A m c) m (((fs.take k).filter (fun p => p.1 ≠ f)).map fileCells)) (fun _ i _ => n - (intOf i).toNat)
  case atStart => exact ⟨0, 0, none, 0, Nat.zero_le _, rfl, rfl, below_alloc w _, Loc.new_ w _ _, Own.nil_ _ _ _ _⟩
  case round =>
    obtain ⟨k, m, A, c, hk, rfl, rfl, hb, hl, ho⟩ := hrel
    obtain ⟨wo, rfl⟩ : ∃ wo : World, wo = wr := ⟨_, rfl⟩
    have hm16 : m ≤ 16 := by
      have h1 := ho.2.2
      rw [List.length_map] at h1
      have h2 := List.length_filter_le (fun p : Int × FileV => p.1 ≠ f) (fs.take k)
      rw [List.length_take, HL.out] at h2
      omega
    have HB := Lib.hid hb
    have HLO := Lib.hid hl
    have HOW := Lib.hid ho
    obtain ⟨zL, kL, fL⟩ := hl
    obtain ⟨zB, kB, fB⟩ := LB.out.below hb
    clear hb ho
    by_cases hlt : k < n
    · obtain ⟨p, hp⟩ : ∃ p, fs[k]? = some p := ⟨_, List.getElem?_eq_getElem (by rw [HL.out]; exact hlt)⟩
      obtain ⟨b, o, rfl, hbl, hcell⟩ := (HS.out.below HB.out).2 k (fileCells p) (by rw [List.getElem?_map, hp]; rfl)
      have c0 := hcell 0 _ rfl
      have c1 := hcell 1 _ rfl
      have c2 := hcell 2 _ rfl
      rw [Nat.add_zero] at c0
      unfold strV at c1 c2
      have hki : (k : Int) < (n : Int) := by omega
      have hk0 : (0 : Int) ≤ (k : Int) := Int.natCast_nonneg _
      have HLT := Lib.hid hlt
      have HP := Lib.hid hp
      clear hcell hp hlt
      by_cases heq : p.1 = f
      · have heqb : (p.1 != f) = false := by simpa using heq
        go_wp2_with (fail)
        go_quiet (fail)
        go_wp2_with (fail)
        go_roundw
        case rel => exact ⟨k + 1, m, A, c, HLT.out, by go_num, rfl, bdrewN HB.out _, HLO.out.drewN _, by have h1 := filter_next (f := f) HP.out; rw [if_pos heq, List.append_nil] at h1; rw [h1]; exact HOW.out.below (bdrewN (Below.refl _ _) _)⟩
        case measure => have := HLT.out; simp [intOf]; omega
      · have heqb : (p.1 != f) = true := by simpa using heq
        go_wp2_with (fail)
        go_quiet (fail)
        have HBN := Lib.hid (bdrewN HB.out nq)
        have HLN := Lib.hid (HLO.out.drewN nq)
        have HON := Lib.hid (HOW.out.below (bdrewN (Below.refl wo.heap.size wo) nq))
        have hz : (wo.drewN nq).heap.size = wo.heap.size := rfl
        have hbz := HB.out.size
        have hzl := HLO.out.lt
        go_wp2_with (at_builtin; refine wpList_append_sl _ rfl (.tmp 26) (.tmp 34) 57 rfl (w.heap.size + 1) 65 i0 _ 3 40 Try.underlying57 hi0 hi1 hi2 hi3 rfl (by omega) (.slice A m c) m _ rfl (HON.out.alloc _) (some ⟨wo.heap.size, 0, none⟩) 1 1 [fileCells p] rfl (sl_file (wo.drewN nq) p _) (by simp [fileCells]) (file_one p) (by simp only [maxLen]; omega) (by omega) (by simp only [World.size_alloc, hz]; omega) ?_; intro A1 c1 w1 hown hg hat)
        have hbw := (HON.out.alloc _).below_grown (B := w.heap.size) (by omega) (by simp only [World.size_alloc, hz]; omega) (HBN.out.alloc (by rw [hz]; omega) _) hg
        have hlw := (HLN.out.alloc (.cells #[.int .i64 p.1, .string ⟨p.2.now.toArray⟩, .string ⟨p.2.last.toArray⟩] 65)).grown hg (fun e => by have := (HON.out.lt _ e).1; omega)
        have hfn := filter_next (f := f) HP.out
        rw [if_neg heq] at hfn
        rw [← hfn] at hown
        have HR := Lib.hid (And.intro hbw (And.intro hlw hown))
        clear hbw hlw hown
        go_roundw
        case rel => exact ⟨k + 1, m + 1, A1, c1, HLT.out, by go_num, rfl, HR.out.1, HR.out.2.1, HR.out.2.2⟩
        case measure => have := HLT.out; simp [intOf]; omega
    · obtain rfl : k = n := by omega
      have hki : (k : Int) ≤ (k : Int) := Int.le_refl _
      have hbz := HB.out.size
      have hzl := HLO.out.lt
      go_wp2_with (at_builtin; refine wpList_append_sl _ rfl (.tmp 37) (.tmp 39) 57 rfl (w.heap.size + 1) 65 i0 _ 3 40 Try.underlying57 hi0 hi1 hi2 hi3 rfl (by omega) (.slice A m c) m _ rfl (HOW.out.alloc _) (some ⟨wo.heap.size, 0, none⟩) 1 1 [fileCells (f, x)] rfl (sl_file wo (f, x) _) (by simp [fileCells]) (file_one (f, x)) (by simp only [maxLen]; omega) (by omega) (by simp only [World.size_alloc]; omega) ?_; intro A1 c1 w1 hown hg hat; have hbw := (HOW.out.alloc _).below_grown (B := w.heap.size) (by omega) (by simp only [World.size_alloc]; omega) (HB.out.alloc (by omega) _) hg; obtain ⟨zB1, kB1, fB1⟩ := LB.out.below hbw)
      go_end0
      rw [List.take_of_length_le (by rw [HL.out]; exact Nat.le_refl _)] at hown
      have h2 := (H.out.below hbw).setFiles (fs := setL f x r.files) (base := w.heap.size) (fun k hf => H.out.lt k hf) (A := A1) (c := c1) (n := m + 1) (by
        rw [hfs]
        have h3 := hown.mono (base' := w.heap.size) (by omega)
        unfold setL
        rw [List.map_append]
        exact h3)
      refine ⟨rfl, _, _, _, _, _, h2, (Keeps.below hbw).trans (Keeps.setCell (p := ⟨B, 0, none⟩) (.inl H.out.fB) _), fun _ h => .inl h, fun k h => ?_⟩
      unfold Plus
      rw [World.size_setCell]
      exact h
end
end Go.Proofs.Ythnechlnaacgfaa
