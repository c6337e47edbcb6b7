/- kerbsideref02: settle, walked. -/
import Derived.Test.YthnechlnaacgfaaRefD
namespace Go.Proofs.Ythnechlnaacgfaa
open Go.RowKit

theorem infoSec : (Try.prog.info? 78).map (fun i => (i.zero, i.size, i.bytes)) = some (some (.agg #[.int .i64 0, .int .i64 0]), 2, 16) := by kernel_rfl
theorem sl_sec (W : World) (p : Int × Int) (t : TypeId) : Sl (W.alloc (.cells #[.int .i64 p.1, .int .i64 p.2] t)) 2 (some ⟨W.heap.size, 0, none⟩) 1 [secCells p] := by
  refine ⟨rfl, fun i x hx => ⟨_, _, rfl, by simp, fun j v hv => ?_⟩⟩
  match i, hx with
  | 0, hx =>
    simp only [List.getElem?_cons_zero, Option.some.injEq] at hx
    subst hx
    rw [World.cell?_alloc_at _ _ _ _ rfl]
    simpa [secCells] using hv
  | i + 1, hx => simp at hx
theorem sec_one1 (p : Int × Int) : ∀ x ∈ [secCells p], ∀ u ∈ x, u.oneCell' = true := by
  intro x hx u hu
  simp only [List.mem_singleton] at hx
  subst hx
  simp only [secCells, List.mem_cons, List.not_mem_nil, or_false] at hu
  rcases hu with rfl | rfl <;> rfl
theorem filterQ_next {f : Int} {q : List (Int × Int)} {k : Nat} {p : Int × Int} (hp : q[k]? = some p) :
    ((q.take (k + 1)).filter (fun p => p.1 ≠ f)).map secCells = ((q.take k).filter (fun p => p.1 ≠ f)).map secCells ++ (if p.1 = f then [] else [secCells p]) := by
  rw [List.take_add_one, hp, List.filter_append, List.map_append]
  congr 1
  by_cases h : p.1 = f <;> simp [h]
section
variable {w w' : World} {F G : Nat → Prop} {B : Nat} {r : DV} {FA : Option Addr} {cf : Nat} {Q : Option Addr} {cq : Nat} {K : Option Addr} {ck : Nat}
/-- a new queue is laid -/
theorem RefAt.setQueue (h : RefAt w F B r FA cf Q cq K ck) {base : Nat} (hb : ∀ k, F k → k < base) {A : Option Addr} {c n : Nat} {q : List (Int × Int)}
    (ho : Own w base 78 2 (.slice A n c) n (q.map secCells)) :
    RefAt (w.setCell ⟨B, 1, none⟩ (.slice A n c)) (fun k => F k ∨ (base ≤ k ∧ k < w.heap.size)) B { r with queue := q } FA cf A c K ck := by
  obtain rfl : q.length = n := by have := ho.2.2; rwa [List.length_map] at this
  have hg := grownBy_setCell w ⟨B, 1, none⟩ (.slice A q.length c)
  have hl := h.loc.set_ 1 (.slice A q.length c)
  have hB := hb B h.fB
  have hA : ∀ b, (Value.slice A 0 0).ownBlock = some b → base ≤ b ∧ b < w.heap.size := fun b he => ho.lt b (by rw [slice_block]; exact he)
  refine ⟨by simpa using hl, h.files.grown hg ?_, (ho.setBelow (p := ⟨B, 1, none⟩) hB _).mono (Nat.zero_le _), h.keep.grown hg ?_, .inl h.fB, fun b hq => .inr (hA b hq), fun hne ad he => ⟨.inl (h.ff hne ad he).1, (h.ff hne ad he).2.1, fun e => ?_⟩, fun hne ad he => ⟨.inl (h.fk hne ad he).1, (h.fk hne ad he).2.1, fun e => ?_⟩, fun e => ?_, fun b hf => ?_⟩
  · by_cases hk : r.files = []
    · exact .inl (by rw [hk]; rfl)
    · exact .inr fun ad e e' => (h.ff hk ad e).2.1 (by injection e' with e'; exact e'.symm)
  · by_cases hk : r.keep = []
    · exact .inl (by rw [hk]; rfl)
    · exact .inr fun ad e e' => (h.fk hk ad e).2.1 (by injection e' with e'; exact e'.symm)
  · have := (hA _ e).1; have := hb _ (h.ff hne ad he).1; omega
  · have := (hA _ e).1; have := hb _ (h.fk hne ad he).1; omega
  · have := (hA _ e).1; omega
  · rw [World.size_setCell]
    rcases hf with hf | hf
    · exact h.lt b hf
    · exact hf.2
set_option maxHeartbeats 2000000 in
theorem settle_ref (h : RefAt w F B r FA cf Q cq K ck) (hn : r.files.length ≤ 16) (hq : r.queue.length ≤ 4194320) (f : Int) (s : List UInt8) :
    Calls Try.prog 51 #[.pointer (some ⟨B, 0, none⟩), .int .i64 f, .string ⟨s.toArray⟩] w fun e w' => e = .returned (.tuple #[]) ∧ RefTo F w B (settleR r f s) w' := by
  obtain ⟨i0, hi0, hi1, hi2, hi3⟩ := info_parts infoSec
  have HSET := Lib.hid (set_ref h hn f ⟨s, s⟩)
  clear h hn
  go_enter Try.func51, Try.ntmps51
  go_wp2_with ((with_reducible refine (HSET.out).mono ?_); rintro e w1 ⟨rfl, F1, FA1, cf1, Q1, cq1, h1, hE1⟩)
  have HE := Lib.hid hE1
  obtain ⟨n, hnn⟩ : ∃ n, r.queue.length = n := ⟨_, rfl⟩
  have hfl := h1.queue.sl'
  have hlo := h1.loc
  simp only at hfl hlo
  rw [hnn] at hq hfl hlo
  have H := Lib.hid h1
  obtain ⟨qs, hqs⟩ : ∃ qs, r.queue = qs := ⟨_, rfl⟩
  rw [hqs] at hfl hnn
  have HS := Lib.hid hfl
  have LB := Lib.hid hlo
  have HL := Lib.hid hnn
  clear h1 hE1 hfl hlo hnn
  go_loopw [6, 7] (fun v i wr => ∃ (k m : Nat) (A : Option Addr) (c : Nat), k ≤ n ∧ m ≤ k ∧ i = .int .i64 (k : Int) ∧ v = .slice A m c ∧ Below w1.heap.size w1 wr ∧
      Own wr w1.heap.size 78 2 (.slice A m c) m (((qs.take k).filter (fun p => p.1 ≠ f)).map secCells)) (fun _ i _ => n - (intOf i).toNat)
  case atStart => exact ⟨0, 0, none, 0, Nat.zero_le _, Nat.le_refl _, rfl, rfl, Below.refl _ _, Own.nil_ _ _ _ _⟩
  case round =>
    obtain ⟨k, m, A, c, hk, hmk, rfl, rfl, hb, ho⟩ := hrel
    obtain ⟨wo, rfl⟩ : ∃ wo : World, wo = wr := ⟨_, rfl⟩
    have HB := Lib.hid hb
    have HOW := Lib.hid ho
    obtain ⟨zB, kB, fB⟩ := LB.out.below hb
    have hbz := hb.size
    clear hb ho
    by_cases hlt : k < n
    · obtain ⟨p, hp⟩ : ∃ p, qs[k]? = some p := ⟨_, List.getElem?_eq_getElem (by rw [HL.out]; exact hlt)⟩
      obtain ⟨b, o, rfl, hbl, hcell⟩ := (HS.out.below HB.out).2 k (secCells p) (by rw [List.getElem?_map, hp]; rfl)
      have c0 := hcell 0 _ rfl
      have c1 := hcell 1 _ rfl
      rw [Nat.add_zero] at c0
      have hki : (k : Int) < (n : Int) := by omega
      have hk0 : (0 : Int) ≤ (k : Int) := Int.natCast_nonneg _
      have HLT := Lib.hid hlt
      have HP := Lib.hid hp
      clear hcell hp hlt
      by_cases heq : p.1 = f
      · have heqb : (p.1 != f) = false := by simpa using heq
        go_wp2_with (fail)
        go_roundw
        case rel => exact ⟨k + 1, m, A, c, HLT.out, by omega, by go_num, rfl, HB.out, by have h1 := filterQ_next (f := f) HP.out; rw [if_pos heq, List.append_nil] at h1; rw [h1]; exact HOW.out⟩
        case measure => have := HLT.out; simp [intOf]; omega
      · have heqb : (p.1 != f) = true := by simpa using heq
        go_wp2_with (at_builtin; refine wpList_append_sl _ rfl (.tmp 33) (.tmp 41) 58 rfl w1.heap.size 78 i0 _ 2 16 Try.underlying58 hi0 hi1 hi2 hi3 rfl (by omega) (.slice A m c) m _ rfl (HOW.out.alloc _) (some ⟨wo.heap.size, 0, none⟩) 1 1 [secCells p] rfl (sl_sec wo p _) (by simp [secCells]) (sec_one1 p) (by simp only [maxLen]; omega) (by omega) (by simp only [World.size_alloc]; omega) ?_; intro A1 c1 w2 hown hg hat)
        have hbw := (HOW.out.alloc _).below_grown (B := w1.heap.size) (Nat.le_refl _) (by simp only [World.size_alloc]; omega) (HB.out.alloc (by omega) _) hg
        have hfn := filterQ_next (f := f) HP.out
        rw [if_neg heq] at hfn
        rw [← hfn] at hown
        have HR := Lib.hid (And.intro hbw hown)
        clear hbw hown
        go_roundw
        case rel => exact ⟨k + 1, m + 1, A1, c1, HLT.out, by omega, by go_num, rfl, HR.out.1, HR.out.2⟩
        case measure => have := HLT.out; simp [intOf]; omega
    · obtain rfl : k = n := by omega
      have hki : (k : Int) ≤ (k : Int) := Int.le_refl _
      go_wp2_with (fail)
      go_end0
      have hown := HOW.out
      rw [List.take_of_length_le (by rw [HL.out]; exact Nat.le_refl _), ← hqs] at hown
      have h2 := (H.out.below HB.out).setQueue (base := w1.heap.size) (fun k hf => H.out.lt k hf) hown
      refine ⟨rfl, _, h2.ref, HE.out.trans ⟨(Keeps.below HB.out).trans (Keeps.setCell (p := ⟨B, 1, none⟩) (.inl H.out.fB) _), fun _ h => .inl h, fun k h => ?_⟩⟩
      unfold Plus
      rw [World.size_setCell]
      exact h
end
end Go.Proofs.Ythnechlnaacgfaa
