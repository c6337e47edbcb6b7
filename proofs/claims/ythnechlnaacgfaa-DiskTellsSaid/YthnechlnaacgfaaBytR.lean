/- Words for a row of bytes of the call's own that '[]byte(s)' may have made (its mark lies behind its end): append of one byte, store, string(b). -/
import Derived.Test.YthnechlnaacgfaaDiskN
import Derived.Lib.ConvBytes
import Derived.Laws.AppendOwn
namespace Go.Proofs.Ythnechlnaacgfaa
open Go.RowKit

/-- the slice (g, l.length, cap) is a row of bytes of the call's own, whose mark touches none of its cells -/
structure Byt (w : World) (base g cap : Nat) (l : List UInt8) : Prop where
  ge : base ≤ g
  row : ∃ cur fz, w.heap[g]? = some (.cells cur 5 fz) ∧ (fz.2 = 0 ∨ cap ≤ fz.1) ∧ l.length ≤ cap ∧ cap ≤ maxLen ∧ cur.size = cap ∧ cur.toList.take l.length = byteV l
section
variable {w w' : World} {base g cap : Nat} {l : List UInt8}
theorem Byt.lt (h : Byt w base g cap l) : g < w.heap.size := by
  obtain ⟨_, _, hg, _⟩ := h.row
  exact (Array.getElem?_eq_some_iff.1 hg).1
theorem Byt.kept {row : Option Nat} (h : Byt w base g cap l) (hg : w.grownBy w' row) (hne : row ≠ some g) : Byt w' base g cap l := by
  have hlt := h.lt
  obtain ⟨cur, fz, h1, h2⟩ := h.row
  exact ⟨h.ge, cur, fz, (hg.block g hlt (Ne.symm hne)).trans h1, h2⟩
theorem Byt.alloc (h : Byt w base g cap l) (o : Obj) : Byt (w.alloc o) base g cap l := h.kept (World.grownBy_alloc w o none) (by simp)
theorem Byt.below (h : Byt w base g cap l) (hb : Below w.heap.size w w') : Byt w' base g cap l :=
  h.kept (row := none) ⟨hb.os, hb.tape, hb.output, hb.size, fun k hk _ => hb.block k hk⟩ (by simp)
theorem Byt.cell (h : Byt w base g cap l) {i : Nat} {b : UInt8} (hi : l[i]? = some b) : w.cell? ⟨g, i, none⟩ = some (.int .u8 b.toNat) := by
  obtain ⟨cur, fz, h1, _, _, _, _, h6⟩ := h.row
  rw [cell_of_row w g i cur _ fz h1]
  have h7 : (byteV l)[i]? = some (.int .u8 b.toNat) := by rw [byteV, List.getElem?_map, hi]; rfl
  rw [← h6, List.getElem?_take] at h7
  split at h7
  · simpa using h7
  · cases h7
theorem Byt.free (h : Byt w base g cap l) {i : Nat} (hi : i < cap) : w.frozen? ⟨g, i, none⟩ = false := by
  obtain ⟨cur, fz, h1, h2, _⟩ := h.row
  obtain ⟨lo, hi'⟩ := fz
  simp only [World.frozen?, h1, Bool.and_eq_false_iff, decide_eq_false_iff_not]
  simp only at h2
  omega
theorem Byt.room (h : Byt w base g cap l) : l.length ≤ cap := by
  obtain ⟨_, _, _, _, h3, _⟩ := h.row
  exact h3
/-- a byte is stored -/
theorem Byt.stored (h : Byt w base g cap l) {i : Nat} (hi : i < l.length) (b : UInt8) : Byt (w.setCell ⟨g, i, none⟩ (.int .u8 b.toNat)) base g cap (l.set i b) := by
  obtain ⟨cur, fz, h1, h2, h3, h4, h5, h6⟩ := h.row
  refine ⟨h.ge, cur.setIfInBounds i (.int .u8 b.toNat), fz, ?_, h2, by simpa using h3, h4, by simpa using h5, ?_⟩
  · rw [setCell_eq_setRow w g i cur _ fz _ h1]
    exact setRow_heap w g cur _ _ _ h1
  · rw [Array.toList_setIfInBounds, List.length_set, List.take_set, h6, byteV, byteV, List.map_set]
/-- what '[]byte(s)' makes -/
theorem Byt.conv (w : World) (s : List UInt8) (hs : s.length ≤ maxLen) : Byt (Lib.bytesWorld w 5 ⟨s.toArray⟩) w.heap.size w.heap.size (grownCap w s.length 0 5) s := by
  have hl := strV_len s
  have hge := grownCap_ge w s.length 0 5
  have hz : (Lib.bytesCells w 5 ⟨s.toArray⟩).size = grownCap w s.length 0 5 := by
    simp only [Lib.bytesCells, Array.size_append, Array.size_map, Array.size_replicate, hl, List.size_toArray]
    omega
  refine ⟨Nat.le_refl _, _, _, Lib.bytesWorld_at_new w _ _, .inr (by rw [hz]; exact Nat.le_refl _), hge, grownCap_le_maxLen w _ _ _ hs, hz, ?_⟩
  simp [Lib.bytesCells, byteV]
theorem below_conv (w : World) (s : ByteArray) : Below w.heap.size w (Lib.bytesWorld w 5 s) :=
  ⟨by simp only [Lib.bytesWorld, World.freeze]; rfl, by simp only [Lib.bytesWorld, World.freeze]; rfl, by simp only [Lib.bytesWorld, World.freeze]; rfl, by rw [Lib.bytesWorld_size]; omega, fun k hk => Lib.bytesWorld_at_old w _ s k hk⟩
/-- one byte is appended -/
theorem Byt.append (h : Byt w base g cap l) (ty : TypeId) (ab ao c : Nat) (b : UInt8) (hc : w.cell? ⟨ab, ao, none⟩ = some (.int .u8 b.toNat)) (hbase : base ≤ w.heap.size) (hlen : l.length + 1 ≤ 140737488355328) :
    ∃ g' cap' w', (Builtin.append_ #[85, 85] ty #[.slice (some ⟨g, 0, none⟩) l.length cap, .slice (some ⟨ab, ao, none⟩) 1 c]).run Try.prog w = .ok (.slice (some ⟨g', 0, none⟩) (l.length + 1) cap') w' ∧
      Byt w' base g' cap' (l ++ [b]) ∧ w.grownBy w' (some g) := by
  obtain ⟨i0, hi0, hz0, hz1, hz2⟩ := info_parts infoByte
  have hnews : ∀ j v, [Value.int .u8 (b.toNat : Int)][j]? = some v → w.cell? ((⟨ab, ao, none⟩ : Addr).add j) = some v := fun j v hv => by
    match j, hv with
    | 0, hv =>
      have ha : (⟨ab, ao, none⟩ : Addr).add 0 = ⟨ab, ao, none⟩ := by unfold Addr.add; split <;> simp_all
      rw [ha, hc]
      simpa using hv
  obtain ⟨cur, fz, h1, h2, h3, h4, h5, h6⟩ := h.row
  by_cases hroom : l.length + 1 ≤ cap
  · have hf := run_firstCells_some (P := Try.prog) w 1 1 ⟨ab, ao, none⟩ 1 c [Value.int .u8 (b.toNat : Int)] rfl hnews
    have hfro := h.free (i := l.length) (by omega)
    have hcell : w.cell? ⟨g, l.length, none⟩ = some cur[l.length] := by simp [World.cell?, h1, show l.length < cur.size by omega]
    have hst : (storeCells ⟨g, l.length, none⟩ [Value.int .u8 (b.toNat : Int)] 0).run Try.prog w = .ok () (w.setCell ⟨g, l.length, none⟩ (.int .u8 b.toNat)) := by
      have ha : (⟨g, l.length, none⟩ : Addr).add 0 = ⟨g, l.length, none⟩  := by unfold Addr.add; split <;> simp_all
      simp only [storeCells, ha, Sem.run_bind, run_store Try.prog w _ _ _ (show (Value.int .u8 (b.toNat : Int)).oneCell' = true from rfl), hcell]
      simp [hfro]
    have hst' := hst
    refine ⟨g, cap, w.setCell ⟨g, l.length, none⟩ (.int .u8 b.toNat), ?_, ⟨h.ge, cur.setIfInBounds l.length (.int .u8 b.toNat), fz, ?_, h2, by simpa using hroom, h4, by simpa using h5, ?_⟩, grownBy_setCell w ⟨g, l.length, none⟩ _⟩
    · simp [Builtin.append_, run_underlying Try.underlying85, sizeOf, typeInfo, hi0, hz1, Builtin.lenOf, hroom, hf, Addr.add_lit, hst]
    · rw [setCell_eq_setRow w g _ cur _ fz _ h1]
      exact setRow_heap w g cur _ _ _ h1
    · rw [Array.toList_setIfInBounds, List.length_append, List.length_singleton, List.take_add_one, List.take_set, List.set_eq_of_length_le (by rw [List.length_take]; exact Nat.min_le_left _ _), h6]
      simp [byteV, show l.length < cur.size by omega]
  · have hr := run_append_grow (P := Try.prog) w 85 ty 5 i0 (.int .u8 0) Try.underlying85 hi0 hz0 ⟨g, 0, none⟩ l.length cap (byteV l) (by rw [hz1]; simp [byteV]) (fun j v hv => by
      rw [byteV, List.getElem?_map] at hv
      obtain ⟨b', hb', hbv⟩ := Option.map_eq_some_iff.1 hv
      have ha : (⟨g, 0, none⟩ : Addr).add j = ⟨g, j, none⟩ := by unfold Addr.add; split <;> simp_all
      rw [ha, h.cell hb', hbv]) ⟨ab, ao, none⟩ 1 c [Value.int .u8 (b.toNat : Int)] (by rw [hz1]; rfl) hnews (by omega) (by omega) (by rw [hz2]; exact growslice_fits (by omega) (by omega))
    have hge := grownCap_ge w (l.length + 1) cap 5
    have hle := grownCap_le_maxLen w (l.length + 1) cap 5 (by simp only [maxLen]; omega)
    refine ⟨_, _, _, hr, ⟨hbase, _, _, heap_alloc_new w.drew _, .inl rfl, by simpa using hge, hle, ?_, ?_⟩, ⟨rfl, rfl, rfl, by simp, fun k hk _ => heap_alloc_old w.drew _ hk⟩⟩
    · simp only [Array.size_append, List.size_toArray, size_zeroCells, byteV, List.length_map, List.length_singleton]
      simp only [Value.cells, List.size_toArray, List.length_singleton]
      omega
    · rw [Array.toList_append, Array.toList_append, List.append_assoc, ← List.append_assoc]
      rw [List.take_append_of_le_length (by simp [byteV]), List.take_of_length_le (by simp [byteV])]
      simp [byteV]
theorem wpList_append_byt {ops : Array Oper} {rest : List Oper} {o : Oper} {a : Act} {Q : Exit → Act → World → Prop} (hgd : o.guard = none) (s x : Operand)
    (ho : o.op = .call { callee := .builtin .append, args := #[s, x], argTypes := #[85, 85] })
    (h : Byt w base g cap l) (n : Nat) (hn : l.length = n) (hs : a.eval s = .slice (some ⟨g, 0, none⟩) n cap)
    (ab ao c : Nat) (hx : a.eval x = .slice (some ⟨ab, ao, none⟩) 1 c) (b : UInt8) (hc : w.cell? ⟨ab, ao, none⟩ = some (.int .u8 b.toNat)) (hbase : base ≤ w.heap.size) (hlen : n + 1 ≤ 140737488355328)
    (h2 : ∀ g' cap' w', Byt w' base g' cap' (l ++ [b]) → w.grownBy w' (some g) → wpList Try.prog ops Q rest (a.put o.dst (.slice (some ⟨g', 0, none⟩) (n + 1) cap')) w') :
    wpList Try.prog ops Q (o :: rest) a w := by
  subst hn
  refine wpList_plain hgd fun K hK => ?_
  obtain ⟨g', cap', w', hrun, h3, h4⟩ := h.append o.type ab ao c b hc hbase hlen
  unfold Oper.wp execOp
  simp only [ho, resolve, invoke, builtin, Sem.run_bind, Sem.run_pure, Result.andThen_ok, List.map_toArray, List.map_cons, List.map_nil, hs, hx, hrun]
  exact hK _ _ (h2 g' cap' w' h3 h4)
theorem Byt.convert (h : Byt w base g cap l) (n : Nat) (hn : l.length = n) :
    Sem.run Try.prog (convert 85 9 (.slice (some ⟨g, 0, none⟩) n cap)) w = .ok (.string ⟨l.toArray⟩) w := by
  have := run_convert_bytes_arg (P := Try.prog) w 85 5 Try.underlying85 Try.underlying5 g 0 n cap (l.map fun b => (b.toNat : Int)) (by simp [hn]) (fun i hi => by
    have hi' : i < l.length := by omega
    have hb := h.cell (List.getElem?_eq_getElem hi')
    rw [Nat.zero_add, hb]
    simp [hi', List.getD]) 9 Try.underlying9
  rw [strOf_byteV] at this
  exact this
end
end Go.Proofs.Ythnechlnaacgfaa
