/- Words for a row of bytes of the call's own that '[]byte(s)' may have made (its mark lies behind its end): append of one byte, store, string(b). -/
/- The plain law of JournalTorn: the records that a torn file holds are those whose forms are whole. -/
/- kerbsidelaw03: JournalTorn, walked. -/
import Derived.Test.YtniiahmpdkgplaaDoorDiskN
import Derived.Lib.ConvBytes
import Derived.Laws.AppendOwn
import Derived.Test.YtniiahmpdkgplaaDoorJrnL
import Derived.Test.YtniiahmpdkgplaaDoorJrnS
import Derived.Test.YtniiahmpdkgplaaDoorOrdL
import Derived.Test.YtniiahmpdkgplaaDoorMakeR
import Derived.Deep.LoopGhost
import Derived.Deep.DeepCutAuto
import Derived.Deep.CutBlock
import Derived.BigQuiet
namespace Go.Proofs.YtniiahmpdkgplaaDoor
open Go.RowKit

/-- the slice (g, l.length, cap) is a row of bytes of the call's own, whose mark touches none of its cells -/
structure Byt (w : World) (base g cap : Nat) (l : List UInt8) : Prop where
  ge : base ≤ g
  row : ∃ cur fz, w.heap[g]? = some (.cells cur 5 fz) ∧ (fz.2 = 0 ∨ cap ≤ fz.1) ∧ l.length ≤ cap ∧ cap ≤ maxLen ∧ cur.size = cap ∧ cur.toList.take l.length = byteV l
section
variable {w w' : World} {base g cap : Nat} {l : List UInt8}
theorem Byt.lt (h : Byt w base g cap l) : g < w.heap.size := by
  obtain ⟨_, _, hg, _⟩ := h.row
  exact (Array.getElem?_eq_some_iff.1 hg).1
theorem Byt.kept {row : Option Nat} (h : Byt w base g cap l) (hg : w.grownBy w' row) (hne : row ≠ some g) : Byt w' base g cap l := by
  have hlt := h.lt
  obtain ⟨cur, fz, h1, h2⟩ := h.row
  exact ⟨h.ge, cur, fz, (hg.block g hlt (Ne.symm hne)).trans h1, h2⟩
theorem Byt.alloc (h : Byt w base g cap l) (o : Obj) : Byt (w.alloc o) base g cap l := h.kept (World.grownBy_alloc w o none) (by simp)
theorem Byt.below (h : Byt w base g cap l) (hb : Below w.heap.size w w') : Byt w' base g cap l :=
  h.kept (row := none) ⟨hb.os, hb.tape, hb.output, hb.size, fun k hk _ => hb.block k hk⟩ (by simp)
theorem Byt.cell (h : Byt w base g cap l) {i : Nat} {b : UInt8} (hi : l[i]? = some b) : w.cell? ⟨g, i, none⟩ = some (.int .u8 b.toNat) := by
  obtain ⟨cur, fz, h1, _, _, _, _, h6⟩ := h.row
  rw [cell_of_row w g i cur _ fz h1]
  have h7 : (byteV l)[i]? = some (.int .u8 b.toNat) := by rw [byteV, List.getElem?_map, hi]; rfl
  rw [← h6, List.getElem?_take] at h7
  split at h7
  · simpa using h7
  · cases h7
theorem Byt.free (h : Byt w base g cap l) {i : Nat} (hi : i < cap) : w.frozen? ⟨g, i, none⟩ = false := by
  obtain ⟨cur, fz, h1, h2, _⟩ := h.row
  obtain ⟨lo, hi'⟩ := fz
  simp only [World.frozen?, h1, Bool.and_eq_false_iff, decide_eq_false_iff_not]
  simp only at h2
  omega
theorem Byt.room (h : Byt w base g cap l) : l.length ≤ cap := by
  obtain ⟨_, _, _, _, h3, _⟩ := h.row
  exact h3
/-- a byte is stored -/
theorem Byt.stored (h : Byt w base g cap l) {i : Nat} (hi : i < l.length) (b : UInt8) : Byt (w.setCell ⟨g, i, none⟩ (.int .u8 b.toNat)) base g cap (l.set i b) := by
  obtain ⟨cur, fz, h1, h2, h3, h4, h5, h6⟩ := h.row
  refine ⟨h.ge, cur.setIfInBounds i (.int .u8 b.toNat), fz, ?_, h2, by simpa using h3, h4, by simpa using h5, ?_⟩
  · rw [setCell_eq_setRow w g i cur _ fz _ h1]
    exact setRow_heap w g cur _ _ _ h1
  · rw [Array.toList_setIfInBounds, List.length_set, List.take_set, h6, byteV, byteV, List.map_set]
/-- what '[]byte(s)' makes -/
theorem Byt.conv (w : World) (s : List UInt8) (hs : s.length ≤ maxLen) : Byt (Lib.bytesWorld w 5 ⟨s.toArray⟩) w.heap.size w.heap.size (grownCap w s.length 0 5) s := by
  have hl := strV_len s
  have hge := grownCap_ge w s.length 0 5
  have hz : (Lib.bytesCells w 5 ⟨s.toArray⟩).size = grownCap w s.length 0 5 := by
    simp only [Lib.bytesCells, Array.size_append, Array.size_map, Array.size_replicate, hl, List.size_toArray]
    omega
  refine ⟨Nat.le_refl _, _, _, Lib.bytesWorld_at_new w _ _, .inr (by rw [hz]; exact Nat.le_refl _), hge, grownCap_le_maxLen w _ _ _ hs, hz, ?_⟩
  simp [Lib.bytesCells, byteV]
theorem below_conv (w : World) (s : ByteArray) : Below w.heap.size w (Lib.bytesWorld w 5 s) :=
  ⟨by simp only [Lib.bytesWorld, World.freeze]; rfl, by simp only [Lib.bytesWorld, World.freeze]; rfl, by simp only [Lib.bytesWorld, World.freeze]; rfl, by rw [Lib.bytesWorld_size]; omega, fun k hk => Lib.bytesWorld_at_old w _ s k hk⟩
/-- one byte is appended -/
theorem Byt.append (h : Byt w base g cap l) (ty : TypeId) (ab ao c : Nat) (b : UInt8) (hc : w.cell? ⟨ab, ao, none⟩ = some (.int .u8 b.toNat)) (hbase : base ≤ w.heap.size) (hlen : l.length + 1 ≤ 140737488355328) :
    ∃ g' cap' w', (Builtin.append_ #[36, 36] ty #[.slice (some ⟨g, 0, none⟩) l.length cap, .slice (some ⟨ab, ao, none⟩) 1 c]).run Tryd.prog w = .ok (.slice (some ⟨g', 0, none⟩) (l.length + 1) cap') w' ∧
      Byt w' base g' cap' (l ++ [b]) ∧ w.grownBy w' (some g) := by
  obtain ⟨i0, hi0, hz0, hz1, hz2⟩ := info_parts infoByteD
  have hnews : ∀ j v, [Value.int .u8 (b.toNat : Int)][j]? = some v → w.cell? ((⟨ab, ao, none⟩ : Addr).add j) = some v := fun j v hv => by
    match j, hv with
    | 0, hv =>
      have ha : (⟨ab, ao, none⟩ : Addr).add 0 = ⟨ab, ao, none⟩ := by unfold Addr.add; split <;> simp_all
      rw [ha, hc]
      simpa using hv
  obtain ⟨cur, fz, h1, h2, h3, h4, h5, h6⟩ := h.row
  by_cases hroom : l.length + 1 ≤ cap
  · have hf := run_firstCells_some (P := Tryd.prog) w 1 1 ⟨ab, ao, none⟩ 1 c [Value.int .u8 (b.toNat : Int)] rfl hnews
    have hfro := h.free (i := l.length) (by omega)
    have hcell : w.cell? ⟨g, l.length, none⟩ = some cur[l.length] := by simp [World.cell?, h1, show l.length < cur.size by omega]
    have hst : (storeCells ⟨g, l.length, none⟩ [Value.int .u8 (b.toNat : Int)] 0).run Tryd.prog w = .ok () (w.setCell ⟨g, l.length, none⟩ (.int .u8 b.toNat)) := by
      have ha : (⟨g, l.length, none⟩ : Addr).add 0 = ⟨g, l.length, none⟩  := by unfold Addr.add; split <;> simp_all
      simp only [storeCells, ha, Sem.run_bind, run_store Tryd.prog w _ _ _ (show (Value.int .u8 (b.toNat : Int)).oneCell' = true from rfl), hcell]
      simp [hfro]
    have hst' := hst
    refine ⟨g, cap, w.setCell ⟨g, l.length, none⟩ (.int .u8 b.toNat), ?_, ⟨h.ge, cur.setIfInBounds l.length (.int .u8 b.toNat), fz, ?_, h2, by simpa using hroom, h4, by simpa using h5, ?_⟩, grownBy_setCell w ⟨g, l.length, none⟩ _⟩
    · simp [Builtin.append_, run_underlying Tryd.underlying36, sizeOf, typeInfo, hi0, hz1, Builtin.lenOf, hroom, hf, Addr.add_lit, hst]
    · rw [setCell_eq_setRow w g _ cur _ fz _ h1]
      exact setRow_heap w g cur _ _ _ h1
    · rw [Array.toList_setIfInBounds, List.length_append, List.length_singleton, List.take_add_one, List.take_set, List.set_eq_of_length_le (by rw [List.length_take]; exact Nat.min_le_left _ _), h6]
      simp [byteV, show l.length < cur.size by omega]
  · have hr := run_append_grow (P := Tryd.prog) w 36 ty 5 i0 (.int .u8 0) Tryd.underlying36 hi0 hz0 ⟨g, 0, none⟩ l.length cap (byteV l) (by rw [hz1]; simp [byteV]) (fun j v hv => by
      rw [byteV, List.getElem?_map] at hv
      obtain ⟨b', hb', hbv⟩ := Option.map_eq_some_iff.1 hv
      have ha : (⟨g, 0, none⟩ : Addr).add j = ⟨g, j, none⟩ := by unfold Addr.add; split <;> simp_all
      rw [ha, h.cell hb', hbv]) ⟨ab, ao, none⟩ 1 c [Value.int .u8 (b.toNat : Int)] (by rw [hz1]; rfl) hnews (by omega) (by omega) (by rw [hz2]; exact growslice_fits (by omega) (by omega))
    have hge := grownCap_ge w (l.length + 1) cap 5
    have hle := grownCap_le_maxLen w (l.length + 1) cap 5 (by simp only [maxLen]; omega)
    refine ⟨_, _, _, hr, ⟨hbase, _, _, heap_alloc_new w.drew _, .inl rfl, by simpa using hge, hle, ?_, ?_⟩, ⟨rfl, rfl, rfl, by simp, fun k hk _ => heap_alloc_old w.drew _ hk⟩⟩
    · simp only [Array.size_append, List.size_toArray, size_zeroCells, byteV, List.length_map, List.length_singleton]
      simp only [Value.cells, List.size_toArray, List.length_singleton]
      omega
    · rw [Array.toList_append, Array.toList_append, List.append_assoc, ← List.append_assoc]
      rw [List.take_append_of_le_length (by simp [byteV]), List.take_of_length_le (by simp [byteV])]
      simp [byteV]
theorem wpList_append_byt {ops : Array Oper} {rest : List Oper} {o : Oper} {a : Act} {Q : Exit → Act → World → Prop} (hgd : o.guard = none) (s x : Operand)
    (ho : o.op = .call { callee := .builtin .append, args := #[s, x], argTypes := #[36, 36] })
    (h : Byt w base g cap l) (n : Nat) (hn : l.length = n) (hs : a.eval s = .slice (some ⟨g, 0, none⟩) n cap)
    (ab ao c : Nat) (hx : a.eval x = .slice (some ⟨ab, ao, none⟩) 1 c) (b : UInt8) (hc : w.cell? ⟨ab, ao, none⟩ = some (.int .u8 b.toNat)) (hbase : base ≤ w.heap.size) (hlen : n + 1 ≤ 140737488355328)
    (h2 : ∀ g' cap' w', Byt w' base g' cap' (l ++ [b]) → w.grownBy w' (some g) → wpList Tryd.prog ops Q rest (a.put o.dst (.slice (some ⟨g', 0, none⟩) (n + 1) cap')) w') :
    wpList Tryd.prog ops Q (o :: rest) a w := by
  subst hn
  refine wpList_plain hgd fun K hK => ?_
  obtain ⟨g', cap', w', hrun, h3, h4⟩ := h.append o.type ab ao c b hc hbase hlen
  unfold Oper.wp execOp
  simp only [ho, resolve, invoke, builtin, Sem.run_bind, Sem.run_pure, Result.andThen_ok, List.map_toArray, List.map_cons, List.map_nil, hs, hx, hrun]
  exact hK _ _ (h2 g' cap' w' h3 h4)
theorem Byt.convert (h : Byt w base g cap l) (n : Nat) (hn : l.length = n) :
    Sem.run Tryd.prog (convert 36 9 (.slice (some ⟨g, 0, none⟩) n cap)) w = .ok (.string ⟨l.toArray⟩) w := by
  have := run_convert_bytes_arg (P := Tryd.prog) w 36 5 Tryd.underlying36 Tryd.underlying5 g 0 n cap (l.map fun b => (b.toNat : Int)) (by simp [hn]) (fun i hi => by
    have hi' : i < l.length := by omega
    have hb := h.cell (List.getElem?_eq_getElem hi')
    rw [Nat.zero_add, hb]
    simp [hi', List.getD]) 9 Tryd.underlying9
  rw [strOf_byteV] at this
  exact this
end
end Go.Proofs.YtniiahmpdkgplaaDoor
namespace Go.Proofs.YtniiahmpdkgplaaDoor
open Go.Lib

theorem Calm.writeAt {d : DV} {f : Int} (h : Calm d) (h0 : 0 ≤ f) (h1 : f < 16) (a : Nat) (s : List UInt8) (hfit : a + s.length ≤ 16777216) :
    ∃ d', WriteF d f (a : Int) s = (d', 0) ∧ (d'.file f).now = putB (d.file f).now a s ∧ Calm d' ∧ ∀ g, g ≠ f → d'.file g = d.file g := by
  rw [WriteF_calm h.armed]
  unfold writeF
  rw [if_neg (by simp [mayB h.down h0 h1]), if_neg (by omega), if_neg (by omega)]
  by_cases hs : s = []
  · subst hs
    exact ⟨d, by rw [if_pos rfl], (putB_nil _ _).symm, h, fun _ _ => rfl⟩
  · rw [if_neg hs]
    have hx : ({ d with files := putA f ⟨putB (d.file f).now (a : Int).toNat s, (d.file f).last⟩ d.files, queue := addQ d.queue (touched f (a : Int).toNat s.length) } : DV).file f = ⟨putB (d.file f).now (a : Int).toNat s, (d.file f).last⟩ := file_put' rfl
    refine ⟨_, rfl, by rw [hx]; rfl, ⟨h.armed, h.lost, h.down⟩, fun g hg => ?_⟩
    have hy := file_put_ne d hg ⟨putB (d.file f).now (a : Int).toNat s, (d.file f).last⟩
    rw [← hy]
    rfl
/-- the journal whose records are l -/
abbrev jOf (f : Int) (l : List (List UInt8)) : JV := ⟨f, l, ((formsB l).length : Int), false⟩
theorem Calm.append {d : DV} {f : Int} {l : List (List UInt8)} {t : List UInt8} (h : Calm d) (h0 : 0 ≤ f) (h1 : f < 16) (hn : (d.file f).now = formsB l) (ht : t.length ≤ 20000) (hfit : (formsB l).length + (formB t).length ≤ 1048576) :
    ∃ d', appendJ d (jOf f l) t = (d', jOf f (l ++ [t]), 0) ∧ (d'.file f).now = formsB (l ++ [t]) ∧ Calm d' ∧ ∀ g, g ≠ f → d'.file g = d.file g := by
  obtain ⟨d', hw, hf, hc, ho⟩ := h.writeAt h0 h1 (formsB l).length (formB t) (by omega)
  rw [hn, putB_end] at hf
  refine ⟨d', ?_, by rw [hf, formsB_app, formsB_one], hc, ho⟩
  unfold appendJ
  rw [if_neg (by simp), if_neg (by omega), if_neg (by show ¬ (1048576 < ((formsB l).length : Int) + _); omega)]
  simp only [hw, ne_eq, not_true_eq_false, if_false]
  have e : (((formsB (l ++ [t])).length : Nat) : Int) = ((formsB l).length : Int) + ((formB t).length : Int) := by rw [formsB_app, formsB_one, List.length_append, Int.natCast_add]
  show _ = (d', (⟨f, l ++ [t], (((formsB (l ++ [t])).length : Nat) : Int), false⟩ : JV), (0 : Int))
  rw [e]
theorem append_long (d : DV) (f : Int) (l : List (List UInt8)) (t : List UInt8) (ht : 20000 < t.length) : appendJ d (jOf f l) t = (d, jOf f l, 3) := by
  unfold appendJ
  rw [if_neg (by simp), if_pos ht]
theorem Zed.take : ∀ {z x : List UInt8} (n : Nat), Zed z x → Zed (z.take n) x := fun {z x} n h => by
  rw [zed_at] at h ⊢
  refine ⟨by rw [List.length_take]; omega, fun i hi => ?_⟩
  rw [List.length_take] at hi
  have := h.2 i (by omega)
  rw [List.getElem?_take, if_pos (by omega)]
  exact this
theorem Zed.set : ∀ {z x : List UInt8} (i : Nat), Zed z x → Zed (z.set i 0) x := fun {z x} i h => by
  rw [zed_at] at h ⊢
  refine ⟨by rw [List.length_set]; omega, fun k hk => ?_⟩
  rw [List.length_set] at hk
  rw [List.getElem?_set]
  by_cases e : i = k
  · subst e
    exact .inr (by rw [if_pos rfl, if_pos hk])
  · rw [if_neg e]
    exact h.2 k hk
/-- the records of what is left of a file: those that are whole, up to the first that is not -/
theorem torn_many {l : List (List UInt8)} {z : List UInt8} {m : Nat} (hl : Short l) (hz : Zed z (formsB l)) (hm : m ≤ l.length) (h1 : formsB (l.take m) <+: z) (h2 : m < l.length → ¬ formsB (l.take (m + 1)) <+: z) : recsF z = l.take m := by
  have a1 := torn_recs l z hl hz
  have a2 := recs_has (m := l.take m) (z := z) (fun t ht => hl.small t (List.mem_of_mem_take ht)) h1
  have a3 := recs_prefix z
  obtain ⟨k, hk⟩ : ∃ k, (recsF z).length = k := ⟨_, rfl⟩
  have e1 := List.prefix_iff_eq_take.1 a1
  rw [hk] at e1
  have hkl : k ≤ l.length := by have := a1.length_le; omega
  have hmk : m ≤ k := by have := a2.length_le; rw [hk, List.length_take] at this; omega
  by_cases e : m = k
  · rw [e]; exact e1
  · exfalso
    refine h2 (by omega) ((formsB_pre ?_).trans a3)
    rw [e1]
    exact List.take_prefix_take_left (by omega)
theorem forms_take {l : List (List UInt8)} {z : List UInt8} (hz : z.length ≤ (formsB l).length) (m e : Nat) (he : (formsB (l.take m)).length = e) : formsB (l.take m) <+: z ↔ e ≤ z.length ∧ z.take e = (formsB l).take e := by
  have hp : formsB (l.take m) <+: formsB l := formsB_pre (List.take_prefix m l)
  have hq := List.prefix_iff_eq_take.1 hp
  rw [he] at hq
  constructor
  · intro h
    have := List.prefix_iff_eq_take.1 h
    rw [he] at this
    exact ⟨by rw [← he]; exact h.length_le, by rw [← this, hq]⟩
  · rintro ⟨_, h⟩
    rw [hq, ← h]
    exact List.take_prefix _ _
end Go.Proofs.YtniiahmpdkgplaaDoor
namespace Go.Proofs.YtniiahmpdkgplaaDoor
open Go.RowKit Go.Sort Go.Lib

theorem Byt.head {w : World} {base g cap : Nat} {l : List UInt8} (h : Byt w base g cap l) (k : Nat) (hk : k ≤ l.length) : Byt w base g cap (l.take k) := by
  obtain ⟨cur, fz, h1, h2, h3, h4, h5, h6⟩ := h.row
  refine ⟨h.ge, cur, fz, h1, h2, by rw [List.length_take]; omega, h4, h5, ?_⟩
  have e : cur.toList.take k = (cur.toList.take l.length).take k := by rw [List.take_take, Nat.min_eq_left hk]
  rw [List.length_take, Nat.min_eq_left hk, e, h6]
  simp [byteV]
/-- the sizes of the file behind each record -/
def endsC (ls : List (List UInt8)) (k : Nat) : List (List Value) := (List.range k).map fun i => [.int .i64 ((formsB (ls.take (i + 1))).length : Int)]
theorem endsC_next (ls : List (List UInt8)) (k : Nat) : endsC ls k ++ [[.int .i64 ((formsB (ls.take (k + 1))).length : Int)]] = endsC ls (k + 1) := by
  unfold endsC
  rw [List.range_succ, List.map_append]
  rfl
theorem endsC_get (ls : List (List UInt8)) {k i : Nat} (h : i < k) : (endsC ls k)[i]? = some [.int .i64 ((formsB (ls.take (i + 1))).length : Int)] := by
  unfold endsC
  rw [List.getElem?_map, List.getElem?_range h]
  rfl
/-- a guarded make that is wanted -/
theorem wpList_make_want {P : Program} (w : World) {ops : Array Oper} {rest : List Oper} {o : Oper} {a : Act} {Q : Exit → Act → World → Prop}
    (hgd : Region.wanted o (yielded ops a.tmps) = true) (l c : Operand) (t : TypeId) (hop : o.op = Op.makeSlice t l c)
    (base : Nat) (e : TypeId) (i : TypeInfo) (z : Value) (size bytes : Nat) (h1 : P.underlying t = some (.slice e)) (h2 : P.info? e = some i) (h3 : i.zero = some z) (h4 : i.size = size) (h5 : i.bytes = bytes) (hzs : z.cells.size = size) (hsz : 0 < size)
    (n : Nat) (hl : a.eval l = .int .i64 (n : Int)) (hc : a.eval c = .int .i64 (n : Int)) (b2 : bytes * n ≤ 281474976710656) (b3 : n ≤ maxLen) (b4 : base ≤ w.heap.size)
    (hK : ∀ w', Own w' base e size (.slice (some ⟨w.heap.size, 0, none⟩) n n) n (List.replicate n z.cells.toList) → Below w.heap.size w w' → wpList P ops Q rest (a.put o.dst (.slice (some ⟨w.heap.size, 0, none⟩) n n)) w') :
    wpList P ops Q (o :: rest) a w := by
  refine BigFrame.wpList_want hgd fun K hK' => ?_
  obtain ⟨w', hrun, ho, hgr⟩ := run_make_full (P := P) w base t e i z size h1 h2 h3 h4 .i64 .i64 n (by rw [h5]; exact b2) b3 b4
  have hf := made_flat z.cells (by omega) n
  rw [hzs] at hf
  rw [hf] at ho
  unfold Oper.wp
  simp [execOp, hop, hl, hc, hrun, Result.andThen]
  exact hK' _ _ (hK w' ⟨ho, fun x hx => by rw [List.eq_of_mem_replicate hx]; simpa using hzs, by simp⟩ ⟨hgr.os, hgr.tape, hgr.output, hgr.size, fun k hk => hgr.block k hk (by simp)⟩)
theorem make_convert {w : World} {base g n c : Nat} {e : TypeId} {z : List Value} (h : Own w base e 1 (.slice (some ⟨g, 0, none⟩) n c) n (List.replicate n z)) (hz : z = [.int .u8 0]) (Z : List UInt8) (hZ : List.replicate n 0 = Z) :
    Sem.run Tryd.prog (convert 36 9 (.slice (some ⟨g, 0, none⟩) n c)) w = .ok (.string ⟨Z.toArray⟩) w := by
  subst hz
  have hl : Z.length = n := by rw [← hZ]; simp
  have hs := h.sl'
  have := run_convert_bytes_arg (P := Tryd.prog) w 36 5 Tryd.underlying36 Tryd.underlying5 g 0 n c (Z.map fun b => (b.toNat : Int)) (by simp [hl]) (fun i hi => by
    obtain ⟨b', o', hA, _, hc⟩ := hs.at1 (k := i) (v := .int .u8 0) (by rw [List.getElem?_replicate, if_pos hi])
    injection hA with hA
    injection hA with h1 h2
    subst h1 h2
    rw [hc]
    have hi' : i < Z.length := by omega
    have hb : Z[i] = 0 := by
      have h3 : Z[i]? = some 0 := by rw [← hZ, List.getElem?_replicate, if_pos hi]
      rw [List.getElem?_eq_getElem hi'] at h3
      exact Option.some.inj h3
    simp [hi', List.getD, hb]) 9 Tryd.underlying9
  rw [strOf_byteV] at this
  exact this
abbrev intsT (l : List Int) : List (List Value) := l.map fun k => [.int .i64 k]
set_option maxRecDepth 100000 in
set_option maxHeartbeats 16000000 in
theorem journalTorn_any (w : World) (hE : Env w.heap.size w) (AS : Option Addr) (ns cs : Nat) (ls : List (List UInt8)) (hss : Sl w 1 AS ns (ls.map strC)) (hns : ns ≤ maxLen) (hcs : ns ≤ cs) (size : Int) (hsz : -9223372036854775808 ≤ size ∧ size ≤ 9223372036854775807)
    (A1 : Option Addr) (c1 : Nat) (k1 : List Int) (hk1 : Sl w 1 A1 k1.length (intsT k1)) :
    Calls Tryd.prog 3 #[.slice AS ns cs, .int .i64 size, .slice A1 k1.length c1] w fun e w' => e = .returned (.bool true) ∧ Below w.heap.size w w' := by
  have HE := Lib.hid hE
  have HSS := Lib.hid hss
  have HK1 := Lib.hid hk1
  have HCS := Lib.hid hcs
  have HSZ := Lib.hid hsz
  have hls : ls.length = ns := by have := hss.1; simpa using this
  have HLS := Lib.hid hls
  have HTX := Lib.hid (fun W (hb : Below w.heap.size w W) r hr => texts_any W AS ns cs ls (hss.below hb) hns r hr)
  obtain ⟨m1, hm1⟩ : ∃ m, k1.length = m := ⟨_, rfl⟩
  rw [hm1]
  have HM1 := Lib.hid hm1
  clear hE hss hk1 hcs hsz hls hns hm1
  go_enter Tryd.func3, Tryd.ntmps3
  go_wp2_with (fail)
  ((with_reducible refine (small_any w HE.out).mono ?_); rintro _ w1 ⟨rfl, hb⟩)
  have HB := Lib.hid hb
  clear hb
  cases htw : textsB ls
  case false =>
    go_wp2_with (fail)
    ((with_reducible refine (HTX.out _ HB.out false htw).mono ?_); rintro _ _ ⟨rfl, rfl⟩)
    go_wp2_with (fail)
    go_ret
    exact ⟨rfl, HB.out⟩
  by_cases hq1 : 50 < (m1 : Int)
  · go_wp2_with (fail)
    ((with_reducible refine (HTX.out _ HB.out true htw).mono ?_); rintro _ _ ⟨rfl, rfl⟩)
    go_wp2_with (fail)
    go_ret
    exact ⟨rfl, HB.out⟩
  have HQ1 : Hid (m1 ≤ 50) := Lib.hid (by omega)
  have hq1' : (m1 : Int) ≤ 50 := by have := HQ1.out; omega
  clear hq1
  go_wp2_with (fail)
  ((with_reducible refine (HTX.out _ HB.out true htw).mono ?_); rintro _ _ ⟨rfl, rfl⟩)
  go_wp2_with (fail)
  ((with_reducible refine (New_sep (Sep.of_below HB.out)).mono ?_); rintro e w2 ⟨B, rfl, h1⟩)
  have H2 := Lib.hid h1
  clear h1
  obtain ⟨d1, hop, hf1, hg1, hc1⟩ : ∃ d1, openJ newD 0 = (d1, some (jOf 0 []), 0) ∧ (d1.file 0).now = formsB [] ∧ (d1.file 1).now = [] ∧ Calm d1 := by
    obtain ⟨d', h1, h2, h3⟩ := Calm.new.open_ (f := 0) (s := []) (by decide) (by decide) rfl
    rw [recsF_nil] at h1 h2
    refine ⟨d', h1, by rw [h2], ?_, h3⟩
    have e : openJ newD 0 = (d', some ⟨0, [], ((formsB []).length : Int), false⟩, 0) := h1
    have e2 : (openJ newD 0).1 = d' := by rw [e]
    rw [← e2]
    rfl
  have HOP1 := Lib.hid hop
  have HF1 := Lib.hid hf1
  have HG1 := Lib.hid hg1
  have HC1 := Lib.hid hc1
  clear hop hf1 hg1 hc1
  go_wp2_with (fail)
  ((with_reducible refine (Open_sep H2.out HE.out 0 _ HOP1.out).mono ?_); rintro e w3 ⟨J, rfl, h1⟩)
  have H3 := Lib.hid h1
  clear h1
  obtain ⟨hta, htn⟩ : (∀ a ∈ ls, a.length ≤ 200) ∧ ns ≤ 8 := by
    rw [textsB, Bool.and_eq_true, decide_eq_true_iff, decide_eq_true_iff, HLS.out] at htw
    exact htw
  have HTA : Hid (Tiny ls) := Lib.hid hta
  have HTN := Lib.hid htn
  clear htw hta htn hq1'
  go_wp2_with (fail)
  obtain ⟨i0, hi0, hi1, hi2, hi3⟩ := info_parts infoInt
  go_loopg [11, 12] ns (fun gk ev iv wr => ∃ (k : Nat) (d : DV) (A5 : Option Addr) (c5 : Nat), gk + k = ns ∧ ev = .slice A5 k c5 ∧ iv = .int .i64 (k : Int) ∧ Calm d ∧ (d.file 0).now = formsB (ls.take k) ∧ (d.file 1).now = [] ∧ Sep w wr (ownR 3 1 (.slice A5 k c5) k (endsC ls k) :: jourR B J (jOf 0 (ls.take k)) :: diskR B d :: []))
  case atStart =>
    exact ⟨0, d1, none, 0, by omega, rfl, rfl, HC1.out, HF1.out, HG1.out, H3.out.ownNil 3 1⟩
  case round =>
    obtain ⟨k, d, A5, c5, hgk, rfl, rfl, hca, hf0, hf1, hS⟩ := hrel
    obtain ⟨wo, rfl⟩ : ∃ wo : World, wo = wr := ⟨_, rfl⟩
    have HCA := Lib.hid hca
    have HF0 := Lib.hid hf0
    have HF1 := Lib.hid hf1
    have HS := Lib.hid hS
    have HGK := Lib.hid hgk
    clear hca hf0 hf1 hS hgk H3 H2 HC1 HOP1 HB HTX HG1
    by_cases hlt : k < ns
    case pos =>
      as_aux_lemma =>
      obtain ⟨t, ht⟩ : ∃ t, ls[k]? = some t := ⟨_, List.getElem?_eq_getElem (by rw [HLS.out]; exact hlt)⟩
      obtain ⟨b, o, rfl, hbl, hcell⟩ := (HSS.out.below HS.out.base).at1 (k := k) (v := .string ⟨t.toArray⟩) (by rw [List.getElem?_map, ht]; rfl)
      have hT : t.length ≤ 200 := HTA.out t (List.mem_of_getElem? ht)
      have hki : (k : Int) < (ns : Int) := by omega
      have HLT := Lib.hid hlt
      have htk : ls.take k ++ [t] = ls.take (k + 1) := by rw [List.take_add_one, ht]; rfl
      have hle := formsB_le (HTA.out.pre (List.take_prefix k ls))
      rw [List.length_take] at hle
      have hlf := formB_le hT
      have hk8 : k ≤ 8 := by have := HTN.out; omega
      have hwk : IntKind.i64.wrap ((k : Int) + 1) = (k : Int) + 1 := IntWalk.i64_in _ (by omega)
      have HS3 : Hid (Sep w wo (jourR B J (jOf 0 (ls.take k)) :: diskR B d :: ownR 3 1 (.slice A5 k c5) k (endsC ls k) :: [])) := Lib.hid (HS.out.r3.r3)
      obtain ⟨d3, hr3, hf3, hc3, ho3⟩ := HCA.out.append (f := 0) (l := ls.take k) (t := t) (by decide) (by decide) HF0.out (by omega) (by omega)
      rw [htk] at hr3 hf3
      have HAP := Lib.hid (Append_sep HS3.out HE.out (show -9223372036854775808 ≤ ((formsB (ls.take k)).length : Int) ∧ ((formsB (ls.take k)).length : Int) ≤ 4611686018427387904 from ⟨by omega, by omega⟩) (show (ls.take k).length ≤ 1099511627776 from by rw [List.length_take]; omega) t (by omega) _ hr3)
      have HF3 := Lib.hid hf3
      have HC3 := Lib.hid hc3
      have HG3 : Hid ((d3.file 1).now = []) := Lib.hid (by rw [ho3 1 (by decide)]; exact HF1.out)
      have HK8 := Lib.hid hk8
      clear hr3 ht hlt hf3 hc3 ho3 htk hle hlf hT hk8
      go_wp2_with (fail)
      ((with_reducible refine (HAP.out).mono ?_); rintro _ w6 ⟨rfl, h6⟩)
      have H6 : Hid (Sep w w6 (jourR B J (jOf 0 (ls.take (k + 1))) :: diskR B d3 :: ownR 3 1 (.slice A5 k c5) k (endsC ls k) :: [])) := Lib.hid h6
      have HSZ2 : Hid (((d3.file 0).now.length : Int) = ((formsB (ls.take (k + 1))).length : Int)) := Lib.hid (by rw [HF3.out])
      clear h6
      obtain ⟨e1, he1⟩ : ∃ e1 : Int, ((formsB (ls.take (k + 1))).length : Int) = e1 := ⟨_, rfl⟩
      rw [he1] at HSZ2
      have HE1 := Lib.hid he1
      clear he1
      go_wp2_with (fail)
      ((with_reducible refine (Size_sep H6.out.sw 0 _ HSZ2.out).mono ?_); rintro _ _ ⟨rfl, rfl⟩)
      have HB6 := Lib.hid H6.out.r3
      have HO := Lib.hid ((HB6.out.alloc (.cells #[.int .i64 e1] 3)).own)
      have HSZ6 : Hid (w.heap.size ≤ w6.heap.size) := Lib.hid H6.out.base.size
      go_wp2_with (at_builtin; refine wpList_append_sl _ rfl (.tmp 54) (.tmp 57) _ rfl w.heap.size 3 i0 _ 1 8 Tryd.underlying23 hi0 hi1 hi2 hi3 rfl (by omega) (.slice A5 k c5) k (endsC ls k) rfl HO.out (some ⟨w6.heap.size, 0, none⟩) 1 1 [[.int .i64 e1]] rfl (Sl.new_ _ _ _) (by simp) (by simp [Value.oneCell']) (by have := HK8.out; simp only [maxLen]; omega) (by have := HK8.out; omega) (by have := HSZ6.out; simp only [World.size_alloc]; omega) ?_; intro A7 c7 w12 hown hg hat; have HX := Lib.hid ((HB6.out.alloc (.cells #[.int .i64 e1] 3)).grown hown hg hat); clear hown hg hat)
      go_roundg (ns - (k + 1))
      case measure => have := HLT.out; have := HGK.out; omega
      case rel =>
        have h := HX.out
        rw [← HE1.out, endsC_next] at h
        exact ⟨k + 1, d3, A7, c7, by have := HLT.out; have := HGK.out; omega, rfl, by go_num, HC3.out, HF3.out, HG3.out, h⟩
    case neg =>
    obtain rfl : k = ns := by have := HGK.out; omega
    have htk : ls.take k = ls := List.take_of_length_le (by rw [HLS.out]; exact Nat.le_refl _)
    rw [htk] at HF0 HS
    clear htk hlt HGK
    obtain ⟨F, hF⟩ : ∃ F, formsB ls = F := ⟨_, rfl⟩
    have HF := Lib.hid hF
    obtain ⟨M, hM⟩ : ∃ M, F.length = M := ⟨_, rfl⟩
    have hMle : M ≤ 2080 := by rw [← hM, ← hF]; have := formsB_le HTA.out; rw [HLS.out] at this; have := HTN.out; omega
    have HRD : Hid (ReadF d 0 0 (M : Int) = (F, 0)) := Lib.hid (by have h := HCA.out.read (f := 0) (by decide) (by decide); rw [HF0.out, hF, hM] at h; exact h)
    have HZ : Hid (((d.file 0).now.length : Int) = (M : Int)) := Lib.hid (by rw [HF0.out, hF, hM])
    have HS9 : Hid (Sep w wo (diskR B d :: ownR 3 1 (.slice A5 k c5) k (endsC ls k) :: jourR B J (jOf 0 ls) :: [])) := Lib.hid HS.out.r3
    have HM := Lib.hid hM
    have HML := Lib.hid hMle
    have hs' := strV_len F
    rw [hM] at hs'
    have hkon := Lib.run_convert_string_bytes (P := Tryd.prog) wo 9 36 5 ⟨F.toArray⟩ Tryd.underlying9 Tryd.underlying36 Tryd.underlying5
    rw [hs'] at hkon
    have HB0 := Lib.hid (below_conv wo ⟨F.toArray⟩)
    have HY0 := Lib.hid (Byt.conv wo F (by simp only [maxLen]; omega))
    rw [hM] at HY0
    obtain ⟨wc, hwc⟩ : ∃ wc, Lib.bytesWorld wo 5 ⟨F.toArray⟩ = wc := ⟨_, rfl⟩
    obtain ⟨cc, hcc⟩ : ∃ cc, grownCap wo M 0 5 = cc := ⟨_, rfl⟩
    rw [hwc] at hkon HB0 HY0
    rw [hcc] at hkon HY0
    obtain ⟨g, hg⟩ : ∃ g, wo.heap.size = g := ⟨_, rfl⟩
    rw [hg] at hkon HB0 HY0
    have HG := Lib.hid hg
    clear hF hM hMle hwc hcc hg HS
    go_wp2_with (fail)
    ((with_reducible refine (Size_sep HS9.out 0 _ HZ.out).mono ?_); rintro _ _ ⟨rfl, rfl⟩)
    go_wp2_with (fail)
    ((with_reducible refine (Read_sep HS9.out 0 0 _ _ HRD.out).mono ?_); rintro _ _ ⟨rfl, rfl⟩)
    go_upto_block 2 with (fail)
    clear hkon
    go_cut [] (fun wx => ∃ x : List UInt8, x.length = M ∧ Zed x F ∧ Byt wx g g cc x ∧ Below g wo wx)
    case first =>
      go_wp2_with (fail)
      go_loopg [16] M (fun gk iv wr => ∃ (i : Nat) (x : List UInt8), gk + i = M ∧ iv = .int .i64 (i : Int) ∧ x.length = M ∧ Zed x F ∧ Byt wr g g cc x ∧ Below g wo wr)
      case atStart => exact ⟨0, F, by omega, rfl, HM.out, Zed.refl _, HY0.out, HB0.out⟩
      case round =>
      obtain ⟨i, x, hgk, rfl, hxl, hzd, hby, hbl⟩ := hrel
      obtain ⟨wp, rfl⟩ : ∃ wp : World, wp = wr := ⟨_, rfl⟩
      have HBY := Lib.hid hby
      have HBL := Lib.hid hbl
      have HZD := Lib.hid hzd
      have HXL := Lib.hid hxl
      have HGK := Lib.hid hgk
      have HK1W := Lib.hid ((HK1.out.below HS9.out.base).below (by rw [HG.out]; exact hbl))
      clear hgk hxl hzd hby hbl HY0 HB0
      by_cases hlt : i < M ∧ 0 < m1
      case pos =>
        as_aux_lemma =>
        obtain ⟨hlt, hmp⟩ := hlt
        have hki : (i : Int) < (M : Int) := by omega
        have hmp' : (0 : Int) < (m1 : Int) := by omega
        have hi0 : (0 : Int) ≤ (i : Int) := by omega
        obtain ⟨a, ha⟩ : ∃ a, i / 64 = a := ⟨_, rfl⟩
        have hdiv : (i : Int) / 64 = (a : Int) := by omega
        have hdivt : (i : Int).tdiv 64 = (a : Int) := by rw [Int.tdiv_eq_ediv_of_nonneg (by omega)]; exact hdiv
        have hwa : IntKind.i64.wrap (a : Int) = (a : Int) := IntWalk.i64_in _ (by have := HML.out; omega)
        obtain ⟨j, hj⟩ : ∃ j, a % m1 = j := ⟨_, rfl⟩
        have hjl : j < m1 := by rw [← hj]; exact Nat.mod_lt _ hmp
        have hmod : (a : Int) % (m1 : Int) = (j : Int) := by rw [← hj]; simp
        have htm : (a : Int).tmod (m1 : Int) = (j : Int) := by rw [Int.tmod_eq_emod_of_nonneg (by omega)]; exact hmod
        have hwj : IntKind.i64.wrap (j : Int) = (j : Int) := IntWalk.i64_in _ (by have := HQ1.out; omega)
        obtain ⟨kv, hkv⟩ : ∃ kv, k1[j]? = some kv := ⟨_, List.getElem?_eq_getElem (by rw [HM1.out]; exact hjl)⟩
        obtain ⟨bk, ok, rfl, _, hck⟩ := HK1W.out.2 j [.int .i64 kv] (by rw [List.getElem?_map, hkv]; rfl)
        have c2 := hck 0 _ rfl
        rw [Nat.mul_one, Nat.add_zero] at c2
        have hki2 : (j : Int) < (m1 : Int) := by omega
        have hj0 : (0 : Int) ≤ (j : Int) := by omega
        have hknz : ¬ ((m1 : Int) = 0) := by omega
        have hwi : IntKind.i64.wrap ((i : Int) + 1) = (i : Int) + 1 := IntWalk.i64_in _ (by have := HML.out; omega)
        have HLT := Lib.hid hlt
        obtain ⟨bt, hbt⟩ : ∃ bt, bits .and .i64 kv 1 = bt := ⟨_, rfl⟩
        clear hck hkv hj ha hmp
        by_cases h1 : bt = 1
        case neg =>
          clear hlt
          go_wp2_with (fail)
          go_roundg (M - (i + 1))
          case measure => have := HLT.out; have := HGK.out; omega
          case rel => exact ⟨i + 1, x, by have := HLT.out; omega, by go_num, HXL.out, HZD.out, HBY.out, HBL.out⟩
        subst h1
        obtain ⟨pb, hpb⟩ : ∃ pb, x[i]? = some pb := ⟨_, List.getElem?_eq_getElem (by rw [HXL.out]; exact hlt)⟩
        have hcl := HBY.out.cell hpb
        have hroom := HBY.out.room
        rw [HXL.out] at hroom
        have hfr := HBY.out.free (i := i) (by omega)
        have hzz := HBY.out.lt
        have HST : Hid (Byt (wp.setCell ⟨g, i, none⟩ (.int .u8 0)) g g cc (x.set i 0)) := Lib.hid (HBY.out.stored (i := i) (by rw [HXL.out]; exact hlt) 0)
        have HBL2 := Lib.hid (HBL.out.setCell (p := ⟨g, i, none⟩) (Nat.le_refl _) (.int .u8 0))
        clear hroom hpb hlt
        go_wp2_with (fail)
        go_roundg (M - (i + 1))
        case measure => have := HLT.out; have := HGK.out; omega
        case rel => exact ⟨i + 1, x.set i 0, by have := HLT.out; omega, by go_num, by rw [List.length_set]; exact HXL.out, HZD.out.set i, HST.out, HBL2.out⟩
      case neg =>
        by_cases hiM : i < M
        · have hki : (i : Int) < (M : Int) := by omega
          obtain rfl : m1 = 0 := by omega
          go_wp2_with (fail)
          go_meet
          case rel => exact ⟨x, HXL.out, HZD.out, HBY.out, HBL.out⟩
        · have hki : (M : Int) ≤ (i : Int) := by omega
          go_wp2_with (fail)
          go_meet
          case rel => exact ⟨x, HXL.out, HZD.out, HBY.out, HBL.out⟩
    case rest =>
    obtain ⟨x, hxl, hzd, hby, hbl⟩ := hcut
    have HBL := Lib.hid hbl
    have HSP := Lib.hid (HS9.out.below (by rw [HG.out]; exact hbl))
    obtain ⟨q, hq⟩ : ∃ q : Nat, (q : Int) = max 0 (min size (M : Int)) := ⟨(max 0 (min size (M : Int))).toNat, by omega⟩
    have hqM : q ≤ M := by omega
    obtain ⟨T, hT⟩ : ∃ T, x.take q = T := ⟨_, rfl⟩
    have hTl : T.length = q := by rw [← hT, List.length_take]; omega
    have hbT := hby.head q (by omega)
    rw [hT] at hbT
    have hcv := hbT.convert q hTl
    have hrm := hby.room
    rw [hxl] at hrm
    have hqc : (q : Int) ≤ (cc : Int) := by omega
    have hq0 : (0 : Int) ≤ (q : Int) := by omega
    have HZT : Hid (Zed T F) := Lib.hid (by rw [← hT]; exact hzd.take q)
    have HTL := Lib.hid hTl
    have HQM := Lib.hid hqM
    have hqe : max 0 (min size (M : Int)) = (q : Int) := hq.symm
    clear hbl hxl hzd hby hT hbT hTl hrm hqM hq
    go_upto_block 4 with (fail)
    clear hcv hqe hqc hq0
    have HN1 : Hid (∀ m, m ≤ k → formsB (ls.take m) <+: T → (m < k → ¬ formsB (ls.take (m + 1)) <+: T) → recsF T = ls.take m) := Lib.hid (fun m hm h1 h2 => torn_many (fun a ha => HTA.out.short a ha) (by rw [HF.out]; exact HZT.out) (by rw [HLS.out]; exact hm) h1 (fun h3 => h2 (by rw [HLS.out] at h3; exact h3)))
    go_cut [18] (fun mv wx => ∃ m : Nat, mv = .int .i64 (m : Int) ∧ m ≤ k ∧ recsF T = ls.take m ∧ Sep w wx (diskR B d :: []))
    case first =>
      go_wp2_with (fail)
      go_loopg [18] (k + 1) (fun gk mv wr => ∃ m : Nat, gk + m = k + 1 ∧ m ≤ k ∧ mv = .int .i64 (m : Int) ∧ formsB (ls.take m) <+: T ∧ Sep w wr (diskR B d :: ownR 3 1 (.slice A5 k c5) k (endsC ls k) :: jourR B J (jOf 0 ls) :: []))
      case atStart => exact ⟨0, by omega, by omega, rfl, List.nil_prefix, HSP.out⟩
      case round =>
      obtain ⟨m, hgk, hmk, rfl, hpre, hS⟩ := hrel
      obtain ⟨wp, rfl⟩ : ∃ wp : World, wp = wr := ⟨_, rfl⟩
      have HS := Lib.hid hS
      have HMK := Lib.hid hmk
      have HGK := Lib.hid hgk
      have HNO := Lib.hid (HN1.out m hmk hpre)
      clear hS hmk hgk hpre HSP HBL
      by_cases hlt : m < k
      case neg =>
        as_aux_lemma =>
        have hki : (k : Int) ≤ (m : Int) := by omega
        have HNL := Lib.hid hlt
        go_wp2_with (fail)
        go_quiet (fail)
        go_wp2_with (fail)
        go_meet
        case rel => exact ⟨m, rfl, HMK.out, HNO.out (fun h => absurd h HNL.out), (HS.out.drewN nq).drop2.drop2⟩
      obtain ⟨e1, he1⟩ : ∃ e1, (formsB (ls.take (m + 1))).length = e1 := ⟨_, rfl⟩
      have hg5 := endsC_get ls hlt
      rw [he1] at hg5
      obtain ⟨b, o, hA5, hbl, hcell⟩ := (Own.sl' HS.out.sw.own).at1 (k := m) (v := .int .i64 (e1 : Int)) hg5
      subst hA5
      have hfm := forms_take (l := ls) (z := T) (by rw [HF.out]; exact HZT.out.len) (m + 1) e1 he1
      rw [HTL.out, HF.out] at hfm
      have HFM := Lib.hid hfm
      have hki : (m : Int) < (k : Int) := by omega
      have he0 : (0 : Int) ≤ (e1 : Int) := by omega
      have hTz := str_size T
      rw [HTL.out] at hTz
      have HLT := Lib.hid hlt
      clear hfm hg5 he1 hlt
      by_cases h1 : e1 ≤ q
      case neg =>
        as_aux_lemma =>
        have h1i : (q : Int) < (e1 : Int) := by omega
        have HN := Lib.hid h1
        go_wp2_with (fail)
        go_quiet (fail)
        go_wp2_with (fail)
        go_meet
        case rel => exact ⟨m, rfl, HMK.out, HNO.out (fun _ h => HN.out (HFM.out.1 h).1), (HS.out.drewN nq).drop2.drop2⟩
      have h1i : (e1 : Int) ≤ (q : Int) := by omega
      have h1m : (e1 : Int) ≤ (M : Int) := by have := HQM.out; omega
      obtain ⟨x1, hx1⟩ : ∃ x1, T.take e1 = x1 := ⟨_, rfl⟩
      obtain ⟨x2, hx2⟩ : ∃ x2, F.take e1 = x2 := ⟨_, rfl⟩
      have hex1 : (⟨T.toArray⟩ : ByteArray).extract 0 e1 = ⟨x1.toArray⟩ := by rw [str_ext, ← hx1, List.drop_zero]
      have hex2 : (⟨F.toArray⟩ : ByteArray).extract 0 e1 = ⟨x2.toArray⟩ := by rw [str_ext, ← hx2, List.drop_zero]
      have HH1 := Lib.hid h1
      rw [hx1, hx2] at HFM
      clear hx1 hx2 h1
      by_cases hxe : x1 = x2
      case neg =>
        as_aux_lemma =>
        have hxb : (x1 == x2) = false := beq_eq_false_iff_ne.2 hxe
        have HN := Lib.hid hxe
        go_wp2_with (fail)
        go_quiet (fail)
        go_wp2_with (fail)
        go_meet
        case rel => exact ⟨m, rfl, HMK.out, HNO.out (fun _ h => HN.out (HFM.out.1 h).2), (HS.out.drewN nq).drop2.drop2⟩
      subst hxe
      as_aux_lemma =>
      have hxb : (x1 == x1) = true := beq_self_eq_true x1
      have hwm : IntKind.i64.wrap ((m : Int) + 1) = (m : Int) + 1 := IntWalk.i64_in _ (by have := HTN.out; have := HLT.out; omega)
      go_wp2_with (fail)
      go_quiet (fail)
      go_wp2_with (fail)
      go_roundg (k + 1 - (m + 1))
      case measure => have := HLT.out; have := HGK.out; omega
      case rel => exact ⟨m + 1, by have := HLT.out; omega, HLT.out, by go_num, HFM.out.2 ⟨HH1.out, by first | rfl | trivial⟩, HS.out.drewN nq⟩
    case rest =>
    obtain ⟨m, rfl, hmk, hrec, hS⟩ := hcut
    have HS := Lib.hid hS
    have HMK := Lib.hid hmk
    have hmc : (m : Int) ≤ (cs : Int) := by have := HCS.out; omega
    have hm0 : (0 : Int) ≤ (m : Int) := by omega
    obtain ⟨R, hR⟩ : ∃ R, ls.take m = R := ⟨_, rfl⟩
    have hRl : R.length = m := by rw [← hR, List.length_take, HLS.out]; omega
    have HRT : Hid (Tiny R) := Lib.hid (by rw [← hR]; exact HTA.out.pre (List.take_prefix m ls))
    have hRF : (formsB R).length ≤ 2080 := by have := formsB_le HRT.out; have := HTN.out; omega
    have hlm : (ls.map strC).take m = R.map strC := by rw [← hR, List.map_take]
    have HLM : Hid (∀ W, Below w.heap.size w W → Sl W 1 AS m (R.map strC)) := Lib.hid (fun W hb => by have h := (HSS.out.below hb).headJ (k := m) hmk; rw [hlm] at h; exact h)
    obtain ⟨d4, hw4, hf4, hc4, _⟩ := HCA.out.writeAt (f := 1) (by decide) (by decide) 0 T (by have := HTL.out; have := HQM.out; have := HML.out; omega)
    have hf4' : (d4.file 1).now = T := by rw [hf4, HF1.out]; have := putB_end [] T; simpa using this
    obtain ⟨d5, ho5, hf5, hc5⟩ := hc4.open_ (f := 1) (by decide) (by decide) hf4'
    rw [hrec, hR] at ho5 hf5
    have hn5 : (d5.file 1).now = formsB R := by rw [hf5]
    have h44 : ([110, 101, 120, 116] : List UInt8).length ≤ 200 := by decide
    obtain ⟨d6, ha6, hf6, hc6, _⟩ := hc5.append (f := 1) (l := R) (t := [110, 101, 120, 116]) (by decide) (by decide) hn5 (by decide) (by have := formB_le h44; omega)
    have HW4 := Lib.hid hw4
    have HO5 := Lib.hid ho5
    have HA6 := Lib.hid ha6
    have HRL := Lib.hid hRl
    have HRF := Lib.hid hRF
    obtain ⟨Z, hZ⟩ : ∃ Z, List.replicate 20001 (0 : UInt8) = Z := ⟨_, rfl⟩
    have hzl : Z.length = 20001 := by rw [← hZ, List.length_replicate]
    have HZL := Lib.hid hzl
    have HZ1 := Lib.hid hZ
    have hwm : IntKind.i64.wrap ((m : Int) + 1) = ((m + 1 : Nat) : Int) := by rw [IntWalk.i64_in _ (by have := HTN.out; omega)]; omega
    have HM8 : Hid (m ≤ 8) := Lib.hid (by have := HTN.out; omega)
    clear hS hmk hrec hR hRl hRF hlm hw4 hf4 hf4' hc4 ho5 hf5 hc5 hn5 ha6 hf6 hc6 hZ hzl h44
    go_wp2_with (fail)
    ((with_reducible refine (Write_sep HS.out 1 0 T (by simp) (by have := HTL.out; have := HQM.out; have := HML.out; omega) _ HW4.out).mono ?_); rintro e w4 ⟨rfl, h4⟩)
    have H4 := Lib.hid h4
    clear h4
    go_wp2_with (fail)
    ((with_reducible refine (Open_sep H4.out HE.out 1 _ HO5.out).mono ?_); rintro e w5 ⟨K, rfl, h5⟩)
    have H5 := Lib.hid h5.drew
    have HAL := Lib.hid (All_sep h5.drew (show R.length ≤ 1099511627776 by have := HRL.out; have := HM8.out; omega))
    clear h5
    go_wp2_with (fail)
    refine wpTill.startN 15 (S := fun _ => True) (T := fun _ => True) (m := 99) rfl (by kernel_rfl) ?_
    generalize w5.drew = W5 at *
    refine wpTill.take (i := 0) (v := ?_) (by rfl) rfl (by kernel_rfl) (by kernel_rfl) (by kernel_rfl) (by exact fun _ _ _ h => h) trivial (fun _ => trivial) (Or.inl ⟨by rfl, ?_⟩) ?_
    rotate_left
    · (intro w' hSw; (try dsimp only at hSw); go_simp; (try with_reducible rfl))
    (try simp only [Act.put, List.setIfInBounds_toArray, List.set_cons_zero, List.set_cons_succ, List.getElem_toArray, List.getElem_cons_zero, List.getElem_cons_succ])
    refine wpTill.take (i := 1) (v := ?_) (by rfl) rfl (by kernel_rfl) (by kernel_rfl) (by kernel_rfl) (by exact fun _ _ _ h => h) trivial (fun _ => trivial) (Or.inl ⟨by rfl, ?_⟩) ?_
    rotate_left
    · (intro w' hSw; (try dsimp only at hSw); go_simp; (try with_reducible rfl))
    (try simp only [Act.put, List.setIfInBounds_toArray, List.set_cons_zero, List.set_cons_succ, List.getElem_toArray, List.getElem_cons_zero, List.getElem_cons_succ])
    refine wpTill.take (i := 2) (v := ?_) (by rfl) rfl (by kernel_rfl) (by kernel_rfl) (by kernel_rfl) (by exact fun _ _ _ h => h) trivial (fun _ => trivial) (Or.inl ⟨by rfl, ?_⟩) ?_
    rotate_left
    · (intro w' hSw; (try dsimp only at hSw); go_simp; (try with_reducible rfl))
    (try simp only [Act.put, List.setIfInBounds_toArray, List.set_cons_zero, List.set_cons_succ, List.getElem_toArray, List.getElem_cons_zero, List.getElem_cons_succ])
    refine wpTill.take (i := 3) (v := ?_) (by rfl) rfl (by kernel_rfl) (by kernel_rfl) (by kernel_rfl) (by exact fun _ _ _ h => h) trivial (fun _ => trivial) (Or.inl ⟨by rfl, ?_⟩) ?_
    rotate_left
    · (intro w' hSw; (try dsimp only at hSw); go_simp; (try with_reducible rfl))
    (try simp only [Act.put, List.setIfInBounds_toArray, List.set_cons_zero, List.set_cons_succ, List.getElem_toArray, List.getElem_cons_zero, List.getElem_cons_succ])
    refine wpTill.take (i := 4) (v := ?_) (by rfl) rfl (by kernel_rfl) (by kernel_rfl) (by kernel_rfl) (by exact fun _ _ _ h => h) trivial (fun _ => trivial) (Or.inl ⟨by rfl, ?_⟩) ?_
    rotate_left
    · (intro w' hSw; (try dsimp only at hSw); go_simp; (try with_reducible rfl))
    (try simp only [Act.put, List.setIfInBounds_toArray, List.set_cons_zero, List.set_cons_succ, List.getElem_toArray, List.getElem_cons_zero, List.getElem_cons_succ])
    refine wpTill.take (i := 5) (v := ?_) (by rfl) rfl (by kernel_rfl) (by kernel_rfl) (by kernel_rfl) (by exact fun _ _ _ h => h) trivial (fun _ => trivial) (Or.inl ⟨by rfl, ?_⟩) ?_
    rotate_left
    · (intro w' hSw; (try dsimp only at hSw); go_simp; (try with_reducible rfl))
    (try simp only [Act.put, List.setIfInBounds_toArray, List.set_cons_zero, List.set_cons_succ, List.getElem_toArray, List.getElem_cons_zero, List.getElem_cons_succ])
    refine wpTill.take (i := 6) (v := ?_) (by rfl) rfl (by kernel_rfl) (by kernel_rfl) (by kernel_rfl) (by exact fun _ _ _ h => h) trivial (fun _ => trivial) (Or.inl ⟨by rfl, ?_⟩) ?_
    rotate_left
    · (intro w' hSw; (try dsimp only at hSw); go_simp; (try with_reducible rfl))
    (try simp only [Act.put, List.setIfInBounds_toArray, List.set_cons_zero, List.set_cons_succ, List.getElem_toArray, List.getElem_cons_zero, List.getElem_cons_succ])
    refine wpTill.take (i := 7) (v := ?_) (by rfl) rfl (by kernel_rfl) (by kernel_rfl) (by kernel_rfl) (by exact fun _ _ _ h => h) trivial (fun _ => trivial) (Or.inl ⟨by rfl, ?_⟩) ?_
    rotate_left
    · (intro w' hSw; (try dsimp only at hSw); go_simp; (try with_reducible rfl))
    (try simp only [Act.put, List.setIfInBounds_toArray, List.set_cons_zero, List.set_cons_succ, List.getElem_toArray, List.getElem_cons_zero, List.getElem_cons_succ])
    refine wpTill.take (i := 9) (v := ?_) (by rfl) rfl (by kernel_rfl) (by kernel_rfl) (by kernel_rfl) (by exact fun _ _ _ h => h) trivial (fun _ => trivial) (Or.inl ⟨by rfl, ?_⟩) ?_
    rotate_left
    · (intro w' hSw; (try dsimp only at hSw); go_simp; (try with_reducible rfl))
    (try simp only [Act.put, List.setIfInBounds_toArray, List.set_cons_zero, List.set_cons_succ, List.getElem_toArray, List.getElem_cons_zero, List.getElem_cons_succ])
    refine wpTill.take (i := 10) (v := ?_) (by rfl) rfl (by kernel_rfl) (by kernel_rfl) (by kernel_rfl) (by exact fun _ _ _ h => h) trivial (fun _ => trivial) (Or.inl ⟨by rfl, ?_⟩) ?_
    rotate_left
    · (intro w' hSw; (try dsimp only at hSw); go_simp; (try with_reducible rfl))
    (try simp only [Act.put, List.setIfInBounds_toArray, List.set_cons_zero, List.set_cons_succ, List.getElem_toArray, List.getElem_cons_zero, List.getElem_cons_succ])
    refine wpTill.take (i := 11) (v := ?_) (by rfl) rfl (by kernel_rfl) (by kernel_rfl) (by kernel_rfl) (by exact fun _ _ _ h => h) trivial (fun _ => trivial) (Or.inl ⟨by rfl, ?_⟩) ?_
    rotate_left
    · (intro w' hSw; (try dsimp only at hSw); go_simp; (try with_reducible rfl))
    (try simp only [Act.put, List.setIfInBounds_toArray, List.set_cons_zero, List.set_cons_succ, List.getElem_toArray, List.getElem_cons_zero, List.getElem_cons_succ])
    refine wpTill.step (i := 8) (by kernel_rfl) (by rfl) (fun K' hK => ?_)
    replace hK := Lib.hid hK
    go_simp
    go_at_call 16
    ((with_reducible refine (HAL.out).mono ?_); rintro _ w6 ⟨A6, c6, rfl, h6⟩)
    have H6 : Hid (Sep w w6 (ownR 9 1 (.slice A6 R.length c6) R.length (R.map strC) :: jourR B K (jOf 1 R) :: diskR B d5 :: [])) := Lib.hid h6
    have HST := Lib.hid (SameTexts_any w6 A6 AS R.length m c6 cs R R (Own.sl' h6.own) (HLM.out _ h6.base) (by have := HRL.out; have := HM8.out; omega) true (by simp))
    clear h6
    refine hK.out _ _ trivial (fun _ => trivial) ?_
    clear hK K'
    (try simp only [Act.put, List.setIfInBounds_toArray, List.set_cons_zero, List.set_cons_succ, List.getElem_toArray, List.getElem_cons_zero, List.getElem_cons_succ])
    refine wpTill.step (i := 12) (by kernel_rfl) (by rfl) (fun K' hK => ?_)
    replace hK := Lib.hid hK
    go_simp
    go_at_call 15
    ((with_reducible refine (HST.out).mono ?_); rintro _ w7 ⟨rfl, hb7⟩)
    have H7 := Lib.hid (H6.out.below hb7).drop
    have HAP := Lib.hid (Append_sep H7.out HE.out (show -9223372036854775808 ≤ ((formsB R).length : Int) ∧ ((formsB R).length : Int) ≤ 4611686018427387904 from ⟨by omega, by have := HRF.out; omega⟩) (show R.length ≤ 1099511627776 by have := HRL.out; have := HM8.out; omega) [110, 101, 120, 116] (by decide) _ HA6.out)
    clear hb7
    refine hK.out _ _ trivial (fun _ => trivial) ?_
    clear hK K'
    (try simp only [Act.put, List.setIfInBounds_toArray, List.set_cons_zero, List.set_cons_succ, List.getElem_toArray, List.getElem_cons_zero, List.getElem_cons_succ])
    refine wpTill.take (i := 13) (v := ?_) (by rfl) rfl (by kernel_rfl) (by kernel_rfl) (by kernel_rfl) (by exact fun _ _ _ h => h) trivial (fun _ => trivial) (Or.inl ⟨by rfl, ?_⟩) ?_
    rotate_left
    · (intro w' hSw; (try dsimp only at hSw); go_simp; (try with_reducible rfl))
    (try simp only [Act.put, List.setIfInBounds_toArray, List.set_cons_zero, List.set_cons_succ, List.getElem_toArray, List.getElem_cons_zero, List.getElem_cons_succ])
    refine wpTill.take (i := 14) (v := ?_) (by rfl) rfl (by kernel_rfl) (by kernel_rfl) (by kernel_rfl) (by exact fun _ _ _ h => h) trivial (fun _ => trivial) (Or.inl ⟨by rfl, ?_⟩) ?_
    rotate_left
    · (intro w' hSw; (try dsimp only at hSw); go_simp; (try with_reducible rfl))
    (try simp only [Act.put, List.setIfInBounds_toArray, List.set_cons_zero, List.set_cons_succ, List.getElem_toArray, List.getElem_cons_zero, List.getElem_cons_succ])
    refine wpTill.stop (by kernel_rfl) ?_ _
    go_wp2_with (fail)
    ((with_reducible refine (HAP.out).mono ?_); rintro _ w8 ⟨rfl, h8⟩)
    have H8 : Hid (Sep w w8 (jourR B K (jOf 1 (R ++ [[110, 101, 120, 116]])) :: diskR B d6 :: [])) := Lib.hid h8
    have HLN := Lib.hid (Len_sep h8 (m + 1) (by show (R ++ [[110, 101, 120, 116]]).length = _; rw [List.length_append, HRL.out]; rfl))
    have HG1 := Lib.hid (Get_sep h8 (m : Int) [110, 101, 120, 116] (by
      rw [if_neg (by omega), Int.toNat_natCast]
      show ((R ++ [[110, 101, 120, 116]])[m]?).getD [] = _
      rw [List.getElem?_append_right (by rw [HRL.out]; exact Nat.le_refl _), HRL.out, Nat.sub_self]
      rfl))
    have HG2 := Lib.hid (Get_sep h8 ((m : Int) + 1) [] (by
      rw [if_neg (by omega), show ((m : Int) + 1).toNat = m + 1 by omega]
      show ((R ++ [[110, 101, 120, 116]])[m + 1]?).getD [] = _
      rw [List.getElem?_eq_none (by rw [List.length_append, HRL.out]; exact Nat.le_refl _)]
      rfl))
    have HG3 := Lib.hid (Get_sep h8 (-1) [] (by rw [if_pos (by omega)]))
    clear h8
    go_wp2_with (fail)
    ((with_reducible refine (HLN.out).mono ?_); rintro _ _ ⟨rfl, rfl⟩)
    go_wp2_with (fail)
    ((with_reducible refine (HG1.out).mono ?_); rintro _ _ ⟨rfl, rfl⟩)
    go_wp2_with (fail)
    ((with_reducible refine (HG2.out).mono ?_); rintro _ _ ⟨rfl, rfl⟩)
    go_wp2_with (fail)
    ((with_reducible refine (HG3.out).mono ?_); rintro _ _ ⟨rfl, rfl⟩)
    obtain ⟨j0, hj0, hj1, hj2, hj3⟩ := info_parts infoByteD
    have HSZ8 : Hid (w.heap.size ≤ w8.heap.size) := Lib.hid H8.out.base.size
    go_wp2_with (at_make; refine wpList_make_want w8 rfl (.const (.int .i64 20001)) (.const (.int .i64 20001)) 36 rfl w8.heap.size 5 j0 _ 1 1 Tryd.underlying36 hj0 hj1 hj2 hj3 rfl (by omega) 20001 rfl rfl (by omega) (by simp only [maxLen]; omega) (Nat.le_refl _) ?_; intro w9 hown9 hb9; have hcv := make_convert hown9 rfl Z HZ1.out; have H9 := Lib.hid (H8.out.below hb9); clear hown9 hb9)
    have HAZ := Lib.hid (Append_sep H9.out HE.out (show -9223372036854775808 ≤ ((formsB (R ++ [[110, 101, 120, 116]])).length : Int) ∧ ((formsB (R ++ [[110, 101, 120, 116]])).length : Int) ≤ 4611686018427387904 from ⟨by omega, by have h1 := HRF.out; have h2 := formB_le (t := [110, 101, 120, 116]) (by decide); rw [formsB_app, formsB_one, List.length_append]; omega⟩) (show (R ++ [[110, 101, 120, 116]]).length ≤ 1099511627776 by have := HRL.out; have := HM8.out; rw [List.length_append]; simp only [List.length_singleton]; omega) Z (by have := HZL.out; omega) _ (append_long d6 1 _ Z (by have := HZL.out; omega)))
    ((with_reducible refine (HAZ.out).mono ?_); rintro _ w10 ⟨rfl, h10⟩)
    have H10 := Lib.hid h10
    clear h10
    go_wp2_with (fail)
    go_ret
    exact ⟨rfl, H10.out.base⟩
end Go.Proofs.YtniiahmpdkgplaaDoor
