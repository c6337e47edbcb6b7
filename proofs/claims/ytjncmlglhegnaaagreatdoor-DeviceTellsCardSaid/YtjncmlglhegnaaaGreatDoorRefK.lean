/- Words for a row of bytes of the call's own that '[]byte(s)' may have made (its mark lies behind its end): append of one byte, store, string(b). -/
/- kerbsideref02: Put, walked. -/
/- kerbsideref02: add, walked. -/
/- kerbsideref02: survive, walked. -/
/- kerbsideref02: Crash, walked. -/
/- kerbsideref02: comes, Write, walked. -/
/- kerbsideref02: Write, Sync, Truncate, walked. -/
import Derived.Test.YtjncmlglhegnaaaGreatDoorDiskX
import Derived.Lib.ConvBytes
import Derived.Laws.AppendOwn
import Derived.Test.YtjncmlglhegnaaaGreatDoorRefE
import Derived.Test.YtjncmlglhegnaaaGreatDoorOrdL
namespace Go.Proofs.YtjncmlglhegnaaaGreatDoor
open Go.RowKit

/-- the slice (g, l.length, cap) is a row of bytes of the call's own, whose mark touches none of its cells -/
structure Byt (w : World) (base g cap : Nat) (l : List UInt8) : Prop where
  ge : base ≤ g
  row : ∃ cur fz, w.heap[g]? = some (.cells cur 5 fz) ∧ (fz.2 = 0 ∨ cap ≤ fz.1) ∧ l.length ≤ cap ∧ cap ≤ maxLen ∧ cur.size = cap ∧ cur.toList.take l.length = byteV l
section
variable {w w' : World} {base g cap : Nat} {l : List UInt8}
theorem Byt.lt (h : Byt w base g cap l) : g < w.heap.size := by
  obtain ⟨_, _, hg, _⟩ := h.row
  exact (Array.getElem?_eq_some_iff.1 hg).1
theorem Byt.kept {row : Option Nat} (h : Byt w base g cap l) (hg : w.grownBy w' row) (hne : row ≠ some g) : Byt w' base g cap l := by
  have hlt := h.lt
  obtain ⟨cur, fz, h1, h2⟩ := h.row
  exact ⟨h.ge, cur, fz, (hg.block g hlt (Ne.symm hne)).trans h1, h2⟩
theorem Byt.alloc (h : Byt w base g cap l) (o : Obj) : Byt (w.alloc o) base g cap l := h.kept (World.grownBy_alloc w o none) (by simp)
theorem Byt.below (h : Byt w base g cap l) (hb : Below w.heap.size w w') : Byt w' base g cap l :=
  h.kept (row := none) ⟨hb.os, hb.tape, hb.output, hb.size, fun k hk _ => hb.block k hk⟩ (by simp)
theorem Byt.cell (h : Byt w base g cap l) {i : Nat} {b : UInt8} (hi : l[i]? = some b) : w.cell? ⟨g, i, none⟩ = some (.int .u8 b.toNat) := by
  obtain ⟨cur, fz, h1, _, _, _, _, h6⟩ := h.row
  rw [cell_of_row w g i cur _ fz h1]
  have h7 : (byteV l)[i]? = some (.int .u8 b.toNat) := by rw [byteV, List.getElem?_map, hi]; rfl
  rw [← h6, List.getElem?_take] at h7
  split at h7
  · simpa using h7
  · cases h7
theorem Byt.free (h : Byt w base g cap l) {i : Nat} (hi : i < cap) : w.frozen? ⟨g, i, none⟩ = false := by
  obtain ⟨cur, fz, h1, h2, _⟩ := h.row
  obtain ⟨lo, hi'⟩ := fz
  simp only [World.frozen?, h1, Bool.and_eq_false_iff, decide_eq_false_iff_not]
  simp only at h2
  omega
theorem Byt.room (h : Byt w base g cap l) : l.length ≤ cap := by
  obtain ⟨_, _, _, _, h3, _⟩ := h.row
  exact h3
/-- a byte is stored -/
theorem Byt.stored (h : Byt w base g cap l) {i : Nat} (hi : i < l.length) (b : UInt8) : Byt (w.setCell ⟨g, i, none⟩ (.int .u8 b.toNat)) base g cap (l.set i b) := by
  obtain ⟨cur, fz, h1, h2, h3, h4, h5, h6⟩ := h.row
  refine ⟨h.ge, cur.setIfInBounds i (.int .u8 b.toNat), fz, ?_, h2, by simpa using h3, h4, by simpa using h5, ?_⟩
  · rw [setCell_eq_setRow w g i cur _ fz _ h1]
    exact setRow_heap w g cur _ _ _ h1
  · rw [Array.toList_setIfInBounds, List.length_set, List.take_set, h6, byteV, byteV, List.map_set]
/-- what '[]byte(s)' makes -/
theorem Byt.conv (w : World) (s : List UInt8) (hs : s.length ≤ maxLen) : Byt (Lib.bytesWorld w 5 ⟨s.toArray⟩) w.heap.size w.heap.size (grownCap w s.length 0 5) s := by
  have hl := strV_len s
  have hge := grownCap_ge w s.length 0 5
  have hz : (Lib.bytesCells w 5 ⟨s.toArray⟩).size = grownCap w s.length 0 5 := by
    simp only [Lib.bytesCells, Array.size_append, Array.size_map, Array.size_replicate, hl, List.size_toArray]
    omega
  refine ⟨Nat.le_refl _, _, _, Lib.bytesWorld_at_new w _ _, .inr (by rw [hz]; exact Nat.le_refl _), hge, grownCap_le_maxLen w _ _ _ hs, hz, ?_⟩
  simp [Lib.bytesCells, byteV]
theorem below_conv (w : World) (s : ByteArray) : Below w.heap.size w (Lib.bytesWorld w 5 s) :=
  ⟨by simp only [Lib.bytesWorld, World.freeze]; rfl, by simp only [Lib.bytesWorld, World.freeze]; rfl, by simp only [Lib.bytesWorld, World.freeze]; rfl, by rw [Lib.bytesWorld_size]; omega, fun k hk => Lib.bytesWorld_at_old w _ s k hk⟩
/-- one byte is appended -/
theorem Byt.append (h : Byt w base g cap l) (ty : TypeId) (ab ao c : Nat) (b : UInt8) (hc : w.cell? ⟨ab, ao, none⟩ = some (.int .u8 b.toNat)) (hbase : base ≤ w.heap.size) (hlen : l.length + 1 ≤ 140737488355328) :
    ∃ g' cap' w', (Builtin.append_ #[176, 176] ty #[.slice (some ⟨g, 0, none⟩) l.length cap, .slice (some ⟨ab, ao, none⟩) 1 c]).run Tryz.prog w = .ok (.slice (some ⟨g', 0, none⟩) (l.length + 1) cap') w' ∧
      Byt w' base g' cap' (l ++ [b]) ∧ w.grownBy w' (some g) := by
  obtain ⟨i0, hi0, hz0, hz1, hz2⟩ := info_parts infoByteD
  have hnews : ∀ j v, [Value.int .u8 (b.toNat : Int)][j]? = some v → w.cell? ((⟨ab, ao, none⟩ : Addr).add j) = some v := fun j v hv => by
    match j, hv with
    | 0, hv =>
      have ha : (⟨ab, ao, none⟩ : Addr).add 0 = ⟨ab, ao, none⟩ := by unfold Addr.add; split <;> simp_all
      rw [ha, hc]
      simpa using hv
  obtain ⟨cur, fz, h1, h2, h3, h4, h5, h6⟩ := h.row
  by_cases hroom : l.length + 1 ≤ cap
  · have hf := run_firstCells_some (P := Tryz.prog) w 1 1 ⟨ab, ao, none⟩ 1 c [Value.int .u8 (b.toNat : Int)] rfl hnews
    have hfro := h.free (i := l.length) (by omega)
    have hcell : w.cell? ⟨g, l.length, none⟩ = some cur[l.length] := by simp [World.cell?, h1, show l.length < cur.size by omega]
    have hst : (storeCells ⟨g, l.length, none⟩ [Value.int .u8 (b.toNat : Int)] 0).run Tryz.prog w = .ok () (w.setCell ⟨g, l.length, none⟩ (.int .u8 b.toNat)) := by
      have ha : (⟨g, l.length, none⟩ : Addr).add 0 = ⟨g, l.length, none⟩  := by unfold Addr.add; split <;> simp_all
      simp only [storeCells, ha, Sem.run_bind, run_store Tryz.prog w _ _ _ (show (Value.int .u8 (b.toNat : Int)).oneCell' = true from rfl), hcell]
      simp [hfro]
    have hst' := hst
    refine ⟨g, cap, w.setCell ⟨g, l.length, none⟩ (.int .u8 b.toNat), ?_, ⟨h.ge, cur.setIfInBounds l.length (.int .u8 b.toNat), fz, ?_, h2, by simpa using hroom, h4, by simpa using h5, ?_⟩, grownBy_setCell w ⟨g, l.length, none⟩ _⟩
    · simp [Builtin.append_, run_underlying Tryz.underlying176, sizeOf, typeInfo, hi0, hz1, Builtin.lenOf, hroom, hf, Addr.add_lit, hst]
    · rw [setCell_eq_setRow w g _ cur _ fz _ h1]
      exact setRow_heap w g cur _ _ _ h1
    · rw [Array.toList_setIfInBounds, List.length_append, List.length_singleton, List.take_add_one, List.take_set, List.set_eq_of_length_le (by rw [List.length_take]; exact Nat.min_le_left _ _), h6]
      simp [byteV, show l.length < cur.size by omega]
  · have hr := run_append_grow (P := Tryz.prog) w 176 ty 5 i0 (.int .u8 0) Tryz.underlying176 hi0 hz0 ⟨g, 0, none⟩ l.length cap (byteV l) (by rw [hz1]; simp [byteV]) (fun j v hv => by
      rw [byteV, List.getElem?_map] at hv
      obtain ⟨b', hb', hbv⟩ := Option.map_eq_some_iff.1 hv
      have ha : (⟨g, 0, none⟩ : Addr).add j = ⟨g, j, none⟩ := by unfold Addr.add; split <;> simp_all
      rw [ha, h.cell hb', hbv]) ⟨ab, ao, none⟩ 1 c [Value.int .u8 (b.toNat : Int)] (by rw [hz1]; rfl) hnews (by omega) (by omega) (by rw [hz2]; exact growslice_fits (by omega) (by omega))
    have hge := grownCap_ge w (l.length + 1) cap 5
    have hle := grownCap_le_maxLen w (l.length + 1) cap 5 (by simp only [maxLen]; omega)
    refine ⟨_, _, _, hr, ⟨hbase, _, _, heap_alloc_new w.drew _, .inl rfl, by simpa using hge, hle, ?_, ?_⟩, ⟨rfl, rfl, rfl, by simp, fun k hk _ => heap_alloc_old w.drew _ hk⟩⟩
    · simp only [Array.size_append, List.size_toArray, size_zeroCells, byteV, List.length_map, List.length_singleton]
      simp only [Value.cells, List.size_toArray, List.length_singleton]
      omega
    · rw [Array.toList_append, Array.toList_append, List.append_assoc, ← List.append_assoc]
      rw [List.take_append_of_le_length (by simp [byteV]), List.take_of_length_le (by simp [byteV])]
      simp [byteV]
theorem wpList_append_byt {ops : Array Oper} {rest : List Oper} {o : Oper} {a : Act} {Q : Exit → Act → World → Prop} (hgd : o.guard = none) (s x : Operand)
    (ho : o.op = .call { callee := .builtin .append, args := #[s, x], argTypes := #[176, 176] })
    (h : Byt w base g cap l) (n : Nat) (hn : l.length = n) (hs : a.eval s = .slice (some ⟨g, 0, none⟩) n cap)
    (ab ao c : Nat) (hx : a.eval x = .slice (some ⟨ab, ao, none⟩) 1 c) (b : UInt8) (hc : w.cell? ⟨ab, ao, none⟩ = some (.int .u8 b.toNat)) (hbase : base ≤ w.heap.size) (hlen : n + 1 ≤ 140737488355328)
    (h2 : ∀ g' cap' w', Byt w' base g' cap' (l ++ [b]) → w.grownBy w' (some g) → wpList Tryz.prog ops Q rest (a.put o.dst (.slice (some ⟨g', 0, none⟩) (n + 1) cap')) w') :
    wpList Tryz.prog ops Q (o :: rest) a w := by
  subst hn
  refine wpList_plain hgd fun K hK => ?_
  obtain ⟨g', cap', w', hrun, h3, h4⟩ := h.append o.type ab ao c b hc hbase hlen
  unfold Oper.wp execOp
  simp only [ho, resolve, invoke, builtin, Sem.run_bind, Sem.run_pure, Result.andThen_ok, List.map_toArray, List.map_cons, List.map_nil, hs, hx, hrun]
  exact hK _ _ (h2 g' cap' w' h3 h4)
theorem Byt.convert (h : Byt w base g cap l) (n : Nat) (hn : l.length = n) :
    Sem.run Tryz.prog (convert 176 9 (.slice (some ⟨g, 0, none⟩) n cap)) w = .ok (.string ⟨l.toArray⟩) w := by
  have := run_convert_bytes_arg (P := Tryz.prog) w 176 5 Tryz.underlying176 Tryz.underlying5 g 0 n cap (l.map fun b => (b.toNat : Int)) (by simp [hn]) (fun i hi => by
    have hi' : i < l.length := by omega
    have hb := h.cell (List.getElem?_eq_getElem hi')
    rw [Nat.zero_add, hb]
    simp [hi', List.getD]) 9 Tryz.underlying9
  rw [strOf_byteV] at this
  exact this
end
end Go.Proofs.YtjncmlglhegnaaaGreatDoor
namespace Go.Proofs.YtjncmlglhegnaaaGreatDoor
open Go.RowKit

def vlen : Value → Nat
  | .slice _ n _ => n
  | _ => 0
def padB (s : List UInt8) (M : Nat) : List UInt8 := s ++ List.replicate (M - s.length) 0
theorem padB_put (s t : List UInt8) (n M : Nat) (ht : t ≠ []) (hM : M = max s.length (n + t.length)) : (padB s M).take n ++ t.take t.length ++ (padB s M).drop (n + t.length) = putB s n t := by
  rw [List.take_length, putB, if_neg ht]
  unfold padB
  have ha : (s ++ List.replicate (M - s.length) 0).take n = (s ++ List.replicate (n - s.length) (0 : UInt8)).take n := by
    simp only [List.take_append, List.take_replicate]
    congr 2
    omega
  have hb : (s ++ List.replicate (M - s.length) 0).drop (n + t.length) = s.drop (n + t.length) := by
    simp only [List.drop_append, List.drop_replicate]
    rw [show M - s.length - (n + t.length - s.length) = 0 by omega]
    simp
  rw [ha, hb]
theorem put_next {p t : List UInt8} {n k : Nat} {b : UInt8} (hk : t[k]? = some b) (hp : n + t.length ≤ p.length) :
    (p.take n ++ t.take k ++ p.drop (n + k)).set (n + k) b = p.take n ++ t.take (k + 1) ++ p.drop (n + (k + 1)) := by
  obtain ⟨hlt, rfl⟩ := List.getElem?_eq_some_iff.1 hk
  have h1 : (p.take n ++ t.take k).length = n + k := by simp; omega
  rw [List.set_append, if_neg (by omega), h1, Nat.sub_self, List.drop_eq_getElem_cons (by omega), List.set_cons_zero, show t.take (k + 1) = t.take k ++ [t[k]] by rw [List.take_add_one, hk]; rfl]
  simp only [List.append_assoc, List.cons_append, List.nil_append, Nat.add_assoc]
theorem put_stay {p t : List UInt8} {n k : Nat} (hk : k ≤ t.length) (hp : n + t.length ≤ p.length) : (p.take n ++ t.take k ++ p.drop (n + k)).length = p.length := by simp; omega
set_option maxRecDepth 100000 in
set_option maxHeartbeats 1000000 in
theorem Put_ref (w : World) (s t : List UInt8) (n : Nat) (hs : s.length ≤ 16777216) (hn : n + t.length ≤ 16777216) (r : List UInt8) (hr : putB s n t = r) :
    Calls Tryz.prog 123 #[.string ⟨s.toArray⟩, .int .i64 n, .string ⟨t.toArray⟩] w fun e w' => e = .returned (.string ⟨r.toArray⟩) ∧ Below w.heap.size w w' := by
  subst hr
  by_cases ht : t = []
  · subst ht
    rw [show putB s n [] = s by simp [putB]]
    go_enter Tryz.func123, Tryz.ntmps123
    go_wp2_with (fail)
    go_ret
    exact ⟨rfl, Below.refl _ _⟩
  · have hs' := strV_len s
    have ht' := strV_len t
    have htn := strV_ne ht
    have hte : t.isEmpty = false := by simp [ht]
    have HT := Lib.hid ht
    obtain ⟨M, hM⟩ : ∃ M, M = max s.length (n + t.length) := ⟨_, rfl⟩
    have HM := Lib.hid hM
    have HP := Lib.hid (padB_put s t n M ht hM)
    have hkon := Lib.run_convert_string_bytes (P := Tryz.prog) w 9 176 5 ⟨s.toArray⟩ Tryz.underlying9 Tryz.underlying176 Tryz.underlying5
    rw [hs'] at hkon
    have HB0 := Lib.hid (below_conv w ⟨s.toArray⟩)
    have HY0 := Lib.hid (Byt.conv w s (by simp only [maxLen]; omega))
    generalize Lib.bytesWorld w 5 ⟨s.toArray⟩ = wc at *
    generalize grownCap w s.length 0 5 = cc at *
    clear hM ht
    go_enter Tryz.func123, Tryz.ntmps123
    go_wp2_with (fail)
    clear hkon
    go_loopw [7] (fun v wr => ∃ g cap L k, s.length + k = L ∧ L ≤ M ∧ v = .slice (some ⟨g, 0, none⟩) L cap ∧ Below w.heap.size w wr ∧ Byt wr w.heap.size g cap (s ++ List.replicate k 0)) (fun v _ => M - vlen v)
    case atStart => exact ⟨_, _, _, 0, rfl, by have := HM.out; omega, rfl, HB0.out, by simpa using HY0.out⟩
    case round =>
      obtain ⟨g, cap, L, k, hL, hLM, rfl, hb, hy⟩ := hrel
      obtain ⟨wo, rfl⟩ : ∃ wo : World, wo = wr := ⟨_, rfl⟩
      have HB := Lib.hid hb
      have HY := Lib.hid hy
      have HL := Lib.hid hL
      have HMM := HM.out
      have hbz := hb.size
      have hyl : (s ++ List.replicate k 0).length = L := by simp; omega
      clear hb hy
      by_cases hlt : L < n + t.length
      · have hki : (L : Int) < (n : Int) + (t.length : Int) := by omega
        go_wp2_with (at_builtin; refine wpList_append_byt rfl (.tmp 21) (.tmp 22) rfl (HY.out.alloc _) L hyl rfl wo.heap.size 0 1 rfl 0 (by rw [World.cell?_alloc_at _ _ _ _ rfl]; rfl) (by simp only [World.size_alloc]; omega) (by omega) ?_; intro g' cap' w1 hby hg)
        have hbw := HB.out.alloc (by omega) (.cells #[.int .u8 0] 5)
        have hb2 := hbw.grown hg (by simp only [World.size_alloc]; omega) (fun b e => by injection e with e; rw [← e]; exact HY.out.ge)
        have HR := Lib.hid (And.intro hb2 hby)
        clear hbw hb2 hby
        go_roundw
        case rel => exact ⟨g', cap', L + 1, k + 1, by have := HL.out; omega, by omega, rfl, HR.out.1, by have h := HR.out.2; rw [List.append_assoc, ← List.replicate_succ'] at h; exact h⟩
        case measure => simp only [vlen]; omega
      · obtain rfl : L = M := by
          by_cases hk0 : k = 0
          · have := HL.out; omega
          · omega
        have hpad : s ++ List.replicate k 0 = padB s L := by unfold padB; rw [show L - s.length = k by have := HL.out; omega]
        rw [hpad] at HY hyl
        have hki : ¬ (L : Int) < (n : Int) + (t.length : Int) := by omega
        have hpl : n + t.length ≤ (padB s L).length := by rw [hyl]; omega
        have HPL := Lib.hid hpl
        have HYL := Lib.hid hyl
        have hnL : n + t.length ≤ L := by omega
        clear hpad hlt hpl hyl hLM hL HMM
        go_wp2_with (fail)
        go_loopw [8] (fun i wr => ∃ k : Nat, k ≤ t.length ∧ i = .int .i64 (k : Int) ∧ Below w.heap.size w wr ∧ Byt wr w.heap.size g cap ((padB s L).take n ++ t.take k ++ (padB s L).drop (n + k))) (fun i _ => t.length - (intOf i).toNat)
        case atStart => exact ⟨0, Nat.zero_le _, rfl, HB.out, by simpa using HY.out⟩
        case round =>
          obtain ⟨j, hj, rfl, hb2, hy2⟩ := hrel
          obtain ⟨wp, rfl⟩ : ∃ wp : World, wp = wr := ⟨_, rfl⟩
          have HB2 := Lib.hid hb2
          have HY2 := Lib.hid hy2
          clear hb2 hy2 HB HY
          by_cases hjt : j < t.length
          · have hg0 : t[j]? = some t[j] := List.getElem?_eq_getElem hjt
            have hki2 : (j : Int) < (t.length : Int) := by omega
            have hj0 : (0 : Int) ≤ (j : Int) := Int.natCast_nonneg _
            have hnj : (n : Int) + (j : Int) < (L : Int) := by omega
            have hnj0 : (0 : Int) ≤ (n : Int) + (j : Int) := by omega
            have hlen := put_stay (p := padB s L) (t := t) (n := n) (k := j) (by omega) HPL.out
            rw [HYL.out] at hlen
            have hroom := HY2.out.room
            rw [hlen] at hroom
            obtain ⟨pb, hpb⟩ : ∃ pb, ((padB s L).take n ++ t.take j ++ (padB s L).drop (n + j))[n + j]? = some pb := ⟨_, List.getElem?_eq_getElem (by rw [hlen]; omega)⟩
            have hcl := HY2.out.cell hpb
            have hfr := HY2.out.free (i := n + j) (by omega)
            have hzz := HY2.out.lt
            have hst := HY2.out.stored (i := n + j) (by rw [hlen]; omega) t[j]
            rw [put_next hg0 HPL.out] at hst
            have HST := Lib.hid hst
            have HGE := Lib.hid HY2.out.ge
            have hnat : ((n : Int) + (j : Int)).toNat = n + j := by omega
            clear hst hlen hroom hpb
            go_wp2_with (fail)
            go_roundw
            case rel => exact ⟨j + 1, hjt, by go_num, HB2.out.setCell (p := ⟨g, n + j, none⟩) HGE.out _, HST.out⟩
            case measure => simp [intOf]; omega
          · obtain rfl : j = t.length := by omega
            have hki2 : ¬ (t.length : Int) < (t.length : Int) := by omega
            have hc := HY2.out.convert L (by rw [put_stay (Nat.le_refl _) HPL.out, HYL.out])
            rw [HP.out] at hc
            go_wp2_with (fail)
            go_ret
            exact ⟨rfl, HB2.out⟩
end Go.Proofs.YtjncmlglhegnaaaGreatDoor
namespace Go.Proofs.YtjncmlglhegnaaaGreatDoor
open Go.RowKit

section
variable {w w' : World} {F G : Nat → Prop} {B : Nat} {r : DV} {FA : Option Addr} {cf : Nat} {Q : Option Addr} {cq : Nat} {K : Option Addr} {ck : Nat}
/-- a sector is appended to the queue -/
theorem RefAt.pushQueue {V w4 : World} {o : Obj} {A4 : Option Addr} {n c4 : Nat} {p : Int × Int} (H : RefAt V F B r FA cf Q cq K ck) (hn : r.queue.length = n)
    (hown4 : Own w4 0 125 2 (.slice A4 (n + 1) c4) (n + 1) (r.queue.map secCells ++ [secCells p]))
    (hg4 : (V.alloc o).grownBy w4 (Value.slice Q n cq).ownBlock)
    (hat4 : (Value.slice A4 (n + 1) c4).ownBlock = (Value.slice Q n cq).ownBlock ∨ (Value.slice A4 (n + 1) c4).ownBlock = some (V.alloc o).heap.size) :
    RefTo F V B { r with queue := r.queue ++ [p] } (w4.setCell ⟨B, 1, none⟩ (.slice A4 (n + 1) c4)) := by
  subst hn
  rw [slice_block Q _ cq] at hg4 hat4
  rw [slice_block A4 _ c4] at hat4
  have H1 := H.below (below_alloc V o)
  have zV := H1.loc.lt
  simp only [World.size_alloc] at hat4
  have hg := grownBy_setCell w4 ⟨B, 1, none⟩ (.slice A4 (r.queue.length + 1) c4)
  have hA : ∀ b, (Value.slice A4 0 0).ownBlock = some b → (Value.slice Q 0 0).ownBlock = some b ∨ b = V.heap.size + 1 := fun b he => by
    rcases hat4 with h | h
    · exact .inl (h ▸ he)
    · rw [h] at he; injection he with he; exact .inr he.symm
  have hlt := H.lt B H.fB
  have nA : ∀ b, b < V.heap.size → (Value.slice Q 0 0).ownBlock ≠ some b → (Value.slice A4 0 0).ownBlock ≠ some b := fun b hb hq e => by
    rcases hA b e with h | h
    · exact hq h
    · omega
  have hz4 := hg4.size
  rw [World.size_alloc] at hz4
  have hl := (H1.loc.grown hg4 H.nq).set_ 1 (.slice A4 (r.queue.length + 1) c4)
  have zA : ∀ b, (Value.slice A4 0 0).ownBlock = some b → b < w4.heap.size := fun b he => (hown4.lt b (by rw [slice_block]; exact he)).2
  refine ⟨fun k => F k ∨ (Value.slice A4 0 0).ownBlock = some k, ⟨FA, cf, A4, c4, K, ck, ?_⟩, ?_⟩
  · refine ⟨by simpa using hl, ?_, ?_, ?_, .inl H.fB, fun b hq => .inr hq, fun hne ad he => ⟨.inl (H.ff hne ad he).1, (H.ff hne ad he).2.1, nA _ (H.lt _ (H.ff hne ad he).1) (H.ff hne ad he).2.2⟩,
      fun hne ad he => ⟨.inl (H.fk hne ad he).1, (H.fk hne ad he).2.1, nA _ (H.lt _ (H.fk hne ad he).1) (H.fk hne ad he).2.2⟩, nA _ hlt H.nq, fun b hf => ?_⟩
    · refine (H1.files.grown hg4 ?_).grown hg ?_
      · by_cases hk : r.files = []
        · exact .inl (by rw [hk]; rfl)
        · exact .inr fun ad e => (H.ff hk ad e).2.2
      · by_cases hk : r.files = []
        · exact .inl (by rw [hk]; rfl)
        · exact .inr fun ad e e' => (H.ff hk ad e).2.1 (by injection e' with e'; exact e'.symm)
    · have h1 := hown4.other (p := ⟨B, 1, none⟩) (by rw [slice_block]; exact nA _ hlt H.nq) (.slice A4 (r.queue.length + 1) c4)
      simpa using h1
    · refine (H1.keep.grown hg4 ?_).grown hg ?_
      · by_cases hk : r.keep = []
        · exact .inl (by rw [hk]; rfl)
        · exact .inr fun ad e => (H.fk hk ad e).2.2
      · by_cases hk : r.keep = []
        · exact .inl (by rw [hk]; rfl)
        · exact .inr fun ad e e' => (H.fk hk ad e).2.1 (by injection e' with e'; exact e'.symm)
    · rw [World.size_setCell]
      rcases hf with hf | hf
      · have := H.lt b hf; omega
      · exact zA b hf
  · refine ⟨((Keeps.below (below_alloc V o)).trans (Keeps.grown hg4 (fun b hb => .inl (H.fq b hb)))).trans (Keeps.setCell (p := ⟨B, 1, none⟩) (.inl H.fB) _), fun _ h => .inl h, fun k hk => ?_⟩
    rcases hk with hk | hk
    · exact .inl hk
    · rcases hA k hk with h | h
      · exact .inl (H.fq k h)
      · exact .inr ⟨by omega, by rw [World.size_setCell]; exact zA k hk⟩
theorem RefTo.from {w1 w2 : World} (h : RefTo G w1 B r w2) (hE : Ext F G w w1) : RefTo F w B r w2 := by
  obtain ⟨F', h1, h2⟩ := h
  exact ⟨F', h1, hE.trans h2⟩
theorem RefTo.refl (h : RefAt w F B r FA cf Q cq K ck) : RefTo F w B r w := ⟨F, h.ref, Ext.refl _ _⟩
set_option maxRecDepth 100000 in
set_option maxHeartbeats 4000000 in
theorem add_ref (h : RefAt w F B r FA cf Q cq K ck) (hok : ROk r) (f : Int) (a : Nat) (s : List UInt8) (h0 : 0 ≤ f) (h1 : f < 16) (hfit : a + s.length ≤ 16777216) :
    Calls Tryz.prog 195 #[.pointer (some ⟨B, 0, none⟩), .int .i64 f, .int .i64 a, .string ⟨s.toArray⟩] w fun e w' => e = .returned (.tuple #[]) ∧ RefTo F w B (addR r f a s) w' := by
  unfold addR
  by_cases hne : s = []
  · subst hne
    rw [if_pos rfl]
    have HR := Lib.hid (RefTo.refl h)
    clear h
    go_enter Tryz.func195, Tryz.ntmps195
    go_wp2_with (fail)
    exact bodyPost_ret (v := .tuple #[]) (by simp [results, Tryz.results195, go_sem]) rfl ⟨rfl, HR.out⟩
  rw [if_neg hne]
  have hfr : fitsR (a : Int) s = true := by unfold fitsR; simp; omega
  have hl := strV_len s
  have hsn := strV_ne hne
  have hse : s.isEmpty = false := by simp [hne]
  have hpos : 0 < s.length := List.length_pos_iff.2 hne
  have HQK : Hid (∀ k, ROk { r with files := setL f ⟨putB (r.file f).now a s, (r.file f).last⟩ r.files, queue := addQ r.queue ((touched f a s.length).take k) }) := Lib.hid fun k =>
    (hok.put h0 h1 hfr).queue (ROk.addQ_ok hok.ok.queue fun p hp => ROk.touch h0 h1 hfr hne p (List.mem_of_mem_take hp)) (addQ_nodup _ _ hok.ok.nodup)
  have H := Lib.hid h
  have HG := Lib.hid (fun W (hW : RefAt W F B r FA cf Q cq K ck) => get_ref hW hok.few f _ rfl)
  have HS := Lib.hid (fun W (hW : RefAt W F B r FA cf Q cq K ck) => set_ref hW hok.few f ⟨putB (r.file f).now a s, (r.file f).last⟩)
  have hfl := hok.file f
  have HP := Lib.hid (fun W => Put_ref W (r.file f).now s a hfl.1 (by omega) _ rfl)
  rw [Int.toNat_natCast]
  clear h hok hfr hne hfl
  generalize hx : r.file f = x at *
  obtain ⟨xn, xl⟩ := x
  simp only at HP HS HG HQK ⊢
  generalize putB xn a s = xm at *
  clear hx
  go_enter Tryz.func195, Tryz.ntmps195
  go_wp2_with (first
    | ((with_reducible refine (HG.out _ H.out).mono ?_); rintro e w1 ⟨rfl, hb1⟩; have HB1 := Lib.hid hb1; clear hb1)
    | ((with_reducible refine (HP.out _).mono ?_); rintro e w2 ⟨rfl, hb2⟩; obtain ⟨⟨zX, kX, fX⟩, hb3⟩ := locs1 hb2; have HB2 : Hid (Below w.heap.size w w2) := HB1.out.trans (hb3.mono HB1.out.size); clear hb2 hb3)
    | ((with_reducible refine (HS.out _ (H.out.below (HB2.out.setCell (p := ⟨w1.heap.size, 1, none⟩) HB1.out.size _))).mono ?_); rintro e w3 ⟨rfl, h3⟩; have H3 : Hid (RefTo F w B _ w3) := h3.to.from (Ext.same (Keeps.below (HB2.out.setCell (p := ⟨w1.heap.size, 1, none⟩) HB1.out.size _))); clear h3 zX kX fX))
  obtain ⟨q0, hq0⟩ : ∃ q0, a / 64 = q0 := ⟨_, rfl⟩
  obtain ⟨N, hN⟩ : ∃ N, (a + s.length - 1) / 64 - a / 64 + 1 = N := ⟨_, rfl⟩
  have hTl : (touched f a s.length).length = N := by unfold touched; rw [List.length_map, List.length_range, hN]
  have hTg : ∀ k, k < N → (touched f a s.length).take (k + 1) = (touched f a s.length).take k ++ [(f, (q0 : Int) + (k : Int))] := fun k hk => by
    rw [List.take_add_one, List.getElem?_eq_getElem (by omega)]
    simp only [touched, List.getElem_map, List.getElem_range, hq0, Option.toList_some]
    rfl
  have hTn : touched f a s.length = (touched f a s.length).take N := by rw [List.take_of_length_le (by omega)]
  have HTn := Lib.hid hTn
  have HTg := Lib.hid hTg
  have hq1 : (q0 : Int) ≤ 262144 := by omega
  have hq2 : (q0 : Int) + (N : Int) - 1 = ((a : Int) + (s.length : Int) - 1) / 64 := by omega
  have hq3 : (q0 : Int) + (N : Int) ≤ 262145 := by omega
  have HQ2 := Lib.hid hq2
  clear hTl hTg hTn hN hq2
  obtain ⟨i0, hi0, hi1, hi2, hi3⟩ := info_parts infoSec
  go_loopw [9] (fun i wr => ∃ k : Nat, k ≤ N ∧ i = .int .i64 ((q0 : Int) + (k : Int)) ∧ RefTo F w B { r with files := setL f ⟨xm, xl⟩ r.files, queue := addQ r.queue ((touched f a s.length).take k) } wr) (fun i _ => q0 + N - (intOf i).toNat)
  case atStart => exact ⟨0, Nat.zero_le _, by rw [← hq0]; simp, by rw [List.take_zero]; exact H3.out⟩
  case round =>
    obtain ⟨k, hk, rfl, hD⟩ := hrel
    obtain ⟨wo, rfl⟩ : ∃ wo : World, wo = wr := ⟨_, rfl⟩
    by_cases hlt : k < N
    · obtain ⟨F1, ⟨FA1, cf1, Q1, cq1, K1, ck1, hA⟩, hE1⟩ := hD
      have hT : (q0 : Int) + (k : Int) ≤ ((a : Int) + (s.length : Int) - 1) / 64 := by have := HQ2.out; omega
      have HT1 := Lib.hid (HTg.out k hlt)
      have hlen := (HQK.out k).len
      generalize hqq : addQ r.queue ((touched f a s.length).take k) = q at *
      simp only at hlen
      obtain ⟨m, hm⟩ : ∃ m, q.length = m := ⟨_, rfl⟩
      have HA := Lib.hid hA
      have HE1 := Lib.hid hE1
      have HPD := Lib.hid (fun x hx => pending_ref hA hlen f ((q0 : Int) + (k : Int)) x hx)
      have hlo := hA.loc
      simp only [hm] at hlo
      obtain ⟨zB, kB, fB⟩ := hlo
      have HZ := Lib.hid zB
      clear hA hE1
      by_cases hin : (f, (q0 : Int) + (k : Int)) ∈ q
      · have HIN := Lib.hid hin
        clear hin
        go_wp2_with ((with_reducible refine (HPD.out true (by simpa using HIN.out)).mono ?_); rintro _ _ ⟨rfl, rfl⟩)
        go_roundw
        case rel =>
          refine ⟨k + 1, by omega, by go_num, ?_⟩
          rw [HT1.out, addQ_append, hqq]
          simp only [addQ, HIN.out, if_true]
          exact ⟨F1, ⟨_, _, _, _, _, _, HA.out⟩, HE1.out⟩
        case measure => simp [intOf]; omega
      · have HIN := Lib.hid hin
        have HPF := Lib.hid (HPD.out false (by simpa using hin))
        clear hin
        have hQ1 : Own wo 0 125 2 (.slice Q1 m cq1) m (q.map secCells) := by have := HA.out.queue; rw [← hm]; exact this
        have HQ1 := Lib.hid hQ1
        rw [hm] at hlen
        clear hQ1
        go_wp2_with (first | ((with_reducible refine (HPF.out).mono ?_); rintro _ w9 ⟨rfl, hw9⟩; obtain rfl := hw9.symm) | (at_builtin; refine wpList_append_sl _ rfl (.tmp 45) (.tmp 49) 96 rfl 0 125 i0 _ 2 16 Tryz.underlying96 hi0 hi1 hi2 hi3 rfl (by omega) (.slice Q1 m cq1) m _ rfl (HQ1.out.alloc _) (some ⟨wo.heap.size, 0, none⟩) 1 1 [secCells (f, (q0 : Int) + (k : Int))] rfl (sl_sec wo (f, (q0 : Int) + (k : Int)) _) (by simp [secCells]) (sec_one1 _) (by simp only [maxLen]; omega) (by omega) (Nat.zero_le _) ?_; intro A4 c4 w4 hown4 hg4 hat4; have LB4 := (HA.out.loc.alloc (.cells #[.int .i64 f, .int .i64 ((q0 : Int) + (k : Int))] 125)).grown hg4 (fun e => HA.out.nq (by rw [slice_block] at e; exact e)); obtain ⟨z4, k4, f4⟩ := LB4))
        have HP4 := Lib.hid (RefAt.pushQueue (p := (f, (q0 : Int) + (k : Int))) HA.out hm hown4 hg4 hat4)
        clear hown4 hg4 hat4
        go_roundw
        case rel =>
          refine ⟨k + 1, by omega, by go_num, ?_⟩
          rw [HT1.out, addQ_append, hqq]
          simp only [addQ, HIN.out, if_false]
          exact HP4.out.from HE1.out
        case measure => simp [intOf]; omega
    · obtain rfl : k = N := by omega
      have hT : ¬ (q0 : Int) + (k : Int) ≤ ((a : Int) + (s.length : Int) - 1) / 64 := by have := HQ2.out; omega
      have HX := Lib.hid hD
      clear hD hlt
      go_wp2_with (fail)
      go_end0
      rw [HTn.out]
      exact ⟨rfl, HX.out⟩
end
end Go.Proofs.YtjncmlglhegnaaaGreatDoor
namespace Go.Proofs.YtjncmlglhegnaaaGreatDoor
open Go.RowKit

section
variable {w w' : World} {F G : Nat → Prop} {B : Nat} {r : DV} {FA : Option Addr} {cf : Nat} {Q : Option Addr} {cq : Nat} {K : Option Addr} {ck : Nat}
set_option maxRecDepth 100000 in
set_option maxHeartbeats 4000000 in
theorem survive_ref (h : RefAt w F B r FA cf Q cq K ck) (hok : ROk r) (pf pn : Int) (hp0 : 0 ≤ pn) (hp1 : pn ≤ 262144) :
    Calls Tryz.prog 74 #[.pointer (some ⟨B, 0, none⟩), .agg #[.int .i64 pf, .int .i64 pn]] w fun e w' => e = .returned (.tuple #[]) ∧ RefToK F w B { r with files := surviveR r.files (pf, pn) } K ck w' := by
  have HX := Lib.hid (show surviveR r.files (pf, pn) = setL pf (if 64 * pn < (r.file pf).now.length then ⟨(r.file pf).now, putB (r.file pf).last (64 * pn).toNat (((r.file pf).now.drop (64 * pn).toNat).take 64)⟩ else r.file pf) r.files from rfl)
  have H := Lib.hid h
  have HG := Lib.hid (fun W (hW : RefAt W F B r FA cf Q cq K ck) => get_ref hW hok.few pf _ rfl)
  have HS := Lib.hid (fun W (hW : RefAt W F B r FA cf Q cq K ck) xn xl => set_ref hW hok.few pf ⟨xn, xl⟩)
  have hxok := hok.file pf
  clear h hok
  generalize hx : r.file pf = x at *
  obtain ⟨xn, xl⟩ := x
  simp only at HX HS HG hxok
  clear hx
  have hsl := strV_len xn
  have hw : IntKind.i64.wrap (64 * pn) = 64 * pn := IntWalk.i64_in _ (by omega)
  have HB0 := Lib.hid (below_alloc w (.cells #[.int .i64 pf, .int .i64 pn] 125))
  have LP0 := Lib.hid (Loc.new_ w #[.int .i64 pf, .int .i64 pn] 125)
  by_cases h3 : 64 * pn < (xn.length : Int)
  · rw [if_pos h3] at HX
    obtain ⟨a, ha⟩ : ∃ a : Nat, 64 * pn = (a : Int) := ⟨(64 * pn).toNat, by omega⟩
    have hapn : (64 * pn).toNat = a := by omega
    rw [hapn] at HX
    rw [ha] at h3
    have hal : a < xn.length := by omega
    have hxnl : xn.length ≤ 16777216 := hxok.1
    obtain ⟨t, ht⟩ : ∃ t, (xn.drop a).take 64 = t := ⟨_, rfl⟩
    rw [ht] at HX
    have htl : a + t.length ≤ 16777216 := by rw [← ht, List.length_take, List.length_drop]; omega
    have HP := Lib.hid (fun w1 => Put_ref w1 xl t a hxok.2 htl _ rfl)
    have hwr : IntKind.i64.wrap ((a : Int) + 64) = (a : Int) + 64 := IntWalk.i64_in _ (by omega)
    have hwa : IntKind.i64.wrap (a : Int) = (a : Int) := IntWalk.i64_in _ (by omega)
    obtain ⟨e, he⟩ : ∃ e : Nat, min (a + 64) xn.length = e := ⟨_, rfl⟩
    have hmin : (if (xn.length : Int) < (a : Int) + 64 then (xn.length : Int) else (a : Int) + 64) = (e : Int) := by split <;> omega
    have he1 : (a : Int) ≤ (e : Int) := by omega
    have he2 : (e : Int) ≤ (xn.length : Int) := by omega
    have hex : ByteArray.extract ⟨xn.toArray⟩ a e = ⟨t.toArray⟩ := by
      rw [extract_list, ← ht]
      congr 2
      rw [List.take_eq_take_iff, List.length_drop]
      omega
    clear he hal hapn ht
    go_enter Tryz.func74, Tryz.ntmps74
    go_wp2_with ((with_reducible refine (HG.out _ (H.out.below HB0.out)).mono ?_); rintro e1 w1 ⟨rfl, hb1⟩; have HB1 : Hid (Below w.heap.size w w1) := HB0.out.trans (hb1.mono HB0.out.size); have LP1 := Lib.hid (LP0.out.below hb1); clear hb1; obtain ⟨zP, kP, fP⟩ := LP1.out)
    have LP2 := Lib.hid (LP1.out.alloc (.cells #[.int .i64 pf, .string ⟨xn.toArray⟩, .string ⟨xl.toArray⟩] 127))
    have LF2 := Lib.hid (Loc.new_ w1 #[.int .i64 pf, .string ⟨xn.toArray⟩, .string ⟨xl.toArray⟩] 127)
    have HB2 := Lib.hid (HB1.out.alloc HB1.out.size (.cells #[.int .i64 pf, .string ⟨xn.toArray⟩, .string ⟨xl.toArray⟩] 127))
    have HZ : Hid (w.heap.size < w1.heap.size) := zP
    clear zP kP fP
    generalize w1.alloc (.cells #[.int .i64 pf, .string ⟨xn.toArray⟩, .string ⟨xl.toArray⟩] 127) = Y at *
    generalize w1.heap.size = bf at *
    refine wpTill.start (S := fun w' => w'.cell? ⟨w.heap.size, 1, none⟩ = some (.int .i64 pn) ∧ w'.cell? ⟨bf, 1, none⟩ = some (.string ⟨xn.toArray⟩)) (T := fun w' => w'.cell? ⟨bf, 2, none⟩ = some (.string ⟨xl.toArray⟩)) (m := 21) (by kernel_rfl) ?_
    have HS1 : Hid (Y.drew.cell? ⟨w.heap.size, 1, none⟩ = some (.int .i64 pn) ∧ Y.drew.cell? ⟨bf, 1, none⟩ = some (.string ⟨xn.toArray⟩)) := ⟨LP2.out.drew.cell 1, LF2.out.drew.cell 1⟩
    have HT1 : Hid (Y.drew.cell? ⟨bf, 2, none⟩ = some (.string ⟨xl.toArray⟩)) := LF2.out.drew.cell 2
    refine wpTill.take (i := 0) (v := ?_) (by rfl) rfl (by kernel_rfl) (by kernel_rfl) (by kernel_rfl) (by exact fun _ _ _ h => h) HS1.out (fun _ => HT1.out) (Or.inl ⟨by rfl, ?_⟩) ?_
    rotate_left
    · (intro w' hSw; (try dsimp only at hSw); go_simp; (try with_reducible rfl))
    (try simp only [Act.put, List.setIfInBounds_toArray, List.set_cons_zero, List.set_cons_succ, List.getElem_toArray, List.getElem_cons_zero, List.getElem_cons_succ])
    refine wpTill.takeT (i := 1) (v := ?_) (by rfl) rfl (by kernel_rfl) (by kernel_rfl) (by kernel_rfl) (by exact fun _ _ _ h => h) HS1.out HT1.out rfl (by kernel_rfl) (Or.inl ⟨by rfl, ?_⟩) ?_
    rotate_left
    · (intro w' hSw; (try dsimp only at hSw); go_simp; (try with_reducible rfl))
    (try simp only [Act.put, List.setIfInBounds_toArray, List.set_cons_zero, List.set_cons_succ, List.getElem_toArray, List.getElem_cons_zero, List.getElem_cons_succ])
    refine wpTill.take (i := 2) (v := ?_) (by rfl) rfl (by kernel_rfl) (by kernel_rfl) (by kernel_rfl) (by exact fun _ _ _ h => h) HS1.out (fun _ => HT1.out) (Or.inl ⟨by rfl, ?_⟩) ?_
    rotate_left
    · (intro w' hSw; (try dsimp only at hSw); go_simp; (try with_reducible rfl))
    (try simp only [Act.put, List.setIfInBounds_toArray, List.set_cons_zero, List.set_cons_succ, List.getElem_toArray, List.getElem_cons_zero, List.getElem_cons_succ])
    refine wpTill.take (i := 3) (v := ?_) (by rfl) rfl (by kernel_rfl) (by kernel_rfl) (by kernel_rfl) (by exact fun _ _ _ h => h) HS1.out (fun _ => HT1.out) (Or.inl ⟨by rfl, ?_⟩) ?_
    rotate_left
    · (intro w' hSw; (try dsimp only at hSw); go_simp; (try with_reducible rfl))
    (try simp only [Act.put, List.setIfInBounds_toArray, List.set_cons_zero, List.set_cons_succ, List.getElem_toArray, List.getElem_cons_zero, List.getElem_cons_succ])
    refine wpTill.take (i := 4) (v := ?_) (by rfl) rfl (by kernel_rfl) (by kernel_rfl) (by kernel_rfl) (by exact fun _ _ _ h => h) HS1.out (fun _ => HT1.out) (Or.inl ⟨by rfl, ?_⟩) ?_
    rotate_left
    · (intro w' hSw; (try dsimp only at hSw); go_simp; (try with_reducible rfl))
    (try simp only [Act.put, List.setIfInBounds_toArray, List.set_cons_zero, List.set_cons_succ, List.getElem_toArray, List.getElem_cons_zero, List.getElem_cons_succ])
    refine wpTill.take (i := 5) (v := ?_) (by rfl) rfl (by kernel_rfl) (by kernel_rfl) (by kernel_rfl) (by exact fun _ _ _ h => h) HS1.out (fun _ => HT1.out) (Or.inl ⟨by rfl, ?_⟩) ?_
    rotate_left
    · (intro w' hSw; (try dsimp only at hSw); go_simp; (try with_reducible rfl))
    (try simp only [Act.put, List.setIfInBounds_toArray, List.set_cons_zero, List.set_cons_succ, List.getElem_toArray, List.getElem_cons_zero, List.getElem_cons_succ])
    refine wpTill.take (i := 6) (v := ?_) (by rfl) rfl (by kernel_rfl) (by kernel_rfl) (by kernel_rfl) (by exact fun _ _ _ h => h) HS1.out (fun _ => HT1.out) (Or.inl ⟨by rfl, ?_⟩) ?_
    rotate_left
    · (intro w' hSw; (try dsimp only at hSw); go_simp; (try with_reducible rfl))
    (try simp only [Act.put, List.setIfInBounds_toArray, List.set_cons_zero, List.set_cons_succ, List.getElem_toArray, List.getElem_cons_zero, List.getElem_cons_succ])
    refine wpTill.take (i := 7) (v := ?_) (by rfl) rfl (by kernel_rfl) (by kernel_rfl) (by kernel_rfl) (by exact fun _ _ _ h => h) HS1.out (fun _ => HT1.out) (Or.inl ⟨by rfl, ?_⟩) ?_
    rotate_left
    · (intro w' hSw; (try dsimp only at hSw); go_simp; (try with_reducible rfl))
    (try simp only [Act.put, List.setIfInBounds_toArray, List.set_cons_zero, List.set_cons_succ, List.getElem_toArray, List.getElem_cons_zero, List.getElem_cons_succ])
    refine wpTill.take (i := 8) (v := ?_) (by rfl) rfl (by kernel_rfl) (by kernel_rfl) (by kernel_rfl) (by exact fun _ _ _ h => h) HS1.out (fun _ => HT1.out) (Or.inl ⟨by rfl, ?_⟩) ?_
    rotate_left
    · (intro w' hSw; (try dsimp only at hSw); go_simp; (try with_reducible rfl))
    (try simp only [Act.put, List.setIfInBounds_toArray, List.set_cons_zero, List.set_cons_succ, List.getElem_toArray, List.getElem_cons_zero, List.getElem_cons_succ])
    refine wpTill.take (i := 9) (v := ?_) (by rfl) rfl (by kernel_rfl) (by kernel_rfl) (by kernel_rfl) (by exact fun _ _ _ h => h) HS1.out (fun _ => HT1.out) (Or.inl ⟨by rfl, ?_⟩) ?_
    rotate_left
    · (intro w' hSw; (try dsimp only at hSw); go_simp; (try with_reducible rfl))
    (try simp only [Act.put, List.setIfInBounds_toArray, List.set_cons_zero, List.set_cons_succ, List.getElem_toArray, List.getElem_cons_zero, List.getElem_cons_succ])
    refine wpTill.take (i := 10) (v := ?_) (by rfl) rfl (by kernel_rfl) (by kernel_rfl) (by kernel_rfl) (by exact fun _ _ _ h => h) HS1.out (fun _ => HT1.out) (Or.inl ⟨by rfl, ?_⟩) ?_
    rotate_left
    · (intro w' hSw; (try dsimp only at hSw); go_simp; (try with_reducible rfl))
    (try simp only [Act.put, List.setIfInBounds_toArray, List.set_cons_zero, List.set_cons_succ, List.getElem_toArray, List.getElem_cons_zero, List.getElem_cons_succ])
    refine wpTill.take (i := 11) (v := ?_) (by rfl) rfl (by kernel_rfl) (by kernel_rfl) (by kernel_rfl) (by exact fun _ _ _ h => h) HS1.out (fun _ => HT1.out) (Or.inl ⟨by rfl, ?_⟩) ?_
    rotate_left
    · (intro w' hSw; (try dsimp only at hSw); go_simp; (try with_reducible rfl))
    (try simp only [Act.put, List.setIfInBounds_toArray, List.set_cons_zero, List.set_cons_succ, List.getElem_toArray, List.getElem_cons_zero, List.getElem_cons_succ])
    refine wpTill.take (i := 12) (v := ?_) (by rfl) rfl (by kernel_rfl) (by kernel_rfl) (by kernel_rfl) (by exact fun _ _ _ h => h) HS1.out (fun _ => HT1.out) (Or.inl ⟨by rfl, ?_⟩) ?_
    rotate_left
    · (intro w' hSw; (try dsimp only at hSw); go_simp; (try with_reducible rfl))
    (try simp only [Act.put, List.setIfInBounds_toArray, List.set_cons_zero, List.set_cons_succ, List.getElem_toArray, List.getElem_cons_zero, List.getElem_cons_succ])
    refine wpTill.take (i := 13) (v := ?_) (by rfl) rfl (by kernel_rfl) (by kernel_rfl) (by kernel_rfl) (by exact fun _ _ _ h => h) HS1.out (fun _ => HT1.out) (Or.inl ⟨by rfl, ?_⟩) ?_
    rotate_left
    · (intro w' hSw; (try dsimp only at hSw); go_simp; (try with_reducible rfl))
    (try simp only [Act.put, List.setIfInBounds_toArray, List.set_cons_zero, List.set_cons_succ, List.getElem_toArray, List.getElem_cons_zero, List.getElem_cons_succ])
    refine wpTill.take (i := 14) (v := ?_) (by rfl) rfl (by kernel_rfl) (by kernel_rfl) (by kernel_rfl) (by exact fun _ _ _ h => h) HS1.out (fun _ => HT1.out) (Or.inl ⟨by rfl, ?_⟩) ?_
    rotate_left
    · (intro w' hSw; (try dsimp only at hSw); go_simp; (try with_reducible rfl))
    (try simp only [Act.put, List.setIfInBounds_toArray, List.set_cons_zero, List.set_cons_succ, List.getElem_toArray, List.getElem_cons_zero, List.getElem_cons_succ])
    refine wpTill.take (i := 15) (v := ?_) (by rfl) rfl (by kernel_rfl) (by kernel_rfl) (by kernel_rfl) (by exact fun _ _ _ h => h) HS1.out (fun _ => HT1.out) (Or.inl ⟨by rfl, ?_⟩) ?_
    rotate_left
    · (intro w' hSw; (try dsimp only at hSw); go_simp; (try with_reducible rfl))
    (try simp only [Act.put, List.setIfInBounds_toArray, List.set_cons_zero, List.set_cons_succ, List.getElem_toArray, List.getElem_cons_zero, List.getElem_cons_succ])
    refine wpTill.take (i := 16) (v := ?_) (by rfl) rfl (by kernel_rfl) (by kernel_rfl) (by kernel_rfl) (by exact fun _ _ _ h => h) HS1.out (fun _ => HT1.out) (Or.inl ⟨by rfl, ?_⟩) ?_
    rotate_left
    · (intro w' hSw; (try dsimp only at hSw); go_simp; (try with_reducible rfl))
    (try simp only [Act.put, List.setIfInBounds_toArray, List.set_cons_zero, List.set_cons_succ, List.getElem_toArray, List.getElem_cons_zero, List.getElem_cons_succ])
    refine wpTill.take (i := 17) (v := ?_) (by rfl) rfl (by kernel_rfl) (by kernel_rfl) (by kernel_rfl) (by exact fun _ _ _ h => h) HS1.out (fun _ => HT1.out) (Or.inl ⟨by rfl, ?_⟩) ?_
    rotate_left
    · (intro w' hSw; (try dsimp only at hSw); go_simp; (try with_reducible rfl))
    (try simp only [Act.put, List.setIfInBounds_toArray, List.set_cons_zero, List.set_cons_succ, List.getElem_toArray, List.getElem_cons_zero, List.getElem_cons_succ])
    refine wpTill.take (i := 18) (v := ?_) (by rfl) rfl (by kernel_rfl) (by kernel_rfl) (by kernel_rfl) (by exact fun _ _ _ h => h) HS1.out (fun _ => HT1.out) (Or.inl ⟨by rfl, ?_⟩) ?_
    rotate_left
    · (intro w' hSw; (try dsimp only at hSw); go_simp; (try with_reducible rfl))
    (try simp only [Act.put, List.setIfInBounds_toArray, List.set_cons_zero, List.set_cons_succ, List.getElem_toArray, List.getElem_cons_zero, List.getElem_cons_succ])
    refine wpTill.step (i := 19) (by kernel_rfl) (by rfl) (fun K' hK => ?_)
    replace hK := Lib.hid hK
    go_simp
    (with_reducible refine (HP.out _).mono ?_)
    rintro e w4 ⟨rfl, hb4⟩
    have LF4 := Lib.hid (LF2.out.drew.below hb4)
    have LP4 := Lib.hid (LP2.out.drew.below hb4)
    have HB4 : Hid (Below w.heap.size w w4) := HB2.out.drew.trans (hb4.mono HB2.out.drew.size)
    clear hb4
    go_wp2_with (fail)
    refine hK.out _ _ ⟨LP4.out.cell 1, LF4.out.cell 1⟩ (fun _ => LF4.out.cell 2) ?_
    clear hK K'
    (try simp only [Act.put, List.setIfInBounds_toArray, List.set_cons_zero, List.set_cons_succ, List.getElem_toArray, List.getElem_cons_zero, List.getElem_cons_succ])
    refine wpTill.take (i := 20) (v := ?_) (by rfl) rfl (by kernel_rfl) (by kernel_rfl) (by kernel_rfl) (by exact fun _ _ _ h => h) ⟨LP4.out.cell 1, LF4.out.cell 1⟩ (fun _ => LF4.out.cell 2) (Or.inl ⟨by rfl, ?_⟩) ?_
    rotate_left
    · (intro w' hSw; (try dsimp only at hSw); go_simp; (try with_reducible rfl))
    (try simp only [Act.put, List.setIfInBounds_toArray, List.set_cons_zero, List.set_cons_succ, List.getElem_toArray, List.getElem_cons_zero, List.getElem_cons_succ])
    obtain ⟨zF, kF, fF⟩ := LF4.out
    refine wpTill.step (i := 21) (by kernel_rfl) (by rfl) (fun K' hK => ?_)
    replace hK := Lib.hid hK
    go_simp
    have LF5 := Lib.hid (LF4.out.set_ 2 (.string ⟨(putB xl a t).toArray⟩))
    have LP5 := Lib.hid (LP4.out.far (p := ⟨bf, 2, none⟩) (by have := HZ.out; simp; omega) (.string ⟨(putB xl a t).toArray⟩))
    have HB5 := Lib.hid (HB4.out.setCell (p := ⟨bf, 2, none⟩) (Nat.le_of_lt HZ.out) (.string ⟨(putB xl a t).toArray⟩))
    refine hK.out _ _ ⟨LP5.out.cell 1, LF5.out.cell 1⟩ (fun h => nomatch (show true = false from h)) ?_
    clear hK K'
    (try simp only [Act.put, List.setIfInBounds_toArray, List.set_cons_zero, List.set_cons_succ, List.getElem_toArray, List.getElem_cons_zero, List.getElem_cons_succ])
    refine wpTill.stop (by kernel_rfl) ?_ _
    clear HS1 HT1 HP zF kF fF LF4 LP4 HB4 hmin he1 he2 hex
    generalize w4.setCell ⟨bf, 2, none⟩ (.string ⟨(putB xl a t).toArray⟩) = Z at *
    obtain ⟨zF, kF, fF⟩ := LF5.out
    go_wp2_with ((with_reducible refine (HS.out _ (H.out.below HB5.out) xn (putB xl a t)).mono ?_); rintro e2 w3 ⟨rfl, h3⟩; have H3 : Hid (RefToK F w B _ K ck w3) := h3.from (Ext.same (Keeps.below HB5.out)))
    go_end0
    rw [HX.out]
    exact ⟨rfl, H3.out⟩
  · rw [if_neg h3] at HX
    go_enter Tryz.func74, Tryz.ntmps74
    go_wp2_with (first
      | ((with_reducible refine (HG.out _ (H.out.below HB0.out)).mono ?_); rintro e1 w1 ⟨rfl, hb1⟩; have HB1 : Hid (Below w.heap.size w w1) := HB0.out.trans (hb1.mono HB0.out.size); have LP1 := Lib.hid (LP0.out.below hb1); clear hb1; obtain ⟨zP, kP, fP⟩ := LP1.out)
      | ((with_reducible refine (HS.out _ (H.out.below (HB1.out.alloc HB1.out.size _)) xn xl).mono ?_); rintro e2 w3 ⟨rfl, h3⟩; have H3 : Hid (RefToK F w B _ K ck w3) := h3.from (Ext.same (Keeps.below (HB1.out.alloc HB1.out.size _)))))
    go_end0
    rw [HX.out]
    exact ⟨rfl, H3.out⟩
end
end Go.Proofs.YtjncmlglhegnaaaGreatDoor
namespace Go.Proofs.YtjncmlglhegnaaaGreatDoor
open Go.RowKit

def surviveStepR (keep : List Int) (i : Nat) (p : Int × Int) (fs : List (Int × FileV)) : List (Int × FileV) :=
  if keep = [] ∨ (keep[i % keep.length]?).getD 0 % 2 = 0 then fs else surviveR fs p
theorem surviveAllR_snoc (keep : List Int) (p : Int × Int) : ∀ (ps : List (Int × Int)) (i : Nat) (fs : List (Int × FileV)), surviveAllR keep i (ps ++ [p]) fs = surviveStepR keep (i + ps.length) p (surviveAllR keep i ps fs)
  | [], i, fs => rfl
  | x :: ps, i, fs => by
    simp only [List.cons_append, surviveAllR, List.length_cons]
    rw [surviveAllR_snoc keep p ps (i + 1)]
    rw [show i + 1 + ps.length = i + (ps.length + 1) by omega]
theorem surviveAllR_nil : ∀ (ps : List (Int × Int)) (i : Nat) (fs : List (Int × FileV)), surviveAllR [] i ps fs = fs
  | [], _, _ => rfl
  | x :: ps, i, fs => by
    simp only [surviveAllR, true_or, if_true]
    exact surviveAllR_nil ps _ fs
def lostC (p : Int × FileV) : Int × FileV := (p.1, ⟨p.2.last, p.2.last⟩)
section
variable {w w' : World} {F G : Nat → Prop} {B : Nat} {r : DV} {FA : Option Addr} {cf : Nat} {Q : Option Addr} {cq : Nat} {K : Option Addr} {ck : Nat}
/-- behind both loops -/
theorem RefAt.crashed {w5 : World} (h : RefAt w F B r FA cf Q cq K ck) (hb : Below w.heap.size w w5) {A : Option Addr} {c n : Nat} {fs : List (Int × FileV)}
    (ho : Own w5 w.heap.size 127 3 (.slice A n c) n (fs.map fileCells)) :
    RefTo F w B { r with files := fs, queue := [] } ((w5.setCell ⟨B, 0, none⟩ (.slice A n c)).setCell ⟨B, 1, none⟩ (.slice none 0 0)) := by
  have h1 := (h.below hb).setFiles (base := w.heap.size) (fun k hf => h.lt k hf) ho
  have hz : (w5.setCell ⟨B, 0, none⟩ (.slice A n c)).heap.size = w5.heap.size := World.size_setCell _ _ _
  have h2 := h1.setQueue (base := w5.heap.size) (fun k hf => by rw [← hz]; exact h1.lt k hf) (q := []) (A := none) (c := 0) (n := 0) (Own.nil_ _ _ _ _)
  refine ⟨_, h2.ref, ?_⟩
  have hzw := hb.size
  refine ⟨((Keeps.below hb).trans (Keeps.setCell (p := ⟨B, 0, none⟩) (.inl h.fB) _)).trans (Keeps.setCell (p := ⟨B, 1, none⟩) (.inl h.fB) _), fun _ h => .inl (.inl h), fun k hk => ?_⟩
  unfold Plus
  rw [World.size_setCell, hz]
  rcases hk with (hk | hk) | hk
  · exact .inl hk
  · exact .inr hk
  · rw [hz] at hk; omega
set_option maxRecDepth 100000 in
set_option maxHeartbeats 4000000 in
theorem Crash_ref (h : RefAt w F B r FA cf Q cq K ck) (hok : ROk r) (keep : List Int) (kn : Nat) (hkn : keep.length = kn) (A : Option Addr) (c : Nat) (hkl : kn ≤ 5000000)
    (hst : ∀ F' w' r' FA cf Q cq, RefAt w' F' B r' FA cf Q cq K ck → r'.keep = r.keep → Ext F F' w w' → Sl w' 1 A kn (keep.map fun k => [.int .i64 k])) :
    Calls Tryz.prog 24 #[.pointer (some ⟨B, 0, none⟩), .slice A kn c] w fun e w' => e = .returned (.tuple #[]) ∧ RefTo F w B (crashR r keep) w' := by
  unfold crashR
  by_cases hd : r.down = true
  · rw [if_pos hd]
    have HR := Lib.hid (RefTo.refl h)
    obtain ⟨zB, kB, fB⟩ := h.loc
    rw [hd] at kB
    clear h hd
    go_enter Tryz.func24, Tryz.ntmps24
    go_wp2_with (fail)
    exact bodyPost_ret (v := .tuple #[]) (by simp [results, Tryz.results24, go_sem]) rfl ⟨rfl, HR.out⟩
  rw [if_neg hd]
  have hd0 : r.down = false := by simpa using hd
  have HRK : Hid (∀ k, ROk { r with files := surviveAllR keep 0 (r.queue.take k) r.files, down := true, armed := 0 }) := Lib.hid fun k => by
    have hf := hok.fs.surviveAll (keep := keep) (i := 0) (ps := r.queue.take k) (fun p hp => hok.ok.queue p (List.mem_of_mem_take hp))
    exact ⟨⟨by simp, hok.ok.lost, hf.len, hf.keys, hok.ok.queue, hok.ok.nodup, hok.ok.klen⟩, hf.rng⟩
  have HQ := Lib.hid hok.ok.queue
  have hqn := hok.len
  obtain ⟨qn, hqnn⟩ : ∃ qn, r.queue.length = qn := ⟨_, rfl⟩
  rw [hqnn] at hqn
  have HQN := Lib.hid hqnn
  have HKN := Lib.hid hkn
  have HST := Lib.hid hst
  have h1 := (h.setField r.lost r.armed true (i := 3) (v := .bool true) (by simp)).setField r.lost 0 true (i := 4) (v := .int .i64 0) (by simp)
  have HE : Hid (Ext F F w ((w.setCell ⟨B, 3, none⟩ (.bool true)).setCell ⟨B, 4, none⟩ (.int .i64 0))) := Ext.same ((Keeps.setCell (p := ⟨B, 3, none⟩) h.fB (.bool true)).trans (Keeps.setCell (p := ⟨B, 4, none⟩) (.inl h.fB) (.int .i64 0)))
  have H1 := Lib.hid h1
  obtain ⟨zB, kB, fB⟩ := h.loc
  rw [hd0] at kB
  clear h hok hd hd0 hst h1 hqnn hkn
  go_enter Tryz.func24, Tryz.ntmps24
  go_wp2_with (fail)
  clear zB kB fB
  generalize (w.setCell ⟨B, 3, none⟩ (.bool true)).setCell ⟨B, 4, none⟩ (.int .i64 0) = w1 at *
  go_loopw [4] (fun i wr => ∃ k : Nat, k ≤ qn ∧ i = .int .i64 (k : Int) ∧ RefToK F w B { r with files := surviveAllR keep 0 (r.queue.take k) r.files, down := true, armed := 0 } K ck wr) (fun i _ => qn - (intOf i).toNat)
  case atStart => exact ⟨0, Nat.zero_le _, rfl, F, _, _, _, _, H1.out, HE.out⟩
  case round =>
    obtain ⟨k, hk, rfl, F2, FA2, cf2, Q2, cq2, h2, hE2⟩ := hrel
    obtain ⟨wo, rfl⟩ : ∃ wo : World, wo = wr := ⟨_, rfl⟩
    have HR := Lib.hid (HRK.out k)
    have H2 := Lib.hid h2
    have HE2 := Lib.hid hE2
    have HSK := Lib.hid (HST.out _ _ _ _ _ _ _ h2 rfl hE2)
    have hlo := h2.loc
    simp only [HQN.out] at hlo
    have hqs := h2.queue.sl'
    simp only [HQN.out] at hqs
    have HQS := Lib.hid hqs
    obtain ⟨zB, kB, fB⟩ := hlo
    have HKZ : Hid (keep = [] ∨ 0 < kn) := by
      by_cases hk0 : keep = []
      · exact .inl hk0
      · exact .inr (by rw [← HKN.out]; exact List.length_pos_iff.2 hk0)
    clear h2 hE2 hqs
    by_cases hlt : k < qn ∧ 0 < kn
    · obtain ⟨hlt, hkp⟩ := hlt
      obtain ⟨p, hp⟩ : ∃ p, r.queue[k]? = some p := ⟨_, List.getElem?_eq_getElem (by rw [HQN.out]; exact hlt)⟩
      obtain ⟨b, o, rfl, hbl, hcell⟩ := HQS.out.2 k (secCells p) (by rw [List.getElem?_map, hp]; rfl)
      have c0 := hcell 0 _ rfl
      have c1 := hcell 1 _ rfl
      rw [Nat.add_zero] at c0
      have hki : (k : Int) < (qn : Int) := by omega
      have hkp' : (0 : Int) < (kn : Int) := by omega
      have hk0 : (0 : Int) ≤ (k : Int) := Int.natCast_nonneg _
      obtain ⟨i, hi⟩ : ∃ i, k % kn = i := ⟨_, rfl⟩
      have hil : i < kn := by rw [← hi]; exact Nat.mod_lt _ hkp
      have hmod : (k : Int) % (kn : Int) = (i : Int) := by rw [← hi]; simp
      have htm : (k : Int).tmod (kn : Int) = (i : Int) := by rw [Int.tmod_eq_emod_of_nonneg (by omega)]; exact hmod
      obtain ⟨kv, hkv⟩ : ∃ kv, keep[i]? = some kv := ⟨_, List.getElem?_eq_getElem (by rw [HKN.out]; exact hil)⟩
      obtain ⟨bk, ok, hAk, _, hck⟩ := HSK.out.2 i [.int .i64 kv] (by rw [List.getElem?_map, hkv]; rfl)
      have c2 := hck 0 _ rfl
      rw [Nat.mul_one, Nat.add_zero] at c2
      subst hAk
      have hki2 : (i : Int) < (kn : Int) := by omega
      have hi0 : (0 : Int) ≤ (i : Int) := Int.natCast_nonneg _
      have hknz : ¬ ((kn : Int) = 0) := by omega
      have HNX := Lib.hid (show surviveAllR keep 0 (r.queue.take (k + 1)) r.files = if kv % 2 = 0 then surviveAllR keep 0 (r.queue.take k) r.files else surviveR (surviveAllR keep 0 (r.queue.take k) r.files) p by
        rw [List.take_add_one, hp]
        show surviveAllR keep 0 (_ ++ [p]) _ = _
        rw [surviveAllR_snoc, surviveStepR, List.length_take, HQN.out, Nat.min_eq_left (by omega), Nat.zero_add, HKN.out, hi, hkv]
        have : keep ≠ [] := fun e => by rw [e] at hkv; simp at hkv
        simp [this])
      have hpq := HQ.out p (List.mem_of_getElem? hp)
      have HSV := Lib.hid (survive_ref H2.out HR.out p.1 p.2 hpq.2.1 hpq.2.2)
      have HLT := Lib.hid hlt
      have hband := and1 kv
      clear hcell hp hck hkv hi hlt hpq
      by_cases h2 : kv % 2 = 0
      · have hb0 : bits BinOp.and IntKind.i64 kv 1 = 0 := by omega
        have HN := Lib.hid h2
        clear hband h2
        go_wp2_with (fail)
        go_roundw
        case rel => exact ⟨k + 1, HLT.out, by go_num, by rw [HNX.out, if_pos HN.out]; exact ⟨_, _, _, _, _, H2.out, HE2.out⟩⟩
        case measure => have := HLT.out; simp [intOf]; omega
      · have hb0 : bits BinOp.and IntKind.i64 kv 1 = 1 := by omega
        have HN := Lib.hid h2
        clear hband h2
        go_wp2_with ((with_reducible refine (HSV.out).mono ?_); rintro e w3 ⟨rfl, h3⟩; have H3 := Lib.hid (h3.from HE2.out); clear h3)
        go_roundw
        case rel => exact ⟨k + 1, HLT.out, by go_num, by rw [HNX.out, if_neg HN.out]; exact H3.out⟩
        case measure => have := HLT.out; simp [intOf]; omega
    · have hall : surviveAllR keep 0 (r.queue.take k) r.files = surviveAllR keep 0 r.queue r.files := by
        rcases HKZ.out with hk0 | hk0
        · rw [hk0, surviveAllR_nil, surviveAllR_nil]
        · rw [List.take_of_length_le (by rw [HQN.out]; omega)]
      rw [hall] at H2 HR
      have hn16 := HR.out.few
      have HFF := Lib.hid (show (surviveAllR keep 0 r.queue r.files).map (fun p => (p.1, ⟨p.2.last, p.2.last⟩)) = (surviveAllR keep 0 r.queue r.files).map lostC from rfl)
      simp only at hn16
      have hfl := H2.out.files
      simp only at hfl
      generalize hfs : surviveAllR keep 0 r.queue r.files = fs at *
      have HFS := Lib.hid hfs
      clear hfs
      obtain ⟨n, hn⟩ : ∃ n, fs.length = n := ⟨_, rfl⟩
      have HN := Lib.hid hn
      rw [hn] at hfl hn16
      have hlo2 := H2.out.loc
      simp only [hn, HQN.out] at hlo2
      clear zB kB fB
      obtain ⟨zB, kB, fB⟩ := hlo2
      have HLB := Lib.hid (Loc.mk zB kB fB)
      have HS := Lib.hid hfl
      have HZB := Lib.hid zB
      obtain ⟨i0, hi0, hi1, hi2, hi3⟩ := info_parts infoFile
      have hex : ¬ (k : Int) < (qn : Int) ∨ ((k : Int) < (qn : Int) ∧ ¬ (0 : Int) < (kn : Int)) := by omega
      clear hall hfl hn HSK hlt
      rcases hex with hx1 | ⟨hx1, hx2⟩
      all_goals
        go_wp2_with (fail)
        clear zB kB fB
        go_loopw [5, 6] (fun v i wr => ∃ (j : Nat) (A2 : Option Addr) (c2 : Nat), j ≤ n ∧ i = .int .i64 (j : Int) ∧ v = .slice A2 j c2 ∧ Below wo.heap.size wo wr ∧
          Own wr wo.heap.size 127 3 (.slice A2 j c2) j (((fs.map lostC).take j).map fileCells)) (fun _ i _ => n - (intOf i).toNat)
        case atStart => exact ⟨0, none, 0, Nat.zero_le _, rfl, rfl, Below.refl _ _, Own.nil_ _ _ _ _⟩
        case round =>
          obtain ⟨j, A2, c2, hj, rfl, rfl, hb, ho⟩ := hrel
          obtain ⟨wp, rfl⟩ : ∃ wp : World, wp = wr := ⟨_, rfl⟩
          have HB := Lib.hid hb
          have HOW := Lib.hid ho
          have HLB1 := Lib.hid (HLB.out.below hb)
          obtain ⟨zB, kB, fB⟩ := HLB1.out
          have hbz := hb.size
          clear hb ho
          by_cases hjn : j < n
          · obtain ⟨p, hp⟩ : ∃ p, fs[j]? = some p := ⟨_, List.getElem?_eq_getElem (by rw [HN.out]; exact hjn)⟩
            obtain ⟨b, o, rfl, hbl, hcell⟩ := HS.out.2 j (fileCells p) (by rw [List.getElem?_map, hp]; rfl)
            have HSB : Hid (∀ w', Below wo.heap.size wo w' → w'.cell? ⟨B, 0, none⟩ = some (.slice (some ⟨b, o, none⟩) n cf2) ∧ w'.cell? ⟨b, o + j * 3, none⟩ = some (.int .i64 p.1) ∧ w'.cell? ⟨b, o + j * 3 + 2, none⟩ = some (.string ⟨p.2.last.toArray⟩)) :=
              Lib.hid fun w' hw => ⟨(HLB.out.below hw).cell 0, (hw.cell (p := ⟨b, o + j * 3, none⟩) hbl).trans (hcell 0 _ rfl), (hw.cell (p := ⟨b, o + j * 3 + 2, none⟩) hbl).trans (hcell 2 _ rfl)⟩
            have hji : (j : Int) < (n : Int) := by omega
            have hj0 : (0 : Int) ≤ (j : Int) := Int.natCast_nonneg _
            have hnx : ((fs.map lostC).take (j + 1)).map fileCells = ((fs.map lostC).take j).map fileCells ++ [fileCells (lostC p)] := by
              rw [List.take_add_one, List.getElem?_map, hp]
              simp
            have HNX := Lib.hid hnx
            have HJN := Lib.hid hjn
            clear hcell hp hnx hjn
            go_wp2_with (fail)
            have hbl2 : b < wp.heap.size := Nat.lt_of_lt_of_le hbl hbz
            have hS1 := HSB.out _ HB.out.drew
            have HS1 := Lib.hid hS1
            clear hS1
            refine wpTill.start (S := fun w' => w'.cell? ⟨B, 0, none⟩ = some (.slice (some ⟨b, o, none⟩) n cf2) ∧ w'.cell? ⟨b, o + j * 3, none⟩ = some (.int .i64 p.1) ∧ w'.cell? ⟨b, o + j * 3 + 2, none⟩ = some (.string ⟨p.2.last.toArray⟩)) (T := fun _ => True) (m := 99) (by kernel_rfl) ?_
            refine wpTill.take (i := 0) (v := ?_) (by rfl) rfl (by kernel_rfl) (by kernel_rfl) (by kernel_rfl) (by exact fun _ _ _ h => h) HS1.out (fun _ => trivial) (Or.inl ⟨by rfl, ?_⟩) ?_
            rotate_left
            · (intro w' hSw; (try dsimp only at hSw); go_simp; (try with_reducible rfl))
            (try simp only [Act.put, List.setIfInBounds_toArray, List.set_cons_zero, List.set_cons_succ, List.getElem_toArray, List.getElem_cons_zero, List.getElem_cons_succ])
            refine wpTill.take (i := 1) (v := ?_) (by rfl) rfl (by kernel_rfl) (by kernel_rfl) (by kernel_rfl) (by exact fun _ _ _ h => h) HS1.out (fun _ => trivial) (Or.inl ⟨by rfl, ?_⟩) ?_
            rotate_left
            · (intro w' hSw; (try dsimp only at hSw); go_simp; (try with_reducible rfl))
            (try simp only [Act.put, List.setIfInBounds_toArray, List.set_cons_zero, List.set_cons_succ, List.getElem_toArray, List.getElem_cons_zero, List.getElem_cons_succ])
            refine wpTill.take (i := 2) (v := ?_) (by rfl) rfl (by kernel_rfl) (by kernel_rfl) (by kernel_rfl) (by exact fun _ _ _ h => h) HS1.out (fun _ => trivial) (Or.inl ⟨by rfl, ?_⟩) ?_
            rotate_left
            · (intro w' hSw; (try dsimp only at hSw); go_simp; (try with_reducible rfl))
            (try simp only [Act.put, List.setIfInBounds_toArray, List.set_cons_zero, List.set_cons_succ, List.getElem_toArray, List.getElem_cons_zero, List.getElem_cons_succ])
            refine wpTill.take (i := 3) (v := ?_) (by rfl) rfl (by kernel_rfl) (by kernel_rfl) (by kernel_rfl) (by exact fun _ _ _ h => h) HS1.out (fun _ => trivial) (Or.inl ⟨by rfl, ?_⟩) ?_
            rotate_left
            · (intro w' hSw; (try dsimp only at hSw); go_simp; (try with_reducible rfl))
            (try simp only [Act.put, List.setIfInBounds_toArray, List.set_cons_zero, List.set_cons_succ, List.getElem_toArray, List.getElem_cons_zero, List.getElem_cons_succ])
            refine wpTill.take (i := 4) (v := ?_) (by rfl) rfl (by kernel_rfl) (by kernel_rfl) (by kernel_rfl) (by exact fun _ _ _ h => h) HS1.out (fun _ => trivial) (Or.inl ⟨by rfl, ?_⟩) ?_
            rotate_left
            · (intro w' hSw; (try dsimp only at hSw); go_simp; (try with_reducible rfl))
            (try simp only [Act.put, List.setIfInBounds_toArray, List.set_cons_zero, List.set_cons_succ, List.getElem_toArray, List.getElem_cons_zero, List.getElem_cons_succ])
            refine wpTill.take (i := 5) (v := ?_) (by rfl) rfl (by kernel_rfl) (by kernel_rfl) (by kernel_rfl) (by exact fun _ _ _ h => h) HS1.out (fun _ => trivial) (Or.inl ⟨by rfl, ?_⟩) ?_
            rotate_left
            · (intro w' hSw; (try dsimp only at hSw); go_simp; (try with_reducible rfl))
            (try simp only [Act.put, List.setIfInBounds_toArray, List.set_cons_zero, List.set_cons_succ, List.getElem_toArray, List.getElem_cons_zero, List.getElem_cons_succ])
            refine wpTill.take (i := 6) (v := ?_) (by rfl) rfl (by kernel_rfl) (by kernel_rfl) (by kernel_rfl) (by exact fun _ _ _ h => h) HS1.out (fun _ => trivial) (Or.inl ⟨by rfl, ?_⟩) ?_
            rotate_left
            · (intro w' hSw; (try dsimp only at hSw); go_simp; (try with_reducible rfl))
            (try simp only [Act.put, List.setIfInBounds_toArray, List.set_cons_zero, List.set_cons_succ, List.getElem_toArray, List.getElem_cons_zero, List.getElem_cons_succ])
            refine wpTill.take (i := 7) (v := ?_) (by rfl) rfl (by kernel_rfl) (by kernel_rfl) (by kernel_rfl) (by exact fun _ _ _ h => h) HS1.out (fun _ => trivial) (Or.inl ⟨by rfl, ?_⟩) ?_
            rotate_left
            · (intro w' hSw; (try dsimp only at hSw); go_simp; (try with_reducible rfl))
            (try simp only [Act.put, List.setIfInBounds_toArray, List.set_cons_zero, List.set_cons_succ, List.getElem_toArray, List.getElem_cons_zero, List.getElem_cons_succ])
            refine wpTill.take (i := 8) (v := ?_) (by rfl) rfl (by kernel_rfl) (by kernel_rfl) (by kernel_rfl) (by exact fun _ _ _ h => h) HS1.out (fun _ => trivial) (Or.inl ⟨by rfl, ?_⟩) ?_
            rotate_left
            · (intro w' hSw; (try dsimp only at hSw); go_simp; (try with_reducible rfl))
            (try simp only [Act.put, List.setIfInBounds_toArray, List.set_cons_zero, List.set_cons_succ, List.getElem_toArray, List.getElem_cons_zero, List.getElem_cons_succ])
            refine wpTill.take (i := 9) (v := ?_) (by rfl) rfl (by kernel_rfl) (by kernel_rfl) (by kernel_rfl) (by exact fun _ _ _ h => h) HS1.out (fun _ => trivial) (Or.inl ⟨by rfl, ?_⟩) ?_
            rotate_left
            · (intro w' hSw; (try dsimp only at hSw); go_simp; (try with_reducible rfl))
            (try simp only [Act.put, List.setIfInBounds_toArray, List.set_cons_zero, List.set_cons_succ, List.getElem_toArray, List.getElem_cons_zero, List.getElem_cons_succ])
            refine wpTill.take (i := 10) (v := ?_) (by rfl) rfl (by kernel_rfl) (by kernel_rfl) (by kernel_rfl) (by exact fun _ _ _ h => h) HS1.out (fun _ => trivial) (Or.inl ⟨by rfl, ?_⟩) ?_
            rotate_left
            · (intro w' hSw; (try dsimp only at hSw); go_simp; (try with_reducible rfl))
            (try simp only [Act.put, List.setIfInBounds_toArray, List.set_cons_zero, List.set_cons_succ, List.getElem_toArray, List.getElem_cons_zero, List.getElem_cons_succ])
            refine wpTill.take (i := 11) (v := ?_) (by rfl) rfl (by kernel_rfl) (by kernel_rfl) (by kernel_rfl) (by exact fun _ _ _ h => h) HS1.out (fun _ => trivial) (Or.inl ⟨by rfl, ?_⟩) ?_
            rotate_left
            · (intro w' hSw; (try dsimp only at hSw); go_simp; (try with_reducible rfl))
            (try simp only [Act.put, List.setIfInBounds_toArray, List.set_cons_zero, List.set_cons_succ, List.getElem_toArray, List.getElem_cons_zero, List.getElem_cons_succ])
            refine wpTill.take (i := 12) (v := ?_) (by rfl) rfl (by kernel_rfl) (by kernel_rfl) (by kernel_rfl) (by exact fun _ _ _ h => h) HS1.out (fun _ => trivial) (Or.inl ⟨by rfl, ?_⟩) ?_
            rotate_left
            · (intro w' hSw; (try dsimp only at hSw); go_simp; (try with_reducible rfl))
            (try simp only [Act.put, List.setIfInBounds_toArray, List.set_cons_zero, List.set_cons_succ, List.getElem_toArray, List.getElem_cons_zero, List.getElem_cons_succ])
            refine wpTill.take (i := 13) (v := ?_) (by rfl) rfl (by kernel_rfl) (by kernel_rfl) (by kernel_rfl) (by exact fun _ _ _ h => h) HS1.out (fun _ => trivial) (Or.inl ⟨by rfl, ?_⟩) ?_
            rotate_left
            · (intro w' hSw; (try dsimp only at hSw); go_simp; (try with_reducible rfl))
            (try simp only [Act.put, List.setIfInBounds_toArray, List.set_cons_zero, List.set_cons_succ, List.getElem_toArray, List.getElem_cons_zero, List.getElem_cons_succ])
            refine wpTill.take (i := 14) (v := ?_) (by rfl) rfl (by kernel_rfl) (by kernel_rfl) (by kernel_rfl) (by exact fun _ _ _ h => h) HS1.out (fun _ => trivial) (Or.inl ⟨by rfl, ?_⟩) ?_
            rotate_left
            · (intro w' hSw; (try dsimp only at hSw); go_simp; (try with_reducible rfl))
            (try simp only [Act.put, List.setIfInBounds_toArray, List.set_cons_zero, List.set_cons_succ, List.getElem_toArray, List.getElem_cons_zero, List.getElem_cons_succ])
            refine wpTill.take (i := 15) (v := ?_) (by rfl) rfl (by kernel_rfl) (by kernel_rfl) (by kernel_rfl) (by exact fun _ _ _ h => h) HS1.out (fun _ => trivial) (Or.inl ⟨by rfl, ?_⟩) ?_
            rotate_left
            · (intro w' hSw; (try dsimp only at hSw); go_simp; (try with_reducible rfl))
            (try simp only [Act.put, List.setIfInBounds_toArray, List.set_cons_zero, List.set_cons_succ, List.getElem_toArray, List.getElem_cons_zero, List.getElem_cons_succ])
            refine wpTill.take (i := 16) (v := ?_) (by rfl) rfl (by kernel_rfl) (by kernel_rfl) (by kernel_rfl) (by exact fun _ _ _ h => h) HS1.out (fun _ => trivial) (Or.inl ⟨by rfl, ?_⟩) ?_
            rotate_left
            · (intro w' hSw; (try dsimp only at hSw); go_simp; (try with_reducible rfl))
            (try simp only [Act.put, List.setIfInBounds_toArray, List.set_cons_zero, List.set_cons_succ, List.getElem_toArray, List.getElem_cons_zero, List.getElem_cons_succ])
            refine wpTill.take (i := 17) (v := ?_) (by rfl) rfl (by kernel_rfl) (by kernel_rfl) (by kernel_rfl) (by exact fun _ _ _ h => h) HS1.out (fun _ => trivial) (Or.inl ⟨by rfl, ?_⟩) ?_
            rotate_left
            · (intro w' hSw; (try dsimp only at hSw); go_simp; (try with_reducible rfl))
            (try simp only [Act.put, List.setIfInBounds_toArray, List.set_cons_zero, List.set_cons_succ, List.getElem_toArray, List.getElem_cons_zero, List.getElem_cons_succ])
            refine wpTill.take (i := 18) (v := ?_) (by rfl) rfl (by kernel_rfl) (by kernel_rfl) (by kernel_rfl) (by exact fun _ _ _ h => h) HS1.out (fun _ => trivial) (Or.inl ⟨by rfl, ?_⟩) ?_
            rotate_left
            · (intro w' hSw; (try dsimp only at hSw); go_simp; (try with_reducible rfl))
            (try simp only [Act.put, List.setIfInBounds_toArray, List.set_cons_zero, List.set_cons_succ, List.getElem_toArray, List.getElem_cons_zero, List.getElem_cons_succ])
            refine wpTill.take (i := 19) (v := ?_) (by rfl) rfl (by kernel_rfl) (by kernel_rfl) (by kernel_rfl) (by exact fun _ _ _ h => h) HS1.out (fun _ => trivial) (Or.inl ⟨by rfl, ?_⟩) ?_
            rotate_left
            · (intro w' hSw; (try dsimp only at hSw); go_simp; (try with_reducible rfl))
            (try simp only [Act.put, List.setIfInBounds_toArray, List.set_cons_zero, List.set_cons_succ, List.getElem_toArray, List.getElem_cons_zero, List.getElem_cons_succ])
            refine wpTill.take (i := 20) (v := ?_) (by rfl) rfl (by kernel_rfl) (by kernel_rfl) (by kernel_rfl) (by exact fun _ _ _ h => h) HS1.out (fun _ => trivial) (Or.inl ⟨by rfl, ?_⟩) ?_
            rotate_left
            · (intro w' hSw; (try dsimp only at hSw); go_simp; (try with_reducible rfl))
            (try simp only [Act.put, List.setIfInBounds_toArray, List.set_cons_zero, List.set_cons_succ, List.getElem_toArray, List.getElem_cons_zero, List.getElem_cons_succ])
            refine wpTill.take (i := 21) (v := ?_) (by rfl) rfl (by kernel_rfl) (by kernel_rfl) (by kernel_rfl) (by exact fun _ _ _ h => h) HS1.out (fun _ => trivial) (Or.inl ⟨by rfl, ?_⟩) ?_
            rotate_left
            · (intro w' hSw; (try dsimp only at hSw); go_simp; (try with_reducible rfl))
            (try simp only [Act.put, List.setIfInBounds_toArray, List.set_cons_zero, List.set_cons_succ, List.getElem_toArray, List.getElem_cons_zero, List.getElem_cons_succ])
            refine wpTill.take (i := 22) (v := ?_) (by rfl) rfl (by kernel_rfl) (by kernel_rfl) (by kernel_rfl) (by exact fun _ _ _ h => h) HS1.out (fun _ => trivial) (Or.inl ⟨by rfl, ?_⟩) ?_
            rotate_left
            · (intro w' hSw; (try dsimp only at hSw); go_simp; (try with_reducible rfl))
            (try simp only [Act.put, List.setIfInBounds_toArray, List.set_cons_zero, List.set_cons_succ, List.getElem_toArray, List.getElem_cons_zero, List.getElem_cons_succ])
            refine wpTill.take (i := 23) (v := ?_) (by rfl) rfl (by kernel_rfl) (by kernel_rfl) (by kernel_rfl) (by exact fun _ _ _ h => h) HS1.out (fun _ => trivial) (Or.inl ⟨by rfl, ?_⟩) ?_
            rotate_left
            · (intro w' hSw; (try dsimp only at hSw); go_simp; (try with_reducible rfl))
            (try simp only [Act.put, List.setIfInBounds_toArray, List.set_cons_zero, List.set_cons_succ, List.getElem_toArray, List.getElem_cons_zero, List.getElem_cons_succ])
            refine wpTill.take (i := 24) (v := ?_) (by rfl) rfl (by kernel_rfl) (by kernel_rfl) (by kernel_rfl) (by exact fun _ _ _ h => h) HS1.out (fun _ => trivial) (Or.inl ⟨by rfl, ?_⟩) ?_
            rotate_left
            · (intro w' hSw; (try dsimp only at hSw); go_simp; (try with_reducible rfl))
            (try simp only [Act.put, List.setIfInBounds_toArray, List.set_cons_zero, List.set_cons_succ, List.getElem_toArray, List.getElem_cons_zero, List.getElem_cons_succ])
            refine wpTill.take (i := 25) (v := ?_) (by rfl) rfl (by kernel_rfl) (by kernel_rfl) (by kernel_rfl) (by exact fun _ _ _ h => h) HS1.out (fun _ => trivial) (Or.inl ⟨by rfl, ?_⟩) ?_
            rotate_left
            · (intro w' hSw; (try dsimp only at hSw); go_simp; (try with_reducible rfl))
            (try simp only [Act.put, List.setIfInBounds_toArray, List.set_cons_zero, List.set_cons_succ, List.getElem_toArray, List.getElem_cons_zero, List.getElem_cons_succ])
            refine wpTill.step (i := 26) (by kernel_rfl) (by rfl) (fun K' hK => ?_)
            replace hK := Lib.hid hK
            go_simp
            have hSa := HSB.out _ (HB.out.alloc hbz (.cells #[.int .i64 p.1, .string ⟨p.2.last.toArray⟩, .string ⟨p.2.last.toArray⟩] 127)).drew
            have HSA := Lib.hid hSa
            clear hSa
            refine hK.out _ _ HSA.out (fun _ => trivial) ?_
            clear hK K'
            (try simp only [Act.put, List.setIfInBounds_toArray, List.set_cons_zero, List.set_cons_succ, List.getElem_toArray, List.getElem_cons_zero, List.getElem_cons_succ])
            refine wpTill.step (i := 27) (by kernel_rfl) (by rfl) (fun K' hK => ?_)
            replace hK := Lib.hid hK
            refine step_append_sl _ (by rfl) (.tmp 58) (.tmp 84) _ (by rfl) wo.heap.size 127 i0 _ 3 40 Tryz.underlying95 hi0 hi1 hi2 hi3 rfl (by omega) (.slice A2 j c2) j _ (by rfl) ((HOW.out.alloc _).drew) (some ⟨wp.heap.size, 0, none⟩) 1 1 [fileCells (lostC p)] (by rfl) (sl_file wp (lostC p) _).drew (by simp [fileCells]) (file_one (lostC p)) (by simp only [maxLen]; omega) (by omega) (by show _ ≤ (wp.alloc _).heap.size; simp only [World.size_alloc]; omega) ?_
            intro A4 c4 w4 hown4 hg4 hat4
            have hb4 := ((HOW.out.alloc (.cells #[.int .i64 p.1, .string ⟨p.2.last.toArray⟩, .string ⟨p.2.last.toArray⟩] 127)).drew).below_grown (B := wo.heap.size) (Nat.le_refl _) (by show _ ≤ (wp.alloc _).heap.size; simp only [World.size_alloc]; omega) (HB.out.alloc hbz (.cells #[.int .i64 p.1, .string ⟨p.2.last.toArray⟩, .string ⟨p.2.last.toArray⟩] 127)).drew hg4
            have HB4 := Lib.hid hb4
            rw [← HNX.out] at hown4
            have HOW4 := Lib.hid hown4
            clear hb4 hown4 hg4 hat4
            refine hK.out _ _ (HSB.out _ HB4.out) (fun _ => trivial) ?_
            clear hK K'
            (try simp only [Act.put, List.setIfInBounds_toArray, List.set_cons_zero, List.set_cons_succ, List.getElem_toArray, List.getElem_cons_zero, List.getElem_cons_succ])
            refine wpTill.take (i := 28) (v := ?_) (by rfl) rfl (by kernel_rfl) (by kernel_rfl) (by kernel_rfl) (by exact fun _ _ _ h => h) (HSB.out _ HB4.out) (fun _ => trivial) (Or.inl ⟨by rfl, ?_⟩) ?_
            rotate_left
            · (intro w' hSw; (try dsimp only at hSw); go_simp; (try with_reducible rfl))
            (try simp only [Act.put, List.setIfInBounds_toArray, List.set_cons_zero, List.set_cons_succ, List.getElem_toArray, List.getElem_cons_zero, List.getElem_cons_succ])
            refine wpTill.stop (by kernel_rfl) ?_ _
            clear zB kB fB
            go_wp2_with (fail)
            go_roundw
            case rel => exact ⟨j + 1, A4, c4, HJN.out, by go_num, rfl, HB4.out, HOW4.out⟩
            case measure => have := HJN.out; simp [intOf]; omega
          · obtain rfl : j = n := by omega
            have hji : ¬ (j : Int) < (j : Int) := by omega
            go_wp2_with (fail)
            go_end0
            rw [HFS.out, HFF.out]
            have hown := HOW.out
            rw [List.take_of_length_le (by rw [List.length_map, HN.out]; exact Nat.le_refl _)] at hown
            exact ⟨rfl, (RefAt.crashed H2.out HB.out hown).from HE2.out⟩
end
end Go.Proofs.YtjncmlglhegnaaaGreatDoor
namespace Go.Proofs.YtjncmlglhegnaaaGreatDoor
open Go.RowKit

theorem addR_keep (r : DV) (f a : Int) (s : List UInt8) : (addR r f a s).keep = r.keep := by unfold addR; split <;> rfl
section
variable {w w' : World} {F G : Nat → Prop} {B : Nat} {r : DV} {FA : Option Addr} {cf : Nat} {Q : Option Addr} {cq : Nat} {K : Option Addr} {ck : Nat}
theorem Crash_own (h : RefAt w F B r FA cf Q cq K ck) (hok : ROk r) :
    Calls Tryz.prog 24 #[.pointer (some ⟨B, 0, none⟩), .slice K r.keep.length ck] w fun e w' => e = .returned (.tuple #[]) ∧ RefTo F w B (crashR r r.keep) w' :=
  Crash_ref h hok r.keep _ rfl K ck (by have := hok.ok.klen; omega) fun _ _ r' _ _ _ _ h' hk _ => by have := h'.keep; rw [hk] at this; exact this
set_option maxRecDepth 100000 in
set_option maxHeartbeats 2000000 in
theorem comes_ref (h : RefAt w F B r FA cf Q cq K ck) (hok : ROk r) (f at_ : Int) (s : List UInt8) (hs : s.length ≤ 140737488351232) (hat : inI at_) :
    Calls Tryz.prog 158 #[.pointer (some ⟨B, 0, none⟩), .int .i64 f, .int .i64 at_, .string ⟨s.toArray⟩] w fun e w' => e = .returned (.tuple #[]) ∧ RefTo F w B (comesR r f at_ s) w' := by
  have har := hok.ok.armed
  have HR := Lib.hid (RefTo.refl h)
  have hz := h.loc
  by_cases hd : r.down = true
  · have e : comesR r f at_ s = r := by unfold comesR; rw [if_pos (Or.inl hd)]
    rw [e]
    rw [hd] at hz
    obtain ⟨zB, kB, fB⟩ := hz
    clear h hok hd e
    go_enter Tryz.func158, Tryz.ntmps158
    go_wp2_with (fail)
    exact bodyPost_ret (v := .tuple #[]) (by simp [results, Tryz.results158, go_sem]) rfl ⟨rfl, HR.out⟩
  have hd0 : r.down = false := by simpa using hd
  rw [hd0] at hz
  by_cases ha0 : r.armed = 0
  · have e : comesR r f at_ s = r := by unfold comesR; rw [if_pos (Or.inr ha0)]
    rw [e]
    rw [ha0] at hz
    obtain ⟨zB, kB, fB⟩ := hz
    clear h hok hd e hd0 ha0
    go_enter Tryz.func158, Tryz.ntmps158
    go_wp2_with (fail)
    exact bodyPost_ret (v := .tuple #[]) (by simp [results, Tryz.results158, go_sem]) rfl ⟨rfl, HR.out⟩
  have haz : (r.armed == 0) = false := by simpa using ha0
  have hw : IntKind.i64.wrap (r.armed - 1) = r.armed - 1 := IntWalk.i64_in _ (by omega)
  have H1 := Lib.hid (h.setField r.lost (r.armed - 1) r.down (i := 4) (v := .int .i64 (r.armed - 1)) (by simp))
  have HE : Hid (Ext F F w (w.setCell ⟨B, 4, none⟩ (.int .i64 (r.armed - 1)))) := Ext.same (Keeps.setCell (p := ⟨B, 4, none⟩) h.fB (.int .i64 (r.armed - 1)))
  have hok1 := hok.turn ha0
  have HO1 := Lib.hid hok1
  obtain ⟨zB, kB, fB⟩ := hz
  by_cases ha1 : 0 < r.armed - 1
  · have e : comesR r f at_ s = { r with armed := r.armed - 1 } := by unfold comesR; rw [if_neg (by simp [hd0, ha0]), if_pos ha1]
    rw [e]
    clear h hok hd e hd0 ha0
    go_enter Tryz.func158, Tryz.ntmps158
    go_wp2_with (fail)
    exact bodyPost_ret (v := .tuple #[]) (by simp [results, Tryz.results158, go_sem]) rfl ⟨rfl, (RefTo.refl H1.out).from HE.out⟩
  have e : comesR r f at_ s = crashR (if 0 ≤ f ∧ f ≤ 15 ∧ fitsR at_ s = true then addR { r with armed := r.armed - 1 } f at_ s else { r with armed := r.armed - 1 }) r.keep := by
    unfold comesR; rw [if_neg (by simp [hd0, ha0]), if_neg ha1]
  rw [e]
  have HC := Lib.hid (Crash_own H1.out hok1)
  have HFT := Lib.hid (fun W x hx => fits_ref W at_ s hs hat x hx)
  unfold strV at HFT
  have hl1 := Lib.hid (h.loc.set_ 4 (.int .i64 (r.armed - 1)))
  generalize hr1 : ({ r with armed := r.armed - 1 } : DV) = r1 at *
  have HKE : Hid (r1.keep = r.keep) := by show r1.keep = r.keep; rw [← hr1]
  have HAD : Hid (∀ a : Nat, at_ = (a : Int) → 0 ≤ f → f ≤ 15 → a + s.length ≤ 16777216 → Calls Tryz.prog 195 #[.pointer (some ⟨B, 0, none⟩), .int .i64 f, .int .i64 a, .string ⟨s.toArray⟩] (w.setCell ⟨B, 4, none⟩ (.int .i64 (r.armed - 1))) fun e w' => e = .returned (.tuple #[]) ∧ RefTo F (w.setCell ⟨B, 4, none⟩ (.int .i64 (r.armed - 1))) B (addR r1 f a s) w') :=
    Lib.hid fun a _ h0 h1 h2 => add_ref H1.out hok1 f a s h0 (by omega) h2
  clear h hok hd hd0 ha0 e hr1 hok1
  rw [HKE.out] at HC
  by_cases hc : 0 ≤ f ∧ f ≤ 15 ∧ fitsR at_ s = true
  · rw [if_pos hc]
    obtain ⟨hf0, hf1, hfi⟩ := hc
    have hft := ROk.fits hfi
    obtain ⟨a, rfl⟩ : ∃ a : Nat, at_ = (a : Int) := ⟨at_.toNat, by omega⟩
    have HF1 := Lib.hid (HFT.out (w.setCell ⟨B, 4, none⟩ (.int .i64 (r.armed - 1))) true hfi)
    have HA1 := Lib.hid (HAD.out a rfl hf0 hf1 (by omega))
    have HOA := Lib.hid (HO1.out.add hf0 (by omega) hfi)
    clear hfi hft HAD HFT
    go_enter Tryz.func158, Tryz.ntmps158
    go_wp2_with (first
      | ((with_reducible refine (HF1.out).mono ?_); rintro _ w9 ⟨rfl, hw9⟩; obtain rfl := hw9.symm)
      | ((with_reducible refine (HA1.out).mono ?_); rintro e w2 ⟨rfl, F2, ⟨FA2, cf2, Q2, cq2, K2, ck2, h2⟩, hE2⟩; have H2 := Lib.hid h2; have HE2 := Lib.hid hE2; have hl2 := h2.loc; rw [addR_keep, HKE.out] at hl2; obtain ⟨z2, k2, f2⟩ := hl2; have hC2 := Crash_own h2 HOA.out; rw [addR_keep, HKE.out] at hC2; have HC2 := Lib.hid hC2; clear h2 hE2 hC2 zB kB fB)
      | ((with_reducible refine (HC2.out).mono ?_); rintro e w3 ⟨rfl, h3⟩; have H3 := Lib.hid h3; clear h3))
    go_end0
    exact ⟨rfl, (H3.out.from HE2.out).from HE.out⟩
  · rw [if_neg hc]
    by_cases hf0 : f < 0
    · clear hc
      go_enter Tryz.func158, Tryz.ntmps158
      go_wp2_with ((with_reducible refine (HC.out).mono ?_); rintro e w3 ⟨rfl, h3⟩; have H3 := Lib.hid h3; clear h3)
      go_end0
      exact ⟨rfl, H3.out.from HE.out⟩
    · have hf0' : 0 ≤ f := by omega
      by_cases hf1 : 15 < f
      · clear hc hf0
        go_enter Tryz.func158, Tryz.ntmps158
        go_wp2_with ((with_reducible refine (HC.out).mono ?_); rintro e w3 ⟨rfl, h3⟩; have H3 := Lib.hid h3; clear h3)
        go_end0
        exact ⟨rfl, H3.out.from HE.out⟩
      · have hf1' : f ≤ 15 := by omega
        have HF1 := Lib.hid (HFT.out (w.setCell ⟨B, 4, none⟩ (.int .i64 (r.armed - 1))) false (by
          rw [Bool.eq_false_iff]
          exact fun c => hc ⟨hf0', hf1', c⟩))
        clear hc hf0 hf1
        go_enter Tryz.func158, Tryz.ntmps158
        go_wp2_with (first
          | ((with_reducible refine (HF1.out).mono ?_); rintro _ w9 ⟨rfl, hw9⟩; obtain rfl := hw9.symm)
          | ((with_reducible refine (HC.out).mono ?_); rintro e w3 ⟨rfl, h3⟩; have H3 := Lib.hid h3; clear h3))
        go_end0
        exact ⟨rfl, H3.out.from HE.out⟩
end
end Go.Proofs.YtjncmlglhegnaaaGreatDoor
namespace Go.Proofs.YtjncmlglhegnaaaGreatDoor
open Go.RowKit

section
variable {w w' : World} {F G : Nat → Prop} {B : Nat} {r : DV} {FA : Option Addr} {cf : Nat} {Q : Option Addr} {cq : Nat} {K : Option Addr} {ck : Nat}
set_option maxRecDepth 100000 in
set_option maxHeartbeats 2000000 in
theorem Write_ref (h : RefAt w F B r FA cf Q cq K ck) (hok : ROk r) (f at_ : Int) (s : List UInt8) (hs : s.length ≤ 140737488351232) (hat : inI at_) :
    Calls Tryz.prog 176 #[.pointer (some ⟨B, 0, none⟩), .int .i64 f, .int .i64 at_, .string ⟨s.toArray⟩] w fun e w' => e = .returned (.int .i64 (WriteR r f at_ s).2) ∧ RefTo F w B (WriteR r f at_ s).1 w' := by
  rw [WriteR_last]
  have HC := Lib.hid (comes_ref h hok f at_ s hs hat)
  have HO := Lib.hid (hok.comes f at_ s)
  have HFT := Lib.hid (fun W x hx => fits_ref W at_ s hs hat x hx)
  unfold strV at HFT
  generalize comesR r f at_ s = r1 at *
  clear h hok
  unfold lastR
  by_cases hm : mayF r1 f = 0
  · rw [if_neg (by simp [hm])]
    have HM0 := Lib.hid hm
    by_cases ha : at_ < 0
    · rw [if_pos ha]
      clear hm
      go_enter Tryz.func176, Tryz.ntmps176
      go_wp2_with (first
        | ((with_reducible refine (HC.out).mono ?_); rintro e w1 ⟨rfl, F1, ⟨FA1, cf1, Q1, cq1, K1, ck1, h1⟩, hE1⟩; have H1 := Lib.hid h1; have HE1 := Lib.hid hE1; have HM := Lib.hid (may_ref h1 f 0 HM0.out); clear h1 hE1)
        | ((with_reducible refine (HM.out).mono ?_); rintro _ w9 ⟨rfl, hw9⟩; obtain rfl := hw9.symm))
      go_ret
      exact ⟨rfl, (RefTo.refl H1.out).from HE1.out⟩
    · rw [if_neg ha]
      have ha' : 0 ≤ at_ := by omega
      by_cases hfi : fitsR at_ s = false
      · rw [if_pos hfi]
        have HF1 := Lib.hid (fun W => HFT.out W false hfi)
        clear hm ha hfi
        go_enter Tryz.func176, Tryz.ntmps176
        go_wp2_with (first
          | ((with_reducible refine (HC.out).mono ?_); rintro e w1 ⟨rfl, F1, ⟨FA1, cf1, Q1, cq1, K1, ck1, h1⟩, hE1⟩; have H1 := Lib.hid h1; have HE1 := Lib.hid hE1; have HM := Lib.hid (may_ref h1 f 0 HM0.out); clear h1 hE1)
          | ((with_reducible refine (HM.out).mono ?_); rintro _ w9 ⟨rfl, hw9⟩; obtain rfl := hw9.symm)
          | ((with_reducible refine (HF1.out _).mono ?_); rintro _ w9 ⟨rfl, hw9⟩; obtain rfl := hw9.symm))
        go_ret
        exact ⟨rfl, (RefTo.refl H1.out).from HE1.out⟩
      · rw [if_neg hfi]
        have hft : fitsR at_ s = true := by simpa using hfi
        have HF1 := Lib.hid (fun W => HFT.out W true hft)
        have hrg := ROk.may_rng (r := r1) (f := f) (by simp [hm])
        have hfb := ROk.fits hft
        obtain ⟨a, rfl⟩ : ∃ a : Nat, at_ = (a : Int) := ⟨at_.toNat, by omega⟩
        have HAD := Lib.hid (fun W F FA cf Q cq K ck (h : RefAt W F B r1 FA cf Q cq K ck) => add_ref h HO.out f a s hrg.1 hrg.2 (by omega))
        clear hm ha hfi hft hrg hfb
        go_enter Tryz.func176, Tryz.ntmps176
        go_wp2_with (first
          | ((with_reducible refine (HC.out).mono ?_); rintro e w1 ⟨rfl, F1, ⟨FA1, cf1, Q1, cq1, K1, ck1, h1⟩, hE1⟩; have H1 := Lib.hid h1; have HE1 := Lib.hid hE1; have HM := Lib.hid (may_ref h1 f 0 HM0.out); clear h1 hE1)
          | ((with_reducible refine (HM.out).mono ?_); rintro _ w9 ⟨rfl, hw9⟩; obtain rfl := hw9.symm)
          | ((with_reducible refine (HF1.out _).mono ?_); rintro _ w9 ⟨rfl, hw9⟩; obtain rfl := hw9.symm)
          | ((with_reducible refine (HAD.out _ _ _ _ _ _ _ _ H1.out).mono ?_); rintro e w2 ⟨rfl, h2⟩; have H2 := Lib.hid h2; clear h2))
        go_ret
        exact ⟨rfl, H2.out.from HE1.out⟩
  · rw [if_pos hm]
    have h1 : (mayF r1 f == 0) = false := by simpa using hm
    have h2 : (mayF r1 f != 0) = true := by simpa using hm
    have HMX := Lib.hid (fun W F FA cf Q cq K ck (h : RefAt W F B r1 FA cf Q cq K ck) => may_ref h f _ rfl)
    clear hm
    generalize mayF r1 f = m at *
    go_enter Tryz.func176, Tryz.ntmps176
    go_wp2_with (first
      | ((with_reducible refine (HC.out).mono ?_); rintro e w1 ⟨rfl, F1, ⟨FA1, cf1, Q1, cq1, K1, ck1, h1⟩, hE1⟩; have H1 := Lib.hid h1; have HE1 := Lib.hid hE1; have HM := Lib.hid (HMX.out _ _ _ _ _ _ _ _ h1); clear h1 hE1)
      | ((with_reducible refine (HM.out).mono ?_); rintro _ w9 ⟨rfl, hw9⟩; obtain rfl := hw9.symm))
    go_ret
    exact ⟨rfl, (RefTo.refl H1.out).from HE1.out⟩
set_option maxRecDepth 100000 in
set_option maxHeartbeats 2000000 in
theorem Sync_ref (h : RefAt w F B r FA cf Q cq K ck) (hok : ROk r) (f : Int) :
    Calls Tryz.prog 112 #[.pointer (some ⟨B, 0, none⟩), .int .i64 f] w fun e w' => e = .returned (.int .i64 (SyncR r f).2) ∧ RefTo F w B (SyncR r f).1 w' := by
  have HC := Lib.hid (comes_ref h hok 0 0 [] (by simp) (by unfold inI; omega))
  have HO := Lib.hid (hok.comes 0 0 [])
  unfold SyncR
  generalize comesR r 0 0 [] = r1 at *
  clear h hok
  dsimp only
  by_cases hm : mayF r1 f = 0
  · rw [if_neg (by simp [hm])]
    have HM0 := Lib.hid hm
    have hrg := ROk.may_rng (r := r1) (f := f) (by simp [hm])
    have hlo := HO.out.ok.lost
    by_cases hl : 0 < r1.lost
    · rw [if_pos hl]
      have hw : IntKind.i64.wrap (r1.lost - 1) = r1.lost - 1 := IntWalk.i64_in _ (by omega)
      clear hm hrg
      go_enter Tryz.func112, Tryz.ntmps112
      go_wp2_with (first
        | ((with_reducible refine (HC.out).mono ?_); rintro e w1 ⟨rfl, F1, ⟨FA1, cf1, Q1, cq1, K1, ck1, h1⟩, hE1⟩; have H1 := Lib.hid h1; have HE1 := Lib.hid hE1; have HM := Lib.hid (may_ref h1 f 0 HM0.out); obtain ⟨zB, kB, fB⟩ := h1.loc; clear h1 hE1)
        | ((with_reducible refine (HM.out).mono ?_); rintro _ w9 ⟨rfl, hw9⟩; obtain rfl := hw9.symm))
      go_ret
      exact ⟨rfl, (RefTo.refl (H1.out.setField (r1.lost - 1) r1.armed r1.down (i := 2) (v := .int .i64 (r1.lost - 1)) (by simp))).from (HE1.out.trans (Ext.same (Keeps.setCell (p := ⟨B, 2, none⟩) H1.out.fB _)))⟩
    · rw [if_neg hl]
      obtain ⟨y, hy⟩ : ∃ y, r1.file f = y := ⟨_, rfl⟩
      rw [hy]
      have hpn := fun w => part_now f (.string ⟨y.now.toArray⟩) (.string ⟨y.last.toArray⟩) w
      have HG := Lib.hid (fun W F FA cf Q cq K ck (h : RefAt W F B r1 FA cf Q cq K ck) => get_ref h HO.out.few f y hy)
      have HSE := Lib.hid (fun W F FA cf Q cq K ck (h : RefAt W F B r1 FA cf Q cq K ck) => settle_ref h HO.out.few HO.out.len f y.now)
      have hl' : r1.lost ≤ 0 := by omega
      clear hm hrg hy
      go_enter Tryz.func112, Tryz.ntmps112
      go_wp2_with (first
        | ((with_reducible refine (HC.out).mono ?_); rintro e w1 ⟨rfl, F1, ⟨FA1, cf1, Q1, cq1, K1, ck1, h1⟩, hE1⟩; have H1 := Lib.hid h1; have HE1 := Lib.hid hE1; have HM := Lib.hid (may_ref h1 f 0 HM0.out); obtain ⟨zB, kB, fB⟩ := h1.loc; clear h1 hE1)
        | ((with_reducible refine (HM.out).mono ?_); rintro _ w9 ⟨rfl, hw9⟩; obtain rfl := hw9.symm)
        | ((with_reducible refine (HG.out _ _ _ _ _ _ _ _ H1.out).mono ?_); rintro e w2 ⟨rfl, hb2⟩; have HB2 := Lib.hid hb2; clear hb2)
        | ((with_reducible refine (HSE.out _ _ _ _ _ _ _ _ (H1.out.below HB2.out)).mono ?_); rintro e w3 ⟨rfl, h3⟩; have H3 := Lib.hid h3; clear h3))
      go_ret
      exact ⟨rfl, H3.out.from (HE1.out.trans (Ext.same (Keeps.below HB2.out)))⟩
  · rw [if_pos hm]
    have h1 : (mayF r1 f == 0) = false := by simpa using hm
    have h2 : (mayF r1 f != 0) = true := by simpa using hm
    have HMX := Lib.hid (fun W F FA cf Q cq K ck (h : RefAt W F B r1 FA cf Q cq K ck) => may_ref h f _ rfl)
    clear hm
    generalize mayF r1 f = m at *
    go_enter Tryz.func112, Tryz.ntmps112
    go_wp2_with (first
      | ((with_reducible refine (HC.out).mono ?_); rintro e w1 ⟨rfl, F1, ⟨FA1, cf1, Q1, cq1, K1, ck1, h1⟩, hE1⟩; have H1 := Lib.hid h1; have HE1 := Lib.hid hE1; have HM := Lib.hid (HMX.out _ _ _ _ _ _ _ _ h1); clear h1 hE1)
      | ((with_reducible refine (HM.out).mono ?_); rintro _ w9 ⟨rfl, hw9⟩; obtain rfl := hw9.symm))
    go_ret
    exact ⟨rfl, (RefTo.refl H1.out).from HE1.out⟩
set_option maxRecDepth 100000 in
set_option maxHeartbeats 2000000 in
theorem Trunc_ref (h : RefAt w F B r FA cf Q cq K ck) (hok : ROk r) (f n : Int) :
    Calls Tryz.prog 117 #[.pointer (some ⟨B, 0, none⟩), .int .i64 f, .int .i64 n] w fun e w' => e = .returned (.int .i64 (TruncR r f n).2) ∧ RefTo F w B (TruncR r f n).1 w' := by
  have HC := Lib.hid (comes_ref h hok 0 0 [] (by simp) (by unfold inI; omega))
  have HO := Lib.hid (hok.comes 0 0 [])
  unfold TruncR
  generalize comesR r 0 0 [] = r1 at *
  clear h hok
  dsimp only
  by_cases hm : mayF r1 f = 0
  · rw [if_neg (by simp [hm])]
    have HM0 := Lib.hid hm
    obtain ⟨y, hy⟩ : ∃ y, r1.file f = y := ⟨_, rfl⟩
    rw [hy]
    have hpn := fun w => part_now f (.string ⟨y.now.toArray⟩) (.string ⟨y.last.toArray⟩) w
    have hsl := strV_len y.now
    have hyl := HO.out.file f
    rw [hy] at hyl
    have HG := Lib.hid (fun W F FA cf Q cq K ck (h : RefAt W F B r1 FA cf Q cq K ck) => get_ref h HO.out.few f y hy)
    clear hm hy
    by_cases hc : n < 0
    · rw [if_pos (Or.inl hc)]
      go_enter Tryz.func117, Tryz.ntmps117
      go_wp2_with (first
        | ((with_reducible refine (HC.out).mono ?_); rintro e w1 ⟨rfl, F1, ⟨FA1, cf1, Q1, cq1, K1, ck1, h1⟩, hE1⟩; have H1 := Lib.hid h1; have HE1 := Lib.hid hE1; have HM := Lib.hid (may_ref h1 f 0 HM0.out); clear h1 hE1)
        | ((with_reducible refine (HM.out).mono ?_); rintro _ w9 ⟨rfl, hw9⟩; obtain rfl := hw9.symm)
        | ((with_reducible refine (HG.out _ _ _ _ _ _ _ _ H1.out).mono ?_); rintro e w2 ⟨rfl, hb2⟩; have HB2 := Lib.hid hb2; clear hb2))
      go_ret
      exact ⟨rfl, (RefTo.refl (H1.out.below HB2.out)).from (HE1.out.trans (Ext.same (Keeps.below HB2.out)))⟩
    · have hc' : 0 ≤ n := by omega
      by_cases hc2 : (y.now.length : Int) < n
      · rw [if_pos (Or.inr hc2)]
        go_enter Tryz.func117, Tryz.ntmps117
        go_wp2_with (first
          | ((with_reducible refine (HC.out).mono ?_); rintro e w1 ⟨rfl, F1, ⟨FA1, cf1, Q1, cq1, K1, ck1, h1⟩, hE1⟩; have H1 := Lib.hid h1; have HE1 := Lib.hid hE1; have HM := Lib.hid (may_ref h1 f 0 HM0.out); clear h1 hE1)
          | ((with_reducible refine (HM.out).mono ?_); rintro _ w9 ⟨rfl, hw9⟩; obtain rfl := hw9.symm)
          | ((with_reducible refine (HG.out _ _ _ _ _ _ _ _ H1.out).mono ?_); rintro e w2 ⟨rfl, hb2⟩; have HB2 := Lib.hid hb2; clear hb2))
        go_ret
        exact ⟨rfl, (RefTo.refl (H1.out.below HB2.out)).from (HE1.out.trans (Ext.same (Keeps.below HB2.out)))⟩
      · rw [if_neg (by omega)]
        have hc3 : n ≤ (y.now.length : Int) := by omega
        have hex := extract_list y.now 0 n.toNat
        rw [List.drop_zero, Nat.sub_zero] at hex
        have HSE := Lib.hid (fun W F FA cf Q cq K ck (h : RefAt W F B r1 FA cf Q cq K ck) => settle_ref h HO.out.few HO.out.len f (y.now.take n.toNat))
        clear hc hc2
        go_enter Tryz.func117, Tryz.ntmps117
        go_wp2_with (first
          | ((with_reducible refine (HC.out).mono ?_); rintro e w1 ⟨rfl, F1, ⟨FA1, cf1, Q1, cq1, K1, ck1, h1⟩, hE1⟩; have H1 := Lib.hid h1; have HE1 := Lib.hid hE1; have HM := Lib.hid (may_ref h1 f 0 HM0.out); clear h1 hE1)
          | ((with_reducible refine (HM.out).mono ?_); rintro _ w9 ⟨rfl, hw9⟩; obtain rfl := hw9.symm)
          | ((with_reducible refine (HG.out _ _ _ _ _ _ _ _ H1.out).mono ?_); rintro e w2 ⟨rfl, hb2⟩; have HB2 := Lib.hid hb2; clear hb2)
          | ((with_reducible refine (HSE.out _ _ _ _ _ _ _ _ (H1.out.below HB2.out)).mono ?_); rintro e w3 ⟨rfl, h3⟩; have H3 := Lib.hid h3; clear h3))
        go_ret
        exact ⟨rfl, H3.out.from (HE1.out.trans (Ext.same (Keeps.below HB2.out)))⟩
  · rw [if_pos hm]
    have h1 : (mayF r1 f == 0) = false := by simpa using hm
    have h2 : (mayF r1 f != 0) = true := by simpa using hm
    have HMX := Lib.hid (fun W F FA cf Q cq K ck (h : RefAt W F B r1 FA cf Q cq K ck) => may_ref h f _ rfl)
    clear hm
    generalize mayF r1 f = m at *
    go_enter Tryz.func117, Tryz.ntmps117
    go_wp2_with (first
      | ((with_reducible refine (HC.out).mono ?_); rintro e w1 ⟨rfl, F1, ⟨FA1, cf1, Q1, cq1, K1, ck1, h1⟩, hE1⟩; have H1 := Lib.hid h1; have HE1 := Lib.hid hE1; have HM := Lib.hid (HMX.out _ _ _ _ _ _ _ _ h1); clear h1 hE1)
      | ((with_reducible refine (HM.out).mono ?_); rintro _ w9 ⟨rfl, hw9⟩; obtain rfl := hw9.symm))
    go_ret
    exact ⟨rfl, (RefTo.refl H1.out).from HE1.out⟩
end
end Go.Proofs.YtjncmlglhegnaaaGreatDoor
