/- Words for maps: a range loop under way; a store and a delete at a key that is there; a copy. -/
/- disk: New, a disk with its memory, what a call may write. -/
import Derived.Test.YtjncmlglhegnaaaGreatDoorDiskP
import Derived.Maps.RangeRun
import Derived.Maps.RangeWalk
import Derived.Test.YtjncmlglhegnaaaGreatDoorDiskP2
import Derived.Carry
namespace Go.Proofs.YtjncmlglhegnaaaGreatDoor
open Go.RowKit
open Go.ChangeMaps (setBlock)

section
variable {κ ν : Type} [DecidableEq κ] {enc : κ → Value} {ev : ν → Value}
/-- Block b is a map, block r an iterator over it: entries, each with 'still to come'. -/
def RangeAt (enc : κ → Value) (ev : ν → Value) (w : World) (b r : Nat) (l : List (κ × ν × Bool)) : Prop :=
  ∃ (arr : Array MapEntry) (clock since c0 : Nat) (seen : Array Nat),
    w.heap[b]? = some (.map arr clock) ∧ w.heap[r]? = some (.mapIter (some b) since seen c0) ∧
    arr.toList.map (fun e => (e.key, e.val, !seen.contains e.born)) = l.map (fun p => (enc p.1, ev p.2.1, p.2.2)) ∧
    (arr.toList.map (·.born)).Nodup ∧ (∀ e ∈ arr.toList, e.born < since) ∧ since ≤ c0 ∧ since ≤ clock
variable {w w' : World} {b r : Nat} {l : List (κ × ν × Bool)}
omit [DecidableEq κ] in
theorem RangeAt.map (h : RangeAt enc ev w b r l) : MapAt w b (entV enc ev (l.map fun p => (p.1, p.2.1))) := by
  obtain ⟨arr, clock, since, c0, seen, hb, hr, he, hn, hs, h1, h2⟩ := h
  refine ⟨arr, clock, hb, ?_, hn, fun e he' => by have := hs e he'; omega⟩
  have h3 : (arr.toList.map (fun e => (e.key, e.val, !seen.contains e.born))).map (fun q => (q.1, q.2.1)) = (l.map (fun p => (enc p.1, ev p.2.1, p.2.2))).map (fun q => (q.1, q.2.1)) := by rw [he]
  simpa [entV, Function.comp_def] using h3
omit [DecidableEq κ] in
theorem RangeAt.lt (h : RangeAt enc ev w b r l) : b < w.heap.size ∧ r < w.heap.size ∧ b ≠ r := by
  obtain ⟨arr, clock, since, c0, seen, hb, hr, _⟩ := h
  refine ⟨(Array.getElem?_eq_some_iff.1 hb).1, (Array.getElem?_eq_some_iff.1 hr).1, ?_⟩
  rintro rfl
  rw [hb] at hr
  cases hr
omit [DecidableEq κ] in
theorem RangeAt.left (h : RangeAt enc ev w b r l) : w.rangeLeft b r = (l.filter fun p => p.2.2).length := by
  obtain ⟨arr, clock, since, c0, seen, hb, hr, he, hn, hs, h1, h2⟩ := h
  simp only [World.rangeLeft, hb, hr]
  have h3 : ((arr.toList.map (fun e => (e.key, e.val, !seen.contains e.born))).filter fun q => q.2.2).length = ((l.map (fun p => (enc p.1, ev p.2.1, p.2.2))).filter fun q => q.2.2).length := by rw [he]
  rw [List.filter_map, List.filter_map, List.length_map, List.length_map] at h3
  have h4 : (leftOf arr seen).size = (arr.toList.filter fun e => !seen.contains e.born).length := by
    unfold leftOf
    rw [← Array.toList_filter, Array.length_toList]
  rw [h4]
  simpa [Function.comp_def] using h3
omit [DecidableEq κ] in
theorem RangeAt.grown {row : Option Nat} (h : RangeAt enc ev w b r l) (hg : w.grownBy w' row) (hb : row ≠ some b) (hr : row ≠ some r) : RangeAt enc ev w' b r l := by
  have hl := h.lt
  obtain ⟨arr, clock, since, c0, seen, h1, h2, h3⟩ := h
  exact ⟨arr, clock, since, c0, seen, by rw [hg.block b hl.1 (fun e => hb e.symm)]; exact h1, by rw [hg.block r hl.2.1 (fun e => hr e.symm)]; exact h2, h3⟩
omit [DecidableEq κ] in
/-- 'range m' -/
theorem run_rangeA {P : Program} {mt kt et : TypeId} (hm : P.underlying mt = some (.map kt et)) {es : List (κ × ν)} (h : MapAt w b (entV enc ev es)) :
    ∃ w', (Instr.range mt (.map (some b))).run P w = .ok (.pointer (some ⟨w.heap.size, 0, none⟩)) w' ∧ RangeAt enc ev w' b w.heap.size (es.map fun p => (p.1, p.2, true)) ∧ Below w.heap.size w w' ∧ w'.heap.size = w.heap.size + 1 := by
  obtain ⟨arr, clock, hb, he, hn, hc⟩ := h
  have hlt : b < w.heap.size := (Array.getElem?_eq_some_iff.1 hb).1
  refine ⟨_, run_range_map w mt kt et b arr clock hm hb, ⟨arr, clock, clock, clock, #[], ((MapKept.heap_alloc w _).2 b hlt).trans hb, (MapKept.heap_alloc w _).1, ?_, hn, hc, Nat.le_refl _, Nat.le_refl _⟩, below_alloc w _, by simp⟩
  have h1 : (arr.toList.map (fun e => (e.key, e.val))).map (fun q => (q.1, q.2, true)) = (entV enc ev es).map (fun q => (q.1, q.2, true)) := by rw [he]
  simpa [entV, Function.comp_def] using h1
theorem map_mid {α β γ : Type} {f : α → γ} {g : β → γ} {l1 l2 : List β} {p : β} {a : List α} (h : a.map f = (l1 ++ p :: l2).map g) :
    ∃ a1 e a2, a = a1 ++ e :: a2 ∧ a1.map f = l1.map g ∧ f e = g p ∧ a2.map f = l2.map g ∧ a1.length = l1.length := by
  rw [List.map_append, List.map_cons] at h
  obtain ⟨a1, a', rfl, h1, h2⟩ := List.map_eq_append_iff.1 h
  obtain ⟨e, a2, rfl, h3, h4⟩ := List.map_eq_cons_iff.1 h2
  exact ⟨a1, e, a2, rfl, h1, h3, h4, by have := congrArg List.length h1; simpa using this⟩
theorem push_contains (seen : Array Nat) (n m : Nat) : (seen.push n).contains m = (seen.contains m || m == n) := by
  rw [Bool.eq_iff_iff]
  simp [Array.contains_iff_mem, Array.mem_push]
omit [DecidableEq κ] in
/-- the step -/
theorem run_nextA (P : Program) (ty : TypeId) (h : RangeAt enc ev w b r l) :
    ((∀ p ∈ l, p.2.2 = false) ∧ (Instr.next (.pointer (some ⟨r, 0, none⟩)) false ty).run P w = .ok (.tuple #[.bool false]) w) ∨
    ∃ l1 k v l2 w', l = l1 ++ (k, v, true) :: l2 ∧ (Instr.next (.pointer (some ⟨r, 0, none⟩)) false ty).run P w = .ok (.tuple #[.bool true, enc k, ev v]) w' ∧
      RangeAt enc ev w' b r (l1 ++ (k, v, false) :: l2) ∧ w.grownBy w' (some r) ∧ w'.heap.size = w.heap.size ∧
      (Instr.entry (.pointer (some ⟨r, 0, none⟩))).run P w' = .ok (.tuple #[enc k, ev v]) w' := by
  have hl := h.lt
  obtain ⟨arr, clock, since, c0, seen, hb, hr, he, hn, hs, h1, h2⟩ := h
  rcases run_next_at (P := P) w ty r b since c0 seen arr clock hr hb hs h1 with ⟨h0, hrun⟩ | ⟨e, hmem, w1, hw1, hrun⟩
  · refine .inl ⟨fun p hp => ?_, hrun⟩
    have hm : (enc p.1, ev p.2.1, p.2.2) ∈ arr.toList.map (fun e => (e.key, e.val, !seen.contains e.born)) := by rw [he]; exact List.mem_map.2 ⟨p, hp, rfl⟩
    obtain ⟨e, he1, he2⟩ := List.mem_map.1 hm
    simp only [Prod.mk.injEq] at he2
    cases hq : p.2.2 with
    | false => rfl
    | true =>
      exfalso
      have hin : e ∈ leftOf arr seen := by
        unfold leftOf
        rw [Array.mem_filter]
        exact ⟨by simpa using he1, by rw [he2.2.2]; exact hq⟩
      rw [Array.eq_empty_of_size_eq_zero h0] at hin
      simp at hin
  · have hin : e ∈ arr.toList ∧ (!seen.contains e.born) = true := by
      unfold leftOf at hmem
      simpa [Array.mem_filter] using hmem
    obtain ⟨a1, a2, ha⟩ := List.append_of_mem hin.1
    have he' := he.symm
    rw [ha] at he'
    obtain ⟨l1, p, l2, rfl, g1, g2, g3, g4⟩ := map_mid he'
    obtain ⟨k, v, f⟩ := p
    simp only [Prod.mk.injEq] at g2
    obtain ⟨g2, g2', g2''⟩ := g2
    rw [hin.2] at g2''
    subst g2''
    have hb1 : w1.heap[b]? = some (.map arr clock) := by rcases hw1 with rfl | rfl <;> exact hb
    have hr1 : r < w1.heap.size := by rcases hw1 with rfl | rfl <;> exact hl.2.1
    have hb2 : (setBlock w1 r (.mapIter (some b) since (seen.push e.born) clock)).heap[b]? = some (.map arr clock) := by
      simp only [setBlock, Array.getElem?_setIfInBounds]
      rw [if_neg (fun e => hl.2.2 e.symm)]
      exact hb1
    have hr2 : (setBlock w1 r (.mapIter (some b) since (seen.push e.born) clock)).heap[r]? = some (.mapIter (some b) since (seen.push e.born) clock) := by
      simp [setBlock, hr1]
    refine .inr ⟨l1, k, v, l2, _, rfl, by rw [g2, g2']; exact hrun, ⟨arr, clock, since, clock, seen.push e.born, hb2, hr2, ?_, hn, hs, h2, h2⟩, ?_, ?_, ?_⟩
    · have hnd := hn
      rw [ha, List.map_append, List.map_cons, List.nodup_append] at hnd
      obtain ⟨n1, n2, n3⟩ := hnd
      rw [List.nodup_cons] at n2
      rw [ha, List.map_append, List.map_cons, List.map_append, List.map_cons]
      have q1 : a1.map (fun e' => (e'.key, e'.val, !(seen.push e.born).contains e'.born)) = l1.map (fun p => (enc p.1, ev p.2.1, p.2.2)) := by
        rw [g1]
        refine List.map_congr_left fun x hx => ?_
        have : x.born ≠ e.born := n3 _ (List.mem_map.2 ⟨x, hx, rfl⟩) _ (by simp)
        rw [push_contains, show (x.born == e.born) = false by simpa using this, Bool.or_false]
      have q2 : a2.map (fun e' => (e'.key, e'.val, !(seen.push e.born).contains e'.born)) = l2.map (fun p => (enc p.1, ev p.2.1, p.2.2)) := by
        rw [g3]
        refine List.map_congr_left fun x hx => ?_
        have : x.born ≠ e.born := fun e' => n2.1 (e' ▸ List.mem_map.2 ⟨x, hx, rfl⟩)
        rw [push_contains, show (x.born == e.born) = false by simpa using this, Bool.or_false]
      rw [q1, q2]
      simp [g2, g2', push_contains]
    · rcases hw1 with rfl | rfl <;> exact ⟨rfl, rfl, rfl, by simp [setBlock], fun k _ hne => by
        simp only [setBlock, Array.getElem?_setIfInBounds]
        rw [if_neg (fun e => hne (by rw [e]))]
        try rfl⟩
    · rcases hw1 with rfl | rfl <;> simp [setBlock]
    · rw [g2, g2']
      exact run_entry_at _ r b since seen arr clock e hr2 hb2 hin.1 hn
theorem findIn_mid {k : κ} : ∀ {ks1 : List κ} {ks2 : List κ} {a1 : List MapEntry} {e : MapEntry} {a2 : List MapEntry} (i : Nat), a1.length = ks1.length → k ∉ ks1 → findIn k (ks1 ++ k :: ks2) (a1 ++ e :: a2) i = some (i + a1.length, e.val)
  | [], ks2, [], e, a2, i, _, _ => by simp [findIn]
  | [], _, _ :: _, _, _, _, h, _ => by simp at h
  | _ :: _, _, [], _, _, _, h, _ => by simp at h
  | k' :: ks1, ks2, x :: a1, e, a2, i, h, hn => by
    simp only [List.length_cons, Nat.add_right_cancel_iff] at h
    simp only [List.mem_cons, not_or] at hn
    simp only [List.cons_append, findIn, if_neg hn.1]
    rw [findIn_mid (i + 1) h hn.2]
    simp; omega
theorem modify_mid {α : Type} (f : α → α) (x : α) (l2 : List α) : ∀ l : List α, (l ++ x :: l2).modify l.length f = l ++ f x :: l2
  | [] => rfl
  | y :: l => by simp only [List.cons_append, List.length_cons, List.modify_succ_cons, modify_mid f x l2 l]
theorem erase_mid {α : Type} (x : α) (l2 : List α) : ∀ l : List α, (l ++ x :: l2).eraseIdx l.length = l ++ l2
  | [] => rfl
  | y :: l => by simp only [List.cons_append, List.length_cons, List.eraseIdx_cons_succ, erase_mid x l2 l]
variable {P : Program} {mt kt et : TypeId}
/-- a store at a key that is there -/
theorem run_mapUpdateR (K : KeyW P kt enc) (hm : P.underlying mt = some (.map kt et)) {l1 l2 : List (κ × ν × Bool)} {k : κ} {v u : ν} {f : Bool} (h : RangeAt enc ev w b r (l1 ++ (k, v, f) :: l2)) (hk : ∀ p ∈ l1, p.1 ≠ k) :
    ∃ w', (Instr.mapUpdate mt (.map (some b)) (enc k) (ev u)).run P w = .ok () w' ∧ RangeAt enc ev w' b r (l1 ++ (k, u, f) :: l2) ∧ w.grownBy w' (some b) ∧ w'.heap.size = w.heap.size := by
  have hl := h.lt
  obtain ⟨arr, clock, since, c0, seen, hb, hr, he, hn, hs, h1, h2⟩ := h
  obtain ⟨a1, e, a2, ha, g1, g2, g3, g4⟩ := map_mid he
  simp only [Prod.mk.injEq] at g2
  have hkeys : arr.toList.map (·.key) = ((l1.map (·.1)) ++ k :: (l2.map (·.1))).map enc := by
    have : (arr.toList.map (fun e => (e.key, e.val, !seen.contains e.born))).map (·.1) = ((l1 ++ (k, v, f) :: l2).map (fun p => (enc p.1, ev p.2.1, p.2.2))).map (·.1) := by rw [he]
    simpa [Function.comp_def] using this
  have hf := K.find k arr.toList _ w hkeys
  rw [ha, findIn_mid 0 (by simpa using g4) (fun hm => by obtain ⟨p, hp, e⟩ := List.mem_map.1 hm; exact hk p hp e), Nat.zero_add] at hf
  have hsz : arr = (a1 ++ e :: a2).toArray := by rw [← ha]
  have h4' : arr[a1.length]? = some e := by rw [hsz]; simp
  refine ⟨World.putMap w b (.map (arr.modify a1.length fun e => { e with key := enc k, val := ev u }) clock), ?_, ⟨_, _, since, c0, seen, putMap_at hl.1, ?_, ?_, ?_, ?_, h1, h2⟩, putMap_grown _ _ _, by simp [World.putMap]⟩
  · rw [← ha] at hf
    unfold Instr.mapUpdate
    simp only [Sem.run_bind, run_underlying hm, Result.andThen_ok, MapKept.run_getObj_map hb, K.check, hf, h4', Option.map_some, Option.getD_some, g2.1, K.stays, MapKept.run_setObj_map _ hb, World.putMap]
  · simp only [World.putMap, Array.getElem?_setIfInBounds]
    rw [if_neg hl.2.2]
    exact hr
  · rw [Array.toList_modify, ha, modify_mid]
    simp only [List.map_append, List.map_cons, g1, g3, g2.2.2]
  · rw [Array.toList_modify, ha, modify_mid]
    rw [ha] at hn
    simpa using hn
  · intro x hx
    rw [Array.toList_modify, ha, modify_mid] at hx
    rw [ha] at hs
    simp only [List.mem_append, List.mem_cons] at hx
    rcases hx with hx | rfl | hx
    · exact hs _ (by simp [hx])
    · exact hs e (by simp)
    · exact hs _ (by simp [hx])
/-- a delete at a key that is there -/
theorem run_deleteR (K : KeyW P kt enc) (hm : P.underlying mt = some (.map kt et)) {l1 l2 : List (κ × ν × Bool)} {k : κ} {v : ν} {f : Bool} (h : RangeAt enc ev w b r (l1 ++ (k, v, f) :: l2)) (hk : ∀ p ∈ l1, p.1 ≠ k) (ty t2 : TypeId) :
    ∃ w', (Builtin.delete_ #[mt, t2] ty #[.map (some b), enc k]).run P w = .ok (.tuple #[]) w' ∧ RangeAt enc ev w' b r (l1 ++ l2) ∧ w.grownBy w' (some b) ∧ w'.heap.size = w.heap.size := by
  have hl := h.lt
  obtain ⟨arr, clock, since, c0, seen, hb, hr, he, hn, hs, h1, h2⟩ := h
  obtain ⟨a1, e, a2, ha, g1, g2, g3, g4⟩ := map_mid he
  simp only [Prod.mk.injEq] at g2
  have hkeys : arr.toList.map (·.key) = ((l1.map (·.1)) ++ k :: (l2.map (·.1))).map enc := by
    have : (arr.toList.map (fun e => (e.key, e.val, !seen.contains e.born))).map (·.1) = ((l1 ++ (k, v, f) :: l2).map (fun p => (enc p.1, ev p.2.1, p.2.2))).map (·.1) := by rw [he]
    simpa [Function.comp_def] using this
  have hf := K.find k arr.toList _ w hkeys
  rw [ha, findIn_mid 0 (by simpa using g4) (fun hm => by obtain ⟨p, hp, e⟩ := List.mem_map.1 hm; exact hk p hp e), Nat.zero_add] at hf
  have hsz : arr = (a1 ++ e :: a2).toArray := by rw [← ha]
  have hj : a1.length < arr.size := by rw [hsz]; simp
  have hsub : (arr.eraseIdxIfInBounds a1.length).toList = a1 ++ a2 := by
    simp only [Array.eraseIdxIfInBounds, hj, dite_true, Array.toList_eraseIdx, ha, erase_mid]
  refine ⟨World.putMap w b (.map (arr.eraseIdxIfInBounds a1.length) clock), ?_, ⟨_, _, since, c0, seen, putMap_at hl.1, ?_, ?_, ?_, ?_, h1, h2⟩, putMap_grown _ _ _, by simp [World.putMap]⟩
  · rw [← ha] at hf
    unfold Builtin.delete_
    simp [Sem.run_bind, run_underlying hm, MapKept.run_getObj_map hb, K.check, hf, MapKept.run_setObj_map _ hb, World.putMap]
  · simp only [World.putMap, Array.getElem?_setIfInBounds]
    rw [if_neg hl.2.2]
    exact hr
  · rw [hsub]
    simp only [List.map_append, g1, g3]
  · rw [hsub]
    rw [ha] at hn
    exact hn.sublist ((List.Sublist.append_left (List.sublist_cons_self e a2) a1).map _)
  · intro x hx
    rw [hsub] at hx
    rw [ha] at hs
    simp only [List.mem_append] at hx
    rcases hx with hx | hx
    · exact hs _ (by simp [hx])
    · exact hs _ (by simp [hx])

section
variable {ops : Array Oper} {rest : List Oper} {o : Oper} {a : Act} {Q : Exit → Act → World → Prop}
omit [DecidableEq κ] in
theorem wpList_rangeA (hg : o.guard = none) (m : Operand) (t : TypeId) (hop : o.op = Op.range t m) (hm : P.underlying t = some (.map kt et)) {es : List (κ × ν)} (hb : a.eval m = .map (some b)) (h : MapAt w b (entV enc ev es))
    (hK : ∀ w', RangeAt enc ev w' b w.heap.size (es.map fun p => (p.1, p.2, true)) → Below w.heap.size w w' → w'.heap.size = w.heap.size + 1 → wpList P ops Q rest (a.put o.dst (.pointer (some ⟨w.heap.size, 0, none⟩))) w') :
    wpList P ops Q (o :: rest) a w := by
  refine wpList_plain hg fun K' hK' => ?_
  obtain ⟨w', hrun, r1, r2, r3⟩ := run_rangeA hm h
  unfold Oper.wp
  simp [execOp, hop, hb, hrun, Result.andThen]
  exact hK' _ _ (hK w' r1 r2 r3)
omit [DecidableEq κ] in
theorem wpList_nextA (hg : o.guard = none) (it : Operand) (hop : o.op = Op.next it false) (hit : a.eval it = .pointer (some ⟨r, 0, none⟩)) (h : RangeAt enc ev w b r l)
    (hDone : (∀ p ∈ l, p.2.2 = false) → wpList P ops Q rest (a.put o.dst (.tuple #[.bool false])) w)
    (hMore : ∀ l1 k v l2 w', l = l1 ++ (k, v, true) :: l2 → RangeAt enc ev w' b r (l1 ++ (k, v, false) :: l2) → w.grownBy w' (some r) → w'.heap.size = w.heap.size →
      (Instr.entry (.pointer (some ⟨r, 0, none⟩))).run P w' = .ok (.tuple #[enc k, ev v]) w' → wpList P ops Q rest (a.put o.dst (.tuple #[.bool true, enc k, ev v])) w') :
    wpList P ops Q (o :: rest) a w := by
  refine wpList_plain hg fun K' hK' => ?_
  unfold Oper.wp
  rcases run_nextA P o.type h with ⟨h0, hrun⟩ | ⟨l1, k, v, l2, w', hl, hrun, hr, hgr, hsz, hen⟩
  · simp [execOp, hop, hit, hrun, Result.andThen]
    exact hK' _ _ (hDone h0)
  · simp [execOp, hop, hit, hrun, Result.andThen]
    exact hK' _ _ (hMore l1 k v l2 w' hl hr hgr hsz hen)
theorem wpList_mapUpdateA (hg : o.guard = none) (m x v : Operand) (t : TypeId) (hop : o.op = Op.mapUpdate t m x v) (K : KeyW P kt enc) (hm : P.underlying t = some (.map kt et)) {es : List (κ × ν)} (hb : a.eval m = .map (some b)) (h : MapAt w b (entV enc ev es)) (k : κ) (u : ν) (hx : a.eval x = enc k) (hv : a.eval v = ev u)
    (hK : ∀ w', MapAt w' b (entV enc ev (putA k u es)) → w.grownBy w' (some b) → w'.heap.size = w.heap.size → wpList P ops Q rest (a.put o.dst undef) w') :
    wpList P ops Q (o :: rest) a w := by
  refine wpList_plain hg fun K' hK' => ?_
  obtain ⟨w', hrun, r1, r2, r3⟩ := run_mapUpdateA K hm h k u
  unfold Oper.wp
  simp [execOp, hop, hb, hx, hv, hrun, Result.andThen]
  exact hK' _ _ (hK w' r1 r2 r3)
theorem wpList_mapUpdateR (hg : o.guard = none) (m x v : Operand) (t : TypeId) (hop : o.op = Op.mapUpdate t m x v) (K : KeyW P kt enc) (hm : P.underlying t = some (.map kt et)) {l1 l2 : List (κ × ν × Bool)} {k : κ} {v0 : ν} (u : ν) {f : Bool} (hb : a.eval m = .map (some b))
    (h : RangeAt enc ev w b r (l1 ++ (k, v0, f) :: l2)) (hk : ∀ p ∈ l1, p.1 ≠ k) (hx : a.eval x = enc k) (hv : a.eval v = ev u)
    (hK : ∀ w', RangeAt enc ev w' b r (l1 ++ (k, u, f) :: l2) → w.grownBy w' (some b) → w'.heap.size = w.heap.size → wpList P ops Q rest (a.put o.dst undef) w') :
    wpList P ops Q (o :: rest) a w := by
  refine wpList_plain hg fun K' hK' => ?_
  obtain ⟨w', hrun, r1, r2, r3⟩ := run_mapUpdateR (u := u) K hm h hk
  unfold Oper.wp
  simp [execOp, hop, hb, hx, hv, hrun, Result.andThen]
  exact hK' _ _ (hK w' r1 r2 r3)
theorem wpList_deleteR (hg : o.guard = none) (m x : Operand) (t t2 : TypeId) (hop : o.op = Op.call { callee := Callee.builtin Builtin.delete, args := #[m, x], argTypes := #[t, t2] }) (K : KeyW P kt enc) (hm : P.underlying t = some (.map kt et)) {l1 l2 : List (κ × ν × Bool)} {k : κ} {v0 : ν} {f : Bool} (hb : a.eval m = .map (some b))
    (h : RangeAt enc ev w b r (l1 ++ (k, v0, f) :: l2)) (hk : ∀ p ∈ l1, p.1 ≠ k) (hx : a.eval x = enc k)
    (hK : ∀ w', RangeAt enc ev w' b r (l1 ++ l2) → w.grownBy w' (some b) → w'.heap.size = w.heap.size → wpList P ops Q rest (a.put o.dst (.tuple #[])) w') :
    wpList P ops Q (o :: rest) a w := by
  refine wpList_plain hg fun K' hK' => ?_
  obtain ⟨w', hrun, r1, r2, r3⟩ := run_deleteR K hm h hk o.type t2
  unfold Oper.wp
  simp [execOp, hop, resolve, invoke, builtin, hb, hx, hrun, Result.andThen]
  exact hK' _ _ (hK w' r1 r2 r3)
end
end
end Go.Proofs.YtjncmlglhegnaaaGreatDoor
namespace Go.Proofs.YtjncmlglhegnaaaGreatDoor
open Go.RowKit

/-- what a call may have written, and what belongs to the disk behind it -/
structure Ext (F F' : Nat → Prop) (w w' : World) : Prop where
  keeps : Keeps F w w'
  sub : ∀ k, F k → F' k
  sup : ∀ k, F' k → Plus F w w' k
theorem Ext.refl (F : Nat → Prop) (w : World) : Ext F F w w := ⟨Keeps.refl _ _, fun _ h => h, fun _ h => .inl h⟩
theorem Ext.trans {F F1 F2 : Nat → Prop} {w w1 w2 : World} (h : Ext F F1 w w1) (k : Ext F1 F2 w1 w2) : Ext F F2 w w2 :=
  ⟨h.keeps.trans (k.keeps.mono h.sup), fun i hi => k.sub i (h.sub i hi), fun i hi => by
    rcases k.sup i hi with h1 | ⟨h1, h2⟩
    · rcases h.sup i h1 with h3 | ⟨h3, h4⟩
      · exact .inl h3
      · exact .inr ⟨h3, Nat.lt_of_lt_of_le h4 k.keeps.size⟩
    · exact .inr ⟨Nat.le_trans h.keeps.size h1, h2⟩⟩
theorem Ext.same {F : Nat → Prop} {w w' : World} (h : Keeps F w w') : Ext F F w w' := ⟨h, fun _ h => h, fun _ h => .inl h⟩
def Dsk (w : World) (F : Nat → Prop) (B : Nat) (d : DV) : Prop := ∃ mf ms Q cq K ck, DiskAt w F B d mf ms Q cq K ck
/-- the disk's keep list lies where it lay, or in new memory -/
def KK (B : Nat) (w w' : World) : Prop := w'.cell? ⟨B, 6, none⟩ = w.cell? ⟨B, 6, none⟩ ∨ ∀ A n c, w'.cell? ⟨B, 6, none⟩ = some (.slice A n c) → ∀ ad, A = some ad → w.heap.size ≤ ad.block
theorem KK.refl (B : Nat) (w : World) : KK B w w := .inl rfl
theorem KK.trans {B : Nat} {w w1 w2 : World} (h : KK B w w1) (hz : w.heap.size ≤ w1.heap.size) (k : KK B w1 w2) : KK B w w2 := by
  rcases k with k | k
  · rcases h with h | h
    · exact .inl (k.trans h)
    · exact .inr fun A n c e => h A n c (by rw [← k]; exact e)
  · exact .inr fun A n c e ad he => Nat.le_trans hz (k A n c e ad he)
theorem KK.below {B : Nat} {w w' : World} (hb : Below w.heap.size w w') (hB : B < w.heap.size) : KK B w w' := .inl (hb.cell (p := ⟨B, 6, none⟩) hB)
theorem kk_of {w w' : World} {F F' : Nat → Prop} {B : Nat} {d d' : DV} {mf ms mf' ms' : Nat} {Q Q' : Option Addr} {cq cq' : Nat} {K : Option Addr} {ck : Nat} (h : DiskAt w F B d mf ms Q cq K ck) (h' : DiskAt w' F' B d' mf' ms' Q' cq' K ck) (e : d'.keep = d.keep) : KK B w w' := by
  have h1 := h.loc.cell 6
  have h2 := h'.loc.cell 6
  rw [e] at h2
  exact .inl (h2.trans h1.symm)
/-- behind a call: the disk is d -/
def DskTo (F : Nat → Prop) (w : World) (B : Nat) (d : DV) (w' : World) : Prop := ∃ F', Dsk w' F' B d ∧ Ext F F' w w' ∧ KK B w w'
theorem MapAt.new_ (w : World) : MapAt (w.alloc (.map #[] 0)) w.heap.size [] := ⟨#[], 0, (MapKept.heap_alloc w _).1, rfl, by simp, by simp⟩
theorem MapAt.below {w w' : World} {b : Nat} {es : List (Value × Value)} (h : MapAt w b es) (hb : Below w.heap.size w w') : MapAt w' b es := h.grown (row := none) ⟨hb.os, hb.tape, hb.output, hb.size, fun k hk _ => hb.block k hk⟩ (by simp)
theorem MapAt.alloc {w : World} {b : Nat} {es : List (Value × Value)} (h : MapAt w b es) (o : Obj) : MapAt (w.alloc o) b es := h.below (below_alloc w o)
set_option maxRecDepth 100000 in
set_option maxHeartbeats 400000 in
theorem New_any (w : World) :
    Calls Tryz.prog 15 #[] w fun e w' => ∃ B, e = .returned (.pointer (some ⟨B, 0, none⟩)) ∧ Dsk w' (fun k => w.heap.size ≤ k ∧ k < w'.heap.size) B newD ∧ Below w.heap.size w w' := by
  have hmm := @run_makeMap Tryz.prog
  go_enter Tryz.func15, Tryz.ntmps15
  go_wp2_with (fail)
  go_ret
  refine ⟨_, rfl, ⟨w.heap.size, w.heap.size + 1, none, 0, none, 0, ?_⟩, ((below_alloc w _).alloc (by first | omega | (simp <;> omega)) _).alloc (by first | omega | (simp <;> omega)) _⟩
  have h1 : MapAt (w.alloc (.map #[] 0)) w.heap.size [] := MapAt.new_ w
  have h2 : MapAt ((w.alloc (.map #[] 0)).alloc (.map #[] 0)) (w.heap.size + 1) [] := by
    have h := MapAt.new_ (w.alloc (.map #[] 0))
    simpa only [World.size_alloc] using h
  refine ⟨?_, ((h1.alloc _).alloc _), h2.alloc _, Own.nil_ _ _ _ _, Sl.nil_ _ _ _, (by first | omega | (simp <;> omega)), (by first | omega | (simp <;> omega)), (by first | omega | (simp <;> omega)), fun b hb => by simp [Value.ownBlock] at hb, fun h => absurd rfl h, by omega, by simp [Value.ownBlock], fun b hb => hb.2⟩
  have h := Loc.new_ ((w.alloc (.map #[] 0)).alloc (.map #[] 0)) #[.map (some w.heap.size), .slice none 0 0, .map (some (w.heap.size + 1)), .int .i64 0, .bool false, .int .i64 0, .slice none 0 0] 94
  simp only [World.size_alloc] at h
  exact h
end Go.Proofs.YtjncmlglhegnaaaGreatDoor
