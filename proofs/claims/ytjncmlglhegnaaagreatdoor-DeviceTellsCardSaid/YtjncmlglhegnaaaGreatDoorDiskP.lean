/- Words for maps: a block that is a map of given entries; look-up, store, delete, by a key's place. -/
/- disk: what the functions compute, in plain Lean. -/
import Derived.Test.YtjncmlglhegnaaaGreatDoorBase4
import Derived.ChangeMaps4
namespace Go.Proofs.YtjncmlglhegnaaaGreatDoor
open Go.RowKit

/-- The block b is a map with the entries es, in the order of their making. -/
def MapAt (w : World) (b : Nat) (es : List (Value × Value)) : Prop :=
  ∃ (arr : Array MapEntry) (clock : Nat), w.heap[b]? = some (.map arr clock) ∧ arr.toList.map (fun e => (e.key, e.val)) = es ∧ (arr.toList.map (·.born)).Nodup ∧ ∀ e ∈ arr.toList, e.born < clock

/-- the first entry whose key is k -/
def findIn {κ : Type} [DecidableEq κ] (k : κ) : List κ → List MapEntry → Nat → Option (Nat × Value)
  | k' :: ks, e :: es, i => if k = k' then some (i, e.val) else findIn k ks es (i + 1)
  | _, _, _ => none

/-- what the laws ask of a key's type -/
structure KeyW (P : Program) (kt : TypeId) {κ : Type} [DecidableEq κ] (enc : κ → Value) : Prop where
  check : ∀ em k w, (Instr.checkKey em 10000 kt (enc k)).run P w = .ok () w
  find : ∀ k (arr : List MapEntry) (ks : List κ) w, arr.map (·.key) = ks.map enc → (Instr.findKey kt (enc k) arr).run P w = .ok (findIn k ks arr 0) w
  stays : ∀ k w, (Instr.keyThatStays (enc k) (enc k)).run P w = .ok (enc k) w

section
variable {P : Program} {kt : TypeId}
theorem findNow_int (q : IntKind) (x : Int) : ∀ (arr : List MapEntry) (ks : List Int) (i : Nat), arr.map (·.key) = ks.map (Value.int q) → Instr.findNow (.int q) (.int q x) arr i = some (findIn x ks arr i)
  | [], [], i, _ => by simp [Instr.findNow, findIn]
  | [], k :: ks, i, h => by simp at h
  | e :: es, [], i, h => by simp at h
  | e :: es, k :: ks, i, h => by
    simp only [List.map_cons, List.cons.injEq] at h
    have ih := findNow_int q x es ks (i + 1) h.2
    unfold Instr.findNow
    rw [h.1]
    simp only [Instr.sameNow, if_true, findIn]
    by_cases hx : x = k
    · subst hx; simp
    · have : (x == k) = false := by simpa using hx
      rw [this, if_neg hx]
      exact ih
theorem keyW_int {q : IntKind} (hk : P.underlying kt = some (.int q)) : KeyW P kt (Value.int q) where
  check := fun em k w => by
    show (Instr.checkKey em (9999 + 1) kt (Value.int q k)).run P w = _
    rw [Instr.checkKey]
    simp [run_underlying hk, go_sem]
  find := fun k arr ks w h => by
    unfold Instr.findKey
    simp [run_underlying hk, findNow_int q k arr ks 0 h, go_sem]
  stays := fun k w => by
    have h : Instr.sameBits 10000 (Value.int q k) (Value.int q k) = true := by rw [Instr.sameBits]; simp
    simp [Instr.keyThatStays, h]
end

/- entries as pairs -/
section
variable {κ ν : Type} [DecidableEq κ]
def getA (k : κ) : List (κ × ν) → Option ν
  | [] => none
  | (k', v) :: r => if k = k' then some v else getA k r
def putA (k : κ) (v : ν) : List (κ × ν) → List (κ × ν)
  | [] => [(k, v)]
  | (k', v') :: r => if k = k' then (k, v) :: r else (k', v') :: putA k v r
def delA (k : κ) : List (κ × ν) → List (κ × ν)
  | [] => []
  | (k', v') :: r => if k = k' then r else (k', v') :: delA k r
/-- the entries of a map, as values -/
def entV (enc : κ → Value) (ev : ν → Value) (es : List (κ × ν)) : List (Value × Value) := es.map fun p => (enc p.1, ev p.2)

variable {enc : κ → Value} {ev : ν → Value}
omit [DecidableEq κ] in
theorem ent_keys {arr : List MapEntry} {es : List (κ × ν)} (h : arr.map (fun e => (e.key, e.val)) = entV enc ev es) : arr.map (·.key) = (es.map (·.1)).map enc := by
  have h1 : (arr.map (fun e => (e.key, e.val))).map (·.1) = (entV enc ev es).map (·.1) := by rw [h]
  simpa [entV, Function.comp_def] using h1
theorem findIn_none {k : κ} : ∀ {arr : List MapEntry} {es : List (κ × ν)} {i : Nat}, arr.map (fun e => (e.key, e.val)) = entV enc ev es → findIn k (es.map (·.1)) arr i = none → getA k es = none
  | [], [], i, _, _ => rfl
  | [], p :: es, i, h, _ => by simp [entV] at h
  | e :: arr, [], i, h, _ => by simp [entV] at h
  | e :: arr, (k', v) :: es, i, h, hf => by
    simp only [entV, List.map_cons, List.cons.injEq] at h
    simp only [List.map_cons, findIn] at hf
    unfold getA
    split at hf
    · cases hf
    · rename_i hk
      rw [if_neg hk]
      exact findIn_none h.2 hf
theorem findIn_some {k : κ} : ∀ {arr : List MapEntry} {es : List (κ × ν)} {i j : Nat} {x : Value}, arr.map (fun e => (e.key, e.val)) = entV enc ev es → findIn k (es.map (·.1)) arr i = some (j, x) →
    ∃ (v : ν) (e : MapEntry), i ≤ j ∧ getA k es = some v ∧ x = ev v ∧ arr[j - i]? = some e ∧ e.key = enc k ∧
      (∀ u, (arr.modify (j - i) fun e => { e with key := enc k, val := ev u }).map (fun e => (e.key, e.val)) = entV enc ev (putA k u es)) ∧ (arr.eraseIdx (j - i)).map (fun e => (e.key, e.val)) = entV enc ev (delA k es)
  | [], [], i, j, x, _, hf => by simp [findIn] at hf
  | [], p :: es, i, j, x, h, _ => by simp [entV] at h
  | e :: arr, [], i, j, x, h, _ => by simp [entV] at h
  | e :: arr, (k', v) :: es, i, j, x, h, hf => by
    simp only [entV, List.map_cons, List.cons.injEq, Prod.mk.injEq] at h
    simp only [List.map_cons, findIn] at hf
    split at hf
    · rename_i hk
      subst hk
      simp only [Option.some.injEq, Prod.mk.injEq] at hf
      obtain ⟨rfl, rfl⟩ := hf
      refine ⟨v, e, Nat.le_refl _, by simp [getA], h.1.2, by simp, h.1.1, fun u => ?_, ?_⟩
      · simp only [Nat.sub_self, putA, if_true, entV, List.map_cons, List.modify_zero_cons, List.cons.injEq, true_and]
        exact h.2
      · simp only [Nat.sub_self, delA, if_true, List.eraseIdx_cons_zero]
        exact h.2
    · rename_i hk
      obtain ⟨u, e', h1, h2, h3, h4, h5, h6, h7⟩ := findIn_some (i := i + 1) h.2 hf
      have hj : j - i = (j - (i + 1)) + 1 := by omega
      refine ⟨u, e', by omega, by simp only [getA, if_neg hk]; exact h2, h3, by rw [hj]; simpa using h4, h5, fun z => ?_, ?_⟩
      · rw [hj]
        simp only [List.modify_succ_cons, putA, if_neg hk, entV, List.map_cons, List.cons.injEq, Prod.mk.injEq]
        exact ⟨h.1, h6 z⟩
      · rw [hj]
        simp only [List.eraseIdx_cons_succ, delA, if_neg hk, entV, List.map_cons, List.cons.injEq, Prod.mk.injEq]
        exact ⟨h.1, h7⟩
theorem putA_new {k : κ} {u : ν} : ∀ {es : List (κ × ν)}, getA k es = none → putA k u es = es ++ [(k, u)]
  | [], _ => rfl
  | (k', v) :: es, h => by
    unfold getA at h
    split at h
    · cases h
    · rename_i hk
      simp only [putA, if_neg hk, List.cons_append, List.cons.injEq, true_and]
      exact putA_new h

variable {P : Program} {w : World} {mt kt et : TypeId}
/-- a look-up -/
theorem run_lookupA (K : KeyW P kt enc) (hm : P.underlying mt = some (.map kt et)) {z : Value} (hz : (zeroValue et).run P w = .ok z w) {b : Nat} {es : List (κ × ν)} (h : MapAt w b (entV enc ev es)) (k : κ) :
    (Instr.lookup mt (.map (some b)) (enc k) false).run P w = .ok (((getA k es).map ev).getD z) w := by
  obtain ⟨arr, clock, hb, he, _, _⟩ := h
  have hf := K.find k arr.toList (es.map (·.1)) w (ent_keys he)
  unfold Instr.lookup
  simp only [Sem.run_bind, run_underlying hm, Result.andThen_ok, MapKept.run_getObj_map hb, K.check, Sem.run_pure, hf]
  cases hfi : findIn k (es.map (·.1)) arr.toList 0 with
  | none =>
    have h1 := findIn_none he hfi
    simp [h1, hz, go_sem]
  | some p =>
    obtain ⟨j, x⟩ := p
    obtain ⟨v, e, _, h2, h3, _⟩ := findIn_some he hfi
    simp [h2, h3, go_sem]

/-- a map's block is written -/
def World.putMap (w : World) (b : Nat) (o : Obj) : World := { w with heap := w.heap.setIfInBounds b o }
omit [DecidableEq κ] in
theorem putMap_grown (w : World) (b : Nat) (o : Obj) : w.grownBy (World.putMap w b o) (some b) :=
  ⟨rfl, rfl, rfl, by simp [World.putMap], fun k _ hne => by
    simp only [World.putMap, Array.getElem?_setIfInBounds]
    rw [if_neg (fun e => hne (by rw [e]))]⟩
theorem putMap_at {w : World} {b : Nat} {o : Obj} (h : b < w.heap.size) : (World.putMap w b o).heap[b]? = some o := by
  simp [World.putMap, h]

/-- a store -/
theorem run_mapUpdateA (K : KeyW P kt enc) (hm : P.underlying mt = some (.map kt et)) {b : Nat} {es : List (κ × ν)} (h : MapAt w b (entV enc ev es)) (k : κ) (v : ν) :
    ∃ w', (Instr.mapUpdate mt (.map (some b)) (enc k) (ev v)).run P w = .ok () w' ∧ MapAt w' b (entV enc ev (putA k v es)) ∧ w.grownBy w' (some b) ∧ w'.heap.size = w.heap.size := by
  obtain ⟨arr, clock, hb, he, hn, hc⟩ := h
  have hlt : b < w.heap.size := (Array.getElem?_eq_some_iff.1 hb).1
  have hf := K.find k arr.toList (es.map (·.1)) w (ent_keys he)
  cases hfi : findIn k (es.map (·.1)) arr.toList 0 with
  | none =>
    have h1 := findIn_none he hfi
    refine ⟨World.putMap w b (.map (arr.push { key := enc k, val := ev v, born := clock }) (clock + 1)), ?_, ⟨_, _, putMap_at hlt, ?_, ?_, ?_⟩, putMap_grown _ _ _, by simp [World.putMap]⟩
    · unfold Instr.mapUpdate
      simp only [Sem.run_bind, run_underlying hm, Result.andThen_ok, MapKept.run_getObj_map hb, K.check, hf, hfi, MapKept.run_setObj_map _ hb, World.putMap]
    · rw [putA_new h1]
      simp only [Array.toList_push, List.map_append, List.map_cons, List.map_nil, he]
      simp [entV]
    · simp only [Array.toList_push, List.map_append, List.map_cons, List.map_nil]
      rw [List.nodup_append]
      refine ⟨hn, by simp, fun a ha b hb' => ?_⟩
      obtain ⟨e, he', rfl⟩ := List.mem_map.1 ha
      simp only [List.mem_singleton] at hb'
      have := hc e he'
      omega
    · intro e he'
      simp only [Array.toList_push, List.mem_append, List.mem_singleton] at he'
      rcases he' with he' | rfl
      · have := hc e he'; omega
      · simp
  | some p =>
    obtain ⟨j, x⟩ := p
    obtain ⟨v0, e, _, h2, h3, h4, h5, h6, _⟩ := findIn_some he hfi
    simp only [Nat.sub_zero] at h4 h6
    have h4' : arr[j]? = some e := by simpa using h4
    refine ⟨World.putMap w b (.map (arr.modify j fun e => { e with key := enc k, val := ev v }) clock), ?_, ⟨_, _, putMap_at hlt, ?_, ?_, ?_⟩, putMap_grown _ _ _, by simp [World.putMap]⟩
    · unfold Instr.mapUpdate
      simp only [Sem.run_bind, run_underlying hm, Result.andThen_ok, MapKept.run_getObj_map hb, K.check, hf, hfi, h4', Option.map_some, Option.getD_some, h5, K.stays, MapKept.run_setObj_map _ hb, World.putMap]
    · rw [Array.toList_modify]
      exact h6 v
    · rw [Array.toList_modify]
      have : (arr.toList.modify j fun e => { e with key := enc k, val := ev v }).map (·.born) = arr.toList.map (·.born) := by
        apply List.ext_getElem?
        intro i
        simp only [List.getElem?_map, List.getElem?_modify]
        cases arr.toList[i]? with
        | none => rfl
        | some y => by_cases hi : j = i <;> simp [hi]
      rw [this]
      exact hn
    · intro y hy
      rw [Array.toList_modify] at hy
      obtain ⟨i, hi⟩ := List.getElem?_of_mem hy
      rw [List.getElem?_modify] at hi
      cases hq : arr.toList[i]? with
      | none => rw [hq] at hi; simp at hi
      | some z =>
        rw [hq] at hi
        have hz := hc z (List.mem_of_getElem? hq)
        by_cases hji : j = i
        · simp [hji] at hi; rw [← hi]; exact hz
        · simp [hji] at hi; rw [← hi]; exact hz


theorem modify_last {α : Type} (f : α → α) (x : α) : ∀ l : List α, (l ++ [x]).modify l.length f = l ++ [f x]
  | [] => rfl
  | y :: l => by simp only [List.cons_append, List.length_cons, List.modify_succ_cons, modify_last f x l]
/-- the place of an entry is asked for, ahead of a store: a key that is not there yet -/
theorem run_mapEntryA (K : KeyW P kt enc) (hm : P.underlying mt = some (.map kt et)) {z : ν} (hz : ∀ w, (zeroValue et).run P w = .ok (ev z) w) {b : Nat} {es : List (κ × ν)} (h : MapAt w b (entV enc ev es)) (k : κ) (hk : getA k es = none) :
    ∃ w' stamp, (Instr.mapEntry mt (.map (some b)) (enc k)).run P w = .ok (.tuple #[ev z, goInt stamp]) w' ∧ w.grownBy w' (some b) ∧ w'.heap.size = w.heap.size ∧
      (∀ w2, w2.heap[b]? = w'.heap[b]? → b < w2.heap.size → ∀ u, ∃ w3, (Instr.entryStore mt (.map (some b)) (goInt stamp) (ev u)).run P w2 = .ok () w3 ∧ MapAt w3 b (entV enc ev (es ++ [(k, u)])) ∧ w2.grownBy w3 (some b) ∧ w3.heap.size = w2.heap.size) := by
  obtain ⟨arr, clock, hb, he, hn, hc⟩ := h
  have hlt : b < w.heap.size := (Array.getElem?_eq_some_iff.1 hb).1
  have hf := K.find k arr.toList (es.map (·.1)) w (ent_keys he)
  have hfi : findIn k (es.map (·.1)) arr.toList 0 = none := by
    cases hfi : findIn k (es.map (·.1)) arr.toList 0 with
    | none => rfl
    | some p =>
      obtain ⟨j, x⟩ := p
      obtain ⟨v0, e, _, h2, _⟩ := findIn_some he hfi
      rw [hk] at h2
      cases h2
  refine ⟨World.putMap w b (.map (arr.push { key := enc k, val := ev z, born := clock }) (clock + 1)), clock, ?_, putMap_grown _ _ _, by simp [World.putMap], fun w2 hw2 hlt2 u => ?_⟩
  · unfold Instr.mapEntry
    simp [Sem.run_bind, run_underlying hm, MapKept.run_getObj_map hb, K.check, hf, hfi, MapKept.run_setObj_map _ hb, World.putMap, hz]
  · rw [putMap_at hlt] at hw2
    have hidx : (arr.push { key := enc k, val := ev z, born := clock }).findIdx? (fun e => (e.born : Int) == clock) = some arr.size := by
      rw [Array.findIdx?_push]
      have : arr.findIdx? (fun e => (e.born : Int) == (clock : Int)) = none := by
        rw [Array.findIdx?_eq_none_iff]
        intro e he'
        have := hc e (by simpa using he')
        simp only [beq_eq_false_iff_ne, ne_eq]
        omega
      rw [this]
      simp
    refine ⟨World.putMap w2 b (.map ((arr.push { key := enc k, val := ev z, born := clock }).modify arr.size fun e => { e with val := ev u }) (clock + 1)), ?_, ⟨_, _, putMap_at hlt2, ?_, ?_, ?_⟩, putMap_grown _ _ _, by simp [World.putMap]⟩
    · unfold Instr.entryStore
      simp [Sem.run_bind, MapKept.run_getObj_map hw2, goInt, asInt, asIntOf, hidx, MapKept.run_setObj_map _ hw2, World.putMap]
    · rw [Array.toList_modify, Array.toList_push, ← Array.length_toList, modify_last]
      simp only [List.map_append, he, List.map_cons, List.map_nil]
      simp [entV]
    · rw [Array.toList_modify, Array.toList_push, ← Array.length_toList, modify_last]
      simp only [List.map_append, List.map_cons, List.map_nil]
      rw [List.nodup_append]
      refine ⟨hn, by simp, fun a ha b hb' => ?_⟩
      obtain ⟨e, he', rfl⟩ := List.mem_map.1 ha
      simp only [List.mem_singleton] at hb'
      have := hc e he'
      omega
    · intro e he'
      rw [Array.toList_modify, Array.toList_push, ← Array.length_toList, modify_last] at he'
      simp only [List.mem_append, List.mem_singleton] at he'
      rcases he' with he' | rfl
      · have := hc e he'; omega
      · simp
end
end Go.Proofs.YtjncmlglhegnaaaGreatDoor
namespace Go.Proofs.YtjncmlglhegnaaaGreatDoor

/-- a file and its durable part -/
structure FileV where
  now : List UInt8
  last : List UInt8
  deriving DecidableEq
def noFile : FileV := ⟨[], []⟩
/-- a disk -/
structure DV where
  files : List (Int × FileV)
  queue : List (Int × Int)
  lost : Int
  down : Bool
  armed : Int
  keep : List Int
def newD : DV := ⟨[], [], 0, false, 0, []⟩
def DV.file (d : DV) (f : Int) : FileV := (getA f d.files).getD noFile
/-- bytes put into bytes -/
def putB (s : List UInt8) (at_ : Nat) (t : List UInt8) : List UInt8 :=
  if t = [] then s else (s ++ List.replicate (at_ - s.length) 0).take at_ ++ t ++ s.drop (at_ + t.length)
def mayF (d : DV) (f : Int) : Int := if d.down then 8 else if f < 0 ∨ 16 ≤ f then 1 else 0
/-- the sectors that a write touches -/
def touched (f : Int) (at_ n : Nat) : List (Int × Int) := (List.range ((at_ + n - 1) / 64 - at_ / 64 + 1)).map fun i => (f, ((at_ / 64 + i : Nat) : Int))
def addQ (q : List (Int × Int)) : List (Int × Int) → List (Int × Int)
  | [] => q
  | p :: ps => addQ (if p ∈ q then q else q ++ [p]) ps
def writeF (d : DV) (f at_ : Int) (s : List UInt8) : DV × Int :=
  if mayF d f ≠ 0 then (d, mayF d f)
  else if at_ < 0 then (d, 1)
  else if 16777216 < at_ ∨ 16777216 - at_ < s.length then (d, 6)
  else if s = [] then (d, 0)
  else ({ d with files := putA f ⟨putB (d.file f).now at_.toNat s, (d.file f).last⟩ d.files, queue := addQ d.queue (touched f at_.toNat s.length) }, 0)
/-- one pending sector survives -/
def surviveF (fs : List (Int × FileV)) (p : Int × Int) : List (Int × FileV) :=
  let x := (getA p.1 fs).getD noFile
  let at_ := p.2 * 64
  if (x.now.length : Int) ≤ at_ then fs else putA p.1 ⟨x.now, putB x.last at_.toNat ((x.now.drop at_.toNat).take 64)⟩ fs
def surviveAll (keep : List Int) : Nat → List (Int × Int) → List (Int × FileV) → List (Int × FileV)
  | _, [], fs => fs
  | i, p :: ps, fs => surviveAll keep (i + 1) ps (if keep = [] ∨ (keep[i % keep.length]?).getD 0 % 2 = 0 then fs else surviveF fs p)
def crashF (d : DV) (keep : List Int) : DV :=
  if d.down then d else
  { d with files := (surviveAll keep 0 d.queue d.files).map (fun p => (p.1, ⟨p.2.last, p.2.last⟩)), queue := [], down := true, armed := 0 }
/-- a call is counted: does the scheduled crash happen in it? -/
def endsF (d : DV) : DV × Bool := if d.down ∨ d.armed = 0 then (d, false) else ({ d with armed := d.armed - 1 }, decide (d.armed - 1 = 0))
def WriteF (d : DV) (f at_ : Int) (s : List UInt8) : DV × Int :=
  let (d1, b) := endsF d
  let (d2, e) := writeF d1 f at_ s
  if b then (crashF d2 d2.keep, 8) else (d2, e)
def settleF (d : DV) (f : Int) (s : List UInt8) : DV := { d with files := putA f ⟨s, s⟩ d.files, queue := d.queue.filter fun p => p.1 ≠ f }
def beginF (d : DV) : DV := let (d1, b) := endsF d; if b then crashF d1 d1.keep else d1
def SyncF (d : DV) (f : Int) : DV × Int :=
  let d1 := beginF d
  if mayF d1 f ≠ 0 then (d1, mayF d1 f) else if 0 < d1.lost then ({ d1 with lost := d1.lost - 1 }, 9) else (settleF d1 f (d1.file f).now, 0)
def TruncF (d : DV) (f n : Int) : DV × Int :=
  let d1 := beginF d
  if mayF d1 f ≠ 0 then (d1, mayF d1 f) else if n < 0 ∨ ((d1.file f).now.length : Int) < n then (d1, 1) else (settleF d1 f ((d1.file f).now.take n.toNat), 0)
def ReadF (d : DV) (f at_ n : Int) : List UInt8 × Int :=
  if mayF d f ≠ 0 then ([], mayF d f) else if at_ < 0 ∨ n < 0 then ([], 1) else (((d.file f).now.drop at_.toNat).take n.toNat, 0)
def LoseF (d : DV) (n : Int) : DV := { d with lost := max n 0 }
def ArmF (d : DV) (n : Int) (keep : List Int) : DV := { d with armed := max n 0, keep := keep }
def StartF (d : DV) : DV := { d with down := false }
end Go.Proofs.YtjncmlglhegnaaaGreatDoor
