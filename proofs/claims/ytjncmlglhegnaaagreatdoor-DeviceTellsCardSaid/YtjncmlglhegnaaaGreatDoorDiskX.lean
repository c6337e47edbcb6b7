/- Words for strings and bytes: copy of a string into a row of the call's own. -/
/- disk: put. -/
/- disk: Size, Read, New. -/
/- disk: plain laws: what stays right of a disk. -/
/- Words for maps: a range loop under way; a store and a delete at a key that is there; a copy. -/
/- disk: New, a disk with its memory, what a call may write. -/
import Derived.Test.YtjncmlglhegnaaaGreatDoorBase4
import Derived.Laws.CopyOwn
import Derived.Laws.BytesArg
import Derived.Test.YtjncmlglhegnaaaGreatDoorDiskM
import Derived.OwnWalk
import Derived.Test.YtjncmlglhegnaaaGreatDoorDiskP
import Derived.Maps.RangeRun
import Derived.Maps.RangeWalk
import Derived.Carry
namespace Go.Proofs.YtjncmlglhegnaaaGreatDoor
open Go.RowKit

/-- bytes as cells -/
def byteV (l : List UInt8) : List Value := l.map fun b => .int .u8 b.toNat
theorem byteV_one (l : List UInt8) : ∀ v ∈ byteV l, v.oneCell' = true := by
  intro v hv
  obtain ⟨b, _, rfl⟩ := List.mem_map.1 hv
  rfl
section
variable {P : Program}
theorem run_copy_string (w : World) (dT sT ty elem : TypeId) (g o dLen dCap : Nat) (s : List UInt8) (cur : Array Value) (t : TypeId)
    (hu : P.underlying dT = some (.slice elem)) (hs : (P.info? elem).map (·.size) = some 1) (hg : w.heap[g]? = some (.cells cur t (0, 0))) (hfit : o + Nat.min s.length dLen ≤ cur.size) :
    (Builtin.copy_ #[dT, sT] ty #[.slice (some ⟨g, o, none⟩) dLen dCap, .string ⟨s.toArray⟩]).run P w =
      .ok (goInt (Nat.min s.length dLen)) (w.setRow g (splice cur.toList o (byteV (s.take (Nat.min s.length dLen)))).toArray) := by
  have hlen : (byteV (s.take (Nat.min s.length dLen))).length = Nat.min s.length dLen := by
    simp only [byteV, List.length_map, List.length_take]
    exact Nat.min_eq_left (Nat.min_le_left _ _)
  have hst := run_storeCells_at P g o t (byteV (s.take (Nat.min s.length dLen))) 0 cur w hg (by rw [hlen]; simpa using hfit) (byteV_one _)
  obtain ⟨i, hi, hi1⟩ : ∃ i, P.info? elem = some i ∧ i.size = 1 := by
    cases hq : P.info? elem with
    | none => simp [hq] at hs
    | some i => exact ⟨i, rfl, by simpa [hq] using hs⟩
  have hsz : ByteArray.size ⟨s.toArray⟩ = s.length := by simp [ByteArray.size]
  have hex : ((ByteArray.extract ⟨s.toArray⟩ 0 (Nat.min s.length dLen)).data.map fun b => Value.int .u8 b.toNat).toList = byteV (s.take (Nat.min s.length dLen)) := by
    simp [byteV, ByteArray.data_extract]
  unfold Builtin.copy_
  have hst' := hst
  rw [hlen] at hst'
  simp only [Nat.add_zero] at hst'
  simp [Sem.run_bind, Sem.run_pure, run_underlying hu, Builtin.lenOf, Builtin.firstCells, sizeOf, typeInfo, hi, hsz]
  have he : List.take (min s.length dLen) (List.map (fun b : UInt8 => Value.int .u8 (b.toNat : Int)) s) = byteV (s.take (Nat.min s.length dLen)) := by
    rw [byteV, List.map_take]
  rw [he, hst']
  simp only [Result.andThen, splice, hlen, List.append_assoc]

theorem wpList_copy_string {w : World} {ops : Array Oper} {rest : List Oper} {o : Oper} {a : Act} {Q : Exit → Act → World → Prop} (hgd : o.guard = none) (d s : Operand) (dT sT : TypeId)
    (hop : o.op = .call { callee := .builtin .copy, args := #[d, s], argTypes := #[dT, sT] }) (elem : TypeId) (hu : P.underlying dT = some (.slice elem)) (hs : (P.info? elem).map (·.size) = some 1)
    (g off dLen dCap : Nat) (l : List UInt8) (hd : a.eval d = .slice (some ⟨g, off, none⟩) dLen dCap) (hl : a.eval s = .string ⟨l.toArray⟩) (cur : List Value) (t : TypeId) (hg : w.heap[g]? = some (.cells cur.toArray t))
    (hfit : off + Nat.min l.length dLen ≤ cur.length) (B : Nat) (w0 : World) (hb : Below B w0 w) (hB : B ≤ g)
    (h : ∀ w', w'.heap[g]? = some (.cells (splice cur off (byteV (l.take (Nat.min l.length dLen)))).toArray t) → Below B w0 w' → w'.heap.size = w.heap.size → wpList P ops Q rest (a.put o.dst (goInt (Nat.min l.length dLen))) w') :
    wpList P ops Q (o :: rest) a w := by
  refine wpList_plain hgd (fun K hK => ?_)
  have hr := run_copy_string (P := P) w dT sT o.type elem g off dLen dCap l cur.toArray t hu hs hg (by simpa using hfit)
  have hcl : (cur.toArray : Array Value).toList = cur := rfl
  rw [hcl] at hr
  unfold Oper.wp execOp
  simp only [hop, resolve, invoke, builtin, Sem.run_bind, Sem.run_pure, Result.andThen_ok, List.map_toArray, List.map_cons, List.map_nil, hd, hl, hr]
  have hlt : g < w.heap.size := (Array.getElem?_eq_some_iff.1 hg).1
  refine hK _ _ (h _ (setRow_heap w g _ _ t _ hg) (below_setRow hb hB _) (by simp [World.setRow]))
end
end Go.Proofs.YtjncmlglhegnaaaGreatDoor
namespace Go.Proofs.YtjncmlglhegnaaaGreatDoor
open Go.RowKit

theorem strV_len (l : List UInt8) : ByteArray.size ⟨l.toArray⟩ = l.length := by simp [ByteArray.size]
theorem strV_ne {t : List UInt8} (h : t ≠ []) : (ByteArray.mk t.toArray == ByteArray.mk #[]) = false := by
  cases t with
  | nil => exact absurd rfl h
  | cons a l =>
    show decide (ByteArray.mk (a :: l).toArray = ByteArray.mk #[]) = false
    rw [decide_eq_false_iff_not]
    intro e
    injection e with e
    simp at e
theorem made_one (z : Value) (n : Nat) : (madeCells #[z] n).toList = List.replicate n z := by
  simp [madeCells]
  apply List.ext_getElem
  · simp
  · intro i h1 h2
    have : i % 1 = 0 := by omega
    simp [this]
/-- what put lays down -/
theorem put_cells (s t : List UInt8) (n M L : Nat) (hL : L = M - n) (ht : t ≠ []) (hM : M = max s.length (n + t.length)) :
    splice (splice (List.replicate M (Value.int .u8 0)) 0 (byteV (s.take (Nat.min s.length M)))) n (byteV (t.take (Nat.min t.length L))) = byteV (putB s n t) := by
  have hs : s.length ≤ M := by omega
  have h1 : Nat.min s.length M = s.length := Nat.min_eq_left hs
  have h2 : Nat.min t.length L = t.length := Nat.min_eq_left (by omega)
  rw [h1, h2, List.take_length, List.take_length, putB, if_neg ht]
  have hz : (Value.int .u8 0) = (fun b : UInt8 => Value.int .u8 (b.toNat : Int)) 0 := rfl
  have hin : splice (List.replicate M (Value.int .u8 0)) 0 (byteV s) = byteV (s ++ List.replicate (M - s.length) 0) := by
    simp [splice, byteV]
  rw [hin]
  unfold splice byteV
  rw [← List.map_take, ← List.map_drop, ← List.map_append, ← List.map_append, List.length_map]
  congr 1
  have ha : (s ++ List.replicate (M - s.length) 0).take n = (s ++ List.replicate (n - s.length) (0 : UInt8)).take n := by
    simp only [List.take_append, List.take_replicate]
    congr 2
    omega
  have hb : (s ++ List.replicate (M - s.length) 0).drop (n + t.length) = s.drop (n + t.length) := by
    simp only [List.drop_append, List.drop_replicate]
    rw [show M - s.length - (n + t.length - s.length) = 0 by omega]
    simp
  rw [ha, hb, List.append_assoc]
theorem row_made {w : World} {base : Nat} {e : TypeId} {g n : Nat} {xs : List Value} (h : w.ownsRow base e 1 (.slice (some ⟨g, 0, none⟩) n n) n xs) : w.heap[g]? = some (.cells xs.toArray e) := by
  obtain ⟨_, h | ⟨g', cap, cur, h1, _, h3, _, _, h6, h7⟩⟩ := h
  · cases h.1
  · injection h1 with h1 h2 h2'
    injection h1 with h1
    injection h1 with h1
    subst h1 h2'
    rw [h3, ← h7, List.take_of_length_le (by simp [h6])]
theorem below_of_none {w w' : World} (h : w.grownBy w' none) : Below w.heap.size w w' := ⟨h.os, h.tape, h.output, h.size, fun k hk => h.block k hk (by simp)⟩
theorem infoByteD : (Tryz.prog.info? 5).map (fun i => (i.zero, i.size, i.bytes)) = some (some (.int .u8 0), 1, 1) := by kernel_rfl
theorem strOf_byteV (l : List UInt8) : strOfNums (l.map fun b => (b.toNat : Int)) = ⟨l.toArray⟩ := by
  have : ((fun n : Int => UInt8.ofNat n.toNat) ∘ fun b : UInt8 => (b.toNat : Int)) = id := by
    funext b
    simp
  simp [strOfNums, this]
theorem put_fits (s t : List UInt8) (n M L : Nat) (hL : L = M - n) (h : M = max s.length (n + t.length)) : n + Nat.min t.length L ≤ (splice (List.replicate M (Value.int .u8 0)) 0 (byteV (s.take (Nat.min s.length M)))).length := by
  have hM : s.length ≤ M := by omega
  have h1 : Nat.min s.length M = s.length := Nat.min_eq_left hM
  rw [h1]
  have : Nat.min t.length L ≤ L := Nat.min_le_right _ _
  simp [splice, byteV]
  omega
theorem putB_len (s t : List UInt8) (n M : Nat) (ht : t ≠ []) (hM : M = max s.length (n + t.length)) : (putB s n t).length = M := by
  rw [putB, if_neg ht]
  simp
  omega
theorem put_convert {w : World} {g : Nat} {r : List UInt8} (h : w.heap[g]? = some (.cells (byteV r).toArray 5)) (N : Nat) (hN : r.length = N) :
    Sem.run Tryz.prog (convert 176 9 (.slice (some ⟨g, 0, none⟩) N N)) w = .ok (.string ⟨r.toArray⟩) w := by
  have := run_convert_bytes_arg (P := Tryz.prog) w 176 5 Tryz.underlying176 Tryz.underlying5 g 0 N N (r.map fun b => (b.toNat : Int)) (by simp [hN]) (fun i hi => by
    have hi' : i < r.length := by omega
    simp [World.cell?, h, byteV, hi', List.getD]) 9 Tryz.underlying9
  rw [strOf_byteV] at this
  exact this
set_option maxRecDepth 100000 in
set_option maxHeartbeats 1000000 in
theorem put_any (w : World) (s t : List UInt8) (n : Nat) (hs : s.length ≤ 16777216) (hn : n + t.length ≤ 16777216) (r : List UInt8) (hr : putB s n t = r) :
    Calls Tryz.prog 73 #[strV s, .int .i64 n, strV t] w fun e w' => e = .returned (strV r) ∧ Below w.heap.size w w' := by
  unfold strV
  subst hr
  by_cases ht : t = []
  · subst ht
    rw [show putB s n [] = s by simp [putB]]
    go_enter Tryz.func73, Tryz.ntmps73
    go_wp2_with (fail)
    go_ret
    exact ⟨rfl, Below.refl _ _⟩
  · have hs' := strV_len s
    have ht' := strV_len t
    have htn := strV_ne ht
    have hte : t.isEmpty = false := by simp [ht]
    obtain ⟨i0, hi0, hz0, hz1, hz2⟩ := info_parts infoByteD
    by_cases hm : s.length < n + t.length
    · have hmx : (s.length : Int) < (n : Int) + (t.length : Int) := by omega
      go_enter Tryz.func73, Tryz.ntmps73
      go_wp2_with (first
        | (at_make; refine wpList_make_full w rfl (.tmp 17) (.tmp 17) 176 rfl w.heap.size 5 i0 (.int .u8 0) 1 Tryz.underlying176 hi0 hz0 hz1 .i64 .i64 _ _ (n + t.length) rfl rfl (by omega) (by omega) (by rw [hz2]; omega) (by simp only [maxLen]; omega) (Nat.le_refl _) ?_; intro w1 hown1 hg1; have hrow1 := row_made hown1; rw [show (Value.int .u8 0).cells = #[Value.int .u8 0] from rfl, Nat.mul_one, made_one] at hrow1; have hB1 : Below w.heap.size w w1 := below_of_none hg1)
        | ((with_reducible show wpList _ _ _ _ _ _); refine wpList_copy_string rfl (.tmp 19) (.tmp 20) 176 9 rfl 5 Tryz.underlying176 (by rw [hi0]; simp [hz1]) w.heap.size 0 (n + t.length) (n + t.length) s rfl rfl (List.replicate (n + t.length) (.int .u8 0)) 5 hrow1 (by rw [List.length_replicate, Nat.zero_add]; exact Nat.min_le_right _ _) w.heap.size w hB1 (Nat.le_refl _) ?_; intro w2 hrow2 hB2 hz2')
        | ((with_reducible show wpList _ _ _ _ _ _); refine wpList_copy_string rfl (.tmp 24) (.tmp 25) 176 9 rfl 5 Tryz.underlying176 (by rw [hi0]; simp [hz1]) w.heap.size n t.length t.length t rfl rfl _ 5 hrow2 (put_fits s t n (n + t.length) t.length (by omega) (by omega)) w.heap.size w hB2 (Nat.le_refl _) ?_; intro w3 hrow3 hB3 hz3'; rw [put_cells s t n (n + t.length) t.length (by omega) ht (by omega)] at hrow3; have hk := put_convert hrow3 (n + t.length) (putB_len s t n _ ht (by omega))))
      go_ret
      exact ⟨rfl, hB3⟩
    · have hmx : (n : Int) + (t.length : Int) ≤ (s.length : Int) := by omega
      have htp := List.length_pos_iff.2 ht
      have hns : (n : Int) < s.length := by omega
      go_enter Tryz.func73, Tryz.ntmps73
      go_wp2_with (first
        | (at_make; refine wpList_make_full w rfl (.tmp 17) (.tmp 17) 176 rfl w.heap.size 5 i0 (.int .u8 0) 1 Tryz.underlying176 hi0 hz0 hz1 .i64 .i64 _ _ s.length rfl rfl (by omega) (by omega) (by rw [hz2]; omega) (by simp only [maxLen]; omega) (Nat.le_refl _) ?_; intro w1 hown1 hg1; have hrow1 := row_made hown1; rw [show (Value.int .u8 0).cells = #[Value.int .u8 0] from rfl, Nat.mul_one, made_one] at hrow1; have hB1 : Below w.heap.size w w1 := below_of_none hg1)
        | ((with_reducible show wpList _ _ _ _ _ _); refine wpList_copy_string rfl (.tmp 19) (.tmp 20) 176 9 rfl 5 Tryz.underlying176 (by rw [hi0]; simp [hz1]) w.heap.size 0 s.length s.length s rfl rfl (List.replicate s.length (.int .u8 0)) 5 hrow1 (by rw [List.length_replicate, Nat.zero_add]; exact Nat.min_le_right _ _) w.heap.size w hB1 (Nat.le_refl _) ?_; intro w2 hrow2 hB2 hz2')
        | ((with_reducible show wpList _ _ _ _ _ _); refine wpList_copy_string rfl (.tmp 24) (.tmp 25) 176 9 rfl 5 Tryz.underlying176 (by rw [hi0]; simp [hz1]) w.heap.size n (s.length - n) (s.length - n) t rfl rfl _ 5 hrow2 (put_fits s t n s.length (s.length - n) (by omega) (by omega)) w.heap.size w hB2 (Nat.le_refl _) ?_; intro w3 hrow3 hB3 hz3'; rw [put_cells s t n s.length (s.length - n) (by omega) ht (by omega)] at hrow3; have hk := put_convert hrow3 s.length (putB_len s t n _ ht (by omega))))
      go_ret
      exact ⟨rfl, hB3⟩
end Go.Proofs.YtjncmlglhegnaaaGreatDoor
namespace Go.Proofs.YtjncmlglhegnaaaGreatDoor
open Go.RowKit

theorem zeroFile (w : World) : (zeroValue 121).run Tryz.prog w = .ok (fileV noFile) w := by
  have : (Tryz.prog.info? 121).map (·.zero) = some (some (fileV noFile)) := by kernel_rfl
  cases h : Tryz.prog.info? 121 with
  | none => simp [h] at this
  | some i =>
    rw [h] at this
    simp only [Option.map_some, Option.some.injEq] at this
    simp [zeroValue, typeInfo, h, this, go_sem]
theorem extract_list (l : List UInt8) (i j : Nat) : ByteArray.extract ⟨l.toArray⟩ i j = ⟨((l.drop i).take (j - i)).toArray⟩ := by
  apply ByteArray.ext
  simp [ByteArray.data_extract, List.extract_eq_take_drop]
theorem extract_empty (i j : Nat) : ByteArray.extract ByteArray.empty i j = ByteArray.mk #[] := by
  apply ByteArray.ext
  simp [ByteArray.data_extract]
theorem field_now (a b : Value) (w : World) : (Instr.field 121 (.agg #[a, b]) 0).run Tryz.prog w = .ok a w := by
  simp [Instr.field, part, asAgg, go_sem]
section
variable {w : World} {F : Nat → Prop} {B : Nat} {d : DV} {mf ms : Nat} {Q : Option Addr} {cq : Nat} {K : Option Addr} {ck : Nat}
theorem DiskAt.look (h : DiskAt w F B d mf ms Q cq K ck) (f : Int) : (Instr.lookup 90 (.map (some mf)) (.int .i64 f) false).run Tryz.prog w = .ok (fileV (d.file f)) w := by
  have := run_lookupA (P := Tryz.prog) (keyW_int Tryz.underlying3) Tryz.underlying90 (zeroFile w) h.files f
  rw [this, DV.file]
  cases getA f d.files <;> rfl
set_option maxRecDepth 100000 in
set_option maxHeartbeats 400000 in
theorem Size_any (h : DiskAt w F B d mf ms Q cq K ck) (f : Int) (r : Int) (hr : r = (d.file f).now.length) :
    Calls Tryz.prog 105 #[.pointer (some ⟨B, 0, none⟩), .int .i64 f] w fun e w' => e = .returned (.int .i64 r) ∧ w = w' := by
  have hl := h.look f
  unfold fileV strV at hl
  have hs := strV_len (d.file f).now
  subst hr
  obtain ⟨zB, kB, fB⟩ := h.loc
  clear h
  have hfe := fun w => field_now (.string ⟨(d.file f).now.toArray⟩) (.string ⟨(d.file f).last.toArray⟩) w
  go_enter Tryz.func105, Tryz.ntmps105
  go_wp2_with (fail)
  go_ret
  exact ⟨rfl, rfl⟩
set_option maxRecDepth 100000 in
set_option maxHeartbeats 1000000 in
theorem Read_any (h : DiskAt w F B d mf ms Q cq K ck) (f at_ n : Int) (r : List UInt8 × Int) (hr : ReadF d f at_ n = r) :
    Calls Tryz.prog 104 #[.pointer (some ⟨B, 0, none⟩), .int .i64 f, .int .i64 at_, .int .i64 n] w fun e w' => e = .returned (.tuple #[strV r.1, .int .i64 r.2]) ∧ w = w' := by
  have hl := h.look f
  unfold fileV strV at hl
  have hs := strV_len (d.file f).now
  have H := Lib.hid h
  obtain ⟨zB, kB, fB⟩ := h.loc
  clear h
  have hfe := fun w => field_now (.string ⟨(d.file f).now.toArray⟩) (.string ⟨(d.file f).last.toArray⟩) w
  have hm' := may_any H.out f _ rfl
  subst hr
  unfold ReadF
  by_cases hm : mayF d f = 0
  · rw [if_neg (by simp [hm])]
    rw [hm] at hm'
    have HM := Lib.hid hm'
    clear hm hm'
    by_cases ha : at_ < 0
    · rw [if_pos (Or.inl ha)]
      unfold strV
      go_enter Tryz.func104, Tryz.ntmps104
      go_wp2_with ((with_reducible refine (HM.out).mono ?_); rintro _ _ ⟨rfl, rfl⟩)
      go_ret2
      exact ⟨rfl, rfl⟩
    · by_cases ha2 : n < 0
      · rw [if_pos (Or.inr ha2)]
        unfold strV
        go_enter Tryz.func104, Tryz.ntmps104
        go_wp2_with ((with_reducible refine (HM.out).mono ?_); rintro _ _ ⟨rfl, rfl⟩)
        go_ret2
        exact ⟨rfl, rfl⟩
      · rw [if_neg (by omega)]
        have ha1 : 0 ≤ at_ := by omega
        have ha2 : 0 ≤ n := by omega
        unfold strV
        go_enter Tryz.func104, Tryz.ntmps104
        go_wp2_with ((with_reducible refine (HM.out).mono ?_); rintro _ _ ⟨rfl, rfl⟩)
        all_goals go_ret2
        all_goals refine ⟨congrArg (fun q => Ending.returned (.tuple #[.string q, .int .i64 0])) ?_, rfl⟩
        · rw [List.drop_of_length_le (by omega), List.take_nil]
          first | exact extract_empty _ _ | rfl
        · rw [List.drop_of_length_le (by omega), List.take_nil]
          first | exact extract_empty _ _ | rfl
        · rw [extract_list, extract_list, List.drop_zero, Nat.sub_zero, List.take_of_length_le (i := n.toNat) (by simp; omega), List.take_of_length_le (by simp), List.take_of_length_le (by simp)]
        · rw [extract_list, extract_list, List.drop_zero, Nat.sub_zero, List.take_of_length_le (i := (d.file f).now.length - at_.toNat) (by simp)]
  · rw [if_pos hm]
    have h1 : (mayF d f == 0) = false := by simpa using hm
    have h2 : (mayF d f != 0) = true := by simpa using hm
    have HM := Lib.hid hm'
    clear hm hm'
    unfold strV
    generalize mayF d f = m at *
    go_enter Tryz.func104, Tryz.ntmps104
    go_wp2_with ((with_reducible refine (HM.out).mono ?_); rintro _ _ ⟨rfl, rfl⟩)
    go_ret2
    exact ⟨rfl, rfl⟩
end
end Go.Proofs.YtjncmlglhegnaaaGreatDoor
namespace Go.Proofs.YtjncmlglhegnaaaGreatDoor

section
variable {κ ν : Type} [DecidableEq κ]
theorem getA_put_same (k : κ) (v : ν) : ∀ es : List (κ × ν), getA k (putA k v es) = some v
  | [] => by simp [putA, getA]
  | (k', v') :: es => by
    by_cases h : k = k'
    · simp [putA, getA, h]
    · simp [putA, getA, h, getA_put_same k v es]
theorem getA_put_ne {k k1 : κ} (v : ν) (hne : k1 ≠ k) : ∀ es : List (κ × ν), getA k1 (putA k v es) = getA k1 es
  | [] => by simp [putA, getA, hne]
  | (k', v') :: es => by
    by_cases h : k = k'
    · subst h; simp [putA, getA, hne]
    · by_cases h1 : k1 = k'
      · simp [putA, getA, h, h1]
      · simp [putA, getA, h, h1, getA_put_ne v hne es]
theorem mem_putA {k : κ} {v : ν} {p : κ × ν} : ∀ {es : List (κ × ν)}, p ∈ putA k v es → p = (k, v) ∨ p ∈ es
  | [], h => by simp [putA] at h; exact .inl h
  | (k', v') :: es, h => by
    unfold putA at h
    split at h
    · rcases List.mem_cons.1 h with h | h
      · exact .inl h
      · exact .inr (List.mem_cons_of_mem _ h)
    · rcases List.mem_cons.1 h with h | h
      · exact .inr (by simp [h])
      · rcases mem_putA h with h | h
        · exact .inl h
        · exact .inr (List.mem_cons_of_mem _ h)
theorem putA_nodup {k : κ} {v : ν} : ∀ {es : List (κ × ν)}, (es.map (·.1)).Nodup → ((putA k v es).map (·.1)).Nodup
  | [], _ => by simp [putA]
  | (k', v') :: es, h => by
    simp only [List.map_cons, List.nodup_cons] at h
    unfold putA
    split
    · rename_i hk
      subst hk
      simpa using h
    · rename_i hk
      simp only [List.map_cons, List.nodup_cons]
      refine ⟨fun hm => ?_, putA_nodup h.2⟩
      obtain ⟨p, hp, hpk⟩ := List.mem_map.1 hm
      rcases mem_putA hp with rfl | hp
      · exact hk hpk
      · exact h.1 (List.mem_map.2 ⟨p, hp, hpk⟩)
theorem getA_mem {k : κ} {v : ν} : ∀ {es : List (κ × ν)}, getA k es = some v → (k, v) ∈ es
  | [], h => by simp [getA] at h
  | (k', v') :: es, h => by
    unfold getA at h
    split at h
    · rename_i hk
      subst hk
      simp only [Option.some.injEq] at h
      simp [h]
    · exact List.mem_cons_of_mem _ (getA_mem h)
theorem getA_map {ν' : Type} (f : ν → ν') (k : κ) : ∀ es : List (κ × ν), getA k (es.map fun p => (p.1, f p.2)) = (getA k es).map f
  | [] => rfl
  | (k', v') :: es => by
    by_cases h : k = k'
    · simp [getA, h]
    · simp [getA, h, getA_map f k es]
end
/-- as many different numbers below M: no more than M -/
theorem pigeon : ∀ (M : Nat) (l : List Nat), l.Nodup → (∀ x ∈ l, x < M) → l.length ≤ M
  | 0, l, _, h => by
    cases l with
    | nil => simp
    | cons a l => exact absurd (h a (by simp)) (by omega)
  | M + 1, l, hn, h => by
    have h1 := pigeon M (l.erase M) (hn.erase _) (fun x hx => by
      have hx' := List.Nodup.mem_erase_iff hn |>.1 hx
      have := h x hx'.2
      have := hx'.1
      omega)
    have h2 : l.length ≤ (l.erase M).length + 1 := by
      rw [List.length_erase]
      split <;> omega
    omega

theorem putB_length (s t : List UInt8) (n : Nat) (ht : t ≠ []) : (putB s n t).length = max s.length (n + t.length) := by
  rw [putB, if_neg ht]
  simp
  omega
theorem putB_nil (s : List UInt8) (n : Nat) : putB s n [] = s := by simp [putB]
theorem putB_le (s t : List UInt8) (n M : Nat) (hs : s.length ≤ M) (ht : n + t.length ≤ M) : (putB s n t).length ≤ M := by
  by_cases h : t = []
  · subst h; rw [putB_nil]; exact hs
  · rw [putB_length _ _ _ h]; omega

structure DOk (d : DV) : Prop where
  armed : 0 ≤ d.armed ∧ d.armed ≤ 9223372036854775807
  lost : 0 ≤ d.lost ∧ d.lost ≤ 9223372036854775807
  files : ∀ p ∈ d.files, p.2.now.length ≤ 16777216 ∧ p.2.last.length ≤ 16777216
  keys : (d.files.map (·.1)).Nodup
  queue : ∀ p ∈ d.queue, (0 ≤ p.1 ∧ p.1 < 16) ∧ 0 ≤ p.2 ∧ p.2 ≤ 262144
  nodup : d.queue.Nodup
  klen : d.keep.length ≤ 4194320
namespace DOk
variable {d : DV}
theorem file (h : DOk d) (f : Int) : (d.file f).now.length ≤ 16777216 ∧ (d.file f).last.length ≤ 16777216 := by
  unfold DV.file
  cases hg : getA f d.files with
  | none => simp [noFile]
  | some x => exact h.files _ (getA_mem hg)
theorem len (h : DOk d) : d.queue.length ≤ 4194320 := by
  have h1 := pigeon 4194320 (d.queue.map fun p => p.1.toNat * 262145 + p.2.toNat) (by
    rw [List.nodup_iff_pairwise_ne, List.pairwise_map]
    refine (List.nodup_iff_pairwise_ne.1 h.nodup).imp_of_mem fun {a b} ha hb hne e => hne ?_
    have h1 := h.queue a ha
    have h2 := h.queue b hb
    ext <;> omega) (fun x hx => by
    obtain ⟨p, hp, rfl⟩ := List.mem_map.1 hx
    have := h.queue p hp
    omega)
  simpa using h1
theorem new : DOk newD := ⟨by simp [newD], by simp [newD], by simp [newD], by simp [newD], by simp [newD], by simp [newD], by simp [newD]⟩
theorem ends (h : DOk d) : DOk (endsF d).1 := by
  unfold endsF
  split
  · exact h
  · rename_i hc
    have := h.armed
    exact ⟨by show 0 ≤ d.armed - 1 ∧ d.armed - 1 ≤ _; omega, h.lost, h.files, h.keys, h.queue, h.nodup, h.klen⟩
theorem putFile (h : DOk d) (f : Int) (x : FileV) (hx : x.now.length ≤ 16777216 ∧ x.last.length ≤ 16777216) : DOk { d with files := putA f x d.files } :=
  ⟨h.armed, h.lost, fun p hp => by
    rcases mem_putA hp with rfl | hp
    · exact hx
    · exact h.files p hp, putA_nodup h.keys, h.queue, h.nodup, h.klen⟩
end DOk
theorem addQ_mem {p : Int × Int} : ∀ (ps q : List (Int × Int)), p ∈ addQ q ps ↔ p ∈ q ∨ p ∈ ps
  | [], q => by simp [addQ]
  | x :: ps, q => by
    unfold addQ
    rw [addQ_mem ps]
    split
    · rename_i hx
      constructor
      · rintro (h | h)
        · exact .inl h
        · exact .inr (List.mem_cons_of_mem _ h)
      · rintro (h | h)
        · exact .inl h
        · rcases List.mem_cons.1 h with rfl | h
          · exact .inl hx
          · exact .inr h
    · simp only [List.mem_append, List.mem_cons, List.not_mem_nil, or_false]
      constructor
      · rintro ((h | h) | h)
        · exact .inl h
        · exact .inr (.inl h)
        · exact .inr (.inr h)
      · rintro (h | h | h)
        · exact .inl (.inl h)
        · exact .inl (.inr h)
        · exact .inr h
theorem addQ_nodup : ∀ (ps q : List (Int × Int)), q.Nodup → (addQ q ps).Nodup
  | [], q, h => h
  | x :: ps, q, h => by
    unfold addQ
    refine addQ_nodup ps _ ?_
    split
    · exact h
    · rename_i hx
      rw [List.nodup_append]
      refine ⟨h, by simp, fun a ha b hb => ?_⟩
      simp only [List.mem_singleton] at hb
      rintro rfl
      exact hx (hb ▸ ha)
theorem addQ_append : ∀ (ps qs q : List (Int × Int)), addQ q (ps ++ qs) = addQ (addQ q ps) qs
  | [], qs, q => rfl
  | x :: ps, qs, q => by simp only [List.cons_append, addQ]; exact addQ_append ps qs _
theorem touched_mem {f : Int} {at_ n : Nat} {p : Int × Int} (h : p ∈ touched f at_ n) : p.1 = f ∧ ∃ k : Nat, p.2 = (k : Int) ∧ at_ / 64 ≤ k ∧ k ≤ at_ / 64 + (((at_ + n - 1) / 64) - at_ / 64) := by
  unfold touched at h
  obtain ⟨i, hi, rfl⟩ := List.mem_map.1 h
  have := List.mem_range.1 hi
  exact ⟨rfl, at_ / 64 + i, rfl, by omega, by omega⟩
namespace DOk
variable {d : DV}
theorem may {f : Int} (h : mayF d f = 0) : d.down = false ∧ 0 ≤ f ∧ f < 16 := by
  unfold mayF at h
  split at h
  · cases h
  · rename_i hd
    split at h
    · cases h
    · exact ⟨by simpa using hd, by omega, by omega⟩
theorem write (h : DOk d) (f at_ : Int) (s : List UInt8) : DOk (writeF d f at_ s).1 := by
  unfold writeF
  split
  · exact h
  · rename_i hm
    have hm' := may (by omega : mayF d f = 0)
    split
    · exact h
    · split
      · exact h
      · split
        · exact h
        · rename_i h1 h2 h3
          have hf := h.file f
          have hs : 0 < s.length := List.length_pos_iff.2 h3
          have h4 := h.putFile f ⟨putB (d.file f).now at_.toNat s, (d.file f).last⟩ ⟨putB_le _ _ _ _ hf.1 (by omega), hf.2⟩
          refine ⟨h4.armed, h4.lost, h4.files, h4.keys, fun p hp => ?_, addQ_nodup _ _ h.nodup, h.klen⟩
          rcases (addQ_mem _ _).1 hp with hp | hp
          · exact h.queue p hp
          · obtain ⟨rfl, k, hk, h5, h6⟩ := touched_mem hp
            exact ⟨hm'.2, by omega, by omega⟩
theorem settle (h : DOk d) (f : Int) (s : List UInt8) (hs : s.length ≤ 16777216) : DOk (settleF d f s) := by
  have h4 := h.putFile f ⟨s, s⟩ ⟨hs, hs⟩
  exact ⟨h4.armed, h4.lost, h4.files, h4.keys, fun p hp => h.queue p (List.mem_filter.1 hp).1, h.nodup.filter _, h.klen⟩
end DOk
/-- the files alone, while sectors survive -/
def FOk (fs : List (Int × FileV)) : Prop := (∀ p ∈ fs, p.2.now.length ≤ 16777216 ∧ p.2.last.length ≤ 16777216) ∧ (fs.map (·.1)).Nodup
theorem FOk.get {fs : List (Int × FileV)} (h : FOk fs) (f : Int) : ((getA f fs).getD noFile).now.length ≤ 16777216 ∧ ((getA f fs).getD noFile).last.length ≤ 16777216 := by
  cases hg : getA f fs with
  | none => simp [noFile]
  | some x => exact h.1 _ (getA_mem hg)
theorem FOk.survive {fs : List (Int × FileV)} (h : FOk fs) (p : Int × Int) : FOk (surviveF fs p) := by
  have hg := h.get p.1
  unfold surviveF
  dsimp only
  split
  · exact h
  · rename_i hlt
    refine ⟨fun q hq => ?_, putA_nodup h.2⟩
    rcases mem_putA hq with rfl | hq
    · refine ⟨hg.1, putB_le _ _ _ _ hg.2 ?_⟩
      simp only [List.length_take, List.length_drop]
      omega
    · exact h.1 q hq
theorem FOk.surviveAll : ∀ {keep : List Int} {ps : List (Int × Int)} {i : Nat} {fs : List (Int × FileV)}, FOk fs → FOk (surviveAll keep i ps fs)
  | _, [], _, _, h => h
  | keep, p :: ps, i, fs, h => by
    unfold Go.Proofs.YtjncmlglhegnaaaGreatDoor.surviveAll
    refine FOk.surviveAll ?_
    split
    · exact h
    · exact h.survive p
namespace DOk
variable {d : DV}
theorem fok (h : DOk d) : FOk d.files := ⟨h.files, h.keys⟩
theorem crash (h : DOk d) (keep : List Int) : DOk (crashF d keep) := by
  unfold crashF
  split
  · exact h
  · have hf := FOk.surviveAll (keep := keep) (ps := d.queue) (i := 0) h.fok
    refine ⟨by simp, h.lost, fun p hp => ?_, ?_, by simp, by simp, h.klen⟩
    · obtain ⟨q, hq, rfl⟩ := List.mem_map.1 hp
      exact ⟨(hf.1 q hq).2, (hf.1 q hq).2⟩
    · simpa [Function.comp_def] using hf.2
theorem Write (h : DOk d) (f at_ : Int) (s : List UInt8) : DOk (WriteF d f at_ s).1 := by
  unfold WriteF
  dsimp only
  split
  · exact (h.ends.write f at_ s).crash _
  · exact h.ends.write f at_ s
theorem begin_ (h : DOk d) : DOk (beginF d) := by
  unfold beginF
  dsimp only
  split
  · exact h.ends.crash _
  · exact h.ends
theorem Sync (h : DOk d) (f : Int) : DOk (SyncF d f).1 := by
  unfold SyncF
  dsimp only
  have hb := h.begin_
  split
  · exact hb
  · split
    · have := hb.lost
      exact ⟨hb.armed, by show 0 ≤ _ - 1 ∧ _ - 1 ≤ _; omega, hb.files, hb.keys, hb.queue, hb.nodup, hb.klen⟩
    · exact hb.settle _ _ (hb.file f).1
theorem Trunc (h : DOk d) (f n : Int) : DOk (TruncF d f n).1 := by
  unfold TruncF
  dsimp only
  have hb := h.begin_
  split
  · exact hb
  · split
    · exact hb
    · refine hb.settle _ _ ?_
      have := (hb.file f).1
      simp only [List.length_take]
      omega
theorem Lose (h : DOk d) (n : Int) (hn : n ≤ 9223372036854775807) : DOk (LoseF d n) := ⟨h.armed, by show 0 ≤ max n 0 ∧ max n 0 ≤ _; omega, h.files, h.keys, h.queue, h.nodup, h.klen⟩
theorem Arm (h : DOk d) (n : Int) (hn : n ≤ 9223372036854775807) (keep : List Int) (hk : keep.length ≤ 4194320) : DOk (ArmF d n keep) := ⟨by show 0 ≤ max n 0 ∧ max n 0 ≤ _; omega, h.lost, h.files, h.keys, h.queue, h.nodup, hk⟩
theorem Start (h : DOk d) : DOk (StartF d) := ⟨h.armed, h.lost, h.files, h.keys, h.queue, h.nodup, h.klen⟩
end DOk
end Go.Proofs.YtjncmlglhegnaaaGreatDoor
namespace Go.Proofs.YtjncmlglhegnaaaGreatDoor
open Go.RowKit
open Go.ChangeMaps (setBlock)

section
variable {κ ν : Type} [DecidableEq κ] {enc : κ → Value} {ev : ν → Value}
/-- Block b is a map, block r an iterator over it: entries, each with 'still to come'. -/
def RangeAt (enc : κ → Value) (ev : ν → Value) (w : World) (b r : Nat) (l : List (κ × ν × Bool)) : Prop :=
  ∃ (arr : Array MapEntry) (clock since c0 : Nat) (seen : Array Nat),
    w.heap[b]? = some (.map arr clock) ∧ w.heap[r]? = some (.mapIter (some b) since seen c0) ∧
    arr.toList.map (fun e => (e.key, e.val, !seen.contains e.born)) = l.map (fun p => (enc p.1, ev p.2.1, p.2.2)) ∧
    (arr.toList.map (·.born)).Nodup ∧ (∀ e ∈ arr.toList, e.born < since) ∧ since ≤ c0 ∧ since ≤ clock
variable {w w' : World} {b r : Nat} {l : List (κ × ν × Bool)}
omit [DecidableEq κ] in
theorem RangeAt.map (h : RangeAt enc ev w b r l) : MapAt w b (entV enc ev (l.map fun p => (p.1, p.2.1))) := by
  obtain ⟨arr, clock, since, c0, seen, hb, hr, he, hn, hs, h1, h2⟩ := h
  refine ⟨arr, clock, hb, ?_, hn, fun e he' => by have := hs e he'; omega⟩
  have h3 : (arr.toList.map (fun e => (e.key, e.val, !seen.contains e.born))).map (fun q => (q.1, q.2.1)) = (l.map (fun p => (enc p.1, ev p.2.1, p.2.2))).map (fun q => (q.1, q.2.1)) := by rw [he]
  simpa [entV, Function.comp_def] using h3
omit [DecidableEq κ] in
theorem RangeAt.lt (h : RangeAt enc ev w b r l) : b < w.heap.size ∧ r < w.heap.size ∧ b ≠ r := by
  obtain ⟨arr, clock, since, c0, seen, hb, hr, _⟩ := h
  refine ⟨(Array.getElem?_eq_some_iff.1 hb).1, (Array.getElem?_eq_some_iff.1 hr).1, ?_⟩
  rintro rfl
  rw [hb] at hr
  cases hr
omit [DecidableEq κ] in
theorem RangeAt.left (h : RangeAt enc ev w b r l) : w.rangeLeft b r = (l.filter fun p => p.2.2).length := by
  obtain ⟨arr, clock, since, c0, seen, hb, hr, he, hn, hs, h1, h2⟩ := h
  simp only [World.rangeLeft, hb, hr]
  have h3 : ((arr.toList.map (fun e => (e.key, e.val, !seen.contains e.born))).filter fun q => q.2.2).length = ((l.map (fun p => (enc p.1, ev p.2.1, p.2.2))).filter fun q => q.2.2).length := by rw [he]
  rw [List.filter_map, List.filter_map, List.length_map, List.length_map] at h3
  have h4 : (leftOf arr seen).size = (arr.toList.filter fun e => !seen.contains e.born).length := by
    unfold leftOf
    rw [← Array.toList_filter, Array.length_toList]
  rw [h4]
  simpa [Function.comp_def] using h3
omit [DecidableEq κ] in
theorem RangeAt.grown {row : Option Nat} (h : RangeAt enc ev w b r l) (hg : w.grownBy w' row) (hb : row ≠ some b) (hr : row ≠ some r) : RangeAt enc ev w' b r l := by
  have hl := h.lt
  obtain ⟨arr, clock, since, c0, seen, h1, h2, h3⟩ := h
  exact ⟨arr, clock, since, c0, seen, by rw [hg.block b hl.1 (fun e => hb e.symm)]; exact h1, by rw [hg.block r hl.2.1 (fun e => hr e.symm)]; exact h2, h3⟩
omit [DecidableEq κ] in
/-- 'range m' -/
theorem run_rangeA {P : Program} {mt kt et : TypeId} (hm : P.underlying mt = some (.map kt et)) {es : List (κ × ν)} (h : MapAt w b (entV enc ev es)) :
    ∃ w', (Instr.range mt (.map (some b))).run P w = .ok (.pointer (some ⟨w.heap.size, 0, none⟩)) w' ∧ RangeAt enc ev w' b w.heap.size (es.map fun p => (p.1, p.2, true)) ∧ Below w.heap.size w w' ∧ w'.heap.size = w.heap.size + 1 := by
  obtain ⟨arr, clock, hb, he, hn, hc⟩ := h
  have hlt : b < w.heap.size := (Array.getElem?_eq_some_iff.1 hb).1
  refine ⟨_, run_range_map w mt kt et b arr clock hm hb, ⟨arr, clock, clock, clock, #[], ((MapKept.heap_alloc w _).2 b hlt).trans hb, (MapKept.heap_alloc w _).1, ?_, hn, hc, Nat.le_refl _, Nat.le_refl _⟩, below_alloc w _, by simp⟩
  have h1 : (arr.toList.map (fun e => (e.key, e.val))).map (fun q => (q.1, q.2, true)) = (entV enc ev es).map (fun q => (q.1, q.2, true)) := by rw [he]
  simpa [entV, Function.comp_def] using h1
theorem map_mid {α β γ : Type} {f : α → γ} {g : β → γ} {l1 l2 : List β} {p : β} {a : List α} (h : a.map f = (l1 ++ p :: l2).map g) :
    ∃ a1 e a2, a = a1 ++ e :: a2 ∧ a1.map f = l1.map g ∧ f e = g p ∧ a2.map f = l2.map g ∧ a1.length = l1.length := by
  rw [List.map_append, List.map_cons] at h
  obtain ⟨a1, a', rfl, h1, h2⟩ := List.map_eq_append_iff.1 h
  obtain ⟨e, a2, rfl, h3, h4⟩ := List.map_eq_cons_iff.1 h2
  exact ⟨a1, e, a2, rfl, h1, h3, h4, by have := congrArg List.length h1; simpa using this⟩
theorem push_contains (seen : Array Nat) (n m : Nat) : (seen.push n).contains m = (seen.contains m || m == n) := by
  rw [Bool.eq_iff_iff]
  simp [Array.contains_iff_mem, Array.mem_push]
omit [DecidableEq κ] in
/-- the step -/
theorem run_nextA (P : Program) (ty : TypeId) (h : RangeAt enc ev w b r l) :
    ((∀ p ∈ l, p.2.2 = false) ∧ (Instr.next (.pointer (some ⟨r, 0, none⟩)) false ty).run P w = .ok (.tuple #[.bool false]) w) ∨
    ∃ l1 k v l2 w', l = l1 ++ (k, v, true) :: l2 ∧ (Instr.next (.pointer (some ⟨r, 0, none⟩)) false ty).run P w = .ok (.tuple #[.bool true, enc k, ev v]) w' ∧
      RangeAt enc ev w' b r (l1 ++ (k, v, false) :: l2) ∧ w.grownBy w' (some r) ∧ w'.heap.size = w.heap.size ∧
      (Instr.entry (.pointer (some ⟨r, 0, none⟩))).run P w' = .ok (.tuple #[enc k, ev v]) w' := by
  have hl := h.lt
  obtain ⟨arr, clock, since, c0, seen, hb, hr, he, hn, hs, h1, h2⟩ := h
  rcases run_next_at (P := P) w ty r b since c0 seen arr clock hr hb hs h1 with ⟨h0, hrun⟩ | ⟨e, hmem, w1, hw1, hrun⟩
  · refine .inl ⟨fun p hp => ?_, hrun⟩
    have hm : (enc p.1, ev p.2.1, p.2.2) ∈ arr.toList.map (fun e => (e.key, e.val, !seen.contains e.born)) := by rw [he]; exact List.mem_map.2 ⟨p, hp, rfl⟩
    obtain ⟨e, he1, he2⟩ := List.mem_map.1 hm
    simp only [Prod.mk.injEq] at he2
    cases hq : p.2.2 with
    | false => rfl
    | true =>
      exfalso
      have hin : e ∈ leftOf arr seen := by
        unfold leftOf
        rw [Array.mem_filter]
        exact ⟨by simpa using he1, by rw [he2.2.2]; exact hq⟩
      rw [Array.eq_empty_of_size_eq_zero h0] at hin
      simp at hin
  · have hin : e ∈ arr.toList ∧ (!seen.contains e.born) = true := by
      unfold leftOf at hmem
      simpa [Array.mem_filter] using hmem
    obtain ⟨a1, a2, ha⟩ := List.append_of_mem hin.1
    have he' := he.symm
    rw [ha] at he'
    obtain ⟨l1, p, l2, rfl, g1, g2, g3, g4⟩ := map_mid he'
    obtain ⟨k, v, f⟩ := p
    simp only [Prod.mk.injEq] at g2
    obtain ⟨g2, g2', g2''⟩ := g2
    rw [hin.2] at g2''
    subst g2''
    have hb1 : w1.heap[b]? = some (.map arr clock) := by rcases hw1 with rfl | rfl <;> exact hb
    have hr1 : r < w1.heap.size := by rcases hw1 with rfl | rfl <;> exact hl.2.1
    have hb2 : (setBlock w1 r (.mapIter (some b) since (seen.push e.born) clock)).heap[b]? = some (.map arr clock) := by
      simp only [setBlock, Array.getElem?_setIfInBounds]
      rw [if_neg (fun e => hl.2.2 e.symm)]
      exact hb1
    have hr2 : (setBlock w1 r (.mapIter (some b) since (seen.push e.born) clock)).heap[r]? = some (.mapIter (some b) since (seen.push e.born) clock) := by
      simp [setBlock, hr1]
    refine .inr ⟨l1, k, v, l2, _, rfl, by rw [g2, g2']; exact hrun, ⟨arr, clock, since, clock, seen.push e.born, hb2, hr2, ?_, hn, hs, h2, h2⟩, ?_, ?_, ?_⟩
    · have hnd := hn
      rw [ha, List.map_append, List.map_cons, List.nodup_append] at hnd
      obtain ⟨n1, n2, n3⟩ := hnd
      rw [List.nodup_cons] at n2
      rw [ha, List.map_append, List.map_cons, List.map_append, List.map_cons]
      have q1 : a1.map (fun e' => (e'.key, e'.val, !(seen.push e.born).contains e'.born)) = l1.map (fun p => (enc p.1, ev p.2.1, p.2.2)) := by
        rw [g1]
        refine List.map_congr_left fun x hx => ?_
        have : x.born ≠ e.born := n3 _ (List.mem_map.2 ⟨x, hx, rfl⟩) _ (by simp)
        rw [push_contains, show (x.born == e.born) = false by simpa using this, Bool.or_false]
      have q2 : a2.map (fun e' => (e'.key, e'.val, !(seen.push e.born).contains e'.born)) = l2.map (fun p => (enc p.1, ev p.2.1, p.2.2)) := by
        rw [g3]
        refine List.map_congr_left fun x hx => ?_
        have : x.born ≠ e.born := fun e' => n2.1 (e' ▸ List.mem_map.2 ⟨x, hx, rfl⟩)
        rw [push_contains, show (x.born == e.born) = false by simpa using this, Bool.or_false]
      rw [q1, q2]
      simp [g2, g2', push_contains]
    · rcases hw1 with rfl | rfl <;> exact ⟨rfl, rfl, rfl, by simp [setBlock], fun k _ hne => by
        simp only [setBlock, Array.getElem?_setIfInBounds]
        rw [if_neg (fun e => hne (by rw [e]))]
        try rfl⟩
    · rcases hw1 with rfl | rfl <;> simp [setBlock]
    · rw [g2, g2']
      exact run_entry_at _ r b since seen arr clock e hr2 hb2 hin.1 hn
theorem findIn_mid {k : κ} : ∀ {ks1 : List κ} {ks2 : List κ} {a1 : List MapEntry} {e : MapEntry} {a2 : List MapEntry} (i : Nat), a1.length = ks1.length → k ∉ ks1 → findIn k (ks1 ++ k :: ks2) (a1 ++ e :: a2) i = some (i + a1.length, e.val)
  | [], ks2, [], e, a2, i, _, _ => by simp [findIn]
  | [], _, _ :: _, _, _, _, h, _ => by simp at h
  | _ :: _, _, [], _, _, _, h, _ => by simp at h
  | k' :: ks1, ks2, x :: a1, e, a2, i, h, hn => by
    simp only [List.length_cons, Nat.add_right_cancel_iff] at h
    simp only [List.mem_cons, not_or] at hn
    simp only [List.cons_append, findIn, if_neg hn.1]
    rw [findIn_mid (i + 1) h hn.2]
    simp; omega
theorem modify_mid {α : Type} (f : α → α) (x : α) (l2 : List α) : ∀ l : List α, (l ++ x :: l2).modify l.length f = l ++ f x :: l2
  | [] => rfl
  | y :: l => by simp only [List.cons_append, List.length_cons, List.modify_succ_cons, modify_mid f x l2 l]
theorem erase_mid {α : Type} (x : α) (l2 : List α) : ∀ l : List α, (l ++ x :: l2).eraseIdx l.length = l ++ l2
  | [] => rfl
  | y :: l => by simp only [List.cons_append, List.length_cons, List.eraseIdx_cons_succ, erase_mid x l2 l]
variable {P : Program} {mt kt et : TypeId}
/-- a store at a key that is there -/
theorem run_mapUpdateR (K : KeyW P kt enc) (hm : P.underlying mt = some (.map kt et)) {l1 l2 : List (κ × ν × Bool)} {k : κ} {v u : ν} {f : Bool} (h : RangeAt enc ev w b r (l1 ++ (k, v, f) :: l2)) (hk : ∀ p ∈ l1, p.1 ≠ k) :
    ∃ w', (Instr.mapUpdate mt (.map (some b)) (enc k) (ev u)).run P w = .ok () w' ∧ RangeAt enc ev w' b r (l1 ++ (k, u, f) :: l2) ∧ w.grownBy w' (some b) ∧ w'.heap.size = w.heap.size := by
  have hl := h.lt
  obtain ⟨arr, clock, since, c0, seen, hb, hr, he, hn, hs, h1, h2⟩ := h
  obtain ⟨a1, e, a2, ha, g1, g2, g3, g4⟩ := map_mid he
  simp only [Prod.mk.injEq] at g2
  have hkeys : arr.toList.map (·.key) = ((l1.map (·.1)) ++ k :: (l2.map (·.1))).map enc := by
    have : (arr.toList.map (fun e => (e.key, e.val, !seen.contains e.born))).map (·.1) = ((l1 ++ (k, v, f) :: l2).map (fun p => (enc p.1, ev p.2.1, p.2.2))).map (·.1) := by rw [he]
    simpa [Function.comp_def] using this
  have hf := K.find k arr.toList _ w hkeys
  rw [ha, findIn_mid 0 (by simpa using g4) (fun hm => by obtain ⟨p, hp, e⟩ := List.mem_map.1 hm; exact hk p hp e), Nat.zero_add] at hf
  have hsz : arr = (a1 ++ e :: a2).toArray := by rw [← ha]
  have h4' : arr[a1.length]? = some e := by rw [hsz]; simp
  refine ⟨World.putMap w b (.map (arr.modify a1.length fun e => { e with key := enc k, val := ev u }) clock), ?_, ⟨_, _, since, c0, seen, putMap_at hl.1, ?_, ?_, ?_, ?_, h1, h2⟩, putMap_grown _ _ _, by simp [World.putMap]⟩
  · rw [← ha] at hf
    unfold Instr.mapUpdate
    simp only [Sem.run_bind, run_underlying hm, Result.andThen_ok, MapKept.run_getObj_map hb, K.check, hf, h4', Option.map_some, Option.getD_some, g2.1, K.stays, MapKept.run_setObj_map _ hb, World.putMap]
  · simp only [World.putMap, Array.getElem?_setIfInBounds]
    rw [if_neg hl.2.2]
    exact hr
  · rw [Array.toList_modify, ha, modify_mid]
    simp only [List.map_append, List.map_cons, g1, g3, g2.2.2]
  · rw [Array.toList_modify, ha, modify_mid]
    rw [ha] at hn
    simpa using hn
  · intro x hx
    rw [Array.toList_modify, ha, modify_mid] at hx
    rw [ha] at hs
    simp only [List.mem_append, List.mem_cons] at hx
    rcases hx with hx | rfl | hx
    · exact hs _ (by simp [hx])
    · exact hs e (by simp)
    · exact hs _ (by simp [hx])
/-- a delete at a key that is there -/
theorem run_deleteR (K : KeyW P kt enc) (hm : P.underlying mt = some (.map kt et)) {l1 l2 : List (κ × ν × Bool)} {k : κ} {v : ν} {f : Bool} (h : RangeAt enc ev w b r (l1 ++ (k, v, f) :: l2)) (hk : ∀ p ∈ l1, p.1 ≠ k) (ty t2 : TypeId) :
    ∃ w', (Builtin.delete_ #[mt, t2] ty #[.map (some b), enc k]).run P w = .ok (.tuple #[]) w' ∧ RangeAt enc ev w' b r (l1 ++ l2) ∧ w.grownBy w' (some b) ∧ w'.heap.size = w.heap.size := by
  have hl := h.lt
  obtain ⟨arr, clock, since, c0, seen, hb, hr, he, hn, hs, h1, h2⟩ := h
  obtain ⟨a1, e, a2, ha, g1, g2, g3, g4⟩ := map_mid he
  simp only [Prod.mk.injEq] at g2
  have hkeys : arr.toList.map (·.key) = ((l1.map (·.1)) ++ k :: (l2.map (·.1))).map enc := by
    have : (arr.toList.map (fun e => (e.key, e.val, !seen.contains e.born))).map (·.1) = ((l1 ++ (k, v, f) :: l2).map (fun p => (enc p.1, ev p.2.1, p.2.2))).map (·.1) := by rw [he]
    simpa [Function.comp_def] using this
  have hf := K.find k arr.toList _ w hkeys
  rw [ha, findIn_mid 0 (by simpa using g4) (fun hm => by obtain ⟨p, hp, e⟩ := List.mem_map.1 hm; exact hk p hp e), Nat.zero_add] at hf
  have hsz : arr = (a1 ++ e :: a2).toArray := by rw [← ha]
  have hj : a1.length < arr.size := by rw [hsz]; simp
  have hsub : (arr.eraseIdxIfInBounds a1.length).toList = a1 ++ a2 := by
    simp only [Array.eraseIdxIfInBounds, hj, dite_true, Array.toList_eraseIdx, ha, erase_mid]
  refine ⟨World.putMap w b (.map (arr.eraseIdxIfInBounds a1.length) clock), ?_, ⟨_, _, since, c0, seen, putMap_at hl.1, ?_, ?_, ?_, ?_, h1, h2⟩, putMap_grown _ _ _, by simp [World.putMap]⟩
  · rw [← ha] at hf
    unfold Builtin.delete_
    simp [Sem.run_bind, run_underlying hm, MapKept.run_getObj_map hb, K.check, hf, MapKept.run_setObj_map _ hb, World.putMap]
  · simp only [World.putMap, Array.getElem?_setIfInBounds]
    rw [if_neg hl.2.2]
    exact hr
  · rw [hsub]
    simp only [List.map_append, g1, g3]
  · rw [hsub]
    rw [ha] at hn
    exact hn.sublist ((List.Sublist.append_left (List.sublist_cons_self e a2) a1).map _)
  · intro x hx
    rw [hsub] at hx
    rw [ha] at hs
    simp only [List.mem_append] at hx
    rcases hx with hx | hx
    · exact hs _ (by simp [hx])
    · exact hs _ (by simp [hx])

section
variable {ops : Array Oper} {rest : List Oper} {o : Oper} {a : Act} {Q : Exit → Act → World → Prop}
omit [DecidableEq κ] in
theorem wpList_rangeA (hg : o.guard = none) (m : Operand) (t : TypeId) (hop : o.op = Op.range t m) (hm : P.underlying t = some (.map kt et)) {es : List (κ × ν)} (hb : a.eval m = .map (some b)) (h : MapAt w b (entV enc ev es))
    (hK : ∀ w', RangeAt enc ev w' b w.heap.size (es.map fun p => (p.1, p.2, true)) → Below w.heap.size w w' → w'.heap.size = w.heap.size + 1 → wpList P ops Q rest (a.put o.dst (.pointer (some ⟨w.heap.size, 0, none⟩))) w') :
    wpList P ops Q (o :: rest) a w := by
  refine wpList_plain hg fun K' hK' => ?_
  obtain ⟨w', hrun, r1, r2, r3⟩ := run_rangeA hm h
  unfold Oper.wp
  simp [execOp, hop, hb, hrun, Result.andThen]
  exact hK' _ _ (hK w' r1 r2 r3)
omit [DecidableEq κ] in
theorem wpList_nextA (hg : o.guard = none) (it : Operand) (hop : o.op = Op.next it false) (hit : a.eval it = .pointer (some ⟨r, 0, none⟩)) (h : RangeAt enc ev w b r l)
    (hDone : (∀ p ∈ l, p.2.2 = false) → wpList P ops Q rest (a.put o.dst (.tuple #[.bool false])) w)
    (hMore : ∀ l1 k v l2 w', l = l1 ++ (k, v, true) :: l2 → RangeAt enc ev w' b r (l1 ++ (k, v, false) :: l2) → w.grownBy w' (some r) → w'.heap.size = w.heap.size →
      (Instr.entry (.pointer (some ⟨r, 0, none⟩))).run P w' = .ok (.tuple #[enc k, ev v]) w' → wpList P ops Q rest (a.put o.dst (.tuple #[.bool true, enc k, ev v])) w') :
    wpList P ops Q (o :: rest) a w := by
  refine wpList_plain hg fun K' hK' => ?_
  unfold Oper.wp
  rcases run_nextA P o.type h with ⟨h0, hrun⟩ | ⟨l1, k, v, l2, w', hl, hrun, hr, hgr, hsz, hen⟩
  · simp [execOp, hop, hit, hrun, Result.andThen]
    exact hK' _ _ (hDone h0)
  · simp [execOp, hop, hit, hrun, Result.andThen]
    exact hK' _ _ (hMore l1 k v l2 w' hl hr hgr hsz hen)
theorem wpList_mapUpdateA (hg : o.guard = none) (m x v : Operand) (t : TypeId) (hop : o.op = Op.mapUpdate t m x v) (K : KeyW P kt enc) (hm : P.underlying t = some (.map kt et)) {es : List (κ × ν)} (hb : a.eval m = .map (some b)) (h : MapAt w b (entV enc ev es)) (k : κ) (u : ν) (hx : a.eval x = enc k) (hv : a.eval v = ev u)
    (hK : ∀ w', MapAt w' b (entV enc ev (putA k u es)) → w.grownBy w' (some b) → w'.heap.size = w.heap.size → wpList P ops Q rest (a.put o.dst undef) w') :
    wpList P ops Q (o :: rest) a w := by
  refine wpList_plain hg fun K' hK' => ?_
  obtain ⟨w', hrun, r1, r2, r3⟩ := run_mapUpdateA K hm h k u
  unfold Oper.wp
  simp [execOp, hop, hb, hx, hv, hrun, Result.andThen]
  exact hK' _ _ (hK w' r1 r2 r3)
theorem wpList_mapUpdateR (hg : o.guard = none) (m x v : Operand) (t : TypeId) (hop : o.op = Op.mapUpdate t m x v) (K : KeyW P kt enc) (hm : P.underlying t = some (.map kt et)) {l1 l2 : List (κ × ν × Bool)} {k : κ} {v0 : ν} (u : ν) {f : Bool} (hb : a.eval m = .map (some b))
    (h : RangeAt enc ev w b r (l1 ++ (k, v0, f) :: l2)) (hk : ∀ p ∈ l1, p.1 ≠ k) (hx : a.eval x = enc k) (hv : a.eval v = ev u)
    (hK : ∀ w', RangeAt enc ev w' b r (l1 ++ (k, u, f) :: l2) → w.grownBy w' (some b) → w'.heap.size = w.heap.size → wpList P ops Q rest (a.put o.dst undef) w') :
    wpList P ops Q (o :: rest) a w := by
  refine wpList_plain hg fun K' hK' => ?_
  obtain ⟨w', hrun, r1, r2, r3⟩ := run_mapUpdateR (u := u) K hm h hk
  unfold Oper.wp
  simp [execOp, hop, hb, hx, hv, hrun, Result.andThen]
  exact hK' _ _ (hK w' r1 r2 r3)
theorem wpList_deleteR (hg : o.guard = none) (m x : Operand) (t t2 : TypeId) (hop : o.op = Op.call { callee := Callee.builtin Builtin.delete, args := #[m, x], argTypes := #[t, t2] }) (K : KeyW P kt enc) (hm : P.underlying t = some (.map kt et)) {l1 l2 : List (κ × ν × Bool)} {k : κ} {v0 : ν} {f : Bool} (hb : a.eval m = .map (some b))
    (h : RangeAt enc ev w b r (l1 ++ (k, v0, f) :: l2)) (hk : ∀ p ∈ l1, p.1 ≠ k) (hx : a.eval x = enc k)
    (hK : ∀ w', RangeAt enc ev w' b r (l1 ++ l2) → w.grownBy w' (some b) → w'.heap.size = w.heap.size → wpList P ops Q rest (a.put o.dst (.tuple #[])) w') :
    wpList P ops Q (o :: rest) a w := by
  refine wpList_plain hg fun K' hK' => ?_
  obtain ⟨w', hrun, r1, r2, r3⟩ := run_deleteR K hm h hk o.type t2
  unfold Oper.wp
  simp [execOp, hop, resolve, invoke, builtin, hb, hx, hrun, Result.andThen]
  exact hK' _ _ (hK w' r1 r2 r3)
end
end
end Go.Proofs.YtjncmlglhegnaaaGreatDoor
namespace Go.Proofs.YtjncmlglhegnaaaGreatDoor
open Go.RowKit

/-- what a call may have written, and what belongs to the disk behind it -/
structure Ext (F F' : Nat → Prop) (w w' : World) : Prop where
  keeps : Keeps F w w'
  sub : ∀ k, F k → F' k
  sup : ∀ k, F' k → Plus F w w' k
theorem Ext.refl (F : Nat → Prop) (w : World) : Ext F F w w := ⟨Keeps.refl _ _, fun _ h => h, fun _ h => .inl h⟩
theorem Ext.trans {F F1 F2 : Nat → Prop} {w w1 w2 : World} (h : Ext F F1 w w1) (k : Ext F1 F2 w1 w2) : Ext F F2 w w2 :=
  ⟨h.keeps.trans (k.keeps.mono h.sup), fun i hi => k.sub i (h.sub i hi), fun i hi => by
    rcases k.sup i hi with h1 | ⟨h1, h2⟩
    · rcases h.sup i h1 with h3 | ⟨h3, h4⟩
      · exact .inl h3
      · exact .inr ⟨h3, Nat.lt_of_lt_of_le h4 k.keeps.size⟩
    · exact .inr ⟨Nat.le_trans h.keeps.size h1, h2⟩⟩
theorem Ext.same {F : Nat → Prop} {w w' : World} (h : Keeps F w w') : Ext F F w w' := ⟨h, fun _ h => h, fun _ h => .inl h⟩
def Dsk (w : World) (F : Nat → Prop) (B : Nat) (d : DV) : Prop := ∃ mf ms Q cq K ck, DiskAt w F B d mf ms Q cq K ck
/-- the disk's keep list lies where it lay, or in new memory -/
def KK (B : Nat) (w w' : World) : Prop := w'.cell? ⟨B, 6, none⟩ = w.cell? ⟨B, 6, none⟩ ∨ ∀ A n c, w'.cell? ⟨B, 6, none⟩ = some (.slice A n c) → ∀ ad, A = some ad → w.heap.size ≤ ad.block
theorem KK.refl (B : Nat) (w : World) : KK B w w := .inl rfl
theorem KK.trans {B : Nat} {w w1 w2 : World} (h : KK B w w1) (hz : w.heap.size ≤ w1.heap.size) (k : KK B w1 w2) : KK B w w2 := by
  rcases k with k | k
  · rcases h with h | h
    · exact .inl (k.trans h)
    · exact .inr fun A n c e => h A n c (by rw [← k]; exact e)
  · exact .inr fun A n c e ad he => Nat.le_trans hz (k A n c e ad he)
theorem KK.below {B : Nat} {w w' : World} (hb : Below w.heap.size w w') (hB : B < w.heap.size) : KK B w w' := .inl (hb.cell (p := ⟨B, 6, none⟩) hB)
theorem kk_of {w w' : World} {F F' : Nat → Prop} {B : Nat} {d d' : DV} {mf ms mf' ms' : Nat} {Q Q' : Option Addr} {cq cq' : Nat} {K : Option Addr} {ck : Nat} (h : DiskAt w F B d mf ms Q cq K ck) (h' : DiskAt w' F' B d' mf' ms' Q' cq' K ck) (e : d'.keep = d.keep) : KK B w w' := by
  have h1 := h.loc.cell 6
  have h2 := h'.loc.cell 6
  rw [e] at h2
  exact .inl (h2.trans h1.symm)
/-- behind a call: the disk is d -/
def DskTo (F : Nat → Prop) (w : World) (B : Nat) (d : DV) (w' : World) : Prop := ∃ F', Dsk w' F' B d ∧ Ext F F' w w' ∧ KK B w w'
theorem MapAt.new_ (w : World) : MapAt (w.alloc (.map #[] 0)) w.heap.size [] := ⟨#[], 0, (MapKept.heap_alloc w _).1, rfl, by simp, by simp⟩
theorem MapAt.below {w w' : World} {b : Nat} {es : List (Value × Value)} (h : MapAt w b es) (hb : Below w.heap.size w w') : MapAt w' b es := h.grown (row := none) ⟨hb.os, hb.tape, hb.output, hb.size, fun k hk _ => hb.block k hk⟩ (by simp)
theorem MapAt.alloc {w : World} {b : Nat} {es : List (Value × Value)} (h : MapAt w b es) (o : Obj) : MapAt (w.alloc o) b es := h.below (below_alloc w o)
set_option maxRecDepth 100000 in
set_option maxHeartbeats 400000 in
theorem New_any (w : World) :
    Calls Tryz.prog 15 #[] w fun e w' => ∃ B, e = .returned (.pointer (some ⟨B, 0, none⟩)) ∧ Dsk w' (fun k => w.heap.size ≤ k ∧ k < w'.heap.size) B newD ∧ Below w.heap.size w w' := by
  have hmm := @run_makeMap Tryz.prog
  go_enter Tryz.func15, Tryz.ntmps15
  go_wp2_with (fail)
  go_ret
  refine ⟨_, rfl, ⟨w.heap.size, w.heap.size + 1, none, 0, none, 0, ?_⟩, ((below_alloc w _).alloc (by first | omega | (simp <;> omega)) _).alloc (by first | omega | (simp <;> omega)) _⟩
  have h1 : MapAt (w.alloc (.map #[] 0)) w.heap.size [] := MapAt.new_ w
  have h2 : MapAt ((w.alloc (.map #[] 0)).alloc (.map #[] 0)) (w.heap.size + 1) [] := by
    have h := MapAt.new_ (w.alloc (.map #[] 0))
    simpa only [World.size_alloc] using h
  refine ⟨?_, ((h1.alloc _).alloc _), h2.alloc _, Own.nil_ _ _ _ _, Sl.nil_ _ _ _, (by first | omega | (simp <;> omega)), (by first | omega | (simp <;> omega)), (by first | omega | (simp <;> omega)), fun b hb => by simp [Value.ownBlock] at hb, fun h => absurd rfl h, by omega, by simp [Value.ownBlock], fun b hb => hb.2⟩
  have h := Loc.new_ ((w.alloc (.map #[] 0)).alloc (.map #[] 0)) #[.map (some w.heap.size), .slice none 0 0, .map (some (w.heap.size + 1)), .int .i64 0, .bool false, .int .i64 0, .slice none 0 0] 94
  simp only [World.size_alloc] at h
  exact h
end Go.Proofs.YtjncmlglhegnaaaGreatDoor
