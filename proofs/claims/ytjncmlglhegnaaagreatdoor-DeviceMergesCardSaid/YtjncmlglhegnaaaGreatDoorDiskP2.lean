/- Words for strings and bytes: copy of a string into a row of the call's own. -/
/- disk: put. -/
/- disk: Size, Read, New. -/
/- disk: plain laws: what stays right of a disk. -/
import Derived.Test.YtjncmlglhegnaaaGreatDoorBase4
import Derived.Laws.CopyOwn
import Derived.Laws.BytesArg
import Derived.Test.YtjncmlglhegnaaaGreatDoorDiskM
import Derived.OwnWalk
import Derived.Test.YtjncmlglhegnaaaGreatDoorDiskP
namespace Go.Proofs.YtjncmlglhegnaaaGreatDoor
open Go.RowKit

/-- bytes as cells -/
def byteV (l : List UInt8) : List Value := l.map fun b => .int .u8 b.toNat
theorem byteV_one (l : List UInt8) : ∀ v ∈ byteV l, v.oneCell' = true := by
  intro v hv
  obtain ⟨b, _, rfl⟩ := List.mem_map.1 hv
  rfl
section
variable {P : Program}
theorem run_copy_string (w : World) (dT sT ty elem : TypeId) (g o dLen dCap : Nat) (s : List UInt8) (cur : Array Value) (t : TypeId)
    (hu : P.underlying dT = some (.slice elem)) (hs : (P.info? elem).map (·.size) = some 1) (hg : w.heap[g]? = some (.cells cur t (0, 0))) (hfit : o + Nat.min s.length dLen ≤ cur.size) :
    (Builtin.copy_ #[dT, sT] ty #[.slice (some ⟨g, o, none⟩) dLen dCap, .string ⟨s.toArray⟩]).run P w =
      .ok (goInt (Nat.min s.length dLen)) (w.setRow g (splice cur.toList o (byteV (s.take (Nat.min s.length dLen)))).toArray) := by
  have hlen : (byteV (s.take (Nat.min s.length dLen))).length = Nat.min s.length dLen := by
    simp only [byteV, List.length_map, List.length_take]
    exact Nat.min_eq_left (Nat.min_le_left _ _)
  have hst := run_storeCells_at P g o t (byteV (s.take (Nat.min s.length dLen))) 0 cur w hg (by rw [hlen]; simpa using hfit) (byteV_one _)
  obtain ⟨i, hi, hi1⟩ : ∃ i, P.info? elem = some i ∧ i.size = 1 := by
    cases hq : P.info? elem with
    | none => simp [hq] at hs
    | some i => exact ⟨i, rfl, by simpa [hq] using hs⟩
  have hsz : ByteArray.size ⟨s.toArray⟩ = s.length := by simp [ByteArray.size]
  have hex : ((ByteArray.extract ⟨s.toArray⟩ 0 (Nat.min s.length dLen)).data.map fun b => Value.int .u8 b.toNat).toList = byteV (s.take (Nat.min s.length dLen)) := by
    simp [byteV, ByteArray.data_extract]
  unfold Builtin.copy_
  have hst' := hst
  rw [hlen] at hst'
  simp only [Nat.add_zero] at hst'
  simp [Sem.run_bind, Sem.run_pure, run_underlying hu, Builtin.lenOf, Builtin.firstCells, sizeOf, typeInfo, hi, hsz]
  have he : List.take (min s.length dLen) (List.map (fun b : UInt8 => Value.int .u8 (b.toNat : Int)) s) = byteV (s.take (Nat.min s.length dLen)) := by
    rw [byteV, List.map_take]
  rw [he, hst']
  simp only [Result.andThen, splice, hlen, List.append_assoc]

theorem wpList_copy_string {w : World} {ops : Array Oper} {rest : List Oper} {o : Oper} {a : Act} {Q : Exit → Act → World → Prop} (hgd : o.guard = none) (d s : Operand) (dT sT : TypeId)
    (hop : o.op = .call { callee := .builtin .copy, args := #[d, s], argTypes := #[dT, sT] }) (elem : TypeId) (hu : P.underlying dT = some (.slice elem)) (hs : (P.info? elem).map (·.size) = some 1)
    (g off dLen dCap : Nat) (l : List UInt8) (hd : a.eval d = .slice (some ⟨g, off, none⟩) dLen dCap) (hl : a.eval s = .string ⟨l.toArray⟩) (cur : List Value) (t : TypeId) (hg : w.heap[g]? = some (.cells cur.toArray t))
    (hfit : off + Nat.min l.length dLen ≤ cur.length) (B : Nat) (w0 : World) (hb : Below B w0 w) (hB : B ≤ g)
    (h : ∀ w', w'.heap[g]? = some (.cells (splice cur off (byteV (l.take (Nat.min l.length dLen)))).toArray t) → Below B w0 w' → w'.heap.size = w.heap.size → wpList P ops Q rest (a.put o.dst (goInt (Nat.min l.length dLen))) w') :
    wpList P ops Q (o :: rest) a w := by
  refine wpList_plain hgd (fun K hK => ?_)
  have hr := run_copy_string (P := P) w dT sT o.type elem g off dLen dCap l cur.toArray t hu hs hg (by simpa using hfit)
  have hcl : (cur.toArray : Array Value).toList = cur := rfl
  rw [hcl] at hr
  unfold Oper.wp execOp
  simp only [hop, resolve, invoke, builtin, Sem.run_bind, Sem.run_pure, Result.andThen_ok, List.map_toArray, List.map_cons, List.map_nil, hd, hl, hr]
  have hlt : g < w.heap.size := (Array.getElem?_eq_some_iff.1 hg).1
  refine hK _ _ (h _ (setRow_heap w g _ _ t _ hg) (below_setRow hb hB _) (by simp [World.setRow]))
end
end Go.Proofs.YtjncmlglhegnaaaGreatDoor
namespace Go.Proofs.YtjncmlglhegnaaaGreatDoor
open Go.RowKit

theorem strV_len (l : List UInt8) : ByteArray.size ⟨l.toArray⟩ = l.length := by simp [ByteArray.size]
theorem strV_ne {t : List UInt8} (h : t ≠ []) : (ByteArray.mk t.toArray == ByteArray.mk #[]) = false := by
  cases t with
  | nil => exact absurd rfl h
  | cons a l =>
    show decide (ByteArray.mk (a :: l).toArray = ByteArray.mk #[]) = false
    rw [decide_eq_false_iff_not]
    intro e
    injection e with e
    simp at e
theorem made_one (z : Value) (n : Nat) : (madeCells #[z] n).toList = List.replicate n z := by
  simp [madeCells]
  apply List.ext_getElem
  · simp
  · intro i h1 h2
    have : i % 1 = 0 := by omega
    simp [this]
/-- what put lays down -/
theorem put_cells (s t : List UInt8) (n M L : Nat) (hL : L = M - n) (ht : t ≠ []) (hM : M = max s.length (n + t.length)) :
    splice (splice (List.replicate M (Value.int .u8 0)) 0 (byteV (s.take (Nat.min s.length M)))) n (byteV (t.take (Nat.min t.length L))) = byteV (putB s n t) := by
  have hs : s.length ≤ M := by omega
  have h1 : Nat.min s.length M = s.length := Nat.min_eq_left hs
  have h2 : Nat.min t.length L = t.length := Nat.min_eq_left (by omega)
  rw [h1, h2, List.take_length, List.take_length, putB, if_neg ht]
  have hz : (Value.int .u8 0) = (fun b : UInt8 => Value.int .u8 (b.toNat : Int)) 0 := rfl
  have hin : splice (List.replicate M (Value.int .u8 0)) 0 (byteV s) = byteV (s ++ List.replicate (M - s.length) 0) := by
    simp [splice, byteV]
  rw [hin]
  unfold splice byteV
  rw [← List.map_take, ← List.map_drop, ← List.map_append, ← List.map_append, List.length_map]
  congr 1
  have ha : (s ++ List.replicate (M - s.length) 0).take n = (s ++ List.replicate (n - s.length) (0 : UInt8)).take n := by
    simp only [List.take_append, List.take_replicate]
    congr 2
    omega
  have hb : (s ++ List.replicate (M - s.length) 0).drop (n + t.length) = s.drop (n + t.length) := by
    simp only [List.drop_append, List.drop_replicate]
    rw [show M - s.length - (n + t.length - s.length) = 0 by omega]
    simp
  rw [ha, hb, List.append_assoc]
theorem row_made {w : World} {base : Nat} {e : TypeId} {g n : Nat} {xs : List Value} (h : w.ownsRow base e 1 (.slice (some ⟨g, 0, none⟩) n n) n xs) : w.heap[g]? = some (.cells xs.toArray e) := by
  obtain ⟨_, h | ⟨g', cap, cur, h1, _, h3, _, _, h6, h7⟩⟩ := h
  · cases h.1
  · injection h1 with h1 h2 h2'
    injection h1 with h1
    injection h1 with h1
    subst h1 h2'
    rw [h3, ← h7, List.take_of_length_le (by simp [h6])]
theorem below_of_none {w w' : World} (h : w.grownBy w' none) : Below w.heap.size w w' := ⟨h.os, h.tape, h.output, h.size, fun k hk => h.block k hk (by simp)⟩
theorem infoByteD : (Tryz.prog.info? 5).map (fun i => (i.zero, i.size, i.bytes)) = some (some (.int .u8 0), 1, 1) := by kernel_rfl
theorem strOf_byteV (l : List UInt8) : strOfNums (l.map fun b => (b.toNat : Int)) = ⟨l.toArray⟩ := by
  have : ((fun n : Int => UInt8.ofNat n.toNat) ∘ fun b : UInt8 => (b.toNat : Int)) = id := by
    funext b
    simp
  simp [strOfNums, this]
theorem put_fits (s t : List UInt8) (n M L : Nat) (hL : L = M - n) (h : M = max s.length (n + t.length)) : n + Nat.min t.length L ≤ (splice (List.replicate M (Value.int .u8 0)) 0 (byteV (s.take (Nat.min s.length M)))).length := by
  have hM : s.length ≤ M := by omega
  have h1 : Nat.min s.length M = s.length := Nat.min_eq_left hM
  rw [h1]
  have : Nat.min t.length L ≤ L := Nat.min_le_right _ _
  simp [splice, byteV]
  omega
theorem putB_len (s t : List UInt8) (n M : Nat) (ht : t ≠ []) (hM : M = max s.length (n + t.length)) : (putB s n t).length = M := by
  rw [putB, if_neg ht]
  simp
  omega
theorem put_convert {w : World} {g : Nat} {r : List UInt8} (h : w.heap[g]? = some (.cells (byteV r).toArray 5)) (N : Nat) (hN : r.length = N) :
    Sem.run Tryz.prog (convert 176 9 (.slice (some ⟨g, 0, none⟩) N N)) w = .ok (.string ⟨r.toArray⟩) w := by
  have := run_convert_bytes_arg (P := Tryz.prog) w 176 5 Tryz.underlying176 Tryz.underlying5 g 0 N N (r.map fun b => (b.toNat : Int)) (by simp [hN]) (fun i hi => by
    have hi' : i < r.length := by omega
    simp [World.cell?, h, byteV, hi', List.getD]) 9 Tryz.underlying9
  rw [strOf_byteV] at this
  exact this
set_option maxRecDepth 100000 in
set_option maxHeartbeats 1000000 in
theorem put_any (w : World) (s t : List UInt8) (n : Nat) (hs : s.length ≤ 16777216) (hn : n + t.length ≤ 16777216) (r : List UInt8) (hr : putB s n t = r) :
    Calls Tryz.prog 73 #[strV s, .int .i64 n, strV t] w fun e w' => e = .returned (strV r) ∧ Below w.heap.size w w' := by
  unfold strV
  subst hr
  by_cases ht : t = []
  · subst ht
    rw [show putB s n [] = s by simp [putB]]
    go_enter Tryz.func73, Tryz.ntmps73
    go_wp2_with (fail)
    go_ret
    exact ⟨rfl, Below.refl _ _⟩
  · have hs' := strV_len s
    have ht' := strV_len t
    have htn := strV_ne ht
    have hte : t.isEmpty = false := by simp [ht]
    obtain ⟨i0, hi0, hz0, hz1, hz2⟩ := info_parts infoByteD
    by_cases hm : s.length < n + t.length
    · have hmx : (s.length : Int) < (n : Int) + (t.length : Int) := by omega
      go_enter Tryz.func73, Tryz.ntmps73
      go_wp2_with (first
        | (at_make; refine wpList_make_full w rfl (.tmp 17) (.tmp 17) 176 rfl w.heap.size 5 i0 (.int .u8 0) 1 Tryz.underlying176 hi0 hz0 hz1 .i64 .i64 _ _ (n + t.length) rfl rfl (by omega) (by omega) (by rw [hz2]; omega) (by simp only [maxLen]; omega) (Nat.le_refl _) ?_; intro w1 hown1 hg1; have hrow1 := row_made hown1; rw [show (Value.int .u8 0).cells = #[Value.int .u8 0] from rfl, Nat.mul_one, made_one] at hrow1; have hB1 : Below w.heap.size w w1 := below_of_none hg1)
        | ((with_reducible show wpList _ _ _ _ _ _); refine wpList_copy_string rfl (.tmp 19) (.tmp 20) 176 9 rfl 5 Tryz.underlying176 (by rw [hi0]; simp [hz1]) w.heap.size 0 (n + t.length) (n + t.length) s rfl rfl (List.replicate (n + t.length) (.int .u8 0)) 5 hrow1 (by rw [List.length_replicate, Nat.zero_add]; exact Nat.min_le_right _ _) w.heap.size w hB1 (Nat.le_refl _) ?_; intro w2 hrow2 hB2 hz2')
        | ((with_reducible show wpList _ _ _ _ _ _); refine wpList_copy_string rfl (.tmp 24) (.tmp 25) 176 9 rfl 5 Tryz.underlying176 (by rw [hi0]; simp [hz1]) w.heap.size n t.length t.length t rfl rfl _ 5 hrow2 (put_fits s t n (n + t.length) t.length (by omega) (by omega)) w.heap.size w hB2 (Nat.le_refl _) ?_; intro w3 hrow3 hB3 hz3'; rw [put_cells s t n (n + t.length) t.length (by omega) ht (by omega)] at hrow3; have hk := put_convert hrow3 (n + t.length) (putB_len s t n _ ht (by omega))))
      go_ret
      exact ⟨rfl, hB3⟩
    · have hmx : (n : Int) + (t.length : Int) ≤ (s.length : Int) := by omega
      have htp := List.length_pos_iff.2 ht
      have hns : (n : Int) < s.length := by omega
      go_enter Tryz.func73, Tryz.ntmps73
      go_wp2_with (first
        | (at_make; refine wpList_make_full w rfl (.tmp 17) (.tmp 17) 176 rfl w.heap.size 5 i0 (.int .u8 0) 1 Tryz.underlying176 hi0 hz0 hz1 .i64 .i64 _ _ s.length rfl rfl (by omega) (by omega) (by rw [hz2]; omega) (by simp only [maxLen]; omega) (Nat.le_refl _) ?_; intro w1 hown1 hg1; have hrow1 := row_made hown1; rw [show (Value.int .u8 0).cells = #[Value.int .u8 0] from rfl, Nat.mul_one, made_one] at hrow1; have hB1 : Below w.heap.size w w1 := below_of_none hg1)
        | ((with_reducible show wpList _ _ _ _ _ _); refine wpList_copy_string rfl (.tmp 19) (.tmp 20) 176 9 rfl 5 Tryz.underlying176 (by rw [hi0]; simp [hz1]) w.heap.size 0 s.length s.length s rfl rfl (List.replicate s.length (.int .u8 0)) 5 hrow1 (by rw [List.length_replicate, Nat.zero_add]; exact Nat.min_le_right _ _) w.heap.size w hB1 (Nat.le_refl _) ?_; intro w2 hrow2 hB2 hz2')
        | ((with_reducible show wpList _ _ _ _ _ _); refine wpList_copy_string rfl (.tmp 24) (.tmp 25) 176 9 rfl 5 Tryz.underlying176 (by rw [hi0]; simp [hz1]) w.heap.size n (s.length - n) (s.length - n) t rfl rfl _ 5 hrow2 (put_fits s t n s.length (s.length - n) (by omega) (by omega)) w.heap.size w hB2 (Nat.le_refl _) ?_; intro w3 hrow3 hB3 hz3'; rw [put_cells s t n s.length (s.length - n) (by omega) ht (by omega)] at hrow3; have hk := put_convert hrow3 s.length (putB_len s t n _ ht (by omega))))
      go_ret
      exact ⟨rfl, hB3⟩
end Go.Proofs.YtjncmlglhegnaaaGreatDoor
namespace Go.Proofs.YtjncmlglhegnaaaGreatDoor
open Go.RowKit

theorem zeroFile (w : World) : (zeroValue 121).run Tryz.prog w = .ok (fileV noFile) w := by
  have : (Tryz.prog.info? 121).map (·.zero) = some (some (fileV noFile)) := by kernel_rfl
  cases h : Tryz.prog.info? 121 with
  | none => simp [h] at this
  | some i =>
    rw [h] at this
    simp only [Option.map_some, Option.some.injEq] at this
    simp [zeroValue, typeInfo, h, this, go_sem]
theorem extract_list (l : List UInt8) (i j : Nat) : ByteArray.extract ⟨l.toArray⟩ i j = ⟨((l.drop i).take (j - i)).toArray⟩ := by
  apply ByteArray.ext
  simp [ByteArray.data_extract, List.extract_eq_take_drop]
theorem extract_empty (i j : Nat) : ByteArray.extract ByteArray.empty i j = ByteArray.mk #[] := by
  apply ByteArray.ext
  simp [ByteArray.data_extract]
theorem field_now (a b : Value) (w : World) : (Instr.field 121 (.agg #[a, b]) 0).run Tryz.prog w = .ok a w := by
  simp [Instr.field, part, asAgg, go_sem]
section
variable {w : World} {F : Nat → Prop} {B : Nat} {d : DV} {mf ms : Nat} {Q : Option Addr} {cq : Nat} {K : Option Addr} {ck : Nat}
theorem DiskAt.look (h : DiskAt w F B d mf ms Q cq K ck) (f : Int) : (Instr.lookup 90 (.map (some mf)) (.int .i64 f) false).run Tryz.prog w = .ok (fileV (d.file f)) w := by
  have := run_lookupA (P := Tryz.prog) (keyW_int Tryz.underlying3) Tryz.underlying90 (zeroFile w) h.files f
  rw [this, DV.file]
  cases getA f d.files <;> rfl
set_option maxRecDepth 100000 in
set_option maxHeartbeats 400000 in
theorem Size_any (h : DiskAt w F B d mf ms Q cq K ck) (f : Int) (r : Int) (hr : r = (d.file f).now.length) :
    Calls Tryz.prog 105 #[.pointer (some ⟨B, 0, none⟩), .int .i64 f] w fun e w' => e = .returned (.int .i64 r) ∧ w = w' := by
  have hl := h.look f
  unfold fileV strV at hl
  have hs := strV_len (d.file f).now
  subst hr
  obtain ⟨zB, kB, fB⟩ := h.loc
  clear h
  have hfe := fun w => field_now (.string ⟨(d.file f).now.toArray⟩) (.string ⟨(d.file f).last.toArray⟩) w
  go_enter Tryz.func105, Tryz.ntmps105
  go_wp2_with (fail)
  go_ret
  exact ⟨rfl, rfl⟩
set_option maxRecDepth 100000 in
set_option maxHeartbeats 1000000 in
theorem Read_any (h : DiskAt w F B d mf ms Q cq K ck) (f at_ n : Int) (r : List UInt8 × Int) (hr : ReadF d f at_ n = r) :
    Calls Tryz.prog 104 #[.pointer (some ⟨B, 0, none⟩), .int .i64 f, .int .i64 at_, .int .i64 n] w fun e w' => e = .returned (.tuple #[strV r.1, .int .i64 r.2]) ∧ w = w' := by
  have hl := h.look f
  unfold fileV strV at hl
  have hs := strV_len (d.file f).now
  have H := Lib.hid h
  obtain ⟨zB, kB, fB⟩ := h.loc
  clear h
  have hfe := fun w => field_now (.string ⟨(d.file f).now.toArray⟩) (.string ⟨(d.file f).last.toArray⟩) w
  have hm' := may_any H.out f _ rfl
  subst hr
  unfold ReadF
  by_cases hm : mayF d f = 0
  · rw [if_neg (by simp [hm])]
    rw [hm] at hm'
    have HM := Lib.hid hm'
    clear hm hm'
    by_cases ha : at_ < 0
    · rw [if_pos (Or.inl ha)]
      unfold strV
      go_enter Tryz.func104, Tryz.ntmps104
      go_wp2_with ((with_reducible refine (HM.out).mono ?_); rintro _ _ ⟨rfl, rfl⟩)
      go_ret2
      exact ⟨rfl, rfl⟩
    · by_cases ha2 : n < 0
      · rw [if_pos (Or.inr ha2)]
        unfold strV
        go_enter Tryz.func104, Tryz.ntmps104
        go_wp2_with ((with_reducible refine (HM.out).mono ?_); rintro _ _ ⟨rfl, rfl⟩)
        go_ret2
        exact ⟨rfl, rfl⟩
      · rw [if_neg (by omega)]
        have ha1 : 0 ≤ at_ := by omega
        have ha2 : 0 ≤ n := by omega
        unfold strV
        go_enter Tryz.func104, Tryz.ntmps104
        go_wp2_with ((with_reducible refine (HM.out).mono ?_); rintro _ _ ⟨rfl, rfl⟩)
        all_goals go_ret2
        all_goals refine ⟨congrArg (fun q => Ending.returned (.tuple #[.string q, .int .i64 0])) ?_, rfl⟩
        · rw [List.drop_of_length_le (by omega), List.take_nil]
          first | exact extract_empty _ _ | rfl
        · rw [List.drop_of_length_le (by omega), List.take_nil]
          first | exact extract_empty _ _ | rfl
        · rw [extract_list, extract_list, List.drop_zero, Nat.sub_zero, List.take_of_length_le (i := n.toNat) (by simp; omega), List.take_of_length_le (by simp), List.take_of_length_le (by simp)]
        · rw [extract_list, extract_list, List.drop_zero, Nat.sub_zero, List.take_of_length_le (i := (d.file f).now.length - at_.toNat) (by simp)]
  · rw [if_pos hm]
    have h1 : (mayF d f == 0) = false := by simpa using hm
    have h2 : (mayF d f != 0) = true := by simpa using hm
    have HM := Lib.hid hm'
    clear hm hm'
    unfold strV
    generalize mayF d f = m at *
    go_enter Tryz.func104, Tryz.ntmps104
    go_wp2_with ((with_reducible refine (HM.out).mono ?_); rintro _ _ ⟨rfl, rfl⟩)
    go_ret2
    exact ⟨rfl, rfl⟩
end
end Go.Proofs.YtjncmlglhegnaaaGreatDoor
namespace Go.Proofs.YtjncmlglhegnaaaGreatDoor

section
variable {κ ν : Type} [DecidableEq κ]
theorem getA_put_same (k : κ) (v : ν) : ∀ es : List (κ × ν), getA k (putA k v es) = some v
  | [] => by simp [putA, getA]
  | (k', v') :: es => by
    by_cases h : k = k'
    · simp [putA, getA, h]
    · simp [putA, getA, h, getA_put_same k v es]
theorem getA_put_ne {k k1 : κ} (v : ν) (hne : k1 ≠ k) : ∀ es : List (κ × ν), getA k1 (putA k v es) = getA k1 es
  | [] => by simp [putA, getA, hne]
  | (k', v') :: es => by
    by_cases h : k = k'
    · subst h; simp [putA, getA, hne]
    · by_cases h1 : k1 = k'
      · simp [putA, getA, h, h1]
      · simp [putA, getA, h, h1, getA_put_ne v hne es]
theorem mem_putA {k : κ} {v : ν} {p : κ × ν} : ∀ {es : List (κ × ν)}, p ∈ putA k v es → p = (k, v) ∨ p ∈ es
  | [], h => by simp [putA] at h; exact .inl h
  | (k', v') :: es, h => by
    unfold putA at h
    split at h
    · rcases List.mem_cons.1 h with h | h
      · exact .inl h
      · exact .inr (List.mem_cons_of_mem _ h)
    · rcases List.mem_cons.1 h with h | h
      · exact .inr (by simp [h])
      · rcases mem_putA h with h | h
        · exact .inl h
        · exact .inr (List.mem_cons_of_mem _ h)
theorem putA_nodup {k : κ} {v : ν} : ∀ {es : List (κ × ν)}, (es.map (·.1)).Nodup → ((putA k v es).map (·.1)).Nodup
  | [], _ => by simp [putA]
  | (k', v') :: es, h => by
    simp only [List.map_cons, List.nodup_cons] at h
    unfold putA
    split
    · rename_i hk
      subst hk
      simpa using h
    · rename_i hk
      simp only [List.map_cons, List.nodup_cons]
      refine ⟨fun hm => ?_, putA_nodup h.2⟩
      obtain ⟨p, hp, hpk⟩ := List.mem_map.1 hm
      rcases mem_putA hp with rfl | hp
      · exact hk hpk
      · exact h.1 (List.mem_map.2 ⟨p, hp, hpk⟩)
theorem getA_mem {k : κ} {v : ν} : ∀ {es : List (κ × ν)}, getA k es = some v → (k, v) ∈ es
  | [], h => by simp [getA] at h
  | (k', v') :: es, h => by
    unfold getA at h
    split at h
    · rename_i hk
      subst hk
      simp only [Option.some.injEq] at h
      simp [h]
    · exact List.mem_cons_of_mem _ (getA_mem h)
theorem getA_map {ν' : Type} (f : ν → ν') (k : κ) : ∀ es : List (κ × ν), getA k (es.map fun p => (p.1, f p.2)) = (getA k es).map f
  | [] => rfl
  | (k', v') :: es => by
    by_cases h : k = k'
    · simp [getA, h]
    · simp [getA, h, getA_map f k es]
end
/-- as many different numbers below M: no more than M -/
theorem pigeon : ∀ (M : Nat) (l : List Nat), l.Nodup → (∀ x ∈ l, x < M) → l.length ≤ M
  | 0, l, _, h => by
    cases l with
    | nil => simp
    | cons a l => exact absurd (h a (by simp)) (by omega)
  | M + 1, l, hn, h => by
    have h1 := pigeon M (l.erase M) (hn.erase _) (fun x hx => by
      have hx' := List.Nodup.mem_erase_iff hn |>.1 hx
      have := h x hx'.2
      have := hx'.1
      omega)
    have h2 : l.length ≤ (l.erase M).length + 1 := by
      rw [List.length_erase]
      split <;> omega
    omega

theorem putB_length (s t : List UInt8) (n : Nat) (ht : t ≠ []) : (putB s n t).length = max s.length (n + t.length) := by
  rw [putB, if_neg ht]
  simp
  omega
theorem putB_nil (s : List UInt8) (n : Nat) : putB s n [] = s := by simp [putB]
theorem putB_le (s t : List UInt8) (n M : Nat) (hs : s.length ≤ M) (ht : n + t.length ≤ M) : (putB s n t).length ≤ M := by
  by_cases h : t = []
  · subst h; rw [putB_nil]; exact hs
  · rw [putB_length _ _ _ h]; omega

structure DOk (d : DV) : Prop where
  armed : 0 ≤ d.armed ∧ d.armed ≤ 9223372036854775807
  lost : 0 ≤ d.lost ∧ d.lost ≤ 9223372036854775807
  files : ∀ p ∈ d.files, p.2.now.length ≤ 16777216 ∧ p.2.last.length ≤ 16777216
  keys : (d.files.map (·.1)).Nodup
  queue : ∀ p ∈ d.queue, (0 ≤ p.1 ∧ p.1 < 16) ∧ 0 ≤ p.2 ∧ p.2 ≤ 262144
  nodup : d.queue.Nodup
  klen : d.keep.length ≤ 4194320
namespace DOk
variable {d : DV}
theorem file (h : DOk d) (f : Int) : (d.file f).now.length ≤ 16777216 ∧ (d.file f).last.length ≤ 16777216 := by
  unfold DV.file
  cases hg : getA f d.files with
  | none => simp [noFile]
  | some x => exact h.files _ (getA_mem hg)
theorem len (h : DOk d) : d.queue.length ≤ 4194320 := by
  have h1 := pigeon 4194320 (d.queue.map fun p => p.1.toNat * 262145 + p.2.toNat) (by
    rw [List.nodup_iff_pairwise_ne, List.pairwise_map]
    refine (List.nodup_iff_pairwise_ne.1 h.nodup).imp_of_mem fun {a b} ha hb hne e => hne ?_
    have h1 := h.queue a ha
    have h2 := h.queue b hb
    ext <;> omega) (fun x hx => by
    obtain ⟨p, hp, rfl⟩ := List.mem_map.1 hx
    have := h.queue p hp
    omega)
  simpa using h1
theorem new : DOk newD := ⟨by simp [newD], by simp [newD], by simp [newD], by simp [newD], by simp [newD], by simp [newD], by simp [newD]⟩
theorem ends (h : DOk d) : DOk (endsF d).1 := by
  unfold endsF
  split
  · exact h
  · rename_i hc
    have := h.armed
    exact ⟨by show 0 ≤ d.armed - 1 ∧ d.armed - 1 ≤ _; omega, h.lost, h.files, h.keys, h.queue, h.nodup, h.klen⟩
theorem putFile (h : DOk d) (f : Int) (x : FileV) (hx : x.now.length ≤ 16777216 ∧ x.last.length ≤ 16777216) : DOk { d with files := putA f x d.files } :=
  ⟨h.armed, h.lost, fun p hp => by
    rcases mem_putA hp with rfl | hp
    · exact hx
    · exact h.files p hp, putA_nodup h.keys, h.queue, h.nodup, h.klen⟩
end DOk
theorem addQ_mem {p : Int × Int} : ∀ (ps q : List (Int × Int)), p ∈ addQ q ps ↔ p ∈ q ∨ p ∈ ps
  | [], q => by simp [addQ]
  | x :: ps, q => by
    unfold addQ
    rw [addQ_mem ps]
    split
    · rename_i hx
      constructor
      · rintro (h | h)
        · exact .inl h
        · exact .inr (List.mem_cons_of_mem _ h)
      · rintro (h | h)
        · exact .inl h
        · rcases List.mem_cons.1 h with rfl | h
          · exact .inl hx
          · exact .inr h
    · simp only [List.mem_append, List.mem_cons, List.not_mem_nil, or_false]
      constructor
      · rintro ((h | h) | h)
        · exact .inl h
        · exact .inr (.inl h)
        · exact .inr (.inr h)
      · rintro (h | h | h)
        · exact .inl (.inl h)
        · exact .inl (.inr h)
        · exact .inr h
theorem addQ_nodup : ∀ (ps q : List (Int × Int)), q.Nodup → (addQ q ps).Nodup
  | [], q, h => h
  | x :: ps, q, h => by
    unfold addQ
    refine addQ_nodup ps _ ?_
    split
    · exact h
    · rename_i hx
      rw [List.nodup_append]
      refine ⟨h, by simp, fun a ha b hb => ?_⟩
      simp only [List.mem_singleton] at hb
      rintro rfl
      exact hx (hb ▸ ha)
theorem addQ_append : ∀ (ps qs q : List (Int × Int)), addQ q (ps ++ qs) = addQ (addQ q ps) qs
  | [], qs, q => rfl
  | x :: ps, qs, q => by simp only [List.cons_append, addQ]; exact addQ_append ps qs _
theorem touched_mem {f : Int} {at_ n : Nat} {p : Int × Int} (h : p ∈ touched f at_ n) : p.1 = f ∧ ∃ k : Nat, p.2 = (k : Int) ∧ at_ / 64 ≤ k ∧ k ≤ at_ / 64 + (((at_ + n - 1) / 64) - at_ / 64) := by
  unfold touched at h
  obtain ⟨i, hi, rfl⟩ := List.mem_map.1 h
  have := List.mem_range.1 hi
  exact ⟨rfl, at_ / 64 + i, rfl, by omega, by omega⟩
namespace DOk
variable {d : DV}
theorem may {f : Int} (h : mayF d f = 0) : d.down = false ∧ 0 ≤ f ∧ f < 16 := by
  unfold mayF at h
  split at h
  · cases h
  · rename_i hd
    split at h
    · cases h
    · exact ⟨by simpa using hd, by omega, by omega⟩
theorem write (h : DOk d) (f at_ : Int) (s : List UInt8) : DOk (writeF d f at_ s).1 := by
  unfold writeF
  split
  · exact h
  · rename_i hm
    have hm' := may (by omega : mayF d f = 0)
    split
    · exact h
    · split
      · exact h
      · split
        · exact h
        · rename_i h1 h2 h3
          have hf := h.file f
          have hs : 0 < s.length := List.length_pos_iff.2 h3
          have h4 := h.putFile f ⟨putB (d.file f).now at_.toNat s, (d.file f).last⟩ ⟨putB_le _ _ _ _ hf.1 (by omega), hf.2⟩
          refine ⟨h4.armed, h4.lost, h4.files, h4.keys, fun p hp => ?_, addQ_nodup _ _ h.nodup, h.klen⟩
          rcases (addQ_mem _ _).1 hp with hp | hp
          · exact h.queue p hp
          · obtain ⟨rfl, k, hk, h5, h6⟩ := touched_mem hp
            exact ⟨hm'.2, by omega, by omega⟩
theorem settle (h : DOk d) (f : Int) (s : List UInt8) (hs : s.length ≤ 16777216) : DOk (settleF d f s) := by
  have h4 := h.putFile f ⟨s, s⟩ ⟨hs, hs⟩
  exact ⟨h4.armed, h4.lost, h4.files, h4.keys, fun p hp => h.queue p (List.mem_filter.1 hp).1, h.nodup.filter _, h.klen⟩
end DOk
/-- the files alone, while sectors survive -/
def FOk (fs : List (Int × FileV)) : Prop := (∀ p ∈ fs, p.2.now.length ≤ 16777216 ∧ p.2.last.length ≤ 16777216) ∧ (fs.map (·.1)).Nodup
theorem FOk.get {fs : List (Int × FileV)} (h : FOk fs) (f : Int) : ((getA f fs).getD noFile).now.length ≤ 16777216 ∧ ((getA f fs).getD noFile).last.length ≤ 16777216 := by
  cases hg : getA f fs with
  | none => simp [noFile]
  | some x => exact h.1 _ (getA_mem hg)
theorem FOk.survive {fs : List (Int × FileV)} (h : FOk fs) (p : Int × Int) : FOk (surviveF fs p) := by
  have hg := h.get p.1
  unfold surviveF
  dsimp only
  split
  · exact h
  · rename_i hlt
    refine ⟨fun q hq => ?_, putA_nodup h.2⟩
    rcases mem_putA hq with rfl | hq
    · refine ⟨hg.1, putB_le _ _ _ _ hg.2 ?_⟩
      simp only [List.length_take, List.length_drop]
      omega
    · exact h.1 q hq
theorem FOk.surviveAll : ∀ {keep : List Int} {ps : List (Int × Int)} {i : Nat} {fs : List (Int × FileV)}, FOk fs → FOk (surviveAll keep i ps fs)
  | _, [], _, _, h => h
  | keep, p :: ps, i, fs, h => by
    unfold Go.Proofs.YtjncmlglhegnaaaGreatDoor.surviveAll
    refine FOk.surviveAll ?_
    split
    · exact h
    · exact h.survive p
namespace DOk
variable {d : DV}
theorem fok (h : DOk d) : FOk d.files := ⟨h.files, h.keys⟩
theorem crash (h : DOk d) (keep : List Int) : DOk (crashF d keep) := by
  unfold crashF
  split
  · exact h
  · have hf := FOk.surviveAll (keep := keep) (ps := d.queue) (i := 0) h.fok
    refine ⟨by simp, h.lost, fun p hp => ?_, ?_, by simp, by simp, h.klen⟩
    · obtain ⟨q, hq, rfl⟩ := List.mem_map.1 hp
      exact ⟨(hf.1 q hq).2, (hf.1 q hq).2⟩
    · simpa [Function.comp_def] using hf.2
theorem Write (h : DOk d) (f at_ : Int) (s : List UInt8) : DOk (WriteF d f at_ s).1 := by
  unfold WriteF
  dsimp only
  split
  · exact (h.ends.write f at_ s).crash _
  · exact h.ends.write f at_ s
theorem begin_ (h : DOk d) : DOk (beginF d) := by
  unfold beginF
  dsimp only
  split
  · exact h.ends.crash _
  · exact h.ends
theorem Sync (h : DOk d) (f : Int) : DOk (SyncF d f).1 := by
  unfold SyncF
  dsimp only
  have hb := h.begin_
  split
  · exact hb
  · split
    · have := hb.lost
      exact ⟨hb.armed, by show 0 ≤ _ - 1 ∧ _ - 1 ≤ _; omega, hb.files, hb.keys, hb.queue, hb.nodup, hb.klen⟩
    · exact hb.settle _ _ (hb.file f).1
theorem Trunc (h : DOk d) (f n : Int) : DOk (TruncF d f n).1 := by
  unfold TruncF
  dsimp only
  have hb := h.begin_
  split
  · exact hb
  · split
    · exact hb
    · refine hb.settle _ _ ?_
      have := (hb.file f).1
      simp only [List.length_take]
      omega
theorem Lose (h : DOk d) (n : Int) (hn : n ≤ 9223372036854775807) : DOk (LoseF d n) := ⟨h.armed, by show 0 ≤ max n 0 ∧ max n 0 ≤ _; omega, h.files, h.keys, h.queue, h.nodup, h.klen⟩
theorem Arm (h : DOk d) (n : Int) (hn : n ≤ 9223372036854775807) (keep : List Int) (hk : keep.length ≤ 4194320) : DOk (ArmF d n keep) := ⟨by show 0 ≤ max n 0 ∧ max n 0 ≤ _; omega, h.lost, h.files, h.keys, h.queue, h.nodup, hk⟩
theorem Start (h : DOk d) : DOk (StartF d) := ⟨h.armed, h.lost, h.files, h.keys, h.queue, h.nodup, h.klen⟩
end DOk
end Go.Proofs.YtjncmlglhegnaaaGreatDoor
