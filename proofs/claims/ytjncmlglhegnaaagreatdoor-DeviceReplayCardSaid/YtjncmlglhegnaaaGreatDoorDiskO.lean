/- Words for strings and bytes: copy of a string into a row of the call's own. -/
/- disk: put. -/
/- disk: Size, Read, New. -/
import Derived.Test.YtjncmlglhegnaaaGreatDoorBase4
import Derived.Laws.CopyOwn
import Derived.Laws.BytesArg
import Derived.Test.YtjncmlglhegnaaaGreatDoorDiskM
import Derived.OwnWalk
namespace Go.Proofs.YtjncmlglhegnaaaGreatDoor
open Go.RowKit

/-- bytes as cells -/
def byteV (l : List UInt8) : List Value := l.map fun b => .int .u8 b.toNat
theorem byteV_one (l : List UInt8) : ∀ v ∈ byteV l, v.oneCell' = true := by
  intro v hv
  obtain ⟨b, _, rfl⟩ := List.mem_map.1 hv
  rfl
section
variable {P : Program}
theorem run_copy_string (w : World) (dT sT ty elem : TypeId) (g o dLen dCap : Nat) (s : List UInt8) (cur : Array Value) (t : TypeId)
    (hu : P.underlying dT = some (.slice elem)) (hs : (P.info? elem).map (·.size) = some 1) (hg : w.heap[g]? = some (.cells cur t (0, 0))) (hfit : o + Nat.min s.length dLen ≤ cur.size) :
    (Builtin.copy_ #[dT, sT] ty #[.slice (some ⟨g, o, none⟩) dLen dCap, .string ⟨s.toArray⟩]).run P w =
      .ok (goInt (Nat.min s.length dLen)) (w.setRow g (splice cur.toList o (byteV (s.take (Nat.min s.length dLen)))).toArray) := by
  have hlen : (byteV (s.take (Nat.min s.length dLen))).length = Nat.min s.length dLen := by
    simp only [byteV, List.length_map, List.length_take]
    exact Nat.min_eq_left (Nat.min_le_left _ _)
  have hst := run_storeCells_at P g o t (byteV (s.take (Nat.min s.length dLen))) 0 cur w hg (by rw [hlen]; simpa using hfit) (byteV_one _)
  obtain ⟨i, hi, hi1⟩ : ∃ i, P.info? elem = some i ∧ i.size = 1 := by
    cases hq : P.info? elem with
    | none => simp [hq] at hs
    | some i => exact ⟨i, rfl, by simpa [hq] using hs⟩
  have hsz : ByteArray.size ⟨s.toArray⟩ = s.length := by simp [ByteArray.size]
  have hex : ((ByteArray.extract ⟨s.toArray⟩ 0 (Nat.min s.length dLen)).data.map fun b => Value.int .u8 b.toNat).toList = byteV (s.take (Nat.min s.length dLen)) := by
    simp [byteV, ByteArray.data_extract]
  unfold Builtin.copy_
  have hst' := hst
  rw [hlen] at hst'
  simp only [Nat.add_zero] at hst'
  simp [Sem.run_bind, Sem.run_pure, run_underlying hu, Builtin.lenOf, Builtin.firstCells, sizeOf, typeInfo, hi, hsz]
  have he : List.take (min s.length dLen) (List.map (fun b : UInt8 => Value.int .u8 (b.toNat : Int)) s) = byteV (s.take (Nat.min s.length dLen)) := by
    rw [byteV, List.map_take]
  rw [he, hst']
  simp only [Result.andThen, splice, hlen, List.append_assoc]

theorem wpList_copy_string {w : World} {ops : Array Oper} {rest : List Oper} {o : Oper} {a : Act} {Q : Exit → Act → World → Prop} (hgd : o.guard = none) (d s : Operand) (dT sT : TypeId)
    (hop : o.op = .call { callee := .builtin .copy, args := #[d, s], argTypes := #[dT, sT] }) (elem : TypeId) (hu : P.underlying dT = some (.slice elem)) (hs : (P.info? elem).map (·.size) = some 1)
    (g off dLen dCap : Nat) (l : List UInt8) (hd : a.eval d = .slice (some ⟨g, off, none⟩) dLen dCap) (hl : a.eval s = .string ⟨l.toArray⟩) (cur : List Value) (t : TypeId) (hg : w.heap[g]? = some (.cells cur.toArray t))
    (hfit : off + Nat.min l.length dLen ≤ cur.length) (B : Nat) (w0 : World) (hb : Below B w0 w) (hB : B ≤ g)
    (h : ∀ w', w'.heap[g]? = some (.cells (splice cur off (byteV (l.take (Nat.min l.length dLen)))).toArray t) → Below B w0 w' → w'.heap.size = w.heap.size → wpList P ops Q rest (a.put o.dst (goInt (Nat.min l.length dLen))) w') :
    wpList P ops Q (o :: rest) a w := by
  refine wpList_plain hgd (fun K hK => ?_)
  have hr := run_copy_string (P := P) w dT sT o.type elem g off dLen dCap l cur.toArray t hu hs hg (by simpa using hfit)
  have hcl : (cur.toArray : Array Value).toList = cur := rfl
  rw [hcl] at hr
  unfold Oper.wp execOp
  simp only [hop, resolve, invoke, builtin, Sem.run_bind, Sem.run_pure, Result.andThen_ok, List.map_toArray, List.map_cons, List.map_nil, hd, hl, hr]
  have hlt : g < w.heap.size := (Array.getElem?_eq_some_iff.1 hg).1
  refine hK _ _ (h _ (setRow_heap w g _ _ t _ hg) (below_setRow hb hB _) (by simp [World.setRow]))
end
end Go.Proofs.YtjncmlglhegnaaaGreatDoor
namespace Go.Proofs.YtjncmlglhegnaaaGreatDoor
open Go.RowKit

theorem strV_len (l : List UInt8) : ByteArray.size ⟨l.toArray⟩ = l.length := by simp [ByteArray.size]
theorem strV_ne {t : List UInt8} (h : t ≠ []) : (ByteArray.mk t.toArray == ByteArray.mk #[]) = false := by
  cases t with
  | nil => exact absurd rfl h
  | cons a l =>
    show decide (ByteArray.mk (a :: l).toArray = ByteArray.mk #[]) = false
    rw [decide_eq_false_iff_not]
    intro e
    injection e with e
    simp at e
theorem made_one (z : Value) (n : Nat) : (madeCells #[z] n).toList = List.replicate n z := by
  simp [madeCells]
  apply List.ext_getElem
  · simp
  · intro i h1 h2
    have : i % 1 = 0 := by omega
    simp [this]
/-- what put lays down -/
theorem put_cells (s t : List UInt8) (n M L : Nat) (hL : L = M - n) (ht : t ≠ []) (hM : M = max s.length (n + t.length)) :
    splice (splice (List.replicate M (Value.int .u8 0)) 0 (byteV (s.take (Nat.min s.length M)))) n (byteV (t.take (Nat.min t.length L))) = byteV (putB s n t) := by
  have hs : s.length ≤ M := by omega
  have h1 : Nat.min s.length M = s.length := Nat.min_eq_left hs
  have h2 : Nat.min t.length L = t.length := Nat.min_eq_left (by omega)
  rw [h1, h2, List.take_length, List.take_length, putB, if_neg ht]
  have hz : (Value.int .u8 0) = (fun b : UInt8 => Value.int .u8 (b.toNat : Int)) 0 := rfl
  have hin : splice (List.replicate M (Value.int .u8 0)) 0 (byteV s) = byteV (s ++ List.replicate (M - s.length) 0) := by
    simp [splice, byteV]
  rw [hin]
  unfold splice byteV
  rw [← List.map_take, ← List.map_drop, ← List.map_append, ← List.map_append, List.length_map]
  congr 1
  have ha : (s ++ List.replicate (M - s.length) 0).take n = (s ++ List.replicate (n - s.length) (0 : UInt8)).take n := by
    simp only [List.take_append, List.take_replicate]
    congr 2
    omega
  have hb : (s ++ List.replicate (M - s.length) 0).drop (n + t.length) = s.drop (n + t.length) := by
    simp only [List.drop_append, List.drop_replicate]
    rw [show M - s.length - (n + t.length - s.length) = 0 by omega]
    simp
  rw [ha, hb, List.append_assoc]
theorem row_made {w : World} {base : Nat} {e : TypeId} {g n : Nat} {xs : List Value} (h : w.ownsRow base e 1 (.slice (some ⟨g, 0, none⟩) n n) n xs) : w.heap[g]? = some (.cells xs.toArray e) := by
  obtain ⟨_, h | ⟨g', cap, cur, h1, _, h3, _, _, h6, h7⟩⟩ := h
  · cases h.1
  · injection h1 with h1 h2 h2'
    injection h1 with h1
    injection h1 with h1
    subst h1 h2'
    rw [h3, ← h7, List.take_of_length_le (by simp [h6])]
theorem below_of_none {w w' : World} (h : w.grownBy w' none) : Below w.heap.size w w' := ⟨h.os, h.tape, h.output, h.size, fun k hk => h.block k hk (by simp)⟩
theorem infoByteD : (Tryz.prog.info? 5).map (fun i => (i.zero, i.size, i.bytes)) = some (some (.int .u8 0), 1, 1) := by kernel_rfl
theorem strOf_byteV (l : List UInt8) : strOfNums (l.map fun b => (b.toNat : Int)) = ⟨l.toArray⟩ := by
  have : ((fun n : Int => UInt8.ofNat n.toNat) ∘ fun b : UInt8 => (b.toNat : Int)) = id := by
    funext b
    simp
  simp [strOfNums, this]
theorem put_fits (s t : List UInt8) (n M L : Nat) (hL : L = M - n) (h : M = max s.length (n + t.length)) : n + Nat.min t.length L ≤ (splice (List.replicate M (Value.int .u8 0)) 0 (byteV (s.take (Nat.min s.length M)))).length := by
  have hM : s.length ≤ M := by omega
  have h1 : Nat.min s.length M = s.length := Nat.min_eq_left hM
  rw [h1]
  have : Nat.min t.length L ≤ L := Nat.min_le_right _ _
  simp [splice, byteV]
  omega
theorem putB_len (s t : List UInt8) (n M : Nat) (ht : t ≠ []) (hM : M = max s.length (n + t.length)) : (putB s n t).length = M := by
  rw [putB, if_neg ht]
  simp
  omega
theorem put_convert {w : World} {g : Nat} {r : List UInt8} (h : w.heap[g]? = some (.cells (byteV r).toArray 5)) (N : Nat) (hN : r.length = N) :
    Sem.run Tryz.prog (convert 176 9 (.slice (some ⟨g, 0, none⟩) N N)) w = .ok (.string ⟨r.toArray⟩) w := by
  have := run_convert_bytes_arg (P := Tryz.prog) w 176 5 Tryz.underlying176 Tryz.underlying5 g 0 N N (r.map fun b => (b.toNat : Int)) (by simp [hN]) (fun i hi => by
    have hi' : i < r.length := by omega
    simp [World.cell?, h, byteV, hi', List.getD]) 9 Tryz.underlying9
  rw [strOf_byteV] at this
  exact this
set_option maxRecDepth 100000 in
set_option maxHeartbeats 1000000 in
theorem put_any (w : World) (s t : List UInt8) (n : Nat) (hs : s.length ≤ 16777216) (hn : n + t.length ≤ 16777216) (r : List UInt8) (hr : putB s n t = r) :
    Calls Tryz.prog 73 #[strV s, .int .i64 n, strV t] w fun e w' => e = .returned (strV r) ∧ Below w.heap.size w w' := by
  unfold strV
  subst hr
  by_cases ht : t = []
  · subst ht
    rw [show putB s n [] = s by simp [putB]]
    go_enter Tryz.func73, Tryz.ntmps73
    go_wp2_with (fail)
    go_ret
    exact ⟨rfl, Below.refl _ _⟩
  · have hs' := strV_len s
    have ht' := strV_len t
    have htn := strV_ne ht
    have hte : t.isEmpty = false := by simp [ht]
    obtain ⟨i0, hi0, hz0, hz1, hz2⟩ := info_parts infoByteD
    by_cases hm : s.length < n + t.length
    · have hmx : (s.length : Int) < (n : Int) + (t.length : Int) := by omega
      go_enter Tryz.func73, Tryz.ntmps73
      go_wp2_with (first
        | (at_make; refine wpList_make_full w rfl (.tmp 17) (.tmp 17) 176 rfl w.heap.size 5 i0 (.int .u8 0) 1 Tryz.underlying176 hi0 hz0 hz1 .i64 .i64 _ _ (n + t.length) rfl rfl (by omega) (by omega) (by rw [hz2]; omega) (by simp only [maxLen]; omega) (Nat.le_refl _) ?_; intro w1 hown1 hg1; have hrow1 := row_made hown1; rw [show (Value.int .u8 0).cells = #[Value.int .u8 0] from rfl, Nat.mul_one, made_one] at hrow1; have hB1 : Below w.heap.size w w1 := below_of_none hg1)
        | ((with_reducible show wpList _ _ _ _ _ _); refine wpList_copy_string rfl (.tmp 19) (.tmp 20) 176 9 rfl 5 Tryz.underlying176 (by rw [hi0]; simp [hz1]) w.heap.size 0 (n + t.length) (n + t.length) s rfl rfl (List.replicate (n + t.length) (.int .u8 0)) 5 hrow1 (by rw [List.length_replicate, Nat.zero_add]; exact Nat.min_le_right _ _) w.heap.size w hB1 (Nat.le_refl _) ?_; intro w2 hrow2 hB2 hz2')
        | ((with_reducible show wpList _ _ _ _ _ _); refine wpList_copy_string rfl (.tmp 24) (.tmp 25) 176 9 rfl 5 Tryz.underlying176 (by rw [hi0]; simp [hz1]) w.heap.size n t.length t.length t rfl rfl _ 5 hrow2 (put_fits s t n (n + t.length) t.length (by omega) (by omega)) w.heap.size w hB2 (Nat.le_refl _) ?_; intro w3 hrow3 hB3 hz3'; rw [put_cells s t n (n + t.length) t.length (by omega) ht (by omega)] at hrow3; have hk := put_convert hrow3 (n + t.length) (putB_len s t n _ ht (by omega))))
      go_ret
      exact ⟨rfl, hB3⟩
    · have hmx : (n : Int) + (t.length : Int) ≤ (s.length : Int) := by omega
      have htp := List.length_pos_iff.2 ht
      have hns : (n : Int) < s.length := by omega
      go_enter Tryz.func73, Tryz.ntmps73
      go_wp2_with (first
        | (at_make; refine wpList_make_full w rfl (.tmp 17) (.tmp 17) 176 rfl w.heap.size 5 i0 (.int .u8 0) 1 Tryz.underlying176 hi0 hz0 hz1 .i64 .i64 _ _ s.length rfl rfl (by omega) (by omega) (by rw [hz2]; omega) (by simp only [maxLen]; omega) (Nat.le_refl _) ?_; intro w1 hown1 hg1; have hrow1 := row_made hown1; rw [show (Value.int .u8 0).cells = #[Value.int .u8 0] from rfl, Nat.mul_one, made_one] at hrow1; have hB1 : Below w.heap.size w w1 := below_of_none hg1)
        | ((with_reducible show wpList _ _ _ _ _ _); refine wpList_copy_string rfl (.tmp 19) (.tmp 20) 176 9 rfl 5 Tryz.underlying176 (by rw [hi0]; simp [hz1]) w.heap.size 0 s.length s.length s rfl rfl (List.replicate s.length (.int .u8 0)) 5 hrow1 (by rw [List.length_replicate, Nat.zero_add]; exact Nat.min_le_right _ _) w.heap.size w hB1 (Nat.le_refl _) ?_; intro w2 hrow2 hB2 hz2')
        | ((with_reducible show wpList _ _ _ _ _ _); refine wpList_copy_string rfl (.tmp 24) (.tmp 25) 176 9 rfl 5 Tryz.underlying176 (by rw [hi0]; simp [hz1]) w.heap.size n (s.length - n) (s.length - n) t rfl rfl _ 5 hrow2 (put_fits s t n s.length (s.length - n) (by omega) (by omega)) w.heap.size w hB2 (Nat.le_refl _) ?_; intro w3 hrow3 hB3 hz3'; rw [put_cells s t n s.length (s.length - n) (by omega) ht (by omega)] at hrow3; have hk := put_convert hrow3 s.length (putB_len s t n _ ht (by omega))))
      go_ret
      exact ⟨rfl, hB3⟩
end Go.Proofs.YtjncmlglhegnaaaGreatDoor
namespace Go.Proofs.YtjncmlglhegnaaaGreatDoor
open Go.RowKit

theorem zeroFile (w : World) : (zeroValue 121).run Tryz.prog w = .ok (fileV noFile) w := by
  have : (Tryz.prog.info? 121).map (·.zero) = some (some (fileV noFile)) := by kernel_rfl
  cases h : Tryz.prog.info? 121 with
  | none => simp [h] at this
  | some i =>
    rw [h] at this
    simp only [Option.map_some, Option.some.injEq] at this
    simp [zeroValue, typeInfo, h, this, go_sem]
theorem extract_list (l : List UInt8) (i j : Nat) : ByteArray.extract ⟨l.toArray⟩ i j = ⟨((l.drop i).take (j - i)).toArray⟩ := by
  apply ByteArray.ext
  simp [ByteArray.data_extract, List.extract_eq_take_drop]
theorem extract_empty (i j : Nat) : ByteArray.extract ByteArray.empty i j = ByteArray.mk #[] := by
  apply ByteArray.ext
  simp [ByteArray.data_extract]
theorem field_now (a b : Value) (w : World) : (Instr.field 121 (.agg #[a, b]) 0).run Tryz.prog w = .ok a w := by
  simp [Instr.field, part, asAgg, go_sem]
section
variable {w : World} {F : Nat → Prop} {B : Nat} {d : DV} {mf ms : Nat} {Q : Option Addr} {cq : Nat} {K : Option Addr} {ck : Nat}
theorem DiskAt.look (h : DiskAt w F B d mf ms Q cq K ck) (f : Int) : (Instr.lookup 90 (.map (some mf)) (.int .i64 f) false).run Tryz.prog w = .ok (fileV (d.file f)) w := by
  have := run_lookupA (P := Tryz.prog) (keyW_int Tryz.underlying3) Tryz.underlying90 (zeroFile w) h.files f
  rw [this, DV.file]
  cases getA f d.files <;> rfl
set_option maxRecDepth 100000 in
set_option maxHeartbeats 400000 in
theorem Size_any (h : DiskAt w F B d mf ms Q cq K ck) (f : Int) (r : Int) (hr : r = (d.file f).now.length) :
    Calls Tryz.prog 105 #[.pointer (some ⟨B, 0, none⟩), .int .i64 f] w fun e w' => e = .returned (.int .i64 r) ∧ w = w' := by
  have hl := h.look f
  unfold fileV strV at hl
  have hs := strV_len (d.file f).now
  subst hr
  obtain ⟨zB, kB, fB⟩ := h.loc
  clear h
  have hfe := fun w => field_now (.string ⟨(d.file f).now.toArray⟩) (.string ⟨(d.file f).last.toArray⟩) w
  go_enter Tryz.func105, Tryz.ntmps105
  go_wp2_with (fail)
  go_ret
  exact ⟨rfl, rfl⟩
set_option maxRecDepth 100000 in
set_option maxHeartbeats 1000000 in
theorem Read_any (h : DiskAt w F B d mf ms Q cq K ck) (f at_ n : Int) (r : List UInt8 × Int) (hr : ReadF d f at_ n = r) :
    Calls Tryz.prog 104 #[.pointer (some ⟨B, 0, none⟩), .int .i64 f, .int .i64 at_, .int .i64 n] w fun e w' => e = .returned (.tuple #[strV r.1, .int .i64 r.2]) ∧ w = w' := by
  have hl := h.look f
  unfold fileV strV at hl
  have hs := strV_len (d.file f).now
  have H := Lib.hid h
  obtain ⟨zB, kB, fB⟩ := h.loc
  clear h
  have hfe := fun w => field_now (.string ⟨(d.file f).now.toArray⟩) (.string ⟨(d.file f).last.toArray⟩) w
  have hm' := may_any H.out f _ rfl
  subst hr
  unfold ReadF
  by_cases hm : mayF d f = 0
  · rw [if_neg (by simp [hm])]
    rw [hm] at hm'
    have HM := Lib.hid hm'
    clear hm hm'
    by_cases ha : at_ < 0
    · rw [if_pos (Or.inl ha)]
      unfold strV
      go_enter Tryz.func104, Tryz.ntmps104
      go_wp2_with ((with_reducible refine (HM.out).mono ?_); rintro _ _ ⟨rfl, rfl⟩)
      go_ret2
      exact ⟨rfl, rfl⟩
    · by_cases ha2 : n < 0
      · rw [if_pos (Or.inr ha2)]
        unfold strV
        go_enter Tryz.func104, Tryz.ntmps104
        go_wp2_with ((with_reducible refine (HM.out).mono ?_); rintro _ _ ⟨rfl, rfl⟩)
        go_ret2
        exact ⟨rfl, rfl⟩
      · rw [if_neg (by omega)]
        have ha1 : 0 ≤ at_ := by omega
        have ha2 : 0 ≤ n := by omega
        unfold strV
        go_enter Tryz.func104, Tryz.ntmps104
        go_wp2_with ((with_reducible refine (HM.out).mono ?_); rintro _ _ ⟨rfl, rfl⟩)
        all_goals go_ret2
        all_goals refine ⟨congrArg (fun q => Ending.returned (.tuple #[.string q, .int .i64 0])) ?_, rfl⟩
        · rw [List.drop_of_length_le (by omega), List.take_nil]
          first | exact extract_empty _ _ | rfl
        · rw [List.drop_of_length_le (by omega), List.take_nil]
          first | exact extract_empty _ _ | rfl
        · rw [extract_list, extract_list, List.drop_zero, Nat.sub_zero, List.take_of_length_le (i := n.toNat) (by simp; omega), List.take_of_length_le (by simp), List.take_of_length_le (by simp)]
        · rw [extract_list, extract_list, List.drop_zero, Nat.sub_zero, List.take_of_length_le (i := (d.file f).now.length - at_.toNat) (by simp)]
  · rw [if_pos hm]
    have h1 : (mayF d f == 0) = false := by simpa using hm
    have h2 : (mayF d f != 0) = true := by simpa using hm
    have HM := Lib.hid hm'
    clear hm hm'
    unfold strV
    generalize mayF d f = m at *
    go_enter Tryz.func104, Tryz.ntmps104
    go_wp2_with ((with_reducible refine (HM.out).mono ?_); rintro _ _ ⟨rfl, rfl⟩)
    go_ret2
    exact ⟨rfl, rfl⟩
end
end Go.Proofs.YtjncmlglhegnaaaGreatDoor
