/- Words for strings and bytes: copy of a string into a row of the call's own. -/
import Derived.Test.YtniiahmpdkgplaaGreatDoorBase4
import Derived.Laws.CopyOwn
import Derived.Laws.BytesArg
namespace Go.Proofs.YtniiahmpdkgplaaGreatDoor
open Go.RowKit

/-- bytes as cells -/
def byteV (l : List UInt8) : List Value := l.map fun b => .int .u8 b.toNat
theorem byteV_one (l : List UInt8) : ∀ v ∈ byteV l, v.oneCell' = true := by
  intro v hv
  obtain ⟨b, _, rfl⟩ := List.mem_map.1 hv
  rfl
section
variable {P : Program}
theorem run_copy_string (w : World) (dT sT ty elem : TypeId) (g o dLen dCap : Nat) (s : List UInt8) (cur : Array Value) (t : TypeId)
    (hu : P.underlying dT = some (.slice elem)) (hs : (P.info? elem).map (·.size) = some 1) (hg : w.heap[g]? = some (.cells cur t (0, 0))) (hfit : o + Nat.min s.length dLen ≤ cur.size) :
    (Builtin.copy_ #[dT, sT] ty #[.slice (some ⟨g, o, none⟩) dLen dCap, .string ⟨s.toArray⟩]).run P w =
      .ok (goInt (Nat.min s.length dLen)) (w.setRow g (splice cur.toList o (byteV (s.take (Nat.min s.length dLen)))).toArray) := by
  have hlen : (byteV (s.take (Nat.min s.length dLen))).length = Nat.min s.length dLen := by
    simp only [byteV, List.length_map, List.length_take]
    exact Nat.min_eq_left (Nat.min_le_left _ _)
  have hst := run_storeCells_at P g o t (byteV (s.take (Nat.min s.length dLen))) 0 cur w hg (by rw [hlen]; simpa using hfit) (byteV_one _)
  obtain ⟨i, hi, hi1⟩ : ∃ i, P.info? elem = some i ∧ i.size = 1 := by
    cases hq : P.info? elem with
    | none => simp [hq] at hs
    | some i => exact ⟨i, rfl, by simpa [hq] using hs⟩
  have hsz : ByteArray.size ⟨s.toArray⟩ = s.length := by simp [ByteArray.size]
  have hex : ((ByteArray.extract ⟨s.toArray⟩ 0 (Nat.min s.length dLen)).data.map fun b => Value.int .u8 b.toNat).toList = byteV (s.take (Nat.min s.length dLen)) := by
    simp [byteV, ByteArray.data_extract]
  unfold Builtin.copy_
  have hst' := hst
  rw [hlen] at hst'
  simp only [Nat.add_zero] at hst'
  simp [Sem.run_bind, Sem.run_pure, run_underlying hu, Builtin.lenOf, Builtin.firstCells, sizeOf, typeInfo, hi, hsz]
  have he : List.take (min s.length dLen) (List.map (fun b : UInt8 => Value.int .u8 (b.toNat : Int)) s) = byteV (s.take (Nat.min s.length dLen)) := by
    rw [byteV, List.map_take]
  rw [he, hst']
  simp only [Result.andThen, splice, hlen, List.append_assoc]

theorem wpList_copy_string {w : World} {ops : Array Oper} {rest : List Oper} {o : Oper} {a : Act} {Q : Exit → Act → World → Prop} (hgd : o.guard = none) (d s : Operand) (dT sT : TypeId)
    (hop : o.op = .call { callee := .builtin .copy, args := #[d, s], argTypes := #[dT, sT] }) (elem : TypeId) (hu : P.underlying dT = some (.slice elem)) (hs : (P.info? elem).map (·.size) = some 1)
    (g off dLen dCap : Nat) (l : List UInt8) (hd : a.eval d = .slice (some ⟨g, off, none⟩) dLen dCap) (hl : a.eval s = .string ⟨l.toArray⟩) (cur : List Value) (t : TypeId) (hg : w.heap[g]? = some (.cells cur.toArray t))
    (hfit : off + Nat.min l.length dLen ≤ cur.length) (B : Nat) (w0 : World) (hb : Below B w0 w) (hB : B ≤ g)
    (h : ∀ w', w'.heap[g]? = some (.cells (splice cur off (byteV (l.take (Nat.min l.length dLen)))).toArray t) → Below B w0 w' → w'.heap.size = w.heap.size → wpList P ops Q rest (a.put o.dst (goInt (Nat.min l.length dLen))) w') :
    wpList P ops Q (o :: rest) a w := by
  refine wpList_plain hgd (fun K hK => ?_)
  have hr := run_copy_string (P := P) w dT sT o.type elem g off dLen dCap l cur.toArray t hu hs hg (by simpa using hfit)
  have hcl : (cur.toArray : Array Value).toList = cur := rfl
  rw [hcl] at hr
  unfold Oper.wp execOp
  simp only [hop, resolve, invoke, builtin, Sem.run_bind, Sem.run_pure, Result.andThen_ok, List.map_toArray, List.map_cons, List.map_nil, hd, hl, hr]
  have hlt : g < w.heap.size := (Array.getElem?_eq_some_iff.1 hg).1
  refine hK _ _ (h _ (setRow_heap w g _ _ t _ hg) (below_setRow hb hB _) (by simp [World.setRow]))
end
end Go.Proofs.YtniiahmpdkgplaaGreatDoor
