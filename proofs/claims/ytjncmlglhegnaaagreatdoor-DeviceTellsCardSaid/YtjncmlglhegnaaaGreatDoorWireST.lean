/- a row that make lays (plain Lean). -/
/- the reference's SameTexts, walked. -/
import Derived.Test.YtjncmlglhegnaaaGreatDoorBase4
import Derived.OwnWalk
import Derived.Test.YtjncmlglhegnaaaGreatDoorChainF
import Derived.IntWalk
import Derived.Deep.QuietTactic
import Derived.BigQuiet
namespace Go.Proofs.YtjncmlglhegnaaaGreatDoor
open Go.RowKit

theorem made_flat (z : Array Value) (hz : 0 < z.size) : ∀ n : Nat, (madeCells z (n * z.size)).toList = (List.replicate n z.toList).flatten := by
  intro n
  apply List.ext_getElem?
  intro t
  have h1 : ∀ x ∈ List.replicate n z.toList, x.length = z.size := fun x hx => by rw [List.eq_of_mem_replicate hx]; simp
  by_cases ht : t < n * z.size
  · have hi : t / z.size < n := by rw [Nat.div_lt_iff_lt_mul hz]; exact ht
    have hm : t % z.size < z.size := Nat.mod_lt _ hz
    have h2 := flat_get (List.replicate n z.toList) h1 (t / z.size) (t % z.size) z.toList (z[t % z.size]) (by simp [hi]) (by simp [hm])
    rw [Nat.mul_comm, Nat.div_add_mod] at h2
    rw [h2]
    simp [madeCells, ht, hm]
  · rw [List.getElem?_eq_none (by simp [madeCells]; omega), List.getElem?_eq_none (by simp; omega)]
theorem wpList_make_own {P : Program} (w : World) {ops : Array Oper} {rest : List Oper} {o : Oper} {a : Act} {Q : Exit → Act → World → Prop}
    (hg : o.guard = none) (l c : Operand) (t : TypeId) (hop : o.op = Op.makeSlice t l c)
    (base : Nat) (e : TypeId) (i : TypeInfo) (z : Value) (size bytes : Nat) (h1 : P.underlying t = some (.slice e)) (h2 : P.info? e = some i) (h3 : i.zero = some z) (h4 : i.size = size) (h5 : i.bytes = bytes) (hzs : z.cells.size = size) (hsz : 0 < size)
    (n : Nat) (hl : a.eval l = .int .i64 (n : Int)) (hc : a.eval c = .int .i64 (n : Int)) (b2 : bytes * n ≤ 281474976710656) (b3 : n ≤ maxLen) (b4 : base ≤ w.heap.size)
    (hK : ∀ w', Own w' base e size (.slice (some ⟨w.heap.size, 0, none⟩) n n) n (List.replicate n z.cells.toList) → Below w.heap.size w w' → w.heap.size < w'.heap.size → wpList P ops Q rest (a.put o.dst (.slice (some ⟨w.heap.size, 0, none⟩) n n)) w') :
    wpList P ops Q (o :: rest) a w := by
  refine wpList_make_full w hg l c t hop base e i z size h1 h2 h3 h4 .i64 .i64 _ _ n hl hc rfl rfl (by rw [h5]; exact b2) b3 b4 fun w' ho hgr => ?_
  have hf := made_flat z.cells (by omega) n
  rw [hzs] at hf
  rw [hf] at ho
  refine hK w' ⟨ho, fun x hx => by rw [List.eq_of_mem_replicate hx]; simpa using hzs, by simp⟩ ⟨hgr.os, hgr.tape, hgr.output, hgr.size, fun k hk => hgr.block k hk (by simp)⟩ ?_
  exact (ho.lt w.heap.size rfl).2
end Go.Proofs.YtjncmlglhegnaaaGreatDoor
namespace Go.Proofs.YtjncmlglhegnaaaGreatDoor
open Go.RowKit Go.Sort Go.Lib

end Go.Proofs.YtjncmlglhegnaaaGreatDoor
