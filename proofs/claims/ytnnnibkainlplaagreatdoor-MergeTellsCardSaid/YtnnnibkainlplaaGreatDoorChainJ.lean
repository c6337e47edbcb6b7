/- chain: Next, walked. -/
import Derived.Test.YtnnnibkainlplaaGreatDoorChainI
namespace Go.Proofs.YtnnnibkainlplaaGreatDoor
open Go.RowKit Go.Sort Go.Lib

def nextV (l : List EntV) (device day : Int) (seen : List Int) (text : List UInt8) : EntV := ⟨device, (l.length : Int), day, seen.set device.toNat (l.length : Int), text⟩
def nextF (l : List EntV) (device day : Int) (seen : List Int) (text : List UInt8) : EntV × Int :=
  if (decide (0 ≤ device) && decide (device ≤ 7)) = true ∧ seen.length = 8 then
    if checkF (l ++ [nextV l device day seen text]) = 0 then (nextV l device day seen text, 0) else (.zero, checkF (l ++ [nextV l device day seen text]))
  else (.zero, 1)
theorem map_set_intC (l : List Int) (k : Nat) (n : Int) : (l.map intC).set k [.int .i64 n] = (l.set k n).map intC := by rw [List.map_set]; rfl
theorem ChAt.snoc {w w3 : World} {A A3 : Option Addr} {n c3 base : Nat} {t : TypeId} {l : List EntC} {x : EntC} (h : ChAt w A n l) (hx : EntAt w x) (hl : x.v.seen.length ≤ 1099511627776 ∧ x.v.text.length ≤ 140737488351232)
    (ho : Own w3 base t 5 (.slice A3 (n + 1) c3) (n + 1) (l.map EntC.cells ++ [x.cells])) (hb : Below w.heap.size w w3) : ChAt w3 A3 (n + 1) (l ++ [x]) := by
  refine ⟨by have := Own.sl' ho; rw [List.map_append]; exact this, fun e he => ?_, fun e he => ?_⟩
  · rcases List.mem_append.1 he with he | he
    · exact (h.at_ e he).below hb
    · simp only [List.mem_singleton] at he; subst he; exact hx.below hb
  · rcases List.mem_append.1 he with he | he
    · exact h.len e he
    · simp only [List.mem_singleton] at he; subst he; exact hl
end Go.Proofs.YtnnnibkainlplaaGreatDoor
