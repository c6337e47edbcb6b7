/- disk: copies: slices.Clone, maps.Clone. -/
import Derived.Test.YtjncmlglhegnaaaGreatDoorDiskX
import Derived.Shelf.SlMaps.Clone
namespace Go.Proofs.YtjncmlglhegnaaaGreatDoor
open Go.RowKit

theorem infoSector : (Tryz.prog.info? 119).map (fun i => (i.zero, i.size, i.bytes)) = some (some (.agg #[.int .i64 0, .int .i64 0]), 2, 16) := by kernel_rfl
theorem infoIntD : (Tryz.prog.info? 3).map (fun i => (i.zero, i.size, i.bytes)) = some (some (.int .i64 0), 1, 8) := by kernel_rfl
theorem int_len (q : List Int) : ∀ x ∈ q.map (fun k => [Value.int .i64 k]), x.length = 1 := by
  intro x hx
  obtain ⟨p, _, rfl⟩ := List.mem_map.1 hx
  rfl
theorem int_one (q : List Int) : ∀ x ∈ q.map (fun k => [Value.int .i64 k]), ∀ u ∈ x, u.oneCell' = true := by
  intro x hx u hu
  obtain ⟨p, _, rfl⟩ := List.mem_map.1 hx
  simp only [List.mem_cons, List.not_mem_nil, or_false] at hu
  subst hu
  rfl
theorem Sl.none_ {w : World} {size n : Nat} {xs : List (List Value)} (h : Sl w size none n xs) : n = 0 ∧ xs = [] := by
  have h1 := h.1
  cases xs with
  | nil => exact ⟨h1.symm, rfl⟩
  | cons x xs =>
    obtain ⟨b, o, he, _⟩ := h.2 0 x rfl
    cases he
/-- an append onto an empty slice of the call's own, seen from ahead of it -/
theorem below_of_fresh {w w1 : World} {o : Obj} (hg : (w.alloc o).grownBy w1 (some w.heap.size)) : Below w.heap.size w w1 :=
  (below_alloc w o).grown hg (by simp) (fun k hk => by injection hk with hk; omega)

set_option maxRecDepth 100000 in
set_option maxHeartbeats 1000000 in
theorem CloneInt_any (w : World) (A : Option Addr) (n c : Nat) (q : List Int) (hs : Sl w 1 A n (q.map fun k => [.int .i64 k])) (hn : n ≤ 4194320) :
    Calls Tryz.prog 72 #[.slice A n c] w fun e w' => ∃ A' c', e = .returned (.slice A' n c') ∧ Own w' w.heap.size 3 1 (.slice A' n c') n (q.map fun k => [.int .i64 k]) ∧ Below w.heap.size w w' := by
  have hq := fun w : World => Lib.run_eql_slice_nil (P := Tryz.prog) w 30 3 A n c 0 0 Tryz.underlying30
  obtain ⟨i0, hi0, hi1, hi2, hi3⟩ := info_parts infoIntD
  cases A with
  | none =>
    obtain ⟨rfl, hnil⟩ := hs.none_
    rw [hnil]
    go_enter Tryz.func72, Tryz.ntmps72
    go_wp2_with (fail)
    go_ret
    exact ⟨_, _, rfl, Own.nil_ _ _ _ _, Below.refl _ _⟩
  | some ad =>
    have HS := Lib.hid hs
    clear hs
    go_enter Tryz.func72, Tryz.ntmps72
    go_wp2_with (at_builtin; refine wpList_append_sl _ rfl (.tmp 5) (.tmp 6) 30 rfl w.heap.size 3 i0 _ 1 8 Tryz.underlying30 hi0 hi1 hi2 hi3 rfl (by omega) (.slice (some ⟨w.heap.size, 0, none⟩) 0 0) 0 [] rfl (Own.empty (by simp) (Nat.le_refl _)) (some ad) n c (q.map fun k => [.int .i64 k]) rfl (HS.out.alloc _) (int_len q) (int_one q) (by simp only [maxLen]; omega) (by omega) (by simp) ?_; intro A1 c1 w1 hown hg hat; rw [Nat.zero_add, List.nil_append] at hown)
    go_ret
    exact ⟨_, _, rfl, hown, below_of_fresh hg⟩
end Go.Proofs.YtjncmlglhegnaaaGreatDoor
