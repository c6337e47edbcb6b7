/- chain: slices.Clone at ints and at entries, walked. -/
import Derived.Test.YtnnnibkainlplaaGreatDoorChainG
import Derived.Deep.RegionLaw
import Derived.StillTactics
namespace Go.Proofs.YtnnnibkainlplaaGreatDoor
open Go.RowKit Go.Sort Go.Lib

/-- an entry that was laid since -/
def EntF (w w' : World) (e : EntC) : Prop := SlF w w' 1 e.A e.v.seen.length (e.v.seen.map intC)
/-- what Decode and Next leave -/
def EntPost (w : World) (v : EntV) (r : Value) (e : Ending) (w' : World) : Prop := ∃ x : EntC, x.v = v ∧ e = .returned (.tuple #[.agg x.cells.toArray, r]) ∧ EntF w w' x ∧ Below w.heap.size w w'
def zeroC : EntC := ⟨.zero, none, 0⟩
theorem zeroC_post {w w' : World} (h : Below w.heap.size w w') (r : Value) : EntPost w .zero r (.returned (.tuple #[.agg #[.int .i64 0, .int .i64 0, .int .i64 0, .slice none 0 0, .string ⟨#[]⟩], r])) w' :=
  ⟨zeroC, rfl, rfl, ⟨Sl.nil_ w' 1 none, fun ad h => by cases h⟩, h⟩
theorem infoEnt : (Tryz.prog.info? 37).map (fun i => (i.zero, i.size, i.bytes)) = some (some (.agg #[.int .i64 0, .int .i64 0, .int .i64 0, .slice none 0 0, .string ⟨#[]⟩]), 5, 64) := by kernel_rfl
theorem ents_len (ls : List EntC) : ∀ x ∈ ls.map EntC.cells, x.length = 5 := by
  intro x hx
  obtain ⟨l, _, rfl⟩ := List.mem_map.1 hx
  rfl
theorem ents_one (ls : List EntC) : ∀ x ∈ ls.map EntC.cells, ∀ u ∈ x, u.oneCell' = true := by
  intro x hx u hu
  obtain ⟨l, _, rfl⟩ := List.mem_map.1 hx
  simp only [EntC.cells, List.mem_cons, List.not_mem_nil, or_false] at hu
  rcases hu with rfl | rfl | rfl | rfl | rfl <;> rfl
theorem ints_len (ls : List Int) : ∀ x ∈ ls.map intC, x.length = 1 := by
  intro x hx
  obtain ⟨l, _, rfl⟩ := List.mem_map.1 hx
  rfl
theorem ints_one (ls : List Int) : ∀ x ∈ ls.map intC, ∀ u ∈ x, u.oneCell' = true := by
  intro x hx u hu
  obtain ⟨l, _, rfl⟩ := List.mem_map.1 hx
  simp only [intC, List.mem_cons, List.not_mem_nil, or_false] at hu
  subst hu
  rfl
theorem Sl.none0 {w : World} {size n : Nat} {xs : List (List Value)} (h : Sl w size none n xs) : n = 0 := by
  rcases Nat.eq_zero_or_pos n with h0 | h0
  · exact h0
  · obtain ⟨l, hl⟩ : ∃ x, xs[0]? = some x := ⟨_, List.getElem?_eq_getElem (by rw [h.1]; exact h0)⟩
    obtain ⟨b, o, he, _⟩ := h.2 0 l hl
    cases he
def Cloned (t : TypeId) (size : Nat) (w : World) (n : Nat) (xs : List (List Value)) (e : Ending) (w' : World) : Prop :=
  ∃ A c, e = .returned (.slice A n c) ∧ Own w' w.heap.size t size (.slice A n c) n xs ∧ Below w.heap.size w w'
set_option maxRecDepth 100000 in
set_option maxHeartbeats 1000000 in
theorem CloneI_any (A : Option Addr) (n c : Nat) (ls : List Int) (w : World) (hs : Sl w 1 A n (ls.map intC)) (hn : n ≤ 1000000) :
    Calls Tryz.prog 39 #[.slice A n c] w (Cloned 3 1 w n (ls.map intC)) := by
  obtain ⟨i0, hi0, hz0, hz1, hz2⟩ := info_parts infoInt
  have HN := Lib.hid hn
  have hq := fun w : World => Lib.run_eql_slice_nil (P := Tryz.prog) w 28 3 A n c 0 0 Tryz.underlying28
  rcases A with _ | ad
  · have h0 : n = 0 := hs.none0
    have HS := Lib.hid hs
    clear hs hn
    subst h0
    go_enter Tryz.func39, Tryz.ntmps39
    go_wp2
    go_ret
    have hx := List.eq_nil_of_length_eq_zero HS.out.1
    exact ⟨none, 0, rfl, by rw [hx]; exact Own.nil_ _ _ _ _, Below.refl _ _⟩
  · have HS := Lib.hid hs
    clear hs hn
    go_enter Tryz.func39, Tryz.ntmps39
    go_wp2_with (at_builtin; refine wpList_append_sl _ rfl (.tmp 5) (.tmp 6) _ rfl w.heap.size 3 i0 _ 1 8 Tryz.underlying28 hi0 hz0 hz1 hz2 rfl (by omega) (.slice (some ⟨w.heap.size, 0, none⟩) 0 0) 0 [] rfl ⟨World.ownsRow_lit w #[] 0 (Nat.le_refl _) (by simp [maxLen]) rfl, by simp, rfl⟩ (some ad) n c (ls.map intC) rfl (HS.out.alloc _) (ints_len ls) (ints_one ls) (by have := HN.out; simp only [maxLen]; omega) (by have := HN.out; omega) (by simp) ?_; intro A1 c1 w1 hown1 hg1 hat1)
    go_ret
    rw [Nat.zero_add, List.nil_append] at hown1
    refine ⟨A1, c1, by simp, hown1, (below_alloc w _).trans (((Below.refl _ _).grown hg1 (by simp) (fun k hk => ?_)))⟩
    simp [Value.ownBlock] at hk
    omega
end Go.Proofs.YtnnnibkainlplaaGreatDoor
