/- disk: put. -/
import Derived.Test.YtniiahmpdkgplaaGreatDoorDiskM
import Derived.Test.YtniiahmpdkgplaaGreatDoorStrW
import Derived.OwnWalk
import Derived.Laws.BytesArg
namespace Go.Proofs.YtniiahmpdkgplaaGreatDoor
open Go.RowKit

theorem strV_len (l : List UInt8) : ByteArray.size ⟨l.toArray⟩ = l.length := by simp [ByteArray.size]
theorem strV_ne {t : List UInt8} (h : t ≠ []) : (ByteArray.mk t.toArray == ByteArray.mk #[]) = false := by
  cases t with
  | nil => exact absurd rfl h
  | cons a l =>
    show decide (ByteArray.mk (a :: l).toArray = ByteArray.mk #[]) = false
    rw [decide_eq_false_iff_not]
    intro e
    injection e with e
    simp at e
theorem made_one (z : Value) (n : Nat) : (madeCells #[z] n).toList = List.replicate n z := by
  simp [madeCells]
  apply List.ext_getElem
  · simp
  · intro i h1 h2
    have : i % 1 = 0 := by omega
    simp [this]
/-- what put lays down -/
theorem put_cells (s t : List UInt8) (n M L : Nat) (hL : L = M - n) (ht : t ≠ []) (hM : M = max s.length (n + t.length)) :
    splice (splice (List.replicate M (Value.int .u8 0)) 0 (byteV (s.take (Nat.min s.length M)))) n (byteV (t.take (Nat.min t.length L))) = byteV (putB s n t) := by
  have hs : s.length ≤ M := by omega
  have h1 : Nat.min s.length M = s.length := Nat.min_eq_left hs
  have h2 : Nat.min t.length L = t.length := Nat.min_eq_left (by omega)
  rw [h1, h2, List.take_length, List.take_length, putB, if_neg ht]
  have hz : (Value.int .u8 0) = (fun b : UInt8 => Value.int .u8 (b.toNat : Int)) 0 := rfl
  have hin : splice (List.replicate M (Value.int .u8 0)) 0 (byteV s) = byteV (s ++ List.replicate (M - s.length) 0) := by
    simp [splice, byteV]
  rw [hin]
  unfold splice byteV
  rw [← List.map_take, ← List.map_drop, ← List.map_append, ← List.map_append, List.length_map]
  congr 1
  have ha : (s ++ List.replicate (M - s.length) 0).take n = (s ++ List.replicate (n - s.length) (0 : UInt8)).take n := by
    simp only [List.take_append, List.take_replicate]
    congr 2
    omega
  have hb : (s ++ List.replicate (M - s.length) 0).drop (n + t.length) = s.drop (n + t.length) := by
    simp only [List.drop_append, List.drop_replicate]
    rw [show M - s.length - (n + t.length - s.length) = 0 by omega]
    simp
  rw [ha, hb, List.append_assoc]
theorem row_made {w : World} {base : Nat} {e : TypeId} {g n : Nat} {xs : List Value} (h : w.ownsRow base e 1 (.slice (some ⟨g, 0, none⟩) n n) n xs) : w.heap[g]? = some (.cells xs.toArray e) := by
  obtain ⟨_, h | ⟨g', cap, cur, h1, _, h3, _, _, h6, h7⟩⟩ := h
  · cases h.1
  · injection h1 with h1 h2 h2'
    injection h1 with h1
    injection h1 with h1
    subst h1 h2'
    rw [h3, ← h7, List.take_of_length_le (by simp [h6])]
theorem below_of_none {w w' : World} (h : w.grownBy w' none) : Below w.heap.size w w' := ⟨h.os, h.tape, h.output, h.size, fun k hk => h.block k hk (by simp)⟩
theorem infoByteD : (Tryz.prog.info? 5).map (fun i => (i.zero, i.size, i.bytes)) = some (some (.int .u8 0), 1, 1) := by kernel_rfl
theorem strOf_byteV (l : List UInt8) : strOfNums (l.map fun b => (b.toNat : Int)) = ⟨l.toArray⟩ := by
  have : ((fun n : Int => UInt8.ofNat n.toNat) ∘ fun b : UInt8 => (b.toNat : Int)) = id := by
    funext b
    simp
  simp [strOfNums, this]
theorem put_fits (s t : List UInt8) (n M L : Nat) (hL : L = M - n) (h : M = max s.length (n + t.length)) : n + Nat.min t.length L ≤ (splice (List.replicate M (Value.int .u8 0)) 0 (byteV (s.take (Nat.min s.length M)))).length := by
  have hM : s.length ≤ M := by omega
  have h1 : Nat.min s.length M = s.length := Nat.min_eq_left hM
  rw [h1]
  have : Nat.min t.length L ≤ L := Nat.min_le_right _ _
  simp [splice, byteV]
  omega
theorem putB_len (s t : List UInt8) (n M : Nat) (ht : t ≠ []) (hM : M = max s.length (n + t.length)) : (putB s n t).length = M := by
  rw [putB, if_neg ht]
  simp
  omega
theorem put_convert {w : World} {g : Nat} {r : List UInt8} (h : w.heap[g]? = some (.cells (byteV r).toArray 5)) (N : Nat) (hN : r.length = N) :
    Sem.run Tryz.prog (convert 96 9 (.slice (some ⟨g, 0, none⟩) N N)) w = .ok (.string ⟨r.toArray⟩) w := by
  have := run_convert_bytes_arg (P := Tryz.prog) w 96 5 Tryz.underlying96 Tryz.underlying5 g 0 N N (r.map fun b => (b.toNat : Int)) (by simp [hN]) (fun i hi => by
    have hi' : i < r.length := by omega
    simp [World.cell?, h, byteV, hi', List.getD]) 9 Tryz.underlying9
  rw [strOf_byteV] at this
  exact this
set_option maxRecDepth 100000 in
set_option maxHeartbeats 1000000 in
theorem put_any (w : World) (s t : List UInt8) (n : Nat) (hs : s.length ≤ 16777216) (hn : n + t.length ≤ 16777216) (r : List UInt8) (hr : putB s n t = r) :
    Calls Tryz.prog 44 #[strV s, .int .i64 n, strV t] w fun e w' => e = .returned (strV r) ∧ Below w.heap.size w w' := by
  unfold strV
  subst hr
  by_cases ht : t = []
  · subst ht
    rw [show putB s n [] = s by simp [putB]]
    go_enter Tryz.func44, Tryz.ntmps44
    go_wp2_with (fail)
    go_ret
    exact ⟨rfl, Below.refl _ _⟩
  · have hs' := strV_len s
    have ht' := strV_len t
    have htn := strV_ne ht
    have hte : t.isEmpty = false := by simp [ht]
    obtain ⟨i0, hi0, hz0, hz1, hz2⟩ := info_parts infoByteD
    by_cases hm : s.length < n + t.length
    · have hmx : (s.length : Int) < (n : Int) + (t.length : Int) := by omega
      go_enter Tryz.func44, Tryz.ntmps44
      go_wp2_with (first
        | (at_make; refine wpList_make_full w rfl (.tmp 17) (.tmp 17) 96 rfl w.heap.size 5 i0 (.int .u8 0) 1 Tryz.underlying96 hi0 hz0 hz1 .i64 .i64 _ _ (n + t.length) rfl rfl (by omega) (by omega) (by rw [hz2]; omega) (by simp only [maxLen]; omega) (Nat.le_refl _) ?_; intro w1 hown1 hg1; have hrow1 := row_made hown1; rw [show (Value.int .u8 0).cells = #[Value.int .u8 0] from rfl, Nat.mul_one, made_one] at hrow1; have hB1 : Below w.heap.size w w1 := below_of_none hg1)
        | ((with_reducible show wpList _ _ _ _ _ _); refine wpList_copy_string rfl (.tmp 19) (.tmp 20) 96 9 rfl 5 Tryz.underlying96 (by rw [hi0]; simp [hz1]) w.heap.size 0 (n + t.length) (n + t.length) s rfl rfl (List.replicate (n + t.length) (.int .u8 0)) 5 hrow1 (by rw [List.length_replicate, Nat.zero_add]; exact Nat.min_le_right _ _) w.heap.size w hB1 (Nat.le_refl _) ?_; intro w2 hrow2 hB2 hz2')
        | ((with_reducible show wpList _ _ _ _ _ _); refine wpList_copy_string rfl (.tmp 24) (.tmp 25) 96 9 rfl 5 Tryz.underlying96 (by rw [hi0]; simp [hz1]) w.heap.size n t.length t.length t rfl rfl _ 5 hrow2 (put_fits s t n (n + t.length) t.length (by omega) (by omega)) w.heap.size w hB2 (Nat.le_refl _) ?_; intro w3 hrow3 hB3 hz3'; rw [put_cells s t n (n + t.length) t.length (by omega) ht (by omega)] at hrow3; have hk := put_convert hrow3 (n + t.length) (putB_len s t n _ ht (by omega))))
      go_ret
      exact ⟨rfl, hB3⟩
    · have hmx : (n : Int) + (t.length : Int) ≤ (s.length : Int) := by omega
      have htp := List.length_pos_iff.2 ht
      have hns : (n : Int) < s.length := by omega
      go_enter Tryz.func44, Tryz.ntmps44
      go_wp2_with (first
        | (at_make; refine wpList_make_full w rfl (.tmp 17) (.tmp 17) 96 rfl w.heap.size 5 i0 (.int .u8 0) 1 Tryz.underlying96 hi0 hz0 hz1 .i64 .i64 _ _ s.length rfl rfl (by omega) (by omega) (by rw [hz2]; omega) (by simp only [maxLen]; omega) (Nat.le_refl _) ?_; intro w1 hown1 hg1; have hrow1 := row_made hown1; rw [show (Value.int .u8 0).cells = #[Value.int .u8 0] from rfl, Nat.mul_one, made_one] at hrow1; have hB1 : Below w.heap.size w w1 := below_of_none hg1)
        | ((with_reducible show wpList _ _ _ _ _ _); refine wpList_copy_string rfl (.tmp 19) (.tmp 20) 96 9 rfl 5 Tryz.underlying96 (by rw [hi0]; simp [hz1]) w.heap.size 0 s.length s.length s rfl rfl (List.replicate s.length (.int .u8 0)) 5 hrow1 (by rw [List.length_replicate, Nat.zero_add]; exact Nat.min_le_right _ _) w.heap.size w hB1 (Nat.le_refl _) ?_; intro w2 hrow2 hB2 hz2')
        | ((with_reducible show wpList _ _ _ _ _ _); refine wpList_copy_string rfl (.tmp 24) (.tmp 25) 96 9 rfl 5 Tryz.underlying96 (by rw [hi0]; simp [hz1]) w.heap.size n (s.length - n) (s.length - n) t rfl rfl _ 5 hrow2 (put_fits s t n s.length (s.length - n) (by omega) (by omega)) w.heap.size w hB2 (Nat.le_refl _) ?_; intro w3 hrow3 hB3 hz3'; rw [put_cells s t n s.length (s.length - n) (by omega) ht (by omega)] at hrow3; have hk := put_convert hrow3 s.length (putB_len s t n _ ht (by omega))))
      go_ret
      exact ⟨rfl, hB3⟩
end Go.Proofs.YtniiahmpdkgplaaGreatDoor
