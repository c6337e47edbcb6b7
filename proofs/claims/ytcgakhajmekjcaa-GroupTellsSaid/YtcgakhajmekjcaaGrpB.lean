/- group: how the shares are compared: cmp.Compare, cmp.Or, the closure. -/
import Derived.Test.YtcgakhajmekjcaaGrpA
import Derived.Deep.RegionHeld3
namespace Go.Proofs.Ytcgakhajmekjcaa
open Go.RowKit

def cmp3 (x y : Int) : Int := if x < y then -1 else if y < x then 1 else 0
set_option maxHeartbeats 1000000 in
theorem nan_u64 (x : Int) (w : World) : Calls Try.prog 29 #[.int .u64 x] w fun e w' => e = .returned (.bool false) ∧ w = w' := by
  go_enter Try.func29, Try.ntmps29
  go_wp2_with (fail)
  go_ret
  exact ⟨ret_bool (by simp), rfl⟩
set_option maxHeartbeats 1000000 in
theorem nan_int (x : Int) (w : World) : Calls Try.prog 30 #[.int .i64 x] w fun e w' => e = .returned (.bool false) ∧ w = w' := by
  go_enter Try.func30, Try.ntmps30
  go_wp2_with (fail)
  go_ret
  exact ⟨ret_bool (by simp), rfl⟩
set_option maxHeartbeats 1000000 in
theorem cmp_u64 (x y r : Int) (w : World) (hr : cmp3 x y = r) : Calls Try.prog 23 #[.int .u64 x, .int .u64 y] w fun e w' => e = .returned (.int .i64 r) ∧ w = w' := by
  subst hr
  unfold cmp3
  by_cases h1 : x < y
  · rw [if_pos h1]
    go_enter Try.func23, Try.ntmps23
    go_wp2_with (first
      | ((with_reducible refine (nan_u64 x w).mono ?_); rintro _ w9 ⟨rfl, hw9⟩; obtain rfl := hw9)
      | ((with_reducible refine (nan_u64 y w).mono ?_); rintro _ w9 ⟨rfl, hw9⟩; obtain rfl := hw9))
    go_ret
    exact ⟨rfl, rfl⟩
  · rw [if_neg h1]
    by_cases h2 : y < x
    · rw [if_pos h2]
      have h1' : y ≤ x := by omega
      go_enter Try.func23, Try.ntmps23
      go_wp2_with (first
        | ((with_reducible refine (nan_u64 x w).mono ?_); rintro _ w9 ⟨rfl, hw9⟩; obtain rfl := hw9)
        | ((with_reducible refine (nan_u64 y w).mono ?_); rintro _ w9 ⟨rfl, hw9⟩; obtain rfl := hw9))
      go_ret
      exact ⟨rfl, rfl⟩
    · rw [if_neg h2]
      obtain rfl : x = y := by omega
      go_enter Try.func23, Try.ntmps23
      go_wp2_with ((with_reducible refine (nan_u64 x w).mono ?_); rintro _ w9 ⟨rfl, hw9⟩; obtain rfl := hw9)
      go_ret
      exact ⟨rfl, rfl⟩
set_option maxHeartbeats 1000000 in
theorem cmp_int (x y r : Int) (w : World) (hr : cmp3 x y = r) : Calls Try.prog 24 #[.int .i64 x, .int .i64 y] w fun e w' => e = .returned (.int .i64 r) ∧ w = w' := by
  subst hr
  unfold cmp3
  by_cases h1 : x < y
  · rw [if_pos h1]
    go_enter Try.func24, Try.ntmps24
    go_wp2_with (first
      | ((with_reducible refine (nan_int x w).mono ?_); rintro _ w9 ⟨rfl, hw9⟩; obtain rfl := hw9)
      | ((with_reducible refine (nan_int y w).mono ?_); rintro _ w9 ⟨rfl, hw9⟩; obtain rfl := hw9))
    go_ret
    exact ⟨rfl, rfl⟩
  · rw [if_neg h1]
    by_cases h2 : y < x
    · rw [if_pos h2]
      have h1' : y ≤ x := by omega
      go_enter Try.func24, Try.ntmps24
      go_wp2_with (first
        | ((with_reducible refine (nan_int x w).mono ?_); rintro _ w9 ⟨rfl, hw9⟩; obtain rfl := hw9)
        | ((with_reducible refine (nan_int y w).mono ?_); rintro _ w9 ⟨rfl, hw9⟩; obtain rfl := hw9))
      go_ret
      exact ⟨rfl, rfl⟩
    · rw [if_neg h2]
      obtain rfl : x = y := by omega
      go_enter Try.func24, Try.ntmps24
      go_wp2_with ((with_reducible refine (nan_int x w).mono ?_); rintro _ w9 ⟨rfl, hw9⟩; obtain rfl := hw9)
      go_ret
      exact ⟨rfl, rfl⟩
set_option maxHeartbeats 1000000 in
/-- cmp.Or of two -/
theorem or_two (a b r : Int) (w : World) (g : Nat) (h0 : w.cell? ⟨g, 0, none⟩ = some (.int .i64 a)) (h1 : w.cell? ⟨g, 1, none⟩ = some (.int .i64 b)) (hr : (if a = 0 then b else a) = r) :
    Calls Try.prog 22 #[.slice (some ⟨g, 0, none⟩) 2 2] w fun e w' => e = .returned (.int .i64 r) ∧ w = w' := by
  have HR := Lib.hid hr
  clear hr
  go_enter Try.func22, Try.ntmps22
  go_wp2_with (fail)
  go_loopw [8] (fun i wr => ∃ k : Nat, k ≤ 2 ∧ i = .int .i64 (k : Int) ∧ wr = w ∧ (0 < k → a = 0) ∧ (1 < k → b = 0)) (fun i _ => 2 - (intOf i).toNat)
  case atStart => exact ⟨0, Nat.zero_le _, rfl, rfl, by simp, by simp⟩
  case round =>
    obtain ⟨k, hk, rfl, rfl, ha, hb⟩ := hrel
    have hk2 : k = 0 ∨ k = 1 ∨ k = 2 := by omega
    rcases hk2 with rfl | rfl | rfl
    · clear ha hb hk
      by_cases hz : a = 0
      · subst hz
        have hzb : ((0 : Int) != 0) = false := rfl
        go_wp2_with (fail)
        go_roundw
        case rel => exact ⟨1, by omega, by go_num, trivial, by simp, by simp⟩
        case measure => simp [intOf]
      · have hzb : (a != 0) = true := by simpa using hz
        have HZ := Lib.hid hz
        clear hz
        go_wp2_with (fail)
        go_ret
        exact ⟨ret_int (by rw [← HR.out, if_neg HZ.out]), rfl⟩
    · obtain rfl : a = 0 := ha (by omega)
      clear ha hb hk
      by_cases hz : b = 0
      · subst hz
        have hzb : ((0 : Int) != 0) = false := rfl
        go_wp2_with (fail)
        go_roundw
        case rel => exact ⟨2, by omega, by go_num, trivial, by simp, by simp⟩
        case measure => simp [intOf]
      · have hzb : (b != 0) = true := by simpa using hz
        go_wp2_with (fail)
        go_ret
        exact ⟨ret_int (by have h := HR.out; simpa using h), rfl⟩
    · obtain rfl : a = 0 := ha (by omega)
      obtain rfl : b = 0 := hb (by omega)
      clear ha hb hk
      go_wp2_with (fail)
      go_ret
      exact ⟨ret_int (by have h := HR.out; simpa using h), rfl⟩
/-- a share: index, turn, cents, rest -/
abbrev Share := Int × Int × Int × Int
def encSh (x : Share) : List Value := [.int .i64 x.1, .int .i64 x.2.1, .int .u64 x.2.2.1, .int .u64 x.2.2.2]
def cmpSh (x y : Share) : Int := if cmp3 y.2.2.2 x.2.2.2 = 0 then cmp3 x.2.1 y.2.1 else cmp3 y.2.2.2 x.2.2.2
set_option maxRecDepth 100000 in
set_option maxHeartbeats 4000000 in
theorem closure_any (x y : Share) (W : World) : Calls Try.prog 21 #[.agg #[.int .i64 x.1, .int .i64 x.2.1, .int .u64 x.2.2.1, .int .u64 x.2.2.2], .agg #[.int .i64 y.1, .int .i64 y.2.1, .int .u64 y.2.2.1, .int .u64 y.2.2.2]] W fun e w' =>
    e = .returned (.int .i64 (cmpSh x y)) ∧ w' = (((W.alloc (.cells #[.int .i64 x.1, .int .i64 x.2.1, .int .u64 x.2.2.1, .int .u64 x.2.2.2] 40)).alloc (.cells #[.int .i64 y.1, .int .i64 y.2.1, .int .u64 y.2.2.1, .int .u64 y.2.2.2] 40)).alloc (.cells #[.int .i64 (cmp3 y.2.2.2 x.2.2.2), .int .i64 (cmp3 x.2.1 y.2.1)] 3)).drew := by
  obtain ⟨x0, x1, x2, x3⟩ := x
  obtain ⟨y0, y1, y2, y3⟩ := y
  simp only
  unfold cmpSh
  simp only
  have HC1 := Lib.hid (fun w => cmp_u64 y3 x3 _ w rfl)
  have HC2 := Lib.hid (fun w => cmp_int x1 y1 _ w rfl)
  have HO := Lib.hid (fun w g h0 h1 => or_two (cmp3 y3 x3) (cmp3 x1 y1) _ w g h0 h1 rfl)
  generalize (if cmp3 y3 x3 = 0 then cmp3 x1 y1 else cmp3 y3 x3) = rr at *
  generalize cmp3 y3 x3 = c1 at *
  generalize cmp3 x1 y1 = c2 at *
  go_enter Try.func21, Try.ntmps21
  go_wp2_with (fail)
  have LX := Lib.hid ((Loc.new_ W #[.int .i64 x0, .int .i64 x1, .int .u64 x2, .int .u64 x3] 40).alloc (.cells #[.int .i64 y0, .int .i64 y1, .int .u64 y2, .int .u64 y3] 40))
  have LY := Lib.hid (Loc.new_ (W.alloc (.cells #[.int .i64 x0, .int .i64 x1, .int .u64 x2, .int .u64 x3] 40)) #[.int .i64 y0, .int .i64 y1, .int .u64 y2, .int .u64 y3] 40)
  rw [World.size_alloc] at LY
  generalize hV : (W.alloc (.cells #[.int .i64 x0, .int .i64 x1, .int .u64 x2, .int .u64 x3] 40)).alloc (.cells #[.int .i64 y0, .int .i64 y1, .int .u64 y2, .int .u64 y3] 40) = V at *
  have HV := Lib.hid hV
  clear hV
  have HSV : Hid (V.drew.cell? ⟨W.heap.size, 1, none⟩ = some (.int .i64 x1) ∧ V.drew.cell? ⟨W.heap.size, 3, none⟩ = some (.int .u64 x3) ∧ V.drew.cell? ⟨W.heap.size + 1, 1, none⟩ = some (.int .i64 y1) ∧ V.drew.cell? ⟨W.heap.size + 1, 3, none⟩ = some (.int .u64 y3)) := ⟨LX.out.cell 1, LX.out.cell 3, LY.out.cell 1, LY.out.cell 3⟩
  have HSA : Hid (∀ o, (V.alloc o).drew.cell? ⟨W.heap.size, 1, none⟩ = some (.int .i64 x1) ∧ (V.alloc o).drew.cell? ⟨W.heap.size, 3, none⟩ = some (.int .u64 x3) ∧ (V.alloc o).drew.cell? ⟨W.heap.size + 1, 1, none⟩ = some (.int .i64 y1) ∧ (V.alloc o).drew.cell? ⟨W.heap.size + 1, 3, none⟩ = some (.int .u64 y3)) := Lib.hid fun o => ⟨(LX.out.alloc o).cell 1, (LX.out.alloc o).cell 3, (LY.out.alloc o).cell 1, (LY.out.alloc o).cell 3⟩
  have HC0 : Hid (∀ a b : Value, (V.alloc (.cells #[a, b] 3)).drew.cell? ⟨V.heap.size, 0, none⟩ = some a ∧ (V.alloc (.cells #[a, b] 3)).drew.cell? ⟨V.heap.size, 1, none⟩ = some b) := Lib.hid fun a b => ⟨(Loc.new_ V #[a, b] 3).cell 0, (Loc.new_ V #[a, b] 3).cell 1⟩
  go_region_held3 (fun w' => w'.cell? ⟨W.heap.size, 1, none⟩ = some (.int .i64 x1) ∧ w'.cell? ⟨W.heap.size, 3, none⟩ = some (.int .u64 x3) ∧ w'.cell? ⟨W.heap.size + 1, 1, none⟩ = some (.int .i64 y1) ∧ w'.cell? ⟨W.heap.size + 1, 3, none⟩ = some (.int .u64 y3))
    (first | exact HSV.out | exact HSA.out _)
    (first
      | ((with_reducible refine (HC1.out _).mono ?_); rintro _ w9 ⟨rfl, hw9⟩; obtain rfl := hw9)
      | ((with_reducible refine (HC2.out _).mono ?_); rintro _ w9 ⟨rfl, hw9⟩; obtain rfl := hw9)
      | ((with_reducible refine (HO.out _ V.heap.size (HC0.out _ _).1 (HC0.out _ _).2).mono ?_); rintro _ w9 ⟨rfl, hw9⟩; obtain rfl := hw9))
  go_wp2_with (fail)
  go_ret
  exact ⟨rfl, by rw [HV.out]⟩
end Go.Proofs.Ytcgakhajmekjcaa
