/- bits.Div64 at a divisor below 2^32, walked. -/
import Derived.Test.YtcgakhajmekjcaaGrpB
import Derived.Test.YtcgakhajmekjcaaDivP
import Derived.Laws.BitsLemmas
import Derived.Laws.Bits64
import Derived.Lib.BitFns
namespace Go.Proofs.Ytcgakhajmekjcaa
open Go.RowKit

theorem bitLenAux_lt : ∀ (f x : Nat), x < 2 ^ f → x < 2 ^ Lib.bitLenAux f x
  | 0, x, h => by simpa [Lib.bitLenAux] using h
  | f + 1, x, h => by
    unfold Lib.bitLenAux
    split
    · simp; omega
    · have h1 : x / 2 < 2 ^ f := by rw [Nat.pow_succ] at h; omega
      have := bitLenAux_lt f (x / 2) h1
      rw [Nat.add_comm, Nat.pow_succ]
      omega
theorem bitLenAux_le : ∀ (f x k : Nat), x < 2 ^ k → Lib.bitLenAux f x ≤ k
  | 0, x, k, _ => by simp [Lib.bitLenAux]
  | f + 1, x, k, h => by
    unfold Lib.bitLenAux
    split
    · omega
    · rename_i hx
      match k, h with
      | 0, h => simp at h; omega
      | k + 1, h =>
        have := bitLenAux_le f (x / 2) k (by rw [Nat.pow_succ] at h; omega)
        omega
theorem bitLenAux_pos (f x : Nat) (hx : 0 < x) : 0 < Lib.bitLenAux (f + 1) x := by
  unfold Lib.bitLenAux
  rw [if_neg (by omega)]
  omega
theorem w64 (n : Int) : IntKind.u64.wrap n = n % 18446744073709551616 := IntKind.wrap_u64 n
theorem w64_nat {n : Nat} (h : n < 18446744073709551616) : IntKind.u64.wrap (n : Int) = n := by
  rw [w64]
  omega
theorem w64_of {a : Int} {n : Nat} (h : a = n) (hn : n < 18446744073709551616) : IntKind.u64.wrap a = n := by rw [h]; exact w64_nat hn
theorem w64_chain {a b z : Int} {n : Nat} (h : a * 4294967296 + b = z + n) (hn : n < 18446744073709551616) : IntKind.u64.wrap (IntKind.u64.wrap (IntKind.u64.wrap (a * 4294967296) + b) - IntKind.u64.wrap z) = n := by
  rw [w64, w64, w64, w64]
  generalize a * 4294967296 = c at *
  omega
theorem cast_eq {a b q Y v : Nat} (h : a * 4294967296 + b = q * Y + v) : (a : Int) * 4294967296 + (b : Int) = (q : Int) * (Y : Int) + (v : Int) := by
  have h3 := congrArg (Nat.cast (R := Int)) h
  rw [Int.natCast_add, Int.natCast_mul, Int.natCast_add, Int.natCast_mul] at h3
  exact h3
theorem big_mul {q : Nat} (h : q < 4294967296) : q * 4294967296 < 18446744073709551616 := by omega
theorem big_add {q r : Nat} (h : q < 4294967296) (h2 : r < 4294967296) : q * 4294967296 + r < 18446744073709551616 := by omega
theorem cast_mul (q : Nat) : (q : Int) * 4294967296 = ((q * 4294967296 : Nat) : Int) := (Int.natCast_mul q 4294967296).symm
theorem cast_mul_add (q r : Nat) : ((q * 4294967296 : Nat) : Int) + (r : Int) = ((q * 4294967296 + r : Nat) : Int) := (Int.natCast_add _ r).symm
theorem steps_eq {a b y v q r Y : Nat} (h : q * y + r = a) (hv : v = r * 4294967296 + b) (hY : Y = y * 4294967296) : a * 4294967296 + b = q * Y + v := by
  subst h hv hY
  rw [Nat.add_mul, ← Nat.mul_assoc]
  omega
theorem wrap_nonneg (n : Int) : 0 ≤ IntKind.u64.wrap n := by rw [w64]; omega
set_option maxRecDepth 100000 in
set_option maxHeartbeats 4000000 in
theorem div64_any (hlz : ∀ (y : Nat) (w : World), y < 2 ^ 64 → Calls Try.prog 26 #[.int .u64 y] w fun e w' => e = .returned (.int .i64 (64 - (Lib.bitLen y : Int))) ∧ w' = w)
    (w : World) (u y : Nat) (hy : 0 < y) (hy2 : y < 4294967296) (hu : u < y * 18446744073709551616) :
    Calls Try.prog 19 #[.int .u64 ((u / 18446744073709551616 : Nat) : Int), .int .u64 ((u % 18446744073709551616 : Nat) : Int), .int .u64 y] w fun e w' => e = .returned (.tuple #[.int .u64 ((u / y : Nat) : Int), .int .u64 ((u % y : Nat) : Int)]) ∧ Below w.heap.size w w' := by
  have e64 : (2 : Nat) ^ 64 = 18446744073709551616 := by decide
  have e32 : (2 : Nat) ^ 32 = 4294967296 := by decide
  have hhi : u / 18446744073709551616 < y := (Nat.div_lt_iff_lt_mul (by decide)).2 hu
  have hlo : u % 18446744073709551616 < 18446744073709551616 := Nat.mod_lt _ (by decide)
  have hyz : ((y : Int) == 0) = false := by simp; omega
  have hyn : ¬ ((y : Int) = 0) := by omega
  by_cases h0 : u / 18446744073709551616 = 0
  · have hu' : u % 18446744073709551616 = u := Nat.mod_eq_of_lt (by omega)
    have hq : IntKind.u64.wrap ((u : Int) / (y : Int)) = ((u / y : Nat) : Int) := w64_of (by simp) (Nat.lt_of_le_of_lt (Nat.div_le_self _ _) (by omega))
    have hq1 : (u : Int) / (y : Int) = ((u / y : Nat) : Int) := by simp
    have HQW := Lib.hid (w64_of (a := ((u / y : Nat) : Int)) rfl (Nat.lt_of_le_of_lt (Nat.div_le_self _ _) (by omega)))
    have hq2 : (u : Int) % (y : Int) = ((u % y : Nat) : Int) := by simp
    have HQ2 := Lib.hid hq2
    have hyp : (0 : Int) < (y : Int) := by omega
    rw [h0, hu']
    generalize u / y = a at *
    generalize u % y = b at *
    clear hhi hlo hu h0 hu'
    go_enter Try.func19, Try.ntmps19
    go_wp2_with (fail)
    go_quiet (fail)
    go_wp2_with (fail)
    go_ret2
    exact ⟨by rw [HQ2.out, HQW.out]; rfl, bdrewN (Below.refl _ _) _⟩
  · have hLl := bitLenAux_lt 64 y (by omega)
    have hLk := bitLenAux_le 64 y 32 (by rw [e32]; exact hy2)
    have hLp : 0 < Lib.bitLenAux 64 y := bitLenAux_pos 63 y hy
    obtain ⟨s, hs⟩ : ∃ s : Nat, 64 - Lib.bitLen y = s := ⟨_, rfl⟩
    unfold Lib.bitLen at hs
    have hs1 : 32 ≤ s := by omega
    have hs2 : s ≤ 63 := by omega
    have hys : y * 2 ^ s < 2 ^ 64 := by
      have h1 : y * 2 ^ s < 2 ^ Lib.bitLenAux 64 y * 2 ^ s := Nat.mul_lt_mul_of_pos_right hLl (Nat.pow_pos (by decide))
      rw [← Nat.pow_add, show Lib.bitLenAux 64 y + s = 64 by omega] at h1
      exact h1
    obtain ⟨un32, un1, un0, yn1, q1, un21, q0, hd⟩ : ∃ un32 un1 un0 yn1 q1 un21 q0, DivSteps u y s un32 un1 un0 yn1 q1 un21 q0 := ⟨_, _, _, _, _, _, _, ⟨rfl, rfl, rfl, rfl, rfl, rfl, rfl⟩⟩
    obtain ⟨y0, y1, eY, b32, bh, bl, bq1, b21, b1, bq0, eQ, eR, bR, d1, d0⟩ := div_steps hd hy hs1 hs2 hys (by rw [e64]; exact hu)
    obtain ⟨e1, e2, e3, e4, e5, e6, e7⟩ := hd
    simp only [e32, e64] at y1 eY b32 bh bl bq1 b21 b1 bq0 eQ eR bR e1 e2 e3 e4 e6 hys
    have hHZ : Hid (∀ w, Calls Try.prog 26 #[.int .u64 y] w fun e w' => e = .returned (.int .i64 (s : Int)) ∧ w' = w) := Lib.hid fun w => (hlz y w (by omega)).mono fun e w' ⟨h1, h2⟩ => ⟨by rw [h1]; congr 2; unfold Lib.bitLen; omega, h2⟩
    have hb0 : ¬ ((u / 18446744073709551616 : Nat) : Int) = 0 := by omega
    have hb0' : (((u / 18446744073709551616 : Nat) : Int) == 0) = false := by simp only [beq_eq_false_iff_ne, ne_eq]; exact hb0
    have hle : ((u / 18446744073709551616 : Nat) : Int) < (y : Int) := by omega
    generalize u / 18446744073709551616 = hi at *
    generalize u % 18446744073709551616 = lo at *
    generalize u / y = qq at *
    generalize u % y = rr at *
    clear hLl hLk hLp hs hlz hu hhi h0
    have pS : 0 < (2 : Nat) ^ s := Nat.pow_pos (by decide)
    have pR : 0 < (2 : Nat) ^ (64 - s) := Nat.pow_pos (by decide)
    obtain ⟨Y, hY⟩ : ∃ Y, y * 2 ^ s = Y := ⟨_, rfl⟩
    rw [hY] at hys eY e1
    obtain ⟨un10, hun10⟩ : ∃ v, lo * 2 ^ s % 18446744073709551616 = v := ⟨_, rfl⟩
    rw [hun10] at e3 e4
    have b10 : un10 < 18446744073709551616 := by rw [← hun10]; exact Nat.mod_lt _ (by decide)
    obtain ⟨hh, hhh⟩ : ∃ v, hi * 2 ^ s = v := ⟨_, rfl⟩
    obtain ⟨lh, hlh⟩ : ∃ v, lo / 2 ^ (64 - s) = v := ⟨_, rfl⟩
    rw [hhh] at bh e2
    rw [hlh] at bl e2
    -- the values, as the walk spells them
    have f1 : IntKind.u64.wrap (s : Int) = s := w64_nat (by omega)
    have f2 : IntKind.u64.wrap ((y : Int) * 2 ^ s) = Y := w64_of (by rw [← hY]; simp) hys
    have f3 : (Y : Int) / 4294967296 = yn1 := by rw [e1]; simp
    have f4 : bits .and .u64 (Y : Int) 4294967295 = 0 := by
      have := bits_mask .u64 64 (by decide) (fun n h0 h1 => IntWalk.u64_in n ⟨h0, by omega⟩) 32 (by decide) (Y : Int) (by omega) (by omega)
      rw [show (2 : Int) ^ 32 - 1 = 4294967295 by decide] at this
      rw [this, show (2 : Int) ^ 32 = 4294967296 by decide]
      omega
    have f5 : IntKind.u64.wrap ((hi : Int) * 2 ^ s) = hh := w64_of (by rw [← hhh]; simp) bh
    obtain ⟨k64, hk64⟩ : ∃ k, 64 - s = k := ⟨_, rfl⟩
    have f6 : IntKind.u64.wrap (64 - (s : Int)) = (k64 : Int) := w64_of (by omega) (by omega)
    have f7 : (lo : Int) / 2 ^ k64 = lh := by rw [← hlh, hk64]; simp
    have i4 : (k64 : Int) ≤ 64 := by omega
    have f8 : bits .or .u64 (hh : Int) (lh : Int) = un32 := by
      rw [bits_join .u64 64 (by decide) (fun n h0 h1 => IntWalk.u64_in n ⟨h0, by omega⟩) s (hh : Int) (lh : Int) (by omega) (by rw [← hhh]; simp) (by omega) (by omega) (by exact_mod_cast bl) (by have : (2 : Nat) ^ s ≤ 2 ^ 63 := Nat.pow_le_pow_right (by decide) hs2; omega)]
      omega
    have f9 : IntKind.u64.wrap ((lo : Int) * 2 ^ s) = un10 := by
      rw [w64, ← hun10]
      simp
    have f10 : (un10 : Int) / 4294967296 = un1 := by rw [e3]; simp
    have f11 : bits .and .u64 (un10 : Int) 4294967295 = un0 := by
      have := bits_mask .u64 64 (by decide) (fun n h0 h1 => IntWalk.u64_in n ⟨h0, by omega⟩) 32 (by decide) (un10 : Int) (by omega) (by omega)
      rw [show (2 : Int) ^ 32 - 1 = 4294967295 by decide] at this
      rw [this, show (2 : Int) ^ 32 = 4294967296 by decide]
      omega
    have f12 : (un32 : Int) / (yn1 : Int) = q1 := by rw [e5]; simp
    have f12w : IntKind.u64.wrap (q1 : Int) = q1 := w64_nat (by omega)
    have f13 : (un21 : Int) / (yn1 : Int) = q0 := by rw [e7]; simp
    have f13w : IntKind.u64.wrap (q0 : Int) = q0 := w64_nat (by omega)
    have hyn1 : ¬ ((yn1 : Int) = 0) := by omega
    have hyn1b : ((yn1 : Int) == 0) = false := by simp; omega
    obtain ⟨g1, hg1⟩ : ∃ g : Int, IntKind.u64.wrap ((q1 : Int) * (yn1 : Int)) = g := ⟨_, rfl⟩
    obtain ⟨g2, hg2⟩ : ∃ g : Int, IntKind.u64.wrap ((un32 : Int) - g1) = g := ⟨_, rfl⟩
    obtain ⟨g3, hg3⟩ : ∃ g : Int, IntKind.u64.wrap (4294967296 * g2) = g := ⟨_, rfl⟩
    obtain ⟨g4, hg4⟩ : ∃ g : Int, IntKind.u64.wrap (g3 + (un1 : Int)) = g := ⟨_, rfl⟩
    obtain ⟨g5, hg5⟩ : ∃ g : Int, IntKind.u64.wrap ((un32 : Int) * 4294967296) = g := ⟨_, rfl⟩
    obtain ⟨g6, hg6⟩ : ∃ g : Int, IntKind.u64.wrap (g5 + (un1 : Int)) = g := ⟨_, rfl⟩
    obtain ⟨g7, hg7⟩ : ∃ g : Int, IntKind.u64.wrap ((q1 : Int) * (Y : Int)) = g := ⟨_, rfl⟩
    have hg8 : IntKind.u64.wrap (g6 - g7) = un21 := by
      rw [← hg6, ← hg5, ← hg7]
      exact w64_chain (cast_eq (steps_eq d1 e6 eY)) b21
    obtain ⟨g9, hg9⟩ : ∃ g : Int, IntKind.u64.wrap ((q0 : Int) * (yn1 : Int)) = g := ⟨_, rfl⟩
    obtain ⟨g10, hg10⟩ : ∃ g : Int, IntKind.u64.wrap ((un21 : Int) - g9) = g := ⟨_, rfl⟩
    obtain ⟨g11, hg11⟩ : ∃ g : Int, IntKind.u64.wrap (4294967296 * g10) = g := ⟨_, rfl⟩
    obtain ⟨g12, hg12⟩ : ∃ g : Int, IntKind.u64.wrap (g11 + (un0 : Int)) = g := ⟨_, rfl⟩
    have c4 : (0 : Int) ≤ g4 := by rw [← hg4]; exact wrap_nonneg _
    have c12 : (0 : Int) ≤ g12 := by rw [← hg12]; exact wrap_nonneg _
    have hq1l : (q1 : Int) < 4294967296 := by omega
    have hq0l : (q0 : Int) < 4294967296 := by omega
    obtain ⟨g13, hg13⟩ : ∃ g, q1 * 4294967296 = g := ⟨_, rfl⟩
    have h13 : IntKind.u64.wrap ((q1 : Int) * 4294967296) = (g13 : Int) := w64_of (by rw [← hg13]; exact cast_mul q1) (by rw [← hg13]; exact big_mul bq1)
    have h14 : IntKind.u64.wrap ((g13 : Int) + (q0 : Int)) = (qq : Int) := w64_of (by rw [← eQ, ← hg13]; exact cast_mul_add q1 q0) (by rw [← eQ]; exact big_add bq1 bq0)
    obtain ⟨g15, hg15⟩ : ∃ g : Int, IntKind.u64.wrap ((un21 : Int) * 4294967296) = g := ⟨_, rfl⟩
    obtain ⟨g16, hg16⟩ : ∃ g : Int, IntKind.u64.wrap (g15 + (un0 : Int)) = g := ⟨_, rfl⟩
    obtain ⟨g17, hg17⟩ : ∃ g : Int, IntKind.u64.wrap ((q0 : Int) * (Y : Int)) = g := ⟨_, rfl⟩
    obtain ⟨R, hR⟩ : ∃ R, un21 % yn1 * 4294967296 + un0 = R := ⟨_, rfl⟩
    rw [hR] at eR bR
    have h18 : IntKind.u64.wrap (g16 - g17) = (R : Int) := by
      rw [← hg16, ← hg15, ← hg17]
      exact w64_chain (cast_eq (steps_eq d0 hR.symm eY)) bR
    have h19 : (R : Int) / 2 ^ s = (rr : Int) := by rw [← eR]; simp
    have i1 : (0 : Int) ≤ (s : Int) := Int.natCast_nonneg _
    have i2 : (s : Int) ≤ 64 := by omega
    have i3 : (0 : Int) ≤ (k64 : Int) := Int.natCast_nonneg _
    clear hg13 hk64 e64 e32 e1 e2 e3 e4 e5 e6 e7 d1 d0 eQ eR hun10 hhh hlh hY hR eY pS pR b10 bh bl b32 bq1 b21 b1 bq0 bR
    generalize (q1 : Int) = z1 at *
    generalize (q0 : Int) = z0 at *
    clear hlo hy2 hys y1
    go_enter Try.func19, Try.ntmps19
    go_wp2_with ((with_reducible refine (hHZ.out _).mono ?_); rintro _ w9 ⟨rfl, hw9⟩; obtain rfl := hw9.symm)
    go_loopw [15, 16] (fun q rh wr => q = .int .u64 z1 ∧ rh = .int .u64 g2 ∧ wr = w) (fun _ _ _ => 0)
    case atStart => exact ⟨rfl, rfl, rfl⟩
    case round =>
      obtain ⟨rfl, rfl, rfl⟩ := hrel
      go_wp2_with (fail)
      go_loopw [16, 18] (fun rh q wr' => q = .int .u64 z0 ∧ rh = .int .u64 g10 ∧ wr' = wr) (fun _ _ _ => 0)
      case atStart => exact ⟨rfl, rfl, rfl⟩
      case round =>
        obtain ⟨rfl, rfl, rfl⟩ := hrel
        go_wp2_with (fail)
        go_ret2
        exact ⟨rfl, Below.refl _ _⟩
end Go.Proofs.Ytcgakhajmekjcaa
