/- Words for numbers: '&' with 1, 3, 7 at an int. -/
import Derived.Test.YtjncmlglhegnaaaGreatDoorBase4
import Derived.Laws.BitsLemmas
namespace Go.Proofs.YtjncmlglhegnaaaGreatDoor
open Go.RowKit
theorem and_mask (i : Nat) (hi : i ≤ 62) (x : Int) : bits .and .i64 x (((2 ^ i - 1 : Nat)) : Int) = x % ((2 ^ i : Nat) : Int) := by
  have hp : (2 : Nat) ^ i ≤ 2 ^ 62 := Nat.pow_le_pow_right (by omega) hi
  have hp0 : 0 < (2 : Nat) ^ i := Nat.two_pow_pos i
  have h62 : (2 : Nat) ^ 62 = 4611686018427387904 := by decide
  have h64 : (2 : Nat) ^ 64 = 18446744073709551616 := by decide
  have h1 : (BitVec.ofInt 64 (((2 ^ i - 1 : Nat)) : Int)).toNat = 2 ^ i - 1 := by
    rw [BitVec.toNat_ofInt]
    omega
  have h2 : (BitVec.ofInt 64 x).toNat = (x % 18446744073709551616).toNat := by
    rw [BitVec.toNat_ofInt]
    congr 1
  have hdvd : ((2 ^ i : Nat) : Int) ∣ 18446744073709551616 := by
    have : (2 : Nat) ^ i ∣ 2 ^ 64 := Nat.pow_dvd_pow 2 (by omega)
    rw [h64] at this
    exact Int.natCast_dvd_natCast.2 this
  have h3 : ((x % 18446744073709551616).toNat % 2 ^ i : Nat) = (x % ((2 ^ i : Nat) : Int)).toNat := by
    have e1 : (((x % 18446744073709551616).toNat % 2 ^ i : Nat) : Int) = x % ((2 ^ i : Nat) : Int) := by
      rw [Int.natCast_emod, Int.toNat_of_nonneg (by omega)]
      exact Int.emod_emod_of_dvd x hdvd
    omega
  show IntKind.i64.wrap (((BitVec.ofInt 64 x &&& BitVec.ofInt 64 (((2 ^ i - 1 : Nat)) : Int)).toNat : Nat) : Int) = _
  rw [BitVec.toNat_and, h1, h2, Nat.and_two_pow_sub_one_eq_mod, h3]
  have h4 : 0 ≤ x % ((2 ^ i : Nat) : Int) := Int.emod_nonneg _ (by omega)
  have h5 : x % ((2 ^ i : Nat) : Int) < ((2 ^ i : Nat) : Int) := Int.emod_lt_of_pos _ (by omega)
  rw [Int.toNat_of_nonneg h4, IntKind.wrap_i64]
  omega
theorem and1 (x : Int) : bits .and .i64 x 1 = x % 2 := by simpa using and_mask 1 (by omega) x
end Go.Proofs.YtjncmlglhegnaaaGreatDoor
