/- wire: Int, Num, walked. -/
import Derived.Test.YtnnnibkainlplaaGreatDoorWireQ
import Derived.Test.YtnnnibkainlplaaGreatDoorWireL
import Derived.Lib.AppendIntMem
namespace Go.Proofs.YtnnnibkainlplaaGreatDoor
open Go.RowKit Go.Sort Go.Lib

/-- the library's table of powers lies in the world -/
def Tab (w : World) : Prop := Lib.TabIs Tryz.prog w "internal/strconv.uint64pow10" .u64 Lib.pow10Tab
theorem itoa_any (w : World) (ht : Tab w) (n : Int) (h0 : -9223372036854775808 ≤ n) (h1 : n ≤ 9223372036854775807) :
    Calls Tryz.prog 78 #[.int .i64 n] w fun e w' => e = .returned (.string ⟨(Lib.itoa n).toArray⟩) ∧ Below w.heap.size w w' :=
  (strconv_Itoa n h0 h1 w ht).mono fun e w' ⟨he, k, os, hw⟩ => ⟨he, by rw [hw]; exact below_grow _ w (Nat.le_refl _) k os⟩
set_option maxRecDepth 100000 in
set_option maxHeartbeats 1000000 in
theorem Int_any (w : World) (ht : Tab w) (n : Int) (h0 : -9223372036854775808 ≤ n) (h1 : n ≤ 9223372036854775807) (s : List UInt8) (hs : encI n = s) :
    Calls Tryz.prog 76 #[.int .i64 n] w fun e w' => e = .returned (.string ⟨s.toArray⟩) ∧ Below w.heap.size w w' := by
  have HC := Lib.hid (itoa_any w ht n h0 h1)
  have hl : (Lib.itoa n).length ≤ 20 := itoa_length h0 h1
  have hsz : (⟨(Lib.itoa n).toArray⟩ : ByteArray).size = (Lib.itoa n).length := by simp [ByteArray.size]
  have hs' : (⟨(Lib.itoa n).toArray⟩ : ByteArray) ++ ⟨#[59]⟩ = ⟨s.toArray⟩ := by rw [← hs]; exact str_app (Lib.itoa n) [59]
  generalize Lib.itoa n = l at *
  clear hs ht h0 h1
  go_enter Tryz.func76, Tryz.ntmps76
  go_wp2_with ((with_reducible refine (HC.out).mono ?_); rintro _ w1 ⟨rfl, hb1⟩; have HB1 := Lib.hid hb1; clear hb1)
  go_ret
  exact ⟨by rw [← hs']; rfl, HB1.out⟩
set_option maxRecDepth 100000 in
set_option maxHeartbeats 1000000 in
theorem Num_any (w : World) (ht : Tab w) (n : Int) (h0 : -9223372036854775808 ≤ n) (h1 : n ≤ 9223372036854775807) (s : List UInt8) (hs : encN n = s) :
    Calls Tryz.prog 57 #[.int .i64 n] w fun e w' => e = .returned (.string ⟨s.toArray⟩) ∧ Below w.heap.size w w' := by
  unfold encN at hs
  by_cases hn : n < 0
  · rw [if_pos hn] at hs
    subst hs
    clear ht h0 h1
    go_enter Tryz.func57, Tryz.ntmps57
    go_wp2_with (fail)
    go_ret
    exact ⟨rfl, Below.refl _ _⟩
  · rw [if_neg hn] at hs
    have HC := Lib.hid (Int_any w ht n h0 h1 s hs)
    have hn' : 0 ≤ n := by omega
    clear hs ht h0 h1 hn
    go_enter Tryz.func57, Tryz.ntmps57
    go_wp2_with ((with_reducible refine (HC.out).mono ?_); rintro _ w1 ⟨rfl, hb1⟩; have HB1 := Lib.hid hb1; clear hb1)
    go_ret
    exact ⟨rfl, HB1.out⟩
set_option maxRecDepth 100000 in
set_option maxHeartbeats 1000000 in
theorem Text_any (w : World) (ht : Tab w) (s : List UInt8) (h1 : s.length ≤ 140737488351232) (r : List UInt8) (hr : encT s = r) :
    Calls Tryz.prog 59 #[.string ⟨s.toArray⟩] w fun e w' => e = .returned (.string ⟨r.toArray⟩) ∧ Below w.heap.size w w' := by
  have HC := Lib.hid (itoa_any w ht (s.length : Int) (by omega) (by omega))
  have hl : (Lib.itoa (s.length : Int)).length ≤ 20 := itoa_length (by omega) (by omega)
  have hs' : (((⟨(Lib.itoa (s.length : Int)).toArray⟩ : ByteArray) ++ ⟨#[58]⟩) ++ (⟨s.toArray⟩ : ByteArray)) ++ (⟨#[44]⟩ : ByteArray) = ⟨r.toArray⟩ := by
    rw [← hr]
    have e1 := str_app (Lib.itoa (s.length : Int)) [58]
    have e2 := str_app (Lib.itoa (s.length : Int) ++ [58]) s
    have e3 := str_app (Lib.itoa (s.length : Int) ++ [58] ++ s) [44]
    have e4 : Lib.itoa (s.length : Int) ++ [58] ++ s ++ [44] = encT s := by unfold encT; simp
    rw [← e4, ← e3, ← e2, ← e1]
  have hsz : (⟨s.toArray⟩ : ByteArray).size = s.length := by simp [ByteArray.size]
  generalize Lib.itoa (s.length : Int) = l at *
  have z1 : (⟨l.toArray⟩ : ByteArray).size = l.length := by simp [ByteArray.size]
  have z2 : ((⟨l.toArray⟩ : ByteArray) ++ ⟨#[58]⟩).size = l.length + 1 := by rw [show ((⟨l.toArray⟩ : ByteArray) ++ ⟨#[58]⟩) = ⟨(l ++ [58]).toArray⟩ from str_app l [58]]; simp [ByteArray.size]
  have z3 : (((⟨l.toArray⟩ : ByteArray) ++ ⟨#[58]⟩) ++ (⟨s.toArray⟩ : ByteArray)).size = l.length + 1 + s.length := by rw [show ((⟨l.toArray⟩ : ByteArray) ++ ⟨#[58]⟩) = ⟨(l ++ [58]).toArray⟩ from str_app l [58], str_app]; simp [ByteArray.size]; omega
  have b1 : l.length + 1 ≤ 9223372036854775807 := by omega
  have b2 : l.length + 1 + s.length ≤ 9223372036854775807 := by omega
  have b3 : l.length + 1 + s.length + 1 ≤ 9223372036854775807 := by omega
  clear hr ht
  go_enter Tryz.func59, Tryz.ntmps59
  go_wp2_with ((with_reducible refine (HC.out).mono ?_); rintro _ w1 ⟨rfl, hb1⟩; have HB1 := Lib.hid hb1; clear hb1)
  go_ret
  exact ⟨by rw [← hs']; rfl, HB1.out⟩
end Go.Proofs.YtnnnibkainlplaaGreatDoor
