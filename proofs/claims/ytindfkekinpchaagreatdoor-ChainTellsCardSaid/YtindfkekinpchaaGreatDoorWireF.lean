/- wire: the reference's Int, Num, Text, Back, walked. -/
import Derived.Test.YtindfkekinpchaaGreatDoorWireD
namespace Go.Proofs.YtindfkekinpchaaGreatDoor
open Go.RowKit Go.Sort Go.Lib

set_option maxHeartbeats 2000000 in
theorem RInt_any (w : World) (n : Int) (h0 : -9223372036854775808 ≤ n) (h1 : n ≤ 9223372036854775807) (s : List UInt8) (hs : encI n = s) :
    Calls Tryz.prog 52 #[.int .i64 n] w fun e w' => e = .returned (.string ⟨s.toArray⟩) ∧ Below w.heap.size w w' := by
  subst hs
  by_cases hn : n < 0
  · obtain ⟨l, hl⟩ : ∃ l, Lib.decDigits n.natAbs = l := ⟨_, rfl⟩
    have HC := Lib.hid (digits_any n.natAbs w (by omega) n (by omega) l hl)
    have hlen := dec_len (k := n.natAbs) (by omega)
    rw [hl] at hlen
    have he : encI n = [45] ++ l ++ [59] := by unfold encI Lib.itoa; rw [if_pos hn, hl]; simp
    rw [he]
    have z1 : (⟨l.toArray⟩ : ByteArray).size = l.length := by simp [ByteArray.size]
    have z2 : (⟨#[45]⟩ : ByteArray) ++ (⟨l.toArray⟩ : ByteArray) = ⟨([45] ++ l).toArray⟩ := str_app [45] l
    have z3 : (⟨([45] ++ l).toArray⟩ : ByteArray).size = 1 + l.length := by simp [ByteArray.size]; omega
    have z4 : (⟨([45] ++ l).toArray⟩ : ByteArray) ++ (⟨#[59]⟩ : ByteArray) = ⟨([45] ++ l ++ [59]).toArray⟩ := str_app ([45] ++ l) [59]
    generalize [45] ++ l ++ [59] = r2 at *
    generalize [45] ++ l = r1 at *
    have b1 : 1 + l.length ≤ 9223372036854775807 := by omega
    have b2 : 1 + l.length + 1 ≤ 9223372036854775807 := by omega
    clear he hl h0 h1
    go_enter Tryz.func52, Tryz.ntmps52
    go_wp2_with ((with_reducible refine (HC.out).mono ?_); rintro _ w1 ⟨rfl, hb1⟩; have HB1 := Lib.hid hb1; clear hb1)
    go_ret
    exact ⟨rfl, HB1.out⟩
  · obtain ⟨l, hl⟩ : ∃ l, Lib.decDigits n.toNat = l := ⟨_, rfl⟩
    obtain ⟨m, hm⟩ : ∃ m : Int, -n = m := ⟨_, rfl⟩
    have HC := Lib.hid (digits_any n.toNat w (by omega) m (by omega) l hl)
    have hlen := dec_len (k := n.toNat) (by omega)
    rw [hl] at hlen
    have he : encI n = l ++ [59] := by unfold encI Lib.itoa; rw [if_neg hn, hl]
    rw [he]
    have z1 : (⟨l.toArray⟩ : ByteArray).size = l.length := by simp [ByteArray.size]
    have z4 : (⟨l.toArray⟩ : ByteArray) ++ (⟨#[59]⟩ : ByteArray) = ⟨(l ++ [59]).toArray⟩ := str_app l [59]
    generalize l ++ [59] = r2 at *
    have b1 : l.length + 1 ≤ 9223372036854775807 := by omega
    have hn' : 0 ≤ n := by omega
    have hw : IntKind.i64.wrap (-n) = m := by rw [hm]; exact IntWalk.i64_in _ (by omega)
    clear he hl h0 hn
    go_enter Tryz.func52, Tryz.ntmps52
    go_wp2_with ((with_reducible refine (HC.out).mono ?_); rintro _ w1 ⟨rfl, hb1⟩; have HB1 := Lib.hid hb1; clear hb1)
    go_ret
    exact ⟨rfl, HB1.out⟩
set_option maxHeartbeats 1000000 in
theorem RNum_any (w : World) (n : Int) (h0 : -9223372036854775808 ≤ n) (h1 : n ≤ 9223372036854775807) (s : List UInt8) (hs : encN n = s) :
    Calls Tryz.prog 30 #[.int .i64 n] w fun e w' => e = .returned (.string ⟨s.toArray⟩) ∧ Below w.heap.size w w' := by
  unfold encN at hs
  by_cases hn : n < 0
  · rw [if_pos hn] at hs
    subst hs
    clear h0 h1
    go_enter Tryz.func30, Tryz.ntmps30
    go_wp2_with (fail)
    go_ret
    exact ⟨rfl, Below.refl _ _⟩
  · rw [if_neg hn] at hs
    have HC := Lib.hid (RInt_any w n h0 h1 s hs)
    have hn' : 0 ≤ n := by omega
    clear hs h0 h1 hn
    go_enter Tryz.func30, Tryz.ntmps30
    go_wp2_with ((with_reducible refine (HC.out).mono ?_); rintro _ w1 ⟨rfl, hb1⟩; have HB1 := Lib.hid hb1; clear hb1)
    go_ret
    exact ⟨rfl, HB1.out⟩
/-- digits of a length -/
theorem dlen_any (w : World) (k : Nat) (hk : k ≤ 9223372036854775807) (m : Int) (hm : -(k : Int) = m) (l : List UInt8) (hl : Lib.itoa (k : Int) = l) :
    Calls Tryz.prog 53 #[.int .i64 m] w fun e w' => e = .returned (.string ⟨l.toArray⟩) ∧ Below w.heap.size w w' :=
  digits_any k w (by omega) m hm l (by rw [← hl]; unfold Lib.itoa; rw [if_neg (by omega)]; simp)
set_option maxHeartbeats 1000000 in
theorem RText_any (w : World) (s : List UInt8) (h1 : s.length ≤ 140737488351232) (r : List UInt8) (hr : encT s = r) :
    Calls Tryz.prog 32 #[.string ⟨s.toArray⟩] w fun e w' => e = .returned (.string ⟨r.toArray⟩) ∧ Below w.heap.size w w' := by
  obtain ⟨m, hm⟩ : ∃ m : Int, -(s.length : Int) = m := ⟨_, rfl⟩
  have HC := Lib.hid (dlen_any w s.length (by omega) m hm _ rfl)
  have hl : (Lib.itoa (s.length : Int)).length ≤ 20 := itoa_length (by omega) (by omega)
  have e4 : Lib.itoa (s.length : Int) ++ [58] ++ s ++ [44] = r := by rw [← hr]; unfold encT; simp
  have hsz : (⟨s.toArray⟩ : ByteArray).size = s.length := by simp [ByteArray.size]
  generalize Lib.itoa (s.length : Int) = l at *
  have z1 : (⟨l.toArray⟩ : ByteArray).size = l.length := by simp [ByteArray.size]
  have z2 : (⟨l.toArray⟩ : ByteArray) ++ (⟨#[58]⟩ : ByteArray) = ⟨(l ++ [58]).toArray⟩ := str_app l [58]
  have z3 : (⟨(l ++ [58]).toArray⟩ : ByteArray).size = l.length + 1 := by simp [ByteArray.size]
  have z4 : (⟨(l ++ [58]).toArray⟩ : ByteArray) ++ (⟨s.toArray⟩ : ByteArray) = ⟨(l ++ [58] ++ s).toArray⟩ := str_app (l ++ [58]) s
  have z5 : (⟨(l ++ [58] ++ s).toArray⟩ : ByteArray).size = l.length + 1 + s.length := by simp [ByteArray.size]; omega
  have z6 : (⟨(l ++ [58] ++ s).toArray⟩ : ByteArray) ++ (⟨#[44]⟩ : ByteArray) = ⟨(l ++ [58] ++ s ++ [44]).toArray⟩ := str_app (l ++ [58] ++ s) [44]
  rw [e4] at z6
  generalize l ++ [58] ++ s = r2 at *
  generalize l ++ [58] = r1 at *
  have b1 : l.length + 1 ≤ 9223372036854775807 := by omega
  have b2 : l.length + 1 + s.length ≤ 9223372036854775807 := by omega
  have b3 : l.length + 1 + s.length + 1 ≤ 9223372036854775807 := by omega
  have hw : IntKind.i64.wrap (-(s.length : Int)) = m := by rw [hm]; exact IntWalk.i64_in _ (by omega)
  clear hr e4 hm
  go_enter Tryz.func32, Tryz.ntmps32
  go_wp2_with ((with_reducible refine (HC.out).mono ?_); rintro _ w1 ⟨rfl, hb1⟩; have HB1 := Lib.hid hb1; clear hb1)
  go_ret
  exact ⟨rfl, HB1.out⟩
end Go.Proofs.YtindfkekinpchaaGreatDoor
