/- wire: the reference's Nums (encoding), walked (written by wip/gen_wirew.py). -/
import Derived.Test.YtindfkekinpchaaGreatDoorWireV
import Derived.Test.YtindfkekinpchaaGreatDoorWireF
namespace Go.Proofs.YtindfkekinpchaaGreatDoor
open Go.RowKit Go.Sort Go.Lib

set_option maxRecDepth 100000 in
set_option maxHeartbeats 4000000 in
theorem RNums_any (w : World) (A : Option Addr) (n c : Nat) (l : List (Int)) (hs : Sl w 1 A n (l.map intC)) (hok : ∀ x ∈ l, -9223372036854775808 ≤ x ∧ x ≤ 9223372036854775807) (hn : n ≤ 1099511627776) (hfl : (l.map encI).flatten.length ≤ 70368744177664) (r : List UInt8) (hr : encIs l = r) :
    Calls Tryz.prog 31 #[.slice A n c] w fun e w' => e = .returned (.string ⟨r.toArray⟩) ∧ Below w.heap.size w w' := by
  have hl : l.length = n := by have := hs.len; simpa using this
  obtain ⟨m, hm⟩ : ∃ m : Int, -(n : Int) = m := ⟨_, rfl⟩
  have hil : (Lib.itoa (n : Int)).length ≤ 20 := itoa_length (by omega) (by omega)
  obtain ⟨p, hp⟩ : ∃ p, Lib.itoa (n : Int) = p := ⟨_, rfl⟩
  have HI := Lib.hid (dlen_any w n (by omega) m hm p hp)
  have hw : IntKind.i64.wrap (-(n : Int)) = m := by rw [hm]; exact IntWalk.i64_in _ (by omega)
  rw [hp] at hil
  have z1 : (⟨p.toArray⟩ : ByteArray).size = p.length := str_size p
  have z2 : (⟨p.toArray⟩ : ByteArray) ++ (⟨#[91]⟩ : ByteArray) = ⟨(p ++ [91]).toArray⟩ := str_app p [91]
  have b1 : p.length + 1 ≤ 9223372036854775807 := by omega
  obtain ⟨pre, hpre⟩ : ∃ pre, p ++ [91] = pre := ⟨_, rfl⟩
  have hpl : pre.length ≤ 21 := by rw [← hpre]; simp; omega
  rw [hpre] at z2
  have hr2 : pre ++ (l.map encI).flatten ++ [93] = r := by rw [← hr, ← hpre]; unfold encIs; rw [hl, hp]; simp
  have HR := Lib.hid hr2
  have HPL := Lib.hid hpl
  have HFL := Lib.hid hfl
  have HS := Lib.hid hs
  have HL := Lib.hid hl
  have HOK := Lib.hid hok
  clear hr hp hpre hr2 hpl hfl hs hl hok hm
  go_enter Tryz.func31, Tryz.ntmps31
  go_wp2_with ((with_reducible refine (HI.out).mono ?_); rintro _ w1 ⟨rfl, hb1⟩; have HB1 := Lib.hid hb1; clear hb1)
  clear z1 z2 b1 hw
  go_loopw [3, 4] (fun sv iv wr => ∃ k : Nat, k ≤ n ∧ iv = .int .i64 (k : Int) ∧ sv = .string ⟨(pre ++ ((l.take k).map encI).flatten).toArray⟩ ∧ Below w.heap.size w wr) (fun _ i _ => n - (Go.RowKit.intOf i).toNat)
  case atStart => exact ⟨0, Nat.zero_le _, rfl, by simp, HB1.out⟩
  case round =>
    obtain ⟨k, hk, rfl, rfl, hb⟩ := hrel
    obtain ⟨wo, rfl⟩ : ∃ wo : World, wo = wr := ⟨_, rfl⟩
    have HB := Lib.hid hb
    clear hb HB1
    by_cases hlt : k < n
    · obtain ⟨x, hx⟩ : ∃ x, l[k]? = some x := ⟨_, List.getElem?_eq_getElem (by rw [HL.out]; exact hlt)⟩
      obtain ⟨b, o, rfl, hbl, c0⟩ := (HS.out.below HB.out).at1 (k := k) (v := .int .i64 x) (by rw [List.getElem?_map, hx]; rfl)
      have hox := HOK.out x (List.mem_of_getElem? hx)
      have HC := Lib.hid (RInt_any wo x hox.1 hox.2 (encI x) rfl)
      have hfx := flat_part encI hx
      have hfn := HFL.out
      have hpn := HPL.out
      obtain ⟨s, hsq⟩ : ∃ s, pre ++ ((l.take k).map encI).flatten = s := ⟨_, rfl⟩
      have HNX : Hid (s ++ encI x = pre ++ ((l.take (k + 1)).map encI).flatten) := Lib.hid (by rw [← hsq, take_succ' hx]; simp)
      have b2 : s.length + (encI x).length ≤ 9223372036854775807 := by rw [← hsq, List.length_append]; omega
      have hki : (k : Int) < (n : Int) := by omega
      have hk0 : (0 : Int) ≤ (k : Int) := by omega
      have HLT := Lib.hid hlt
      obtain ⟨q, hq⟩ : ∃ q, encI x = q := ⟨_, rfl⟩
      rw [hq] at HC HNX b2
      rw [hsq]
      have z3 : (⟨s.toArray⟩ : ByteArray).size = s.length := str_size s
      have z4 : (⟨q.toArray⟩ : ByteArray).size = q.length := str_size q
      have z5 := str_app s q
      clear hx hox hfx hfn hpn hlt hq hsq
      go_wp2_with ((with_reducible refine (HC.out).mono ?_); rintro _ w3 ⟨rfl, hb3⟩; have HB3 := Lib.hid (HB.out.trans (hb3.mono HB.out.size)); clear hb3)
      go_roundw
      case rel => exact ⟨k + 1, HLT.out, by go_num, by rw [HNX.out], HB3.out⟩
      case measure => have := HLT.out; simp [Go.RowKit.intOf]; omega
    · obtain rfl : k = n := by omega
      have hki : (k : Int) ≤ (k : Int) := Int.le_refl _
      rw [List.take_of_length_le (by rw [HL.out]; exact Nat.le_refl _)]
      have hfn := HFL.out
      have hpn := HPL.out
      obtain ⟨q, hq⟩ : ∃ q, pre ++ (l.map encI).flatten = q := ⟨_, rfl⟩
      have hql : q.length + 1 ≤ 9223372036854775807 := by rw [← hq, List.length_append]; omega
      have hrq := HR.out
      rw [hq] at hrq
      rw [hq]
      have z8 : (⟨q.toArray⟩ : ByteArray).size = q.length := str_size q
      have z9 : (⟨q.toArray⟩ : ByteArray) ++ (⟨#[93]⟩ : ByteArray) = ⟨r.toArray⟩ := by rw [← hrq]; exact str_app q [93]
      clear hlt hq hrq hfn hpn
      go_wp2_with (fail)
      go_ret
      exact ⟨rfl, HB.out⟩
end Go.Proofs.YtindfkekinpchaaGreatDoor
