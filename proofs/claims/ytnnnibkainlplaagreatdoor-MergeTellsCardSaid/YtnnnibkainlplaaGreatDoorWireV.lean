/- wire: list at ints, Nums, walked (written by wip/gen_wirev.py). -/
import Derived.Test.YtnnnibkainlplaaGreatDoorWireU
namespace Go.Proofs.YtnnnibkainlplaaGreatDoor
open Go.RowKit Go.Sort Go.Lib

set_option maxRecDepth 100000 in
set_option maxHeartbeats 4000000 in
theorem list_int {B0 : Nat} (w : World) (hE : Env B0 w) (hB0 : B0 ≤ w.heap.size) (A : Option Addr) (n c : Nat) (l : List (Int)) (hs : Sl w 1 A n (l.map intC)) (hok : ∀ x ∈ l, -9223372036854775808 ≤ x ∧ x ≤ 9223372036854775807) (hn : n ≤ 1099511627776) (hfl : (l.map encI).flatten.length ≤ 70368744177664) (r : List UInt8) (hr : Lib.itoa (n : Int) ++ 91 :: ((l.map encI).flatten ++ [93]) = r) :
    Calls Tryz.prog 77 #[.slice A n c, .func (.func 76) #[] #[]] w fun e w' => e = .returned (.string ⟨r.toArray⟩) ∧ Below w.heap.size w w' := by
  have hl : l.length = n := by have := hs.len; simpa using this
  have HI := Lib.hid (itoa_any (w.alloc (.cells #[.pointer none, .slice none 0 0] 108)) (hE.below ((below_alloc w _).mono hB0)).isTab (n : Int) (by omega) (by omega))
  have hil : (Lib.itoa (n : Int)).length ≤ 20 := itoa_length (by omega) (by omega)
  obtain ⟨p, hp⟩ : ∃ p, Lib.itoa (n : Int) = p := ⟨_, rfl⟩
  rw [hp] at HI hil
  have z1 : (⟨p.toArray⟩ : ByteArray).size = p.length := str_size p
  have z2 : (⟨p.toArray⟩ : ByteArray) ++ (⟨#[91]⟩ : ByteArray) = ⟨(p ++ [91]).toArray⟩ := str_app p [91]
  have b1 : p.length + 1 ≤ 9223372036854775807 := by omega
  obtain ⟨pre, hpre⟩ : ∃ pre, p ++ [91] = pre := ⟨_, rfl⟩
  have hpl : pre.length ≤ 21 := by rw [← hpre]; simp; omega
  rw [hpre] at z2
  have hr2 : pre ++ (l.map encI).flatten ++ [93] = r := by rw [← hr, hp, ← hpre]; simp
  have HR := Lib.hid hr2
  have HPL := Lib.hid hpl
  have HFL := Lib.hid hfl
  have HS := Lib.hid hs
  have HL := Lib.hid hl
  have HE := Lib.hid hE
  have HOK := Lib.hid hok
  have HB0 := Lib.hid hB0
  have HN := Lib.hid hn
  have HF := Lib.hid (Bld.fresh w)
  have HZ := Lib.hid (below_alloc w (.cells #[.pointer none, .slice none 0 0] 108))
  clear hr hp hpre hr2 hpl hfl hs hl hE hok hB0
  go_enter Tryz.func77, Tryz.ntmps77
  go_wp2_with (first
    | ((with_reducible refine (HI.out).mono ?_); rintro _ w1 ⟨rfl, hb1⟩; have HW := Lib.hid (WriteString_any w.heap.size w.heap.size [] pre w1 (HF.out.below hb1) (by have := HPL.out; simp; omega) (Nat.le_trans HZ.out.size hb1.size)); have HB1 := Lib.hid (HZ.out.trans (hb1.mono HZ.out.size)); clear hb1)
    | ((with_reducible refine (HW.out).mono ?_); rintro _ w2 ⟨rfl, h2, hb2⟩; have H2 := Lib.hid h2; have HB2 := Lib.hid (HB1.out.trans hb2); clear h2 hb2))
  go_loopw [15] (fun iv wr => ∃ k : Nat, k ≤ n ∧ iv = .int .i64 (k : Int) ∧ Bld w.heap.size w.heap.size (pre ++ ((l.take k).map encI).flatten) wr ∧ Below w.heap.size w wr) (fun i _ => n - (Go.RowKit.intOf i).toNat)
  case atStart => exact ⟨0, Nat.zero_le _, rfl, by have h := H2.out; simp at h; simpa using h, HB2.out⟩
  case round =>
    obtain ⟨k, hk, rfl, hbd, hb⟩ := hrel
    obtain ⟨wo, rfl⟩ : ∃ wo : World, wo = wr := ⟨_, rfl⟩
    have HD := Lib.hid hbd
    have HB := Lib.hid hb
    clear hbd hb H2 HB2
    by_cases hlt : k < n
    · obtain ⟨x, hx⟩ : ∃ x, l[k]? = some x := ⟨_, List.getElem?_eq_getElem (by rw [HL.out]; exact hlt)⟩
      obtain ⟨b, o, rfl, hbl, c0⟩ := (HS.out.below HB.out).at1 (k := k) (v := .int .i64 x) (by rw [List.getElem?_map, hx]; rfl)
      have hox := HOK.out x (List.mem_of_getElem? hx)
      have HC := Lib.hid (Int_any wo (HE.out.below (HB.out.mono HB0.out)).isTab x hox.1 hox.2 (hs := rfl) (s := encI x))
      have hfx := flat_part encI hx
      have hfn := HFL.out
      have hpn := HPL.out
      have HLEN : Hid ((pre ++ ((l.take k).map encI).flatten).length + (encI x).length ≤ 140737488355328) := Lib.hid (by rw [List.length_append]; omega)
      have HNX : Hid ((pre ++ ((l.take k).map encI).flatten) ++ encI x = pre ++ ((l.take (k + 1)).map encI).flatten) := Lib.hid (by rw [take_succ' hx]; simp)
      have hki : (k : Int) < (n : Int) := by omega
      have hk0 : (0 : Int) ≤ (k : Int) := by omega
      have HLT := Lib.hid hlt
      obtain ⟨q, hq⟩ : ∃ q, encI x = q := ⟨_, rfl⟩
      rw [hq] at HC HLEN HNX
      clear hx hox hfx hfn hpn hlt hq
      go_wp2_with (first
        | ((with_reducible refine (HC.out).mono ?_); rintro _ w3 ⟨rfl, hb3⟩; have HW3 := Lib.hid (WriteString_any w.heap.size w.heap.size _ q w3 (HD.out.below hb3) HLEN.out (Nat.le_trans HB.out.size hb3.size)); have HB3 := Lib.hid (HB.out.trans (hb3.mono HB.out.size)); clear hb3)
        | ((with_reducible refine (HW3.out).mono ?_); rintro _ w4 ⟨rfl, h4, hb4⟩; have H4 := Lib.hid h4; have HB4 := Lib.hid (HB3.out.trans hb4); clear h4 hb4))
      go_roundw
      case rel => exact ⟨k + 1, HLT.out, by go_num, by have h := H4.out; rw [HNX.out] at h; exact h, HB4.out⟩
      case measure => have := HLT.out; simp [Go.RowKit.intOf]; omega
    · obtain rfl : k = n := by omega
      have hki : (k : Int) ≤ (k : Int) := Int.le_refl _
      have hD := HD.out
      rw [List.take_of_length_le (by rw [HL.out]; exact Nat.le_refl _)] at hD
      have HS8 := Lib.hid (Builder_String_any w.heap.size w.heap.size _ wo hD HB.out.size)
      have hfn := HFL.out
      have hpn := HPL.out
      obtain ⟨q, hq⟩ : ∃ q, pre ++ (l.map encI).flatten = q := ⟨_, rfl⟩
      have hql : q.length + 1 ≤ 9223372036854775807 := by rw [← hq, List.length_append]; omega
      have hrq := HR.out
      rw [hq] at HS8 hrq
      have z8 : (⟨q.toArray⟩ : ByteArray).size = q.length := str_size q
      have z9 : (⟨q.toArray⟩ : ByteArray) ++ (⟨#[93]⟩ : ByteArray) = ⟨r.toArray⟩ := by rw [← hrq]; exact str_app q [93]
      clear hlt hD hq hrq hfn hpn
      go_wp2_with ((with_reducible refine (HS8.out).mono ?_); rintro _ w5 ⟨rfl, hb5⟩; have HB5 := Lib.hid (HB.out.trans hb5); clear hb5)
      go_ret
      exact ⟨rfl, HB5.out⟩
set_option maxRecDepth 100000 in
set_option maxHeartbeats 1000000 in
theorem Nums_any {B0 : Nat} (w : World) (hE : Env B0 w) (hB0 : B0 ≤ w.heap.size) (A : Option Addr) (n c : Nat) (l : List (Int)) (hs : Sl w 1 A n (l.map intC)) (hok : ∀ x ∈ l, -9223372036854775808 ≤ x ∧ x ≤ 9223372036854775807) (hn : n ≤ 1099511627776) (hfl : (l.map encI).flatten.length ≤ 70368744177664) (r : List UInt8) (hr : encIs l = r) :
    Calls Tryz.prog 58 #[.slice A n c] w fun e w' => e = .returned (.string ⟨r.toArray⟩) ∧ Below w.heap.size w w' := by
  have hl : l.length = n := by have := hs.len; simpa using this
  have HC := Lib.hid (list_int w hE hB0 A n c l hs hok hn hfl r (by rw [← hr]; unfold encIs; rw [hl]))
  clear hE hB0 hs hok hn hfl hr hl
  go_enter Tryz.func58, Tryz.ntmps58
  go_wp2_with ((with_reducible refine (HC.out).mono ?_); rintro _ w1 ⟨rfl, hb1⟩; have HB1 := Lib.hid hb1; clear hb1)
  go_ret
  exact ⟨rfl, HB1.out⟩
end Go.Proofs.YtnnnibkainlplaaGreatDoor
