/- wire: the reference's digits, Int, Num, Text, walked. -/
/- wire: the reference's Int, Num, Text, Back, walked. -/
/- wire: the reference's Nums (encoding), walked (written by wip/gen_wirew.py). -/
import Derived.Test.YtjncmlglhegnaaaGreatDoorWireS
import Derived.IntWalk
import Derived.Test.YtjncmlglhegnaaaGreatDoorWireV
namespace Go.Proofs.YtjncmlglhegnaaaGreatDoor
open Go.RowKit Go.Sort Go.Lib

theorem one_convert (w : World) (c : Nat) (hc : c < 256) :
    Sem.run Tryz.prog (convert 176 9 (.slice (some ⟨w.heap.size, 0, none⟩) 1 1)) (w.alloc (.cells #[.int .u8 (c : Int)] 5)) = .ok (.string ⟨#[UInt8.ofNat c]⟩) (w.alloc (.cells #[.int .u8 (c : Int)] 5)) := by
  have := run_convert_bytes_arg (P := Tryz.prog) (w.alloc (.cells #[.int .u8 (c : Int)] 5)) 176 5 Tryz.underlying176 Tryz.underlying5 w.heap.size 0 1 1 [(c : Int)] rfl (fun i hi => by
    match i, hi with
    | 0, _ => exact World.cell?_alloc_at _ _ _ _ rfl) 9 Tryz.underlying9
  rw [this]
  simp [strOfNums]
theorem dec_len {k : Nat} (h : k ≤ 9223372036854775808) : (Lib.decDigits k).length ≤ 19 := by
  rw [decDigits_length]
  exact nDigits_le 18 k (by omega)
set_option maxRecDepth 100000 in
set_option maxHeartbeats 2000000 in
theorem digits_any (k : Nat) : ∀ (w : World), k ≤ 9223372036854775808 → ∀ (n : Int), -(k : Int) = n → ∀ l, Lib.decDigits k = l →
    Calls Tryz.prog 150 #[.int .i64 n] w fun e w' => e = .returned (.string ⟨l.toArray⟩) ∧ Below w.heap.size w w' := by
  induction k using Nat.strongRecOn with
  | _ k ih =>
    intro w hk n hn l hl
    obtain ⟨d, hd⟩ : ∃ d, k % 10 = d := ⟨_, rfl⟩
    obtain ⟨q, hq⟩ : ∃ q, k / 10 = q := ⟨_, rfl⟩
    have hd10 : d < 10 := by omega
    have hm : (-(k : Int)).tmod 10 = -(d : Int) := by rw [Int.neg_tmod, Int.tmod_eq_emod_of_nonneg (by omega)]; omega
    have ht : (-(k : Int)).tdiv 10 = -(q : Int) := by rw [Int.neg_tdiv, Int.tdiv_eq_ediv_of_nonneg (by omega)]; omega
    have hcv := one_convert w (48 + d) (by omega)
    have h1 : -9223372036854775808 ≤ -(k : Int) := by omega
    have h2 : -(k : Int) ≤ 0 := by omega
    have hcw : ((48 + d : Nat) : Int) = 48 - (-(d : Int)) := by omega
    rw [hcw] at hcv
    rw [hn] at hm ht h1 h2
    obtain ⟨m, hme⟩ : ∃ m, -(d : Int) = m := ⟨_, rfl⟩
    have hm0 : -9 ≤ m := by omega
    have hm1 : m ≤ 0 := by omega
    obtain ⟨c, hch⟩ : ∃ c, UInt8.ofNat (48 + d) = c := ⟨_, rfl⟩
    rw [hme] at hm hcv
    rw [hch] at hcv
    by_cases hs : k < 10
    · have hn10 : -10 < n := by omega
      have he : l = [c] := by rw [← hl, ← hch, Lib.decDigits, dif_pos hs]; congr 2; omega
      subst he
      clear hn hd hq hcw ht hk hs hme ih hch hl
      go_enter Tryz.func150, Tryz.ntmps150
      go_wp2_with (fail)
      go_ret
      exact ⟨rfl, below_alloc w _⟩
    · have hn10 : n ≤ -10 := by omega
      obtain ⟨l0, hl0⟩ : ∃ l0, Lib.decDigits q = l0 := ⟨_, rfl⟩
      have he : l = l0 ++ [c] := by rw [← hl, ← hch, Lib.decDigits, dif_neg hs, hq, hl0, hd]
      subst he
      obtain ⟨p, hp⟩ : ∃ p : Int, -(q : Int) = p := ⟨_, rfl⟩
      rw [hp] at ht
      have HIH := Lib.hid (ih q (by omega) (w.alloc (.cells #[.int .u8 (48 - m)] 5)) (by omega) p hp l0 hl0)
      have hlen := dec_len (k := q) (by omega)
      rw [hl0] at hlen
      have z1 : (⟨l0.toArray⟩ : ByteArray).size = l0.length := by simp [ByteArray.size]
      have z2 : (⟨l0.toArray⟩ : ByteArray) ++ (⟨#[c]⟩ : ByteArray) = ⟨(l0 ++ [c]).toArray⟩ := str_app l0 [c]
      have hp0 : -922337203685477581 ≤ p := by omega
      have hp1 : p ≤ 0 := by omega
      have b1 : l0.length + 1 ≤ 9223372036854775807 := by omega
      have hdv : n / 10 = p ∨ True := .inr trivial
      clear hn hd hq hcw hk hs hme ih hch hl hl0 hp hdv
      go_enter Tryz.func150, Tryz.ntmps150
      go_wp2_with ((with_reducible refine (HIH.out).mono ?_); rintro _ w1 ⟨rfl, hb1⟩; have HB1 := Lib.hid (below_of_calls _ hb1); clear hb1)
      go_ret
      exact ⟨rfl, HB1.out⟩
end Go.Proofs.YtjncmlglhegnaaaGreatDoor
namespace Go.Proofs.YtjncmlglhegnaaaGreatDoor
open Go.RowKit Go.Sort Go.Lib

set_option maxRecDepth 100000 in
set_option maxHeartbeats 2000000 in
theorem RInt_any (w : World) (n : Int) (h0 : -9223372036854775808 ≤ n) (h1 : n ≤ 9223372036854775807) (s : List UInt8) (hs : encI n = s) :
    Calls Tryz.prog 102 #[.int .i64 n] w fun e w' => e = .returned (.string ⟨s.toArray⟩) ∧ Below w.heap.size w w' := by
  subst hs
  by_cases hn : n < 0
  · obtain ⟨l, hl⟩ : ∃ l, Lib.decDigits n.natAbs = l := ⟨_, rfl⟩
    have HC := Lib.hid (digits_any n.natAbs w (by omega) n (by omega) l hl)
    have hlen := dec_len (k := n.natAbs) (by omega)
    rw [hl] at hlen
    have he : encI n = [45] ++ l ++ [59] := by unfold encI Lib.itoa; rw [if_pos hn, hl]; simp
    rw [he]
    have z1 : (⟨l.toArray⟩ : ByteArray).size = l.length := by simp [ByteArray.size]
    have z2 : (⟨#[45]⟩ : ByteArray) ++ (⟨l.toArray⟩ : ByteArray) = ⟨([45] ++ l).toArray⟩ := str_app [45] l
    have z3 : (⟨([45] ++ l).toArray⟩ : ByteArray).size = 1 + l.length := by simp [ByteArray.size]; omega
    have z4 : (⟨([45] ++ l).toArray⟩ : ByteArray) ++ (⟨#[59]⟩ : ByteArray) = ⟨([45] ++ l ++ [59]).toArray⟩ := str_app ([45] ++ l) [59]
    generalize [45] ++ l ++ [59] = r2 at *
    generalize [45] ++ l = r1 at *
    have b1 : 1 + l.length ≤ 9223372036854775807 := by omega
    have b2 : 1 + l.length + 1 ≤ 9223372036854775807 := by omega
    clear he hl h0 h1
    go_enter Tryz.func102, Tryz.ntmps102
    go_wp2_with ((with_reducible refine (HC.out).mono ?_); rintro _ w1 ⟨rfl, hb1⟩; have HB1 := Lib.hid hb1; clear hb1)
    go_ret
    exact ⟨rfl, HB1.out⟩
  · obtain ⟨l, hl⟩ : ∃ l, Lib.decDigits n.toNat = l := ⟨_, rfl⟩
    obtain ⟨m, hm⟩ : ∃ m : Int, -n = m := ⟨_, rfl⟩
    have HC := Lib.hid (digits_any n.toNat w (by omega) m (by omega) l hl)
    have hlen := dec_len (k := n.toNat) (by omega)
    rw [hl] at hlen
    have he : encI n = l ++ [59] := by unfold encI Lib.itoa; rw [if_neg hn, hl]
    rw [he]
    have z1 : (⟨l.toArray⟩ : ByteArray).size = l.length := by simp [ByteArray.size]
    have z4 : (⟨l.toArray⟩ : ByteArray) ++ (⟨#[59]⟩ : ByteArray) = ⟨(l ++ [59]).toArray⟩ := str_app l [59]
    generalize l ++ [59] = r2 at *
    have b1 : l.length + 1 ≤ 9223372036854775807 := by omega
    have hn' : 0 ≤ n := by omega
    have hw : IntKind.i64.wrap (-n) = m := by rw [hm]; exact IntWalk.i64_in _ (by omega)
    clear he hl h0 hn
    go_enter Tryz.func102, Tryz.ntmps102
    go_wp2_with ((with_reducible refine (HC.out).mono ?_); rintro _ w1 ⟨rfl, hb1⟩; have HB1 := Lib.hid hb1; clear hb1)
    go_ret
    exact ⟨rfl, HB1.out⟩
set_option maxRecDepth 100000 in
set_option maxHeartbeats 1000000 in
theorem RNum_any (w : World) (n : Int) (h0 : -9223372036854775808 ≤ n) (h1 : n ≤ 9223372036854775807) (s : List UInt8) (hs : encN n = s) :
    Calls Tryz.prog 60 #[.int .i64 n] w fun e w' => e = .returned (.string ⟨s.toArray⟩) ∧ Below w.heap.size w w' := by
  unfold encN at hs
  by_cases hn : n < 0
  · rw [if_pos hn] at hs
    subst hs
    clear h0 h1
    go_enter Tryz.func60, Tryz.ntmps60
    go_wp2_with (fail)
    go_ret
    exact ⟨rfl, Below.refl _ _⟩
  · rw [if_neg hn] at hs
    have HC := Lib.hid (RInt_any w n h0 h1 s hs)
    have hn' : 0 ≤ n := by omega
    clear hs h0 h1 hn
    go_enter Tryz.func60, Tryz.ntmps60
    go_wp2_with ((with_reducible refine (HC.out).mono ?_); rintro _ w1 ⟨rfl, hb1⟩; have HB1 := Lib.hid hb1; clear hb1)
    go_ret
    exact ⟨rfl, HB1.out⟩
/-- digits of a length -/
theorem dlen_any (w : World) (k : Nat) (hk : k ≤ 9223372036854775807) (m : Int) (hm : -(k : Int) = m) (l : List UInt8) (hl : Lib.itoa (k : Int) = l) :
    Calls Tryz.prog 150 #[.int .i64 m] w fun e w' => e = .returned (.string ⟨l.toArray⟩) ∧ Below w.heap.size w w' :=
  digits_any k w (by omega) m hm l (by rw [← hl]; unfold Lib.itoa; rw [if_neg (by omega)]; simp)
set_option maxRecDepth 100000 in
set_option maxHeartbeats 1000000 in
theorem RText_any (w : World) (s : List UInt8) (h1 : s.length ≤ 140737488351232) (r : List UInt8) (hr : encT s = r) :
    Calls Tryz.prog 175 #[.string ⟨s.toArray⟩] w fun e w' => e = .returned (.string ⟨r.toArray⟩) ∧ Below w.heap.size w w' := by
  obtain ⟨m, hm⟩ : ∃ m : Int, -(s.length : Int) = m := ⟨_, rfl⟩
  have HC := Lib.hid (dlen_any w s.length (by omega) m hm _ rfl)
  have hl : (Lib.itoa (s.length : Int)).length ≤ 20 := itoa_length (by omega) (by omega)
  have e4 : Lib.itoa (s.length : Int) ++ [58] ++ s ++ [44] = r := by rw [← hr]; unfold encT; simp
  have hsz : (⟨s.toArray⟩ : ByteArray).size = s.length := by simp [ByteArray.size]
  generalize Lib.itoa (s.length : Int) = l at *
  have z1 : (⟨l.toArray⟩ : ByteArray).size = l.length := by simp [ByteArray.size]
  have z2 : (⟨l.toArray⟩ : ByteArray) ++ (⟨#[58]⟩ : ByteArray) = ⟨(l ++ [58]).toArray⟩ := str_app l [58]
  have z3 : (⟨(l ++ [58]).toArray⟩ : ByteArray).size = l.length + 1 := by simp [ByteArray.size]
  have z4 : (⟨(l ++ [58]).toArray⟩ : ByteArray) ++ (⟨s.toArray⟩ : ByteArray) = ⟨(l ++ [58] ++ s).toArray⟩ := str_app (l ++ [58]) s
  have z5 : (⟨(l ++ [58] ++ s).toArray⟩ : ByteArray).size = l.length + 1 + s.length := by simp [ByteArray.size]; omega
  have z6 : (⟨(l ++ [58] ++ s).toArray⟩ : ByteArray) ++ (⟨#[44]⟩ : ByteArray) = ⟨(l ++ [58] ++ s ++ [44]).toArray⟩ := str_app (l ++ [58] ++ s) [44]
  rw [e4] at z6
  generalize l ++ [58] ++ s = r2 at *
  generalize l ++ [58] = r1 at *
  have b1 : l.length + 1 ≤ 9223372036854775807 := by omega
  have b2 : l.length + 1 + s.length ≤ 9223372036854775807 := by omega
  have b3 : l.length + 1 + s.length + 1 ≤ 9223372036854775807 := by omega
  have hw : IntKind.i64.wrap (-(s.length : Int)) = m := by rw [hm]; exact IntWalk.i64_in _ (by omega)
  clear hr e4 hm
  go_enter Tryz.func175, Tryz.ntmps175
  go_wp2_with ((with_reducible refine (HC.out).mono ?_); rintro _ w1 ⟨rfl, hb1⟩; have HB1 := Lib.hid hb1; clear hb1)
  go_ret
  exact ⟨rfl, HB1.out⟩
end Go.Proofs.YtjncmlglhegnaaaGreatDoor
namespace Go.Proofs.YtjncmlglhegnaaaGreatDoor
open Go.RowKit Go.Sort Go.Lib

set_option maxRecDepth 100000 in
set_option maxHeartbeats 4000000 in
theorem RNums_any (w : World) (A : Option Addr) (n c : Nat) (l : List (Int)) (hs : Sl w 1 A n (l.map intC)) (hok : ∀ x ∈ l, -9223372036854775808 ≤ x ∧ x ≤ 9223372036854775807) (hn : n ≤ 1099511627776) (hfl : (l.map encI).flatten.length ≤ 70368744177664) (r : List UInt8) (hr : encIs l = r) :
    Calls Tryz.prog 174 #[.slice A n c] w fun e w' => e = .returned (.string ⟨r.toArray⟩) ∧ Below w.heap.size w w' := by
  have hl : l.length = n := by have := hs.len; simpa using this
  obtain ⟨m, hm⟩ : ∃ m : Int, -(n : Int) = m := ⟨_, rfl⟩
  have hil : (Lib.itoa (n : Int)).length ≤ 20 := itoa_length (by omega) (by omega)
  obtain ⟨p, hp⟩ : ∃ p, Lib.itoa (n : Int) = p := ⟨_, rfl⟩
  have HI := Lib.hid (dlen_any w n (by omega) m hm p hp)
  have hw : IntKind.i64.wrap (-(n : Int)) = m := by rw [hm]; exact IntWalk.i64_in _ (by omega)
  rw [hp] at hil
  have z1 : (⟨p.toArray⟩ : ByteArray).size = p.length := str_size p
  have z2 : (⟨p.toArray⟩ : ByteArray) ++ (⟨#[91]⟩ : ByteArray) = ⟨(p ++ [91]).toArray⟩ := str_app p [91]
  have b1 : p.length + 1 ≤ 9223372036854775807 := by omega
  obtain ⟨pre, hpre⟩ : ∃ pre, p ++ [91] = pre := ⟨_, rfl⟩
  have hpl : pre.length ≤ 21 := by rw [← hpre]; simp; omega
  rw [hpre] at z2
  have hr2 : pre ++ (l.map encI).flatten ++ [93] = r := by rw [← hr, ← hpre]; unfold encIs; rw [hl, hp]; simp
  have HR := Lib.hid hr2
  have HPL := Lib.hid hpl
  have HFL := Lib.hid hfl
  have HS := Lib.hid hs
  have HL := Lib.hid hl
  have HOK := Lib.hid hok
  clear hr hp hpre hr2 hpl hfl hs hl hok hm
  go_enter Tryz.func174, Tryz.ntmps174
  go_wp2_with ((with_reducible refine (HI.out).mono ?_); rintro _ w1 ⟨rfl, hb1⟩; have HB1 := Lib.hid hb1; clear hb1)
  clear z1 z2 b1 hw
  go_loopw [3, 4] (fun sv iv wr => ∃ k : Nat, k ≤ n ∧ iv = .int .i64 (k : Int) ∧ sv = .string ⟨(pre ++ ((l.take k).map encI).flatten).toArray⟩ ∧ Below w.heap.size w wr) (fun _ i _ => n - (Go.RowKit.intOf i).toNat)
  case atStart => exact ⟨0, Nat.zero_le _, rfl, by simp, HB1.out⟩
  case round =>
    obtain ⟨k, hk, rfl, rfl, hb⟩ := hrel
    obtain ⟨wo, rfl⟩ : ∃ wo : World, wo = wr := ⟨_, rfl⟩
    have HB := Lib.hid hb
    clear hb HB1
    by_cases hlt : k < n
    · obtain ⟨x, hx⟩ : ∃ x, l[k]? = some x := ⟨_, List.getElem?_eq_getElem (by rw [HL.out]; exact hlt)⟩
      obtain ⟨b, o, rfl, hbl, c0⟩ := (HS.out.below HB.out).at1 (k := k) (v := .int .i64 x) (by rw [List.getElem?_map, hx]; rfl)
      have hox := HOK.out x (List.mem_of_getElem? hx)
      have HC := Lib.hid (RInt_any wo x hox.1 hox.2 (encI x) rfl)
      have hfx := flat_part encI hx
      have hfn := HFL.out
      have hpn := HPL.out
      obtain ⟨s, hsq⟩ : ∃ s, pre ++ ((l.take k).map encI).flatten = s := ⟨_, rfl⟩
      have HNX : Hid (s ++ encI x = pre ++ ((l.take (k + 1)).map encI).flatten) := Lib.hid (by rw [← hsq, take_succ' hx]; simp)
      have b2 : s.length + (encI x).length ≤ 9223372036854775807 := by rw [← hsq, List.length_append]; omega
      have hki : (k : Int) < (n : Int) := by omega
      have hk0 : (0 : Int) ≤ (k : Int) := by omega
      have HLT := Lib.hid hlt
      obtain ⟨q, hq⟩ : ∃ q, encI x = q := ⟨_, rfl⟩
      rw [hq] at HC HNX b2
      rw [hsq]
      have z3 : (⟨s.toArray⟩ : ByteArray).size = s.length := str_size s
      have z4 : (⟨q.toArray⟩ : ByteArray).size = q.length := str_size q
      have z5 := str_app s q
      clear hx hox hfx hfn hpn hlt hq hsq
      go_wp2_with ((with_reducible refine (HC.out).mono ?_); rintro _ w3 ⟨rfl, hb3⟩; have HB3 := Lib.hid (HB.out.trans (hb3.mono HB.out.size)); clear hb3)
      go_roundw
      case rel => exact ⟨k + 1, HLT.out, by go_num, by rw [HNX.out], HB3.out⟩
      case measure => have := HLT.out; simp [Go.RowKit.intOf]; omega
    · obtain rfl : k = n := by omega
      have hki : (k : Int) ≤ (k : Int) := Int.le_refl _
      rw [List.take_of_length_le (by rw [HL.out]; exact Nat.le_refl _)]
      have hfn := HFL.out
      have hpn := HPL.out
      obtain ⟨q, hq⟩ : ∃ q, pre ++ (l.map encI).flatten = q := ⟨_, rfl⟩
      have hql : q.length + 1 ≤ 9223372036854775807 := by rw [← hq, List.length_append]; omega
      have hrq := HR.out
      rw [hq] at hrq
      rw [hq]
      have z8 : (⟨q.toArray⟩ : ByteArray).size = q.length := str_size q
      have z9 : (⟨q.toArray⟩ : ByteArray) ++ (⟨#[93]⟩ : ByteArray) = ⟨r.toArray⟩ := by rw [← hrq]; exact str_app q [93]
      clear hlt hq hrq hfn hpn
      go_wp2_with (fail)
      go_ret
      exact ⟨rfl, HB.out⟩
end Go.Proofs.YtjncmlglhegnaaaGreatDoor
