/- strings.Builder: copyCheck, WriteString, at this program (walked as the library's own contracts are). -/
/- wire: list at ints, Nums, walked (written by wip/gen_wirev.py). -/
import Derived.Test.YtjncmlglhegnaaaGreatDoorWireS
import Derived.Lib.MakeNoZero
import Derived.Laws.Externs
import Derived.Lib.AppendStr
namespace Go.Proofs.YtjncmlglhegnaaaGreatDoor
open Go.RowKit Go.Sort Go.Lib

theorem sizeBuilder : (Tryz.prog.info? 244).map (·.size) = some 2 := by kernel_rfl
theorem liesBuilder : liesAt Tryz.prog Tryz.prog.depth 244 (2 / Tryz.prog.cellsOf 244) 0 244 1 = true := by kernel_rfl
theorem infoByte : (Tryz.prog.info? 5).map (fun i => (i.zero, i.size, i.bytes)) = some (some (.int .u8 0), 1, 1) := by kernel_rfl
theorem neBuilder : (244 : TypeId) ≠ 5 := by decide
/-- a builder that the call has made itself -/
abbrev Bld (B b : Nat) (l : List UInt8) (w : World) : Prop := Lib.IsBuilder 244 5 B b (Lib.byteCells l) w
set_option maxRecDepth 100000 in
set_option maxHeartbeats 1000000 in
set_option maxRecDepth 100000 in
theorem copyCheck_used (b : Nat) (w : World) (h0 : w.cell? ⟨b, 0, none⟩ = some (.pointer (some ⟨b, 0, none⟩))) :
    Calls Tryz.prog 235 #[.pointer (some ⟨b, 0, none⟩)] w fun e w' => e = .returned (.tuple #[]) ∧ w' = w := by
  obtain ⟨j, hj, _⟩ := Option.map_eq_some_iff.1 sizeBuilder
  go_enter Tryz.func235, Tryz.ntmps235
  go_wp2
  rw [Lib.run_neq_ptr_same w _ Tryz.underlying242 hj]
  go_wp2
  go_end0
  exact ⟨rfl, rfl⟩
set_option maxRecDepth 100000 in
set_option maxHeartbeats 1000000 in
set_option maxRecDepth 100000 in
theorem copyCheck_fresh (b : Nat) (w : World) (h0 : w.cell? ⟨b, 0, none⟩ = some (.pointer none)) (hsh : w.shape? b = some (244, 2)) (hfz : w.frozen? ⟨b, 0, none⟩ = false) :
    Calls Tryz.prog 235 #[.pointer (some ⟨b, 0, none⟩)] w fun e w' => e = .returned (.tuple #[]) ∧ w' = w.setCell ⟨b, 0, none⟩ (.pointer (some ⟨b, 0, none⟩)) := by
  obtain ⟨j, hj, hjs⟩ := Option.map_eq_some_iff.1 sizeBuilder
  go_enter Tryz.func235, Tryz.ntmps235
  go_wp2
  rw [Lib.run_to_unsafe w ⟨b, 0, none⟩ Tryz.underlying242 Tryz.underlying271 hj (by rw [hjs]; decide) hsh (Nat.zero_lt_succ 1)]
  simp only [Result.andThen]
  rw [Oper.upon_value]
  go_wp2
  rw [run_callFunc_extern Tryz.func244 (by kernel_rfl) (by kernel_rfl) (by kernel_rfl) (e := Extern.AbiNoEscape.same) (by kernel_rfl)]
  rw [Lib.run_noEscape]
  simp only [Result.andThen]
  rw [Oper.upon_value]
  go_wp2
  rw [Lib.run_from_unsafe w ⟨b, 0, none⟩ Tryz.underlying271 Tryz.underlying242 hj hsh liesBuilder]
  simp only [Result.andThen]
  rw [Oper.upon_value]
  go_wp2
  go_end0
  exact ⟨rfl, rfl⟩
theorem copyCheck_any (B b : Nat) (bs : List Value) (w : World) (h : Lib.IsBuilder 244 5 B b bs w) :
    Calls Tryz.prog 235 #[.pointer (some ⟨b, 0, none⟩)] w fun e w' => e = .returned (.tuple #[]) ∧ (Lib.BuilderAt 244 5 B b (.pointer (some ⟨b, 0, none⟩)) bs w' ∧ Below B w w') := by
  rcases h with h | h
  · refine (copyCheck_fresh b w h.cell0 h.shape h.frozen0).mono ?_
    rintro e w' ⟨rfl, rfl⟩
    exact ⟨rfl, h.used _, (Below.refl B w).setCell (p := ⟨b, 0, none⟩) h.1 _⟩
  · refine (copyCheck_used b w h.cell0).mono ?_
    rintro e w' ⟨rfl, rfl⟩
    exact ⟨rfl, h, Below.refl B _⟩
theorem byteCells_app (l : List UInt8) (s : List UInt8) : Lib.byteCells l ++ Lib.strCells ⟨s.toArray⟩ = Lib.byteCells (l ++ s) := by
  simp [Lib.byteCells, Lib.strCells]
set_option maxRecDepth 100000 in
set_option maxHeartbeats 2000000 in
set_option maxRecDepth 100000 in
theorem WriteString_any (B b : Nat) (l s : List UInt8) (w : World) (h : Bld B b l w) (hlen : l.length + s.length ≤ 140737488355328) (hBw : B ≤ w.heap.size) :
    Calls Tryz.prog 220 #[.pointer (some ⟨b, 0, none⟩), .string ⟨s.toArray⟩] w fun e w' => e = .returned (.tuple #[.int .i64 s.length, .nilIface]) ∧ Bld B b (l ++ s) w' ∧ Below B w w' := by
  obtain ⟨i0, hi, hz0, hz1, hz2⟩ := info_parts infoByte
  have hsz := str_size s
  have hl0 := Lib.byteCells_length l
  have HC := Lib.hid (copyCheck_any B b (Lib.byteCells l) w h)
  have HAP := Lib.hid (byteCells_app l s)
  have HL := Lib.hid hl0
  clear h hl0
  go_enter Tryz.func220, Tryz.ntmps220
  go_wp2_with (first
    | ((with_reducible refine (HC.out).mono ?_); rintro e w1 ⟨rfl, h1, hb1⟩; obtain ⟨hB, v, hbk, hown, hne⟩ := h1; rw [HL.out] at hown; have c0 : w1.cell? ⟨b, 0, none⟩ = some (.pointer (some ⟨b, 0, none⟩)) := by { rw [Lib.cell_of_heap hbk]; rfl }; have c1 : w1.cell? ⟨b, 1, none⟩ = some v := by { rw [Lib.cell_of_heap hbk]; rfl })
    | (at_builtin; refine Lib.wpList_append_own_string w1 rfl (.tmp 12) (.tmp 13) 176 9 rfl B 5 i0 Tryz.underlying176 Tryz.underlying9 hi hz0 hz1 hz2 v l.length (Lib.byteCells l) rfl hown ⟨s.toArray⟩ rfl ?c3 ?c4 ?c5 ?_))
  case c3 => unfold maxLen; rw [hsz]; omega
  case c4 => rw [hsz]; omega
  case c5 => have := hb1.size; omega
  intro v' w2 hown' hgrow _
  have hlt : b < w1.heap.size := by
    rcases Nat.lt_or_ge b w1.heap.size with h' | h'
    · exact h'
    · simp [Array.getElem?_eq_none h'] at hbk
  have hb2 : w2.heap[b]? = some (.cells #[.pointer (some ⟨b, 0, none⟩), v] 244 (0, 0)) := by
    rw [hgrow.block b hlt (fun e => hne e.symm)]
    exact hbk
  have d0 : w2.cell? ⟨b, 0, none⟩ = some (.pointer (some ⟨b, 0, none⟩)) := by rw [Lib.cell_of_heap hb2]; rfl
  have d1 : w2.cell? ⟨b, 1, none⟩ = some v := by rw [Lib.cell_of_heap hb2]; rfl
  have f1 : w2.frozen? ⟨b, 1, none⟩ = false := Lib.frozen_of_heap hb2 1
  obtain ⟨ao, n', cap, rfl⟩ : ∃ ao n' cap, v' = .slice ao n' cap := by
    rcases hown'.2 with ⟨hv, _⟩ | ⟨g, cap, cur, hv, _⟩
    · exact ⟨_, _, _, hv⟩
    · exact ⟨_, _, _, hv⟩
  go_wp2
  go_ret2
  refine ⟨rfl, .inr ?_, ?_⟩
  · rw [← HAP.out]
    exact Lib.BuilderAt.put (T := 244) (e := 5) hB hb2 (bs' := Lib.byteCells l ++ Lib.strCells ⟨s.toArray⟩) (by rw [List.length_append, HL.out, Lib.strCells_length]; exact hown') neBuilder
  · exact (hb1.grown hgrow (by have := hb1.size; omega) (fun k hk => (hown.lt k hk).1)).setCell (p := ⟨b, 1, none⟩) hB _
theorem Bld.below {B b : Nat} {l : List UInt8} {w w' : World} (h : Bld B b l w) (hb : Below w.heap.size w w') : Bld B b l w' := by
  have hk : ∀ p, Lib.BuilderAt 244 5 B b p (Lib.byteCells l) w → Lib.BuilderAt 244 5 B b p (Lib.byteCells l) w' := fun p h => by
    have hlt := h.lt
    obtain ⟨hB, v, hbk, hown, hne⟩ := h
    exact ⟨hB, v, (hb.block b hlt).trans hbk, hown.kept (row := none) ⟨hb.os, hb.tape, hb.output, hb.size, fun k hk _ => hb.block k hk⟩ (by cases hv : v.ownBlock <;> simp), hne⟩
  rcases h with h | h
  · exact .inl (hk _ h)
  · exact .inr (hk _ h)
theorem Bld.lt {B b : Nat} {l : List UInt8} {w : World} (h : Bld B b l w) : b < w.heap.size := by
  rcases h with h | h
  · exact h.lt
  · exact h.lt
theorem Bld.fresh (w : World) : Bld w.heap.size w.heap.size [] (w.alloc (.cells #[.pointer none, .slice none 0 0] 244)) := Lib.fresh_isBuilder _ _ w
end Go.Proofs.YtjncmlglhegnaaaGreatDoor
namespace Go.Proofs.YtjncmlglhegnaaaGreatDoor
open Go.RowKit Go.Sort Go.Lib

set_option maxRecDepth 100000 in
set_option maxHeartbeats 4000000 in
theorem list_int {B0 : Nat} (w : World) (hE : Env B0 w) (hB0 : B0 ≤ w.heap.size) (A : Option Addr) (n c : Nat) (l : List (Int)) (hs : Sl w 1 A n (l.map intC)) (hok : ∀ x ∈ l, -9223372036854775808 ≤ x ∧ x ≤ 9223372036854775807) (hn : n ≤ 1099511627776) (hfl : (l.map encI).flatten.length ≤ 70368744177664) (r : List UInt8) (hr : Lib.itoa (n : Int) ++ 91 :: ((l.map encI).flatten ++ [93]) = r) :
    Calls Tryz.prog 200 #[.slice A n c, .func (.func 132) #[] #[]] w fun e w' => e = .returned (.string ⟨r.toArray⟩) ∧ Below w.heap.size w w' := by
  have hl : l.length = n := by have := hs.len; simpa using this
  have HI := Lib.hid (itoa_any (w.alloc (.cells #[.pointer none, .slice none 0 0] 244)) (hE.below ((below_alloc w _).mono hB0)).isTab (n : Int) (by omega) (by omega))
  have hil : (Lib.itoa (n : Int)).length ≤ 20 := itoa_length (by omega) (by omega)
  obtain ⟨p, hp⟩ : ∃ p, Lib.itoa (n : Int) = p := ⟨_, rfl⟩
  rw [hp] at HI hil
  have z1 : (⟨p.toArray⟩ : ByteArray).size = p.length := str_size p
  have z2 : (⟨p.toArray⟩ : ByteArray) ++ (⟨#[91]⟩ : ByteArray) = ⟨(p ++ [91]).toArray⟩ := str_app p [91]
  have b1 : p.length + 1 ≤ 9223372036854775807 := by omega
  obtain ⟨pre, hpre⟩ : ∃ pre, p ++ [91] = pre := ⟨_, rfl⟩
  have hpl : pre.length ≤ 21 := by rw [← hpre]; simp; omega
  rw [hpre] at z2
  have hr2 : pre ++ (l.map encI).flatten ++ [93] = r := by rw [← hr, hp, ← hpre]; simp
  have HR := Lib.hid hr2
  have HPL := Lib.hid hpl
  have HFL := Lib.hid hfl
  have HS := Lib.hid hs
  have HL := Lib.hid hl
  have HE := Lib.hid hE
  have HOK := Lib.hid hok
  have HB0 := Lib.hid hB0
  have HN := Lib.hid hn
  have HF := Lib.hid (Bld.fresh w)
  have HZ := Lib.hid (below_alloc w (.cells #[.pointer none, .slice none 0 0] 244))
  clear hr hp hpre hr2 hpl hfl hs hl hE hok hB0
  go_enter Tryz.func200, Tryz.ntmps200
  go_wp2_with (first
    | ((with_reducible refine (HI.out).mono ?_); rintro _ w1 ⟨rfl, hb1⟩; have HW := Lib.hid (WriteString_any w.heap.size w.heap.size [] pre w1 (HF.out.below hb1) (by have := HPL.out; simp; omega) (Nat.le_trans HZ.out.size hb1.size)); have HB1 := Lib.hid (HZ.out.trans (hb1.mono HZ.out.size)); clear hb1)
    | ((with_reducible refine (HW.out).mono ?_); rintro _ w2 ⟨rfl, h2, hb2⟩; have H2 := Lib.hid h2; have HB2 := Lib.hid (HB1.out.trans hb2); clear h2 hb2))
  go_loopw [15] (fun iv wr => ∃ k : Nat, k ≤ n ∧ iv = .int .i64 (k : Int) ∧ Bld w.heap.size w.heap.size (pre ++ ((l.take k).map encI).flatten) wr ∧ Below w.heap.size w wr) (fun i _ => n - (Go.RowKit.intOf i).toNat)
  case atStart => exact ⟨0, Nat.zero_le _, rfl, by have h := H2.out; simp at h; simpa using h, HB2.out⟩
  case round =>
    obtain ⟨k, hk, rfl, hbd, hb⟩ := hrel
    obtain ⟨wo, rfl⟩ : ∃ wo : World, wo = wr := ⟨_, rfl⟩
    have HD := Lib.hid hbd
    have HB := Lib.hid hb
    clear hbd hb H2 HB2
    by_cases hlt : k < n
    · obtain ⟨x, hx⟩ : ∃ x, l[k]? = some x := ⟨_, List.getElem?_eq_getElem (by rw [HL.out]; exact hlt)⟩
      obtain ⟨b, o, rfl, hbl, c0⟩ := (HS.out.below HB.out).at1 (k := k) (v := .int .i64 x) (by rw [List.getElem?_map, hx]; rfl)
      have hox := HOK.out x (List.mem_of_getElem? hx)
      have HC := Lib.hid (Int_any wo (HE.out.below (HB.out.mono HB0.out)).isTab x hox.1 hox.2 (hs := rfl) (s := encI x))
      have hfx := flat_part encI hx
      have hfn := HFL.out
      have hpn := HPL.out
      have HLEN : Hid ((pre ++ ((l.take k).map encI).flatten).length + (encI x).length ≤ 140737488355328) := Lib.hid (by rw [List.length_append]; omega)
      have HNX : Hid ((pre ++ ((l.take k).map encI).flatten) ++ encI x = pre ++ ((l.take (k + 1)).map encI).flatten) := Lib.hid (by rw [take_succ' hx]; simp)
      have hki : (k : Int) < (n : Int) := by omega
      have hk0 : (0 : Int) ≤ (k : Int) := by omega
      have HLT := Lib.hid hlt
      obtain ⟨q, hq⟩ : ∃ q, encI x = q := ⟨_, rfl⟩
      rw [hq] at HC HLEN HNX
      clear hx hox hfx hfn hpn hlt hq
      go_wp2_with (first
        | ((with_reducible refine (HC.out).mono ?_); rintro _ w3 ⟨rfl, hb3⟩; have HW3 := Lib.hid (WriteString_any w.heap.size w.heap.size _ q w3 (HD.out.below hb3) HLEN.out (Nat.le_trans HB.out.size hb3.size)); have HB3 := Lib.hid (HB.out.trans (hb3.mono HB.out.size)); clear hb3)
        | ((with_reducible refine (HW3.out).mono ?_); rintro _ w4 ⟨rfl, h4, hb4⟩; have H4 := Lib.hid h4; have HB4 := Lib.hid (HB3.out.trans hb4); clear h4 hb4))
      go_roundw
      case rel => exact ⟨k + 1, HLT.out, by go_num, by have h := H4.out; rw [HNX.out] at h; exact h, HB4.out⟩
      case measure => have := HLT.out; simp [Go.RowKit.intOf]; omega
    · obtain rfl : k = n := by omega
      have hki : (k : Int) ≤ (k : Int) := Int.le_refl _
      have hD := HD.out
      rw [List.take_of_length_le (by rw [HL.out]; exact Nat.le_refl _)] at hD
      have HS8 := Lib.hid (Builder_String_any w.heap.size w.heap.size _ wo hD HB.out.size)
      have hfn := HFL.out
      have hpn := HPL.out
      obtain ⟨q, hq⟩ : ∃ q, pre ++ (l.map encI).flatten = q := ⟨_, rfl⟩
      have hql : q.length + 1 ≤ 9223372036854775807 := by rw [← hq, List.length_append]; omega
      have hrq := HR.out
      rw [hq] at HS8 hrq
      have z8 : (⟨q.toArray⟩ : ByteArray).size = q.length := str_size q
      have z9 : (⟨q.toArray⟩ : ByteArray) ++ (⟨#[93]⟩ : ByteArray) = ⟨r.toArray⟩ := by rw [← hrq]; exact str_app q [93]
      clear hlt hD hq hrq hfn hpn
      go_wp2_with ((with_reducible refine (HS8.out).mono ?_); rintro _ w5 ⟨rfl, hb5⟩; have HB5 := Lib.hid (HB.out.trans hb5); clear hb5)
      go_ret
      exact ⟨rfl, HB5.out⟩
set_option maxRecDepth 100000 in
set_option maxHeartbeats 1000000 in
theorem Nums_any {B0 : Nat} (w : World) (hE : Env B0 w) (hB0 : B0 ≤ w.heap.size) (A : Option Addr) (n c : Nat) (l : List (Int)) (hs : Sl w 1 A n (l.map intC)) (hok : ∀ x ∈ l, -9223372036854775808 ≤ x ∧ x ≤ 9223372036854775807) (hn : n ≤ 1099511627776) (hfl : (l.map encI).flatten.length ≤ 70368744177664) (r : List UInt8) (hr : encIs l = r) :
    Calls Tryz.prog 171 #[.slice A n c] w fun e w' => e = .returned (.string ⟨r.toArray⟩) ∧ Below w.heap.size w w' := by
  have hl : l.length = n := by have := hs.len; simpa using this
  have HC := Lib.hid (list_int w hE hB0 A n c l hs hok hn hfl r (by rw [← hr]; unfold encIs; rw [hl]))
  clear hE hB0 hs hok hn hfl hr hl
  go_enter Tryz.func171, Tryz.ntmps171
  go_wp2_with ((with_reducible refine (HC.out).mono ?_); rintro _ w1 ⟨rfl, hb1⟩; have HB1 := Lib.hid hb1; clear hb1)
  go_ret
  exact ⟨rfl, HB1.out⟩
end Go.Proofs.YtjncmlglhegnaaaGreatDoor
