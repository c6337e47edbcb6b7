/- kerbsidelaw02: same; two disks at work. -/
import Derived.Test.YthnechlnaacgfaaDiskY
import Derived.Deep.QuietTactic
import Derived.BigQuiet
namespace Go.Proofs.Ythnechlnaacgfaa
open Go.RowKit

section
variable {w0 w : World} {B1 B2 : Nat} {d1 d2 : DV}
theorem New_two {B : Nat} {d : DV} (h : Has w0 w B d) : Calls Try.prog 10 #[] w fun e w' => ∃ C, e = .returned (.pointer (some ⟨C, 0, none⟩)) ∧ Two w0 w' B d C newD :=
  (New_any w).mono fun e w' ⟨C, he, hd, hb⟩ => ⟨C, he, h.beside hb hd DOk.new (.inl rfl)⟩
theorem Two.arm (h : Two w0 w B1 d1 B2 d2) (n : Int) (hn : inI n) (keep : List Int) (A : Option Addr) (c : Nat) (hk : IntsAt w0 A keep) (hl : keep.length ≤ 60) :
    Calls Try.prog 27 #[.pointer (some ⟨B1, 0, none⟩), .int .i64 n, .slice A keep.length c] w fun e w' => e = .returned (.tuple #[]) ∧ Two w0 w' B1 (ArmF d1 n keep) B2 d2 :=
  h.call (h.fst.ok.Arm n hn.2 keep (by omega)) fun F mf ms Q cq K ck hd _ => Arm_any hd n keep A c (hk.below h.fst.base) (by omega)
theorem Two.do_ (h : Two w0 w B1 d1 B2 d2) (a : ActC) (ha : a.ok) (hf : a.few) (hk : IntsAt w0 a.A a.keep) (r : DV × Int) (hr : doF d1 a = r) :
    Calls Try.prog 12 #[.pointer (some ⟨B1, 0, none⟩), .agg #[.int .i64 a.do_, .int .i64 a.f, .int .i64 a.n, strV a.s, .slice a.A a.keep.length a.c]] w fun e w' => e = .returned (.int .i64 r.2) ∧ Two w0 w' B1 r.1 B2 d2 := by
  subst hr
  exact h.call (h.fst.ok.do_ ha hf.2.1) fun F mf ms Q cq K ck hd hn => do_any hd h.fst.ok a ha hf (hk.below h.fst.base) (hk.far hn)
theorem Two.do2 (h : Two w0 w B1 d1 B2 d2) (a : ActC) (ha : a.ok) (hf : a.few) (hk : IntsAt w0 a.A a.keep) (r : DV × Int) (hr : doF d2 a = r) :
    Calls Try.prog 12 #[.pointer (some ⟨B2, 0, none⟩), .agg #[.int .i64 a.do_, .int .i64 a.f, .int .i64 a.n, strV a.s, .slice a.A a.keep.length a.c]] w fun e w' => e = .returned (.int .i64 r.2) ∧ Two w0 w' B1 d1 B2 r.1 := by
  subst hr
  exact h.call2 (h.snd.ok.do_ ha hf.2.1) fun F mf ms Q cq K ck hd hn => do_any hd h.snd.ok a ha hf (hk.below h.snd.base) (hk.far hn)
theorem Two.crash2 (h : Two w0 w B1 d1 B2 d2) (keep : List Int) (A : Option Addr) (c : Nat) (hk : IntsAt w0 A keep) (hl : keep.length ≤ 60) :
    Calls Try.prog 25 #[.pointer (some ⟨B2, 0, none⟩), .slice A keep.length c] w fun e w' => e = .returned (.tuple #[]) ∧ Two w0 w' B1 d1 B2 (crashF d2 keep) :=
  h.call2 (h.snd.ok.crash keep) fun F mf ms Q cq K ck hd hn => Crash_any hd h.snd.ok keep A c (hk.below h.snd.base) (by omega) (hk.far hn)
theorem Two.start2 (h : Two w0 w B1 d1 B2 d2) : Calls Try.prog 26 #[.pointer (some ⟨B2, 0, none⟩)] w fun e w' => e = .returned (.tuple #[]) ∧ Two w0 w' B1 d1 B2 (StartF d2) :=
  h.call2 h.snd.ok.Start fun F mf ms Q cq K ck hd hn => (Start_any hd).mono fun e w' ⟨he, h1, k1, _⟩ => ⟨he, F, ⟨_, _, _, _, _, _, h1⟩, Ext.same k1, kk_of hd h1 rfl⟩
theorem Size_same {B : Nat} {d : DV} (h : Has w0 w B d) (f : Int) (r : Int) (hr : r = (d.file f).now.length) :
    Calls Try.prog 16 #[.pointer (some ⟨B, 0, none⟩), .int .i64 f] w fun e w' => e = .returned (.int .i64 r) ∧ w' = w :=
  (Size_has h f r hr).mono fun e w' ⟨h1, h2⟩ => ⟨h1, h2.symm⟩
end
set_option maxRecDepth 100000 in
set_option maxHeartbeats 4000000 in
theorem same_any {w0 w : World} {B1 B2 : Nat} {d1 d2 : DV} (h : Two w0 w B1 d1 B2 d2) (hsame : SameD d1 d2) (A : Option Addr) (n c : Nat) (l : List ActC) (hs : Sl w 5 A n (l.map ActC.cells)) (hn : n ≤ maxLen) :
    Calls Try.prog 28 #[.pointer (some ⟨B1, 0, none⟩), .pointer (some ⟨B2, 0, none⟩), .slice A n c] w fun e w' => e = .returned (.bool true) ∧ Below w.heap.size w w' := by
  unfold maxLen at hn
  have hll : l.length = n := by simpa using hs.1
  obtain ⟨dn, hd1⟩ : ∃ dn, d1.down = dn := ⟨_, rfl⟩
  have hd2 : d2.down = dn := by rw [← hsame.1]; exact hd1
  have H := Lib.hid h
  have HSA := Lib.hid hsame
  have HS := Lib.hid hs
  have HL := Lib.hid hll
  have HD1 := Lib.hid hd1
  have HD2 := Lib.hid hd2
  clear h hsame hs hll hd1 hd2
  go_enter Try.func28, Try.ntmps28
  go_wp2_with (first
    | ((with_reducible refine (Down_has H.out.fst dn HD1.out).mono ?_); rintro _ _ ⟨rfl, rfl⟩)
    | ((with_reducible refine (Down_has H.out.snd dn HD2.out).mono ?_); rintro _ _ ⟨rfl, rfl⟩))
  go_loopw [7] (fun i wr => ∃ k : Nat, k ≤ n ∧ i = .int .i64 k ∧ Below w.heap.size w wr) (fun i _ => n - (intOf i).toNat)
  case atStart => exact ⟨0, Nat.zero_le _, rfl, Below.refl _ _⟩
  case round =>
    obtain ⟨k, hk, rfl, hbr⟩ := hrel
    obtain ⟨wo, rfl⟩ : ∃ wo : World, wo = wr := ⟨_, rfl⟩
    have HB := Lib.hid hbr
    clear hbr
    by_cases hlt : k < n
    · obtain ⟨a, ha⟩ : ∃ a, l[k]? = some a := ⟨_, List.getElem?_eq_getElem (by rw [HL.out]; exact hlt)⟩
      obtain ⟨b, o, rfl, hbl, hcell⟩ := (HS.out.below HB.out).2 k a.cells (by rw [List.getElem?_map, ha]; rfl)
      have c1 := hcell 1 _ rfl
      have hki : (k : Int) < (n : Int) := by omega
      have hk0 : (0 : Int) ≤ (k : Int) := Int.natCast_nonneg _
      obtain ⟨x, e, hr1⟩ : ∃ x e, ReadF d1 a.f 0 16777216 = (x, e) := ⟨_, _, rfl⟩
      have hr2 : ReadF d2 a.f 0 16777216 = (x, e) := by rw [← HSA.out.read]; exact hr1
      obtain ⟨z, hz1⟩ : ∃ z : Int, z = (d1.file a.f).now.length := ⟨_, rfl⟩
      have hz2 : z = (d2.file a.f).now.length := by rw [hz1, DV.file_of HSA.out.2]
      have HR1 := Lib.hid hr1
      have HR2 := Lib.hid hr2
      have HT := Lib.hid (H.out.below HB.out)
      have HZ1 := Lib.hid (fun n => Size_same (HT.out.below (bdrewN (Below.refl _ _) n)).fst a.f z hz1)
      have HZ2 := Lib.hid (fun n => Size_same (HT.out.below (bdrewN (Below.refl _ _) n)).snd a.f z hz2)
      have HLT := Lib.hid hlt
      clear hcell ha hr1 hr2 hz1 hz2
      go_wp2_with (first
        | ((with_reducible refine (Read_str HT.out.fst a.f 0 16777216 _ _ HR1.out).mono ?_); rintro _ _ ⟨rfl, rfl⟩)
        | ((with_reducible refine (Read_str HT.out.snd a.f 0 16777216 _ _ HR2.out).mono ?_); rintro _ _ ⟨rfl, rfl⟩))
      go_quiet ((first
        | (go_at_call 16; (with_reducible exact Calls.quiet_of_same (HZ1.out _)))
        | (go_at_call 16; (with_reducible exact Calls.quiet_of_same (HZ2.out _)))))
      go_wp2_with (fail)
      go_roundw
      case rel => exact ⟨k + 1, HLT.out, by go_num, bdrewN HB.out _⟩
      case measure => have := HLT.out; simp [intOf]; omega
    · obtain rfl : k = n := by omega
      have hki : (k : Int) ≤ (k : Int) := Int.le_refl _
      go_wp2_with (fail)
      go_ret
      exact ⟨rfl, HB.out⟩
end Go.Proofs.Ythnechlnaacgfaa
