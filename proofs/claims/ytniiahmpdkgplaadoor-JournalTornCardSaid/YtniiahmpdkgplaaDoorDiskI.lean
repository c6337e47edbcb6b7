/- disk: Crash, Write, Sync, Truncate, whole. -/
import Derived.Test.YtniiahmpdkgplaaDoorDiskH
namespace Go.Proofs.YtniiahmpdkgplaaDoor
open Go.RowKit

theorem crash_down (d : DV) (keep : List Int) : (crashF d keep).down = true := by
  unfold crashF
  split
  · assumption
  · rfl
theorem ends_keep (d : DV) : (endsF d).1.keep = d.keep := by
  unfold endsF
  split <;> rfl
theorem may_down {d : DV} (h : d.down = true) (f : Int) : mayF d f = 8 := by simp [mayF, h]
section
variable {w : World} {F : Nat → Prop} {B : Nat} {d : DV} {mf ms : Nat} {Q : Option Addr} {cq : Nat} {K : Option Addr} {ck : Nat}
theorem Crash_any (h : DiskAt w F B d mf ms Q cq K ck) (hok : DOk d) (keep : List Int) (A : Option Addr) (c : Nat) (hs : Sl w 1 A keep.length (keep.map fun k => [.int .i64 k])) (hkl : keep.length ≤ 5000000) (hkf : keep ≠ [] → ∀ ad, A = some ad → ¬ F ad.block) :
    Calls Tryd.prog 29 #[.pointer (some ⟨B, 0, none⟩), .slice A keep.length c] w fun e w' => e = .returned (.tuple #[]) ∧ DskTo F w B (crashF d keep) w' := by
  cases hd : d.down with
  | true => exact Crash_no h keep A c hd
  | false =>
    refine (Crash_yes h hok keep keep.length rfl A c hs hkl hkf hd).mono fun e w' hh => ?_
    rw [crashF, if_neg (by simp [hd])]
    exact hh
theorem write_any (h : DiskAt w F B d mf ms Q cq K ck) (hok : DOk d) (f at_ : Int) (s : List UInt8) (hat : -9223372036854775808 ≤ at_ ∧ at_ ≤ 9223372036854775807) (hs : s.length ≤ 140737488351232) :
    Calls Tryd.prog 40 #[.pointer (some ⟨B, 0, none⟩), .int .i64 f, .int .i64 at_, strV s] w fun e w' => e = .returned (.int .i64 (writeF d f at_ s).2) ∧ DskTo F w B (writeF d f at_ s).1 w' := by
  by_cases hno : mayF d f ≠ 0 ∨ at_ < 0 ∨ (16777216 < at_ ∨ 16777216 - at_ < s.length) ∨ s = []
  · exact write_no h f at_ s hat hs hno
  · simp only [not_or, Decidable.not_not] at hno
    obtain ⟨h1, h2, ⟨h3, h4⟩, h5⟩ := hno
    obtain ⟨a, rfl⟩ : ∃ a : Nat, at_ = (a : Int) := ⟨at_.toNat, by omega⟩
    refine (write_yes h hok f a s h1 (by omega) h5).mono fun e w' hh => ?_
    rw [writeF, if_neg (by simp [h1]), if_neg (by omega), if_neg (by omega), if_neg h5, Int.toNat_natCast]
    exact hh
/-- the keep list of a disk, as an argument of Crash -/
theorem DiskAt.keepArg (h : DiskAt w F B d mf ms Q cq K ck) : Sl w 1 K d.keep.length (d.keep.map fun k => [.int .i64 k]) ∧ (d.keep ≠ [] → ∀ ad, K = some ad → ¬ F ad.block) := ⟨h.keep, h.fk⟩
set_option maxRecDepth 100000 in
set_option maxHeartbeats 2000000 in
theorem Write_any (h : DiskAt w F B d mf ms Q cq K ck) (hok : DOk d) (f at_ : Int) (s : List UInt8) (hat : -9223372036854775808 ≤ at_ ∧ at_ ≤ 9223372036854775807) (hs : s.length ≤ 140737488351232) :
    Calls Tryd.prog 14 #[.pointer (some ⟨B, 0, none⟩), .int .i64 f, .int .i64 at_, strV s] w fun e w' => e = .returned (.int .i64 (WriteF d f at_ s).2) ∧ DskTo F w B (WriteF d f at_ s).1 w' := by
  obtain ⟨d1, b, hE⟩ : ∃ d1 b, endsF d = (d1, b) := ⟨_, _, rfl⟩
  obtain ⟨d2, e2, hW⟩ : ∃ d2 e2, writeF d1 f at_ s = (d2, e2) := ⟨_, _, rfl⟩
  have hok1 : DOk d1 := by have := hok.ends; rwa [hE] at this
  have hok2 : DOk d2 := by have := hok1.write f at_ s; rwa [hW] at this
  have hc := ends_any h hok.armed
  rw [hE] at hc
  have HC := Lib.hid hc
  have hw : ∀ w1, DiskAt w1 F B d1 mf ms Q cq K ck → _ := fun w1 h1 => write_any h1 hok1 f at_ s hat hs
  rw [hW] at hw
  unfold strV at hw
  have HW := Lib.hid hw
  have HO2 := Lib.hid hok2
  have H0 := Lib.hid h
  have HK1 : Hid (d1.keep = d.keep) := by have := ends_keep d; rwa [hE] at this
  have hf : WriteF d f at_ s = if b then (crashF d2 d2.keep, 8) else (d2, e2) := by simp only [WriteF, hE, hW]
  rw [hf]
  clear h hok hok1 hok2 hc hw hE hW hf
  unfold strV
  cases b with
  | true =>
    go_enter Tryd.func14, Tryd.ntmps14
    go_wp2_with (first
      | ((with_reducible refine (HC.out).mono ?_); rintro e w1 ⟨rfl, h1, k1, z1⟩; have H1 := Lib.hid h1; have K1 := Lib.hid k1; clear h1 k1 z1)
      | ((with_reducible refine (HW.out _ H1.out).mono ?_); rintro e w2 ⟨rfl, F2, ⟨mf2, ms2, Q2, cq2, K2, ck2, h2⟩, e2, kk2⟩; have H2 := Lib.hid h2; have E2 := Lib.hid e2; have KK2 := Lib.hid kk2; clear kk2; obtain ⟨zB, kB, fB⟩ := h2.loc; clear h2 e2)
      | ((with_reducible refine (Crash_any H2.out HO2.out d2.keep K2 ck2 H2.out.keep (by have := HO2.out.klen; omega) H2.out.fk).mono ?_); rintro e w3 ⟨rfl, h3⟩; have H3 := Lib.hid h3; clear h3 zB kB fB))
    go_ret
    exact ⟨rfl, (H3.out.from E2.out KK2.out).from (Ext.same K1.out) (kk_of H0.out H1.out HK1.out)⟩
  | false =>
    go_enter Tryd.func14, Tryd.ntmps14
    go_wp2_with (first
      | ((with_reducible refine (HC.out).mono ?_); rintro e w1 ⟨rfl, h1, k1, z1⟩; have H1 := Lib.hid h1; have K1 := Lib.hid k1; clear h1 k1 z1)
      | ((with_reducible refine (HW.out _ H1.out).mono ?_); rintro e w2 ⟨rfl, h2⟩; have H2 := Lib.hid h2; clear h2))
    go_ret
    exact ⟨rfl, H2.out.from (Ext.same K1.out) (kk_of H0.out H1.out HK1.out)⟩
end
end Go.Proofs.YtniiahmpdkgplaaDoor
