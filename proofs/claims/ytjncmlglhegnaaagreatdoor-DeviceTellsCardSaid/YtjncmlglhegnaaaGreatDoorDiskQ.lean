/- disk: Crash, Write, Sync, Truncate, whole. -/
/- disk: Sync, Truncate. -/
/- disk: one disk, and two disks apart, in memory; the acts. -/
/- the disk as a thing apart from others (Sep); its methods by contract. -/
/- disk: plain laws: what DiskReads asks. -/
import Derived.Test.YtjncmlglhegnaaaGreatDoorDiskH
import Derived.Test.YtjncmlglhegnaaaGreatDoorSep
import Derived.Test.YtjncmlglhegnaaaGreatDoorDiskX
namespace Go.Proofs.YtjncmlglhegnaaaGreatDoor
open Go.RowKit

theorem crash_down (d : DV) (keep : List Int) : (crashF d keep).down = true := by
  unfold crashF
  split
  · assumption
  · rfl
theorem ends_keep (d : DV) : (endsF d).1.keep = d.keep := by
  unfold endsF
  split <;> rfl
theorem may_down {d : DV} (h : d.down = true) (f : Int) : mayF d f = 8 := by simp [mayF, h]
section
variable {w : World} {F : Nat → Prop} {B : Nat} {d : DV} {mf ms : Nat} {Q : Option Addr} {cq : Nat} {K : Option Addr} {ck : Nat}
theorem Crash_any (h : DiskAt w F B d mf ms Q cq K ck) (hok : DOk d) (keep : List Int) (A : Option Addr) (c : Nat) (hs : Sl w 1 A keep.length (keep.map fun k => [.int .i64 k])) (hkl : keep.length ≤ 5000000) (hkf : keep ≠ [] → ∀ ad, A = some ad → ¬ F ad.block) :
    Calls Tryz.prog 23 #[.pointer (some ⟨B, 0, none⟩), .slice A keep.length c] w fun e w' => e = .returned (.tuple #[]) ∧ DskTo F w B (crashF d keep) w' := by
  cases hd : d.down with
  | true => exact Crash_no h keep A c hd
  | false =>
    refine (Crash_yes h hok keep keep.length rfl A c hs hkl hkf hd).mono fun e w' hh => ?_
    rw [crashF, if_neg (by simp [hd])]
    exact hh
theorem write_any (h : DiskAt w F B d mf ms Q cq K ck) (hok : DOk d) (f at_ : Int) (s : List UInt8) (hat : -9223372036854775808 ≤ at_ ∧ at_ ≤ 9223372036854775807) (hs : s.length ≤ 140737488351232) :
    Calls Tryz.prog 201 #[.pointer (some ⟨B, 0, none⟩), .int .i64 f, .int .i64 at_, strV s] w fun e w' => e = .returned (.int .i64 (writeF d f at_ s).2) ∧ DskTo F w B (writeF d f at_ s).1 w' := by
  by_cases hno : mayF d f ≠ 0 ∨ at_ < 0 ∨ (16777216 < at_ ∨ 16777216 - at_ < s.length) ∨ s = []
  · exact write_no h f at_ s hat hs hno
  · simp only [not_or, Decidable.not_not] at hno
    obtain ⟨h1, h2, ⟨h3, h4⟩, h5⟩ := hno
    obtain ⟨a, rfl⟩ : ∃ a : Nat, at_ = (a : Int) := ⟨at_.toNat, by omega⟩
    refine (write_yes h hok f a s h1 (by omega) h5).mono fun e w' hh => ?_
    rw [writeF, if_neg (by simp [h1]), if_neg (by omega), if_neg (by omega), if_neg h5, Int.toNat_natCast]
    exact hh
set_option maxRecDepth 100000 in
set_option maxHeartbeats 2000000 in
theorem Write_any (h : DiskAt w F B d mf ms Q cq K ck) (hok : DOk d) (f at_ : Int) (s : List UInt8) (hat : -9223372036854775808 ≤ at_ ∧ at_ ≤ 9223372036854775807) (hs : s.length ≤ 140737488351232) :
    Calls Tryz.prog 173 #[.pointer (some ⟨B, 0, none⟩), .int .i64 f, .int .i64 at_, strV s] w fun e w' => e = .returned (.int .i64 (WriteF d f at_ s).2) ∧ DskTo F w B (WriteF d f at_ s).1 w' := by
  obtain ⟨d1, b, hE⟩ : ∃ d1 b, endsF d = (d1, b) := ⟨_, _, rfl⟩
  obtain ⟨d2, e2, hW⟩ : ∃ d2 e2, writeF d1 f at_ s = (d2, e2) := ⟨_, _, rfl⟩
  have hok1 : DOk d1 := by have := hok.ends; rwa [hE] at this
  have hok2 : DOk d2 := by have := hok1.write f at_ s; rwa [hW] at this
  have hc := ends_any h hok.armed
  rw [hE] at hc
  have HC := Lib.hid hc
  have hw : ∀ w1, DiskAt w1 F B d1 mf ms Q cq K ck → _ := fun w1 h1 => write_any h1 hok1 f at_ s hat hs
  rw [hW] at hw
  unfold strV at hw
  have HW := Lib.hid hw
  have HO2 := Lib.hid hok2
  have H0 := Lib.hid h
  have HK1 : Hid (d1.keep = d.keep) := by have := ends_keep d; rwa [hE] at this
  have hf : WriteF d f at_ s = if b then (crashF d2 d2.keep, 8) else (d2, e2) := by simp only [WriteF, hE, hW]
  rw [hf]
  clear h hok hok1 hok2 hc hw hE hW hf
  unfold strV
  cases b with
  | true =>
    go_enter Tryz.func173, Tryz.ntmps173
    go_wp2_with (first
      | ((with_reducible refine (HC.out).mono ?_); rintro e w1 ⟨rfl, h1, k1, z1⟩; have H1 := Lib.hid h1; have K1 := Lib.hid k1; clear h1 k1 z1)
      | ((with_reducible refine (HW.out _ H1.out).mono ?_); rintro e w2 ⟨rfl, F2, ⟨mf2, ms2, Q2, cq2, K2, ck2, h2⟩, e2, kk2⟩; have H2 := Lib.hid h2; have E2 := Lib.hid e2; have KK2 := Lib.hid kk2; clear kk2; obtain ⟨zB, kB, fB⟩ := h2.loc; clear h2 e2)
      | ((with_reducible refine (Crash_any H2.out HO2.out d2.keep K2 ck2 H2.out.keep (by have := HO2.out.klen; omega) H2.out.fk).mono ?_); rintro e w3 ⟨rfl, h3⟩; have H3 := Lib.hid h3; clear h3 zB kB fB))
    go_ret
    exact ⟨rfl, (H3.out.from E2.out KK2.out).from (Ext.same K1.out) (kk_of H0.out H1.out HK1.out)⟩
  | false =>
    go_enter Tryz.func173, Tryz.ntmps173
    go_wp2_with (first
      | ((with_reducible refine (HC.out).mono ?_); rintro e w1 ⟨rfl, h1, k1, z1⟩; have H1 := Lib.hid h1; have K1 := Lib.hid k1; clear h1 k1 z1)
      | ((with_reducible refine (HW.out _ H1.out).mono ?_); rintro e w2 ⟨rfl, h2⟩; have H2 := Lib.hid h2; clear h2))
    go_ret
    exact ⟨rfl, H2.out.from (Ext.same K1.out) (kk_of H0.out H1.out HK1.out)⟩
end
end Go.Proofs.YtjncmlglhegnaaaGreatDoor
namespace Go.Proofs.YtjncmlglhegnaaaGreatDoor
open Go.RowKit

section
variable {w : World} {F : Nat → Prop} {B : Nat} {d : DV} {mf ms : Nat} {Q : Option Addr} {cq : Nat} {K : Option Addr} {ck : Nat}
set_option maxRecDepth 100000 in
set_option maxHeartbeats 2000000 in
theorem Sync_any (h : DiskAt w F B d mf ms Q cq K ck) (hok : DOk d) (f : Int) :
    Calls Tryz.prog 103 #[.pointer (some ⟨B, 0, none⟩), .int .i64 f] w fun e w' => e = .returned (.int .i64 (SyncF d f).2) ∧ DskTo F w B (SyncF d f).1 w' := by
  obtain ⟨d1, b, hE⟩ : ∃ d1 b, endsF d = (d1, b) := ⟨_, _, rfl⟩
  have hok1 : DOk d1 := by have := hok.ends; rwa [hE] at this
  have hc := ends_any h hok.armed
  rw [hE] at hc
  have HC := Lib.hid hc
  have HO1 := Lib.hid hok1
  have H0 := Lib.hid h
  have HK1 : Hid (d1.keep = d.keep) := by have := ends_keep d; rwa [hE] at this
  have hlo := hok1.lost
  cases b with
  | true =>
    have hs : SyncF d f = (crashF d1 d1.keep, 8) := by
      have hb : beginF d = crashF d1 d1.keep := by simp only [beginF, hE, if_true]
      rw [SyncF, hb]
      simp only [may_down (crash_down d1 d1.keep)]
      simp
    rw [hs]
    clear h hok hok1 hc hE hs hlo
    go_enter Tryz.func103, Tryz.ntmps103
    go_wp2_with (first
      | ((with_reducible refine (HC.out).mono ?_); rintro e w1 ⟨rfl, h1, k1, z1⟩; have H1 := Lib.hid h1; have K1 := Lib.hid k1; obtain ⟨zB, kB, fB⟩ := h1.loc; clear h1 k1 z1)
      | ((with_reducible refine (Crash_any H1.out HO1.out d1.keep K ck H1.out.keep (by have := HO1.out.klen; omega) H1.out.fk).mono ?_); rintro e w3 ⟨rfl, F3, ⟨mf3, ms3, Q3, cq3, K3, ck3, h3⟩, e3, kk3⟩; have H3 := Lib.hid h3; have E3 := Lib.hid e3; have KK3 := Lib.hid kk3; clear kk3; clear h3 e3 zB kB fB)
      | ((with_reducible refine (may_any H3.out f 8 (may_down (crash_down _ _) f)).mono ?_); rintro _ _ ⟨rfl, rfl⟩))
    go_ret
    exact ⟨rfl, F3, ⟨_, _, _, _, _, _, H3.out⟩, (Ext.same K1.out).trans E3.out, (kk_of H0.out H1.out HK1.out).trans K1.out.size KK3.out⟩
  | false =>
    have hb : beginF d = d1 := by simp only [beginF, hE]; rfl
    by_cases hm : mayF d1 f = 0
    · by_cases hl : 0 < d1.lost
      · have hs : SyncF d f = ({ d1 with lost := d1.lost - 1 }, 9) := by
          rw [SyncF, hb]
          simp only [hm]
          simp [hl]
        rw [hs]
        have HM := Lib.hid hm
        clear h hok hok1 hc hE hs hb hm
        go_enter Tryz.func103, Tryz.ntmps103
        go_wp2_with (first
          | ((with_reducible refine (HC.out).mono ?_); rintro e w1 ⟨rfl, h1, k1, z1⟩; have H1 := Lib.hid h1; have K1 := Lib.hid k1; obtain ⟨zB, kB, fB⟩ := h1.loc; clear h1 k1 z1)
          | ((with_reducible refine (may_any H1.out f 0 HM.out).mono ?_); rintro _ _ ⟨rfl, rfl⟩))
        go_ret
        have HS := H1.out.setField (d1.lost - 1) d1.armed d1.down (i := 3) (v := .int .i64 (d1.lost - 1)) (by simp)
        exact ⟨rfl, F, ⟨_, _, _, _, _, _, HS⟩, Ext.same (K1.out.trans (Keeps.setCell (p := ⟨B, 3, none⟩) (.inl H1.out.fB) _)), kk_of H0.out HS HK1.out⟩
      · have hs : SyncF d f = (settleF d1 f (d1.file f).now, 0) := by
          rw [SyncF, hb]
          simp only [hm]
          simp [hl]
        rw [hs]
        have HM := Lib.hid hm
        have hl0 : d1.lost = 0 := by omega
        have hla : ∀ w1, DiskAt w1 F B d1 mf ms Q cq K ck → _ := fun w1 h1 => h1.look f
        unfold fileV strV at hla
        have HLA := Lib.hid hla
        have hst : ∀ w1, DiskAt w1 F B d1 mf ms Q cq K ck → _ := fun w1 h1 => settle_any h1 HO1.out f (d1.file f).now
        unfold strV at hst
        have HST := Lib.hid hst
        have hfe := fun w => field_now (.string ⟨(d1.file f).now.toArray⟩) (.string ⟨(d1.file f).last.toArray⟩) w
        clear h hok hok1 hc hE hs hb hm hla hst hl hlo
        go_enter Tryz.func103, Tryz.ntmps103
        go_wp2_with (first
          | ((with_reducible refine (HC.out).mono ?_); rintro e w1 ⟨rfl, h1, k1, z1⟩; have H1 := Lib.hid h1; have K1 := Lib.hid k1; obtain ⟨zB, kB, fB⟩ := h1.loc; have hlk := HLA.out _ h1; clear h1 k1 z1)
          | ((with_reducible refine (may_any H1.out f 0 HM.out).mono ?_); rintro _ _ ⟨rfl, rfl⟩)
          | ((with_reducible refine (HST.out _ H1.out).mono ?_); rintro e w2 ⟨rfl, h2⟩; have H2 := Lib.hid h2; clear h2 zB kB fB hlk))
        go_ret
        exact ⟨rfl, H2.out.from (Ext.same K1.out) (kk_of H0.out H1.out HK1.out)⟩
    · have hs : SyncF d f = (d1, mayF d1 f) := by
        rw [SyncF, hb]
        rw [if_pos hm]
      rw [hs]
      have h1 : (mayF d1 f == 0) = false := by simpa using hm
      have h2 : (mayF d1 f != 0) = true := by simpa using hm
      have HM : ∀ w1, DiskAt w1 F B d1 mf ms Q cq K ck → _ := fun w1 h1 => may_any h1 f (mayF d1 f) rfl
      have HMM := Lib.hid HM
      clear h hok hok1 hc hE hs hb hm HM hlo
      generalize mayF d1 f = m at *
      go_enter Tryz.func103, Tryz.ntmps103
      go_wp2_with (first
        | ((with_reducible refine (HC.out).mono ?_); rintro e w1 ⟨rfl, h1', k1, z1⟩; have H1 := Lib.hid h1'; have K1 := Lib.hid k1; obtain ⟨zB, kB, fB⟩ := h1'.loc; clear h1' k1 z1)
        | ((with_reducible refine (HMM.out _ H1.out).mono ?_); rintro _ _ ⟨rfl, rfl⟩))
      go_ret
      exact ⟨rfl, F, ⟨_, _, _, _, _, _, H1.out⟩, Ext.same K1.out, kk_of H0.out H1.out HK1.out⟩
set_option maxRecDepth 100000 in
set_option maxHeartbeats 2000000 in
theorem Trunc_any (h : DiskAt w F B d mf ms Q cq K ck) (hok : DOk d) (f n : Int) :
    Calls Tryz.prog 107 #[.pointer (some ⟨B, 0, none⟩), .int .i64 f, .int .i64 n] w fun e w' => e = .returned (.int .i64 (TruncF d f n).2) ∧ DskTo F w B (TruncF d f n).1 w' := by
  obtain ⟨d1, b, hE⟩ : ∃ d1 b, endsF d = (d1, b) := ⟨_, _, rfl⟩
  have hok1 : DOk d1 := by have := hok.ends; rwa [hE] at this
  have hc := ends_any h hok.armed
  rw [hE] at hc
  have HC := Lib.hid hc
  have HO1 := Lib.hid hok1
  have H0 := Lib.hid h
  have HK1 : Hid (d1.keep = d.keep) := by have := ends_keep d; rwa [hE] at this
  cases b with
  | true =>
    have hs : TruncF d f n = (crashF d1 d1.keep, 8) := by
      have hb : beginF d = crashF d1 d1.keep := by simp only [beginF, hE, if_true]
      rw [TruncF, hb]
      simp only [may_down (crash_down d1 d1.keep)]
      simp
    rw [hs]
    clear h hok hok1 hc hE hs
    go_enter Tryz.func107, Tryz.ntmps107
    go_wp2_with (first
      | ((with_reducible refine (HC.out).mono ?_); rintro e w1 ⟨rfl, h1, k1, z1⟩; have H1 := Lib.hid h1; have K1 := Lib.hid k1; obtain ⟨zB, kB, fB⟩ := h1.loc; clear h1 k1 z1)
      | ((with_reducible refine (Crash_any H1.out HO1.out d1.keep K ck H1.out.keep (by have := HO1.out.klen; omega) H1.out.fk).mono ?_); rintro e w3 ⟨rfl, F3, ⟨mf3, ms3, Q3, cq3, K3, ck3, h3⟩, e3, kk3⟩; have H3 := Lib.hid h3; have E3 := Lib.hid e3; have KK3 := Lib.hid kk3; clear kk3; clear h3 e3 zB kB fB)
      | ((with_reducible refine (may_any H3.out f 8 (may_down (crash_down _ _) f)).mono ?_); rintro _ _ ⟨rfl, rfl⟩))
    go_ret
    exact ⟨rfl, F3, ⟨_, _, _, _, _, _, H3.out⟩, (Ext.same K1.out).trans E3.out, (kk_of H0.out H1.out HK1.out).trans K1.out.size KK3.out⟩
  | false =>
    have hb : beginF d = d1 := by simp only [beginF, hE]; rfl
    by_cases hm : mayF d1 f = 0
    · by_cases hn : n < 0 ∨ ((d1.file f).now.length : Int) < n
      · have hs : TruncF d f n = (d1, 1) := by
          rw [TruncF, hb]
          simp only [hm]
          rw [if_neg (by simp), if_pos hn]
        rw [hs]
        have HM := Lib.hid hm
        have hsz : ∀ w1, DiskAt w1 F B d1 mf ms Q cq K ck → _ := fun w1 h1 => Size_any h1 f _ rfl
        have HSZ := Lib.hid hsz
        clear h hok hok1 hc hE hs hb hm hsz
        by_cases h1 : n < 0
        · clear hn
          go_enter Tryz.func107, Tryz.ntmps107
          go_wp2_with (first
            | ((with_reducible refine (HC.out).mono ?_); rintro e w1 ⟨rfl, h1', k1, z1⟩; have H1 := Lib.hid h1'; have K1 := Lib.hid k1; clear h1' k1 z1)
            | ((with_reducible refine (may_any H1.out f 0 HM.out).mono ?_); rintro _ _ ⟨rfl, rfl⟩))
          go_ret
          exact ⟨rfl, F, ⟨_, _, _, _, _, _, H1.out⟩, Ext.same K1.out, kk_of H0.out H1.out HK1.out⟩
        · have h2 : ((d1.file f).now.length : Int) < n := by omega
          have h3 : 0 ≤ n := by omega
          clear hn h1
          go_enter Tryz.func107, Tryz.ntmps107
          go_wp2_with (first
            | ((with_reducible refine (HC.out).mono ?_); rintro e w1 ⟨rfl, h1', k1, z1⟩; have H1 := Lib.hid h1'; have K1 := Lib.hid k1; clear h1' k1 z1)
            | ((with_reducible refine (may_any H1.out f 0 HM.out).mono ?_); rintro _ _ ⟨rfl, rfl⟩)
            | ((with_reducible refine (HSZ.out _ H1.out).mono ?_); rintro _ _ ⟨rfl, rfl⟩))
          go_ret
          exact ⟨rfl, F, ⟨_, _, _, _, _, _, H1.out⟩, Ext.same K1.out, kk_of H0.out H1.out HK1.out⟩
      · have hs : TruncF d f n = (settleF d1 f ((d1.file f).now.take n.toNat), 0) := by
          rw [TruncF, hb]
          simp only [hm]
          rw [if_neg (by simp), if_neg hn]
        rw [hs]
        have HM := Lib.hid hm
        have hsz : ∀ w1, DiskAt w1 F B d1 mf ms Q cq K ck → _ := fun w1 h1 => Size_any h1 f _ rfl
        have HSZ := Lib.hid hsz
        have n1 : 0 ≤ n := by omega
        have n2 : n ≤ ((d1.file f).now.length : Int) := by omega
        have hla : ∀ w1, DiskAt w1 F B d1 mf ms Q cq K ck → _ := fun w1 h1 => h1.look f
        unfold fileV strV at hla
        have HLA := Lib.hid hla
        have hst : ∀ w1, DiskAt w1 F B d1 mf ms Q cq K ck → _ := fun w1 h1 => settle_any h1 HO1.out f ((d1.file f).now.take n.toNat)
        unfold strV at hst
        have HST := Lib.hid hst
        have hfe := fun w => field_now (.string ⟨(d1.file f).now.toArray⟩) (.string ⟨(d1.file f).last.toArray⟩) w
        have hsl := strV_len (d1.file f).now
        have hex : ByteArray.extract ⟨(d1.file f).now.toArray⟩ 0 n.toNat = ⟨((d1.file f).now.take n.toNat).toArray⟩ := by rw [extract_list]; simp
        clear h hok hok1 hc hE hs hb hm hla hst hsz hn
        go_enter Tryz.func107, Tryz.ntmps107
        go_wp2_with (first
          | ((with_reducible refine (HC.out).mono ?_); rintro e w1 ⟨rfl, h1, k1, z1⟩; have H1 := Lib.hid h1; have K1 := Lib.hid k1; obtain ⟨zB, kB, fB⟩ := h1.loc; have hlk := HLA.out _ h1; clear h1 k1 z1)
          | ((with_reducible refine (may_any H1.out f 0 HM.out).mono ?_); rintro _ _ ⟨rfl, rfl⟩)
          | ((with_reducible refine (HSZ.out _ H1.out).mono ?_); rintro _ _ ⟨rfl, rfl⟩)
          | ((with_reducible refine (HST.out _ H1.out).mono ?_); rintro e w2 ⟨rfl, h2⟩; have H2 := Lib.hid h2; clear h2 zB kB fB hlk))
        go_ret
        exact ⟨rfl, H2.out.from (Ext.same K1.out) (kk_of H0.out H1.out HK1.out)⟩
    · have hs : TruncF d f n = (d1, mayF d1 f) := by
        rw [TruncF, hb]
        rw [if_pos hm]
      rw [hs]
      have h1 : (mayF d1 f == 0) = false := by simpa using hm
      have h2 : (mayF d1 f != 0) = true := by simpa using hm
      have HM : ∀ w1, DiskAt w1 F B d1 mf ms Q cq K ck → _ := fun w1 h1 => may_any h1 f (mayF d1 f) rfl
      have HMM := Lib.hid HM
      clear h hok hok1 hc hE hs hb hm HM
      generalize mayF d1 f = m at *
      go_enter Tryz.func107, Tryz.ntmps107
      go_wp2_with (first
        | ((with_reducible refine (HC.out).mono ?_); rintro e w1 ⟨rfl, h1', k1, z1⟩; have H1 := Lib.hid h1'; have K1 := Lib.hid k1; clear h1' k1 z1)
        | ((with_reducible refine (HMM.out _ H1.out).mono ?_); rintro _ _ ⟨rfl, rfl⟩))
      go_ret
      exact ⟨rfl, F, ⟨_, _, _, _, _, _, H1.out⟩, Ext.same K1.out, kk_of H0.out H1.out HK1.out⟩
end
end Go.Proofs.YtjncmlglhegnaaaGreatDoor
namespace Go.Proofs.YtjncmlglhegnaaaGreatDoor
open Go.RowKit

section
variable {w w' : World} {F G G' : Nat → Prop} {B : Nat} {d d' : DV} {mf ms : Nat} {Q : Option Addr} {cq : Nat} {K : Option Addr} {ck : Nat}
theorem Loc.ofBlock {n : Nat} {X : Array Value} (h : Loc w n X) (hz : w.heap.size ≤ w'.heap.size) (hb : w'.heap[n]? = w.heap[n]?) : Loc w' n X :=
  ⟨Nat.lt_of_lt_of_le h.lt hz, fun j => (World.cell?_of_block (w := w) (a := ⟨n, j, none⟩) hb).trans (h.cell j), fun j => (World.frozen?_of_block (w := w) (a := ⟨n, j, none⟩) hb).trans (h.free j)⟩
theorem MapAt.ofBlock {b : Nat} {es : List (Value × Value)} (h : MapAt w b es) (hb : w'.heap[b]? = w.heap[b]?) : MapAt w' b es := by
  obtain ⟨arr, clock, h1, r⟩ := h
  exact ⟨arr, clock, hb.trans h1, r⟩
theorem Own.ofBlock {base : Nat} {e : TypeId} {size n : Nat} {v : Value} {xs : List (List Value)} (h : Own w base e size v n xs) (hb : ∀ b, v.ownBlock = some b → w'.heap[b]? = w.heap[b]?) : Own w' base e size v n xs := by
  refine ⟨⟨h.1.1, ?_⟩, h.2⟩
  rcases h.1.2 with h' | ⟨g, cap, cur, hv, hb', hg, r⟩
  · exact .inl h'
  · exact .inr ⟨g, cap, cur, hv, hb', (hb g (by rw [hv]; rfl)).trans hg, r⟩
/-- a disk stays while other blocks are written -/
theorem DiskAt.keeps (h : DiskAt w F B d mf ms Q cq K ck) (hk : Keeps G w w') (ha : ∀ k, F k → ¬ G k) (hK : d.keep ≠ [] → ∀ ad, K = some ad → ¬ G ad.block) : DiskAt w' F B d mf ms Q cq K ck := by
  have hb : ∀ k, F k → w'.heap[k]? = w.heap[k]? := fun k hf => hk.block k (h.lt k hf) (ha k hf)
  exact ⟨h.loc.ofBlock hk.size (hb B h.fB), h.files.ofBlock (hb mf h.ff), h.set.ofBlock (hb ms h.fs), h.queue.ofBlock (fun b hq => hb b (h.fq b (by rw [← slice_block Q d.queue.length cq]; exact hq))),
    h.keep.keeps hk (fun hne => hK (fun e => hne (by rw [e]; rfl))), h.fB, h.ff, h.fs, h.fq, h.fk, h.ne, h.nq, fun b hf => Nat.lt_of_lt_of_le (h.lt b hf) hk.size⟩
/-- a disk apart from the blocks of G -/
def DskX (G : Nat → Prop) (w : World) (F : Nat → Prop) (B : Nat) (d : DV) : Prop :=
  ∃ mf ms Q cq K ck, DiskAt w F B d mf ms Q cq K ck ∧ (∀ k, F k → ¬ G k) ∧ (d.keep ≠ [] → ∀ ad, K = some ad → ¬ G ad.block)
theorem DskX.dsk (h : DskX G w F B d) : Dsk w F B d := by
  obtain ⟨mf, ms, Q, cq, K, ck, h, _⟩ := h
  exact ⟨mf, ms, Q, cq, K, ck, h⟩
theorem DskX.lt (h : DskX G w F B d) : ∀ k, F k → k < w.heap.size := by
  obtain ⟨mf, ms, Q, cq, K, ck, h, _⟩ := h
  exact h.lt
/-- the others write -/
theorem DskX.keeps (h : DskX G w F B d) (hk : Keeps G w w') (hG : ∀ k, G' k → Plus G w w' k) : DskX G' w' F B d := by
  obtain ⟨mf, ms, Q, cq, K, ck, h, ha, hK⟩ := h
  refine ⟨mf, ms, Q, cq, K, ck, h.keeps hk ha hK, fun k hf hg => ?_, fun hne ad he hg => ?_⟩
  · rcases hG k hg with h1 | h1
    · exact ha k hf h1
    · have := h.lt k hf; omega
  · rcases hG _ hg with h1 | h1
    · exact hK hne ad he h1
    · have := h.keep_lt hne ad he; omega
/-- this disk is worked on -/
theorem DskX.step (h : DskX G w F B d) (hG : ∀ k, G k → k < w.heap.size) (ht : DskTo F w B d' w') : ∃ F', DskX G w' F' B d' ∧ Ext F F' w w' := by
  obtain ⟨mf, ms, Q, cq, K, ck, h, ha, hK⟩ := h
  obtain ⟨F', ⟨mf', ms', Q', cq', K', ck', h'⟩, hE, hkk⟩ := ht
  refine ⟨F', ⟨mf', ms', Q', cq', K', ck', h', fun k hf hg => ?_, fun hne ad he hg => ?_⟩, hE⟩
  · rcases hE.sup k hf with h1 | h1
    · exact ha k h1 hg
    · have := hG k hg; omega
  · have h6' := h'.loc.cell 6
    have h6 := h.loc.cell 6
    rcases hkk with hkk | hkk
    · rw [hkk, h6] at h6'
      have h7 : Value.slice K d.keep.length ck = .slice K' d'.keep.length ck' := by simpa using h6'
      injection h7 with h8 h9
      refine hK (fun e => hne ?_) ad (h8.trans he) hg
      rw [e] at h9
      exact List.eq_nil_of_length_eq_zero h9.symm
    · have h1 := hkk K' d'.keep.length ck' (by rw [h6']; rfl) ad he
      have h2 := hG _ hg
      omega

/-- one disk, made since w0 -/
def Has (w0 w : World) (B : Nat) (d : DV) : Prop := ∃ F, Dsk w F B d ∧ DOk d ∧ (∀ k, F k → w0.heap.size ≤ k) ∧ Below w0.heap.size w0 w
variable {w0 : World}
theorem keeps_below {w0 w w' : World} {F : Nat → Prop} (hb : Below w0.heap.size w0 w) (hk : Keeps F w w') (hn : ∀ k, F k → w0.heap.size ≤ k) : Below w0.heap.size w0 w' :=
  hb.trans ⟨hk.os, hk.tape, hk.output, hk.size, fun k hlt => hk.block k (Nat.lt_of_lt_of_le hlt hb.size) (fun hf => by have := hn k hf; omega)⟩
theorem Has.ok (h : Has w0 w B d) : DOk d := by obtain ⟨F, h1, h2, _⟩ := h; exact h2
theorem Has.base (h : Has w0 w B d) : Below w0.heap.size w0 w := by obtain ⟨F, h1, h2, h3, h4⟩ := h; exact h4
theorem Has.below (h : Has w0 w B d) (hb : Below w.heap.size w w') : Has w0 w' B d := by
  obtain ⟨F, ⟨mf, ms, Q, cq, K, ck, h1⟩, h2, h3, h4⟩ := h
  exact ⟨F, ⟨mf, ms, Q, cq, K, ck, h1.below hb⟩, h2, h3, h4.trans (hb.mono h4.size)⟩
/-- a call that works on the disk -/
theorem Has.call {P : Program} {fn : FuncId} {args : Array Value} {E : Ending} (h : Has w0 w B d) (hok : DOk d')
    (hc : ∀ F mf ms Q cq K ck, DiskAt w F B d mf ms Q cq K ck → (∀ k, F k → w0.heap.size ≤ k) → Calls P fn args w fun e w' => e = E ∧ DskTo F w B d' w') :
    Calls P fn args w fun e w' => e = E ∧ Has w0 w' B d' := by
  obtain ⟨F, ⟨mf, ms, Q, cq, K, ck, h1⟩, h2, h3, h4⟩ := h
  refine (hc F mf ms Q cq K ck h1 h3).mono fun e w' ⟨he, F', hD, hE, _⟩ => ⟨he, F', hD, hok, fun k hk => ?_, keeps_below h4 hE.keeps h3⟩
  rcases hE.sup k hk with h5 | h5
  · exact h3 k h5
  · have := h4.size; omega
/-- a call that only reads it -/
theorem Has.read {P : Program} {fn : FuncId} {args : Array Value} {R : Ending → World → Prop} (h : Has w0 w B d) (hc : ∀ F mf ms Q cq K ck, DiskAt w F B d mf ms Q cq K ck → Calls P fn args w R) : Calls P fn args w R := by
  obtain ⟨F, ⟨mf, ms, Q, cq, K, ck, h1⟩, _⟩ := h
  exact hc F mf ms Q cq K ck h1
/-- two disks, made since w0, that share no block that one of them writes -/
def Two (w0 w : World) (B1 : Nat) (d1 : DV) (B2 : Nat) (d2 : DV) : Prop :=
  ∃ F1 F2, DskX F2 w F1 B1 d1 ∧ DskX F1 w F2 B2 d2 ∧ DOk d1 ∧ DOk d2 ∧ (∀ k, F1 k → w0.heap.size ≤ k) ∧ (∀ k, F2 k → w0.heap.size ≤ k) ∧ Below w0.heap.size w0 w
variable {B1 B2 : Nat} {d1 d2 : DV}
theorem Two.swap (h : Two w0 w B1 d1 B2 d2) : Two w0 w B2 d2 B1 d1 := by
  obtain ⟨F1, F2, a, b, c, d, e, f, g⟩ := h
  exact ⟨F2, F1, b, a, d, c, f, e, g⟩
theorem Two.fst (h : Two w0 w B1 d1 B2 d2) : Has w0 w B1 d1 := by
  obtain ⟨F1, F2, a, b, c, d, e, f, g⟩ := h
  exact ⟨F1, a.dsk, c, e, g⟩
theorem Two.snd (h : Two w0 w B1 d1 B2 d2) : Has w0 w B2 d2 := h.swap.fst
theorem Two.below (h : Two w0 w B1 d1 B2 d2) (hb : Below w.heap.size w w') : Two w0 w' B1 d1 B2 d2 := by
  obtain ⟨F1, F2, a, b, c, d, e, f, g⟩ := h
  have hk : ∀ G : Nat → Prop, Keeps G w w' := fun G => Keeps.below hb
  exact ⟨F1, F2, a.keeps (hk F2) (fun k h => .inl h), b.keeps (hk F1) (fun k h => .inl h), c, d, e, f, g.trans (hb.mono g.size)⟩
theorem Two.call {P : Program} {fn : FuncId} {args : Array Value} {E : Ending} (h : Two w0 w B1 d1 B2 d2) (hok : DOk d')
    (hc : ∀ F mf ms Q cq K ck, DiskAt w F B1 d1 mf ms Q cq K ck → (∀ k, F k → w0.heap.size ≤ k) → Calls P fn args w fun e w' => e = E ∧ DskTo F w B1 d' w') :
    Calls P fn args w fun e w' => e = E ∧ Two w0 w' B1 d' B2 d2 := by
  obtain ⟨F1, F2, a, b, c, d, e, f, g⟩ := h
  obtain ⟨mf, ms, Q, cq, K, ck, h1, ha⟩ := id a
  refine (hc F1 mf ms Q cq K ck h1 e).mono fun e' w' ⟨he, ht⟩ => ?_
  obtain ⟨F1', h2, hE⟩ := a.step b.lt ht
  refine ⟨he, F1', F2, h2, b.keeps hE.keeps hE.sup, hok, d, fun k hk => ?_, f, keeps_below g hE.keeps e⟩
  rcases hE.sup k hk with h5 | h5
  · exact e k h5
  · have := g.size; omega
/-- a new disk beside one that is there -/
theorem Has.beside (h : Has w0 w B1 d1) (hb : Below w.heap.size w w') (hd : Dsk w' (fun k => w.heap.size ≤ k ∧ k < w'.heap.size) B2 d2) (hok : DOk d2) (hK : d2.keep = [] ∨ d2.keep = d1.keep ∧ w'.cell? ⟨B2, 6, none⟩ = w.cell? ⟨B1, 6, none⟩) : Two w0 w' B1 d1 B2 d2 := by
  obtain ⟨F, ⟨mf, ms, Q, cq, K, ck, h1⟩, h2, h3, h4⟩ := h
  obtain ⟨mf2, ms2, Q2, cq2, K2, ck2, h5⟩ := hd
  have h1' := h1.below hb
  refine ⟨F, _, ⟨mf, ms, Q, cq, K, ck, h1', fun k hf hg => ?_, fun hne ad he hg => ?_⟩, ⟨mf2, ms2, Q2, cq2, K2, ck2, h5, fun k hf hg => ?_, fun hne ad he hg => ?_⟩, h2, hok, h3, fun k hk => Nat.le_trans h4.size hk.1, h4.trans (hb.mono h4.size)⟩
  · have := h1.lt k hf; omega
  · have := h1.keep_lt hne ad he; omega
  · have := h1.lt k hg; omega
  · rcases hK with hK | ⟨hK, hc⟩
    · exact hne hK
    · have h6 := h5.loc.cell 6
      have h7 := h1.loc.cell 6
      rw [hc, h7] at h6
      have h8 : Value.slice K d1.keep.length ck = .slice K2 d2.keep.length ck2 := by simpa using h6
      injection h8 with h8
      exact h1.fk (by rw [← hK]; exact hne) ad (h8.trans he) hg
end
end Go.Proofs.YtjncmlglhegnaaaGreatDoor
namespace Go.Proofs.YtjncmlglhegnaaaGreatDoor
open Go.RowKit

theorem Sl.ofBlock {w w' : World} {size n : Nat} {A : Option Addr} {xs : List (List Value)} (h : Sl w size A n xs) (hz : w.heap.size ≤ w'.heap.size) (hb : xs ≠ [] → ∀ ad, A = some ad → w'.heap[ad.block]? = w.heap[ad.block]?) : Sl w' size A n xs := by
  refine ⟨h.1, fun i x hx => ?_⟩
  obtain ⟨b, o, hA, hlb, hc⟩ := h.2 i x hx
  have hbb := hb (fun e => by rw [e] at hx; simp at hx) ⟨b, o, none⟩ hA
  refine ⟨b, o, hA, Nat.lt_of_lt_of_le hlb hz, fun j v hv => ?_⟩
  exact (World.cell?_of_block (w := w) (a := ⟨b, o + i * size + j, none⟩) hbb).trans (hc j v hv)
theorem DiskAt.ofBlocks {w w' : World} {F : Nat → Prop} {B : Nat} {d : DV} {mf ms : Nat} {Q : Option Addr} {cq : Nat} {K : Option Addr} {ck : Nat} (h : DiskAt w F B d mf ms Q cq K ck) (hz : w.heap.size ≤ w'.heap.size) (hb : ∀ k, F k → w'.heap[k]? = w.heap[k]?) (hK : d.keep ≠ [] → ∀ ad, K = some ad → w'.heap[ad.block]? = w.heap[ad.block]?) : DiskAt w' F B d mf ms Q cq K ck :=
  ⟨h.loc.ofBlock hz (hb B h.fB), h.files.ofBlock (hb mf h.ff), h.set.ofBlock (hb ms h.fs), h.queue.ofBlock (fun b hq => hb b (h.fq b (by rw [← slice_block Q d.queue.length cq]; exact hq))),
    h.keep.ofBlock hz (fun hne => hK (fun e => hne (by rw [e]; rfl))), h.fB, h.ff, h.fs, h.fq, h.fk, h.ne, h.nq, fun b hf => Nat.lt_of_lt_of_le (h.lt b hf) hz⟩
/-- a disk -/
def diskR (B : Nat) (d : DV) : Res where
  P := fun w F => DOk d ∧ ∃ F1 mf ms Q cq K ck, DiskAt w F1 B d mf ms Q cq K ck ∧ ∀ k, F k ↔ F1 k ∨ (d.keep ≠ [] ∧ ∃ ad, K = some ad ∧ ad.block = k)
  lt := fun w F ⟨_, F1, mf, ms, Q, cq, K, ck, h, hF⟩ k hk => by
    rcases (hF k).1 hk with h1 | ⟨h1, ad, h2, h3⟩
    · exact h.lt k h1
    · rw [← h3]; exact h.keep_lt h1 ad h2
  keep := fun w w' F ⟨hok, F1, mf, ms, Q, cq, K, ck, h, hF⟩ hz hb => ⟨hok, F1, mf, ms, Q, cq, K, ck, h.ofBlocks hz (fun k hk => hb k ((hF k).2 (.inl hk))) (fun hne ad he => hb _ ((hF _).2 (.inr ⟨hne, ad, he, rfl⟩))), hF⟩
section
variable {w0 w w' : World} {Rs : List Res} {B : Nat} {d d' : DV}
theorem Sep.disk_ok (h : Sep w0 w (diskR B d :: Rs)) : DOk d := by
  obtain ⟨F, h1, _⟩ := h.get
  exact h1.1
/-- a call that works on the disk -/
theorem Sep.disk {P : Program} {fn : FuncId} {args : Array Value} {E : Ending} (h : Sep w0 w (diskR B d :: Rs)) (hok : DOk d')
    (hc : ∀ F mf ms Q cq K ck, DiskAt w F B d mf ms Q cq K ck → (∀ k, F k → w0.heap.size ≤ k) → Calls P fn args w fun e w' => e = E ∧ DskTo F w B d' w') :
    Calls P fn args w fun e w' => e = E ∧ Sep w0 w' (diskR B d' :: Rs) := by
  refine (Sep.call (ι := Unit) (Q := fun e _ => e = E) (R' := fun _ => diskR B d') h fun F hF h0 => ?_).mono fun e w' ⟨_, h1, h2⟩ => ⟨h1, h2⟩
  obtain ⟨_, F1, mf, ms, Q, cq, K, ck, hD, hFF⟩ := hF
  refine (hc F1 mf ms Q cq K ck hD fun k hk => h0 k ((hFF k).2 (.inl hk))).mono fun e w' ⟨he, F1', ⟨mf', ms', Q', cq', K', ck', hD'⟩, hE, hkk⟩ => ⟨(), he, _, ⟨hok, F1', mf', ms', Q', cq', K', ck', hD', fun k => Iff.rfl⟩, fun k hk => ?_, hE.keeps.mono fun k hk => (hFF k).2 (.inl hk)⟩
  rcases hk with hk | ⟨hne, ad, he', hk⟩
  · rcases hE.sup k hk with h1 | h1
    · exact .inl ((hFF k).2 (.inl h1))
    · exact .inr h1
  · have h6' := hD'.loc.cell 6
    have h6 := hD.loc.cell 6
    rcases hkk with hkk | hkk
    · rw [hkk, h6] at h6'
      have h7 : Value.slice K d.keep.length ck = .slice K' d'.keep.length ck' := by simpa using h6'
      injection h7 with h8 h9
      refine .inl ((hFF k).2 (.inr ⟨fun e => hne ?_, ad, h8.trans he', hk⟩))
      rw [e] at h9
      exact List.eq_nil_of_length_eq_zero h9.symm
    · have h1 := hkk K' d'.keep.length ck' (by rw [h6']; rfl) ad he'
      have h2 := hD'.keep_lt hne ad he'
      exact .inr ⟨by rw [← hk]; exact h1, by rw [← hk]; exact h2⟩
/-- a call that only reads it -/
theorem Sep.diskRead {P : Program} {fn : FuncId} {args : Array Value} {R : Ending → World → Prop} (h : Sep w0 w (diskR B d :: Rs)) (hc : ∀ F mf ms Q cq K ck, DiskAt w F B d mf ms Q cq K ck → Calls P fn args w R) : Calls P fn args w R := by
  obtain ⟨F, ⟨_, F1, mf, ms, Q, cq, K, ck, hD, _⟩, _⟩ := h.get
  exact hc F1 mf ms Q cq K ck hD
theorem New_sep (h : Sep w0 w Rs) : Calls Tryz.prog 15 #[] w fun e w' => ∃ B, e = .returned (.pointer (some ⟨B, 0, none⟩)) ∧ Sep w0 w' (diskR B newD :: Rs) :=
  (New_any w).mono fun e w' ⟨B, he, ⟨mf, ms, Q, cq, K, ck, hD⟩, hb⟩ => ⟨B, he, h.add hb (F := fun k => w.heap.size ≤ k ∧ k < w'.heap.size) ⟨DOk.new, _, mf, ms, Q, cq, K, ck, hD, fun k => ⟨.inl, fun hk => by
    rcases hk with hk | ⟨hk, _⟩
    · exact hk
    · exact absurd rfl hk⟩⟩ fun k hk => hk.1⟩
theorem Write_sep (h : Sep w0 w (diskR B d :: Rs)) (f at_ : Int) (s : List UInt8) (hat : -9223372036854775808 ≤ at_ ∧ at_ ≤ 9223372036854775807) (hs : s.length ≤ 140737488351232) (r : DV × Int) (hr : WriteF d f at_ s = r) :
    Calls Tryz.prog 173 #[.pointer (some ⟨B, 0, none⟩), .int .i64 f, .int .i64 at_, .string ⟨s.toArray⟩] w fun e w' => e = .returned (.int .i64 r.2) ∧ Sep w0 w' (diskR B r.1 :: Rs) := by
  subst hr
  exact h.disk (h.disk_ok.Write _ _ _) fun F mf ms Q cq K ck hd _ => Write_any hd h.disk_ok f at_ s hat hs
theorem Sync_sep (h : Sep w0 w (diskR B d :: Rs)) (f : Int) (r : DV × Int) (hr : SyncF d f = r) :
    Calls Tryz.prog 103 #[.pointer (some ⟨B, 0, none⟩), .int .i64 f] w fun e w' => e = .returned (.int .i64 r.2) ∧ Sep w0 w' (diskR B r.1 :: Rs) := by
  subst hr
  exact h.disk (h.disk_ok.Sync _) fun F mf ms Q cq K ck hd _ => Sync_any hd h.disk_ok f
theorem Trunc_sep (h : Sep w0 w (diskR B d :: Rs)) (f n : Int) (r : DV × Int) (hr : TruncF d f n = r) :
    Calls Tryz.prog 107 #[.pointer (some ⟨B, 0, none⟩), .int .i64 f, .int .i64 n] w fun e w' => e = .returned (.int .i64 r.2) ∧ Sep w0 w' (diskR B r.1 :: Rs) := by
  subst hr
  exact h.disk (h.disk_ok.Trunc _ _) fun F mf ms Q cq K ck hd _ => Trunc_any hd h.disk_ok f n
theorem Read_sep (h : Sep w0 w (diskR B d :: Rs)) (f at_ n : Int) (r : List UInt8 × Int) (hr : ReadF d f at_ n = r) :
    Calls Tryz.prog 104 #[.pointer (some ⟨B, 0, none⟩), .int .i64 f, .int .i64 at_, .int .i64 n] w fun e w' => e = .returned (.tuple #[.string ⟨r.1.toArray⟩, .int .i64 r.2]) ∧ w = w' :=
  h.diskRead fun F mf ms Q cq K ck hd => Read_any hd f at_ n r hr
theorem Size_sep (h : Sep w0 w (diskR B d :: Rs)) (f : Int) (r : Int) (hr : ((d.file f).now.length : Int) = r) :
    Calls Tryz.prog 105 #[.pointer (some ⟨B, 0, none⟩), .int .i64 f] w fun e w' => e = .returned (.int .i64 r) ∧ w = w' :=
  h.diskRead fun F mf ms Q cq K ck hd => Size_any hd f r hr.symm
theorem Crash_sep (h : Sep w0 w (diskR B d :: Rs)) (keep : List Int) (A : Option Addr) (c : Nat) (hs : Sl w0 1 A keep.length (keep.map fun k => [.int .i64 k])) (hkl : keep.length ≤ 5000000) (d' : DV) (hr : crashF d keep = d') :
    Calls Tryz.prog 23 #[.pointer (some ⟨B, 0, none⟩), .slice A keep.length c] w fun e w' => e = .returned (.tuple #[]) ∧ Sep w0 w' (diskR B d' :: Rs) := by
  subst hr
  exact h.disk (h.disk_ok.crash _) fun F mf ms Q cq K ck hd h0 => Crash_any hd h.disk_ok keep A c (hs.below h.base) hkl fun hne ad he hf => by
    have h1 := h0 _ hf
    obtain ⟨x, hx⟩ : ∃ x, keep[0]? = some x := ⟨_, List.getElem?_eq_getElem (List.length_pos_iff.2 hne)⟩
    obtain ⟨b, o, hA, hb, _⟩ := hs.2 0 [.int .i64 x] (by rw [List.getElem?_map, hx]; rfl)
    rw [hA] at he
    injection he with he
    rw [← he] at h1
    exact absurd hb (Nat.not_lt.2 h1)
theorem Arm_sep (h : Sep w0 w (diskR B d :: Rs)) (n : Int) (hn : n ≤ 9223372036854775807) (keep : List Int) (A : Option Addr) (c : Nat) (hs : Sl w0 1 A keep.length (keep.map fun k => [.int .i64 k])) (hk : keep.length ≤ 4194320) (d' : DV) (hr : ArmF d n keep = d') :
    Calls Tryz.prog 21 #[.pointer (some ⟨B, 0, none⟩), .int .i64 n, .slice A keep.length c] w fun e w' => e = .returned (.tuple #[]) ∧ Sep w0 w' (diskR B d' :: Rs) := by
  subst hr
  exact h.disk (h.disk_ok.Arm n hn keep hk) fun F mf ms Q cq K ck hd _ => Arm_any hd n keep A c (hs.below h.base) hk
theorem DskTo.same {F : Nat → Prop} {mf ms : Nat} {Q : Option Addr} {cq : Nat} {K : Option Addr} {ck : Nat} (h : DiskAt w F B d mf ms Q cq K ck) (h' : DiskAt w' F B d' mf ms Q cq K ck) (e : d'.keep = d.keep) (hk : Keeps F w w') : DskTo F w B d' w' :=
  ⟨F, ⟨mf, ms, Q, cq, K, ck, h'⟩, Ext.same hk, kk_of h h' e⟩
theorem Start_sep (h : Sep w0 w (diskR B d :: Rs)) (d' : DV) (hr : StartF d = d') :
    Calls Tryz.prog 25 #[.pointer (some ⟨B, 0, none⟩)] w fun e w' => e = .returned (.tuple #[]) ∧ Sep w0 w' (diskR B d' :: Rs) := by
  subst hr
  exact h.disk h.disk_ok.Start fun F mf ms Q cq K ck hd _ => (Start_any hd).mono fun e w' ⟨he, h1, h2, _⟩ => ⟨he, DskTo.same hd h1 rfl h2⟩
theorem Lose_sep (h : Sep w0 w (diskR B d :: Rs)) (n : Int) (hn : n ≤ 9223372036854775807) (d' : DV) (hr : LoseF d n = d') :
    Calls Tryz.prog 19 #[.pointer (some ⟨B, 0, none⟩), .int .i64 n] w fun e w' => e = .returned (.tuple #[]) ∧ Sep w0 w' (diskR B d' :: Rs) := by
  subst hr
  exact h.disk (h.disk_ok.Lose n hn) fun F mf ms Q cq K ck hd _ => (Lose_any hd n).mono fun e w' ⟨he, h1, h2, _⟩ => ⟨he, DskTo.same hd h1 rfl h2⟩
end
end Go.Proofs.YtjncmlglhegnaaaGreatDoor
namespace Go.Proofs.YtjncmlglhegnaaaGreatDoor

theorem DV.file_of {d d' : DV} (h : d'.files = d.files) (f : Int) : d'.file f = d.file f := by unfold DV.file; rw [h]
theorem file_put (d : DV) (f : Int) (x : FileV) : ({ d with files := putA f x d.files } : DV).file f = x := by
  unfold DV.file
  rw [getA_put_same]
  rfl
theorem file_put' {d' : DV} {f : Int} {x : FileV} {fs : List (Int × FileV)} (h : d'.files = putA f x fs) : d'.file f = x := by
  unfold DV.file
  rw [h, getA_put_same]
  rfl
theorem ends_calm {d : DV} (h : d.armed = 0) : endsF d = (d, false) := by unfold endsF; rw [if_pos (Or.inr h)]
theorem WriteF_calm {d : DV} (h : d.armed = 0) (f a : Int) (s : List UInt8) : WriteF d f a s = writeF d f a s := by
  simp only [WriteF, ends_calm h]
  simp
theorem begin_calm {d : DV} (h : d.armed = 0) : beginF d = d := by
  simp only [beginF, ends_calm h]
  simp
theorem Start_file (d : DV) (f : Int) : (StartF d).file f = d.file f := rfl
theorem lost_file (fs : List (Int × FileV)) (f : Int) : (getA f (fs.map fun p => (p.1, (⟨p.2.last, p.2.last⟩ : FileV)))).getD noFile = ⟨((getA f fs).getD noFile).last, ((getA f fs).getD noFile).last⟩ := by
  have := getA_map (fun v : FileV => (⟨v.last, v.last⟩ : FileV)) f fs
  rw [this]
  cases getA f fs <;> rfl
theorem crash_file {d : DV} (h : d.down = false) (keep : List Int) (f : Int) : (crashF d keep).file f = ⟨((getA f (surviveAll keep 0 d.queue d.files)).getD noFile).last, ((getA f (surviveAll keep 0 d.queue d.files)).getD noFile).last⟩ := by
  unfold crashF DV.file
  rw [h]
  exact lost_file _ _
theorem write_calm {d : DV} {f : Int} (hm : mayF d f = 0) (a : Nat) (s : List UInt8) (hfit : a + s.length ≤ 16777216) :
    ∃ d1, writeF d f a s = (d1, 0) ∧ d1.down = d.down ∧ d1.armed = d.armed ∧ d1.keep = d.keep ∧ d1.lost = d.lost ∧ (d1.file f).now = putB (d.file f).now a s ∧ (d1.file f).last = (d.file f).last := by
  unfold writeF
  rw [if_neg (by simp [hm]), if_neg (by omega), if_neg (by omega)]
  by_cases hs : s = []
  · subst hs
    exact ⟨d, by rw [if_pos rfl], rfl, rfl, rfl, rfl, (putB_nil _ _).symm, rfl⟩
  · rw [if_neg hs]
    have hx : ({ d with files := putA f ⟨putB (d.file f).now (a : Int).toNat s, (d.file f).last⟩ d.files, queue := addQ d.queue (touched f (a : Int).toNat s.length) } : DV).file f = ⟨putB (d.file f).now (a : Int).toNat s, (d.file f).last⟩ := file_put' rfl
    exact ⟨_, rfl, rfl, rfl, rfl, rfl, by rw [hx]; rfl, by rw [hx]⟩
theorem ReadF_ok {d : DV} {f : Int} (hm : mayF d f = 0) (a n : Int) (ha : 0 ≤ a) (hn : 0 ≤ n) : ReadF d f a n = (((d.file f).now.drop a.toNat).take n.toNat, 0) := by
  unfold ReadF
  rw [if_neg (by simp [hm]), if_neg (by omega)]
theorem settle_file (d : DV) (f : Int) (s : List UInt8) : (settleF d f s).file f = ⟨s, s⟩ := by
  have := DV.file_of (d := { d with files := putA f ⟨s, s⟩ d.files }) (d' := settleF d f s) rfl f
  rw [this, file_put]
theorem mayB {d : DV} {f : Int} (hd : d.down = false) (h0 : 0 ≤ f) (h1 : f < 16) : mayF d f = 0 := by
  unfold mayF
  rw [hd]
  simp
  omega
end Go.Proofs.YtjncmlglhegnaaaGreatDoor
