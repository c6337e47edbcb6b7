/- kerbsidelaw02: few, played, after, byteAt. -/
import Derived.Test.YthnechlnaacgfaaDiskA
namespace Go.Proofs.Ythnechlnaacgfaa
open Go.RowKit

def fewB (l : List ActC) : Bool := decide (∀ a ∈ l, a.few) && decide (l.length ≤ 40)
set_option maxHeartbeats 2000000 in
theorem few_any (w : World) (A : Option Addr) (n c : Nat) (l : List ActC) (hs : Sl w 5 A n (l.map ActC.cells)) (hn : n ≤ maxLen) (r : Bool) (hr : fewB l = r) :
    Calls Try.prog 9 #[.slice A n c] w fun e w' => e = .returned (.bool r) ∧ w = w' := by
  unfold maxLen at hn
  have hll : l.length = n := by simpa using hs.1
  have HS := Lib.hid hs
  have HL := Lib.hid hll
  have HR := Lib.hid hr
  clear hs hll hr
  go_enter Try.func9, Try.ntmps9
  go_wp2_with (fail)
  go_loop [3] (fun i => ∃ k : Nat, k ≤ n ∧ i = .int .i64 k ∧ ∀ a ∈ l.take k, a.few) (fun i => n - (intOf i).toNat)
  case atStart => exact ⟨0, Nat.zero_le _, rfl, by simp⟩
  case round =>
    obtain ⟨k, hk, rfl, hf⟩ := hrel
    have HF := Lib.hid hf
    clear hf
    by_cases hlt : k < n
    · obtain ⟨a, ha⟩ : ∃ a, l[k]? = some a := ⟨_, List.getElem?_eq_getElem (by rw [HL.out]; exact hlt)⟩
      obtain ⟨b, o, rfl, hbl, hcell⟩ := HS.out.2 k a.cells (by rw [List.getElem?_map, ha]; rfl)
      have c2 := hcell 2 _ rfl
      have c3 := hcell 3 _ rfl
      have c4 := hcell 4 _ rfl
      unfold strV at c3
      have hsl := strV_len a.s
      have hki : (k : Int) < (n : Int) := by omega
      have HA := Lib.hid ha
      have hyes : a.few → ∀ x ∈ l.take (k + 1), x.few := fun h x hx => by
        rw [List.take_add_one, HA.out] at hx
        simp only [List.mem_append, Option.toList_some, List.mem_singleton] at hx
        rcases hx with hx | rfl
        · exact HF.out x hx
        · exact h
      have hno : ¬ a.few → r = false := fun h => by
        rw [← HR.out, fewB]
        have : ¬ ∀ x ∈ l, x.few := fun h' => h (h' a (List.mem_of_getElem? HA.out))
        simp [this]
      have HY := Lib.hid hyes
      have HN := Lib.hid hno
      clear hcell hyes hno ha
      by_cases h1 : 300 < (a.s.length : Int)
      · obtain rfl : false = r := (HN.out (fun h => by have := h.1; omega)).symm
        go_wp2_with (fail)
        go_ret
        exact ⟨rfl, rfl⟩
      by_cases h2 : 60 < (a.keep.length : Int)
      · obtain rfl : false = r := (HN.out (fun h => by have := h.2.1; omega)).symm
        have h1' : (a.s.length : Int) ≤ 300 := by omega
        clear h1
        go_wp2_with (fail)
        go_ret
        exact ⟨rfl, rfl⟩
      by_cases h3 : 3000 < a.n
      · by_cases h4 : a.n < 16776916
        · obtain rfl : false = r := (HN.out (fun h => by have := h.2.2; omega)).symm
          have h1' : (a.s.length : Int) ≤ 300 := by omega
          have h2' : (a.keep.length : Int) ≤ 60 := by omega
          clear h1 h2
          go_wp2_with (fail)
          go_ret
          exact ⟨rfl, rfl⟩
        · have h1' : (a.s.length : Int) ≤ 300 := by omega
          have h2' : (a.keep.length : Int) ≤ 60 := by omega
          have h4' : 16776916 ≤ a.n := by omega
          have HFW : Hid a.few := ⟨by omega, by omega, by omega⟩
          clear h1 h2 h4
          go_wp2_with (fail)
          go_round
          case rel => exact ⟨k + 1, by omega, by go_num, HY.out HFW.out⟩
          case measure => simp [intOf]; omega
      · have h1' : (a.s.length : Int) ≤ 300 := by omega
        have h2' : (a.keep.length : Int) ≤ 60 := by omega
        have h3' : a.n ≤ 3000 := by omega
        have HFW : Hid a.few := ⟨by omega, by omega, by omega⟩
        clear h1 h2 h3
        go_wp2_with (fail)
        go_round
        case rel => exact ⟨k + 1, by omega, by go_num, HY.out HFW.out⟩
        case measure => simp [intOf]; omega
    · obtain rfl : k = n := by omega
      have hki : (k : Int) ≤ (k : Int) := Int.le_refl _
      go_wp2_with (fail)
      go_ret
      refine ⟨ret_bool ?_, rfl⟩
      rw [← HR.out, fewB, HL.out]
      have hf := HF.out
      rw [List.take_of_length_le (by rw [HL.out]; exact Nat.le_refl _)] at hf
      have h5 : decide (∀ a ∈ l, a.few) = true := by simpa using hf
      rw [h5]
      simp
      omega
def playF (l : List ActC) : DV := l.foldl (fun d a => (doF d a).1) newD
theorem play_ok {l : List ActC} (ho : ∀ a ∈ l, a.ok) (hf : ∀ a ∈ l, a.few) : DOk (playF l) := by
  have : ∀ (l : List ActC) (d : DV), DOk d → (∀ a ∈ l, a.ok) → (∀ a ∈ l, a.few) → DOk (l.foldl (fun d a => (doF d a).1) d) := by
    intro l
    induction l with
    | nil => intro d h _ _; exact h
    | cons a l ih =>
      intro d h ho hf
      exact ih _ (h.do_ (ho a (by simp)) (hf a (by simp)).2.1) (fun x hx => ho x (by simp [hx])) (fun x hx => hf x (by simp [hx]))
  exact this l newD DOk.new ho hf
theorem New_has (w : World) : Calls Try.prog 10 #[] w fun e w' => ∃ B, e = .returned (.pointer (some ⟨B, 0, none⟩)) ∧ Has w w' B newD :=
  (New_any w).mono fun e w' ⟨B, he, hd, hb⟩ => ⟨B, he, _, hd, DOk.new, fun k hk => hk.1, hb⟩
set_option maxHeartbeats 2000000 in
theorem played_any (w : World) (A : Option Addr) (n c : Nat) (l : List ActC) (hs : Sl w 5 A n (l.map ActC.cells)) (hn : n ≤ maxLen) (ho : ∀ a ∈ l, a.ok) (hf : ∀ a ∈ l, a.few) (hk : ActsAt w l) :
    Calls Try.prog 22 #[.slice A n c] w fun e w' => ∃ B, e = .returned (.pointer (some ⟨B, 0, none⟩)) ∧ Has w w' B (playF l) := by
  unfold maxLen at hn
  have hll : l.length = n := by simpa using hs.1
  have HS := Lib.hid hs
  have HL := Lib.hid hll
  have HO := Lib.hid ho
  have HF := Lib.hid hf
  have HK := Lib.hid hk
  clear hs hll ho hf hk
  go_enter Try.func22, Try.ntmps22
  go_wp2_with ((with_reducible refine (New_has w).mono ?_); rintro e w1 ⟨B, rfl, h1⟩; have H1 := Lib.hid h1; clear h1)
  go_loopw [4] (fun i wr => ∃ k : Nat, k ≤ n ∧ i = .int .i64 k ∧ Has w wr B (playF (l.take k))) (fun i _ => n - (intOf i).toNat)
  case atStart => exact ⟨0, Nat.zero_le _, rfl, by rw [List.take_zero]; exact H1.out⟩
  case round =>
    obtain ⟨k, hk, rfl, hh⟩ := hrel
    obtain ⟨wo, rfl⟩ : ∃ wo : World, wo = wr := ⟨_, rfl⟩
    have HH := Lib.hid hh
    clear hh
    by_cases hlt : k < n
    · obtain ⟨a, ha⟩ : ∃ a, l[k]? = some a := ⟨_, List.getElem?_eq_getElem (by rw [HL.out]; exact hlt)⟩
      obtain ⟨b, o, rfl, hbl, hcell⟩ := (HS.out.below HH.out.base).2 k a.cells (by rw [List.getElem?_map, ha]; rfl)
      have c0 := hcell 0 _ rfl
      have c1 := hcell 1 _ rfl
      have c2 := hcell 2 _ rfl
      have c3 := hcell 3 _ rfl
      have c4 := hcell 4 _ rfl
      rw [Nat.add_zero] at c0
      have hki : (k : Int) < (n : Int) := by omega
      have HA := Lib.hid ha
      have hmem := List.mem_of_getElem? ha
      have hplay : playF (l.take (k + 1)) = (doF (playF (l.take k)) a).1 := by
        rw [List.take_add_one, ha]
        simp [playF]
      have HP := Lib.hid hplay
      have hd : Calls Try.prog 12 _ wo _ := HH.out.call (d' := (doF (playF (l.take k)) a).1) (HH.out.ok.do_ (HO.out a hmem) (HF.out a hmem).2.1) (fun F mf ms Q cq K ck hd hnew => do_any hd HH.out.ok a (HO.out a hmem) (HF.out a hmem) ((HK.out a hmem).below HH.out.base) ((HK.out a hmem).far hnew))
      have HD := Lib.hid hd
      clear hd hcell ha hmem hplay
      go_wp2_with ((with_reducible refine (HD.out).mono ?_); rintro e w2 ⟨rfl, h2⟩; have H2 := Lib.hid h2; clear h2)
      go_roundw
      case rel => exact ⟨k + 1, by omega, by go_num, by rw [HP.out]; exact H2.out⟩
      case measure => simp [intOf]; omega
    · obtain rfl : k = n := by omega
      have hki : (k : Int) ≤ (k : Int) := Int.le_refl _
      have hh := HH.out
      rw [List.take_of_length_le (by rw [HL.out]; exact Nat.le_refl _)] at hh
      have HH2 := Lib.hid hh
      clear hh HH
      go_wp2_with (fail)
      go_ret
      exact ⟨_, rfl, HH2.out⟩
def afterF (d : DV) (f : Int) (keep : List Int) : List UInt8 × Bool := ((ReadF (StartF (crashF d keep)) f 0 16777216).1, decide ((ReadF (StartF (crashF d keep)) f 0 16777216).2 = 0))
def byteAtF (s : List UInt8) (i : Int) : UInt8 := if i < 0 then 0 else (s[i.toNat]?).getD 0
set_option maxHeartbeats 1000000 in
theorem byteAt_any (w : World) (s : List UInt8) (hs : s.length ≤ 140737488351232) (i : Int) (r : UInt8) (hr : byteAtF s i = r) :
    Calls Try.prog 24 #[strV s, .int .i64 i] w fun e w' => e = .returned (.int .u8 r.toNat) ∧ w = w' := by
  have hl := strV_len s
  subst hr
  unfold byteAtF strV
  by_cases h1 : i < 0
  · rw [if_pos h1]
    go_enter Try.func24, Try.ntmps24
    go_wp2_with (fail)
    go_ret
    exact ⟨rfl, rfl⟩
  · rw [if_neg h1]
    by_cases h2 : (s.length : Int) ≤ i
    · rw [List.getElem?_eq_none (by omega)]
      have h1' : 0 ≤ i := by omega
      clear h1
      go_enter Try.func24, Try.ntmps24
      go_wp2_with (fail)
      go_ret
      exact ⟨rfl, rfl⟩
    · obtain ⟨k, rfl⟩ : ∃ k : Nat, i = (k : Int) := ⟨i.toNat, by omega⟩
      have h2' : (k : Int) < (s.length : Int) := by omega
      have hk : k < s.length := by omega
      have hg : s[k]? = some s[k] := List.getElem?_eq_getElem hk
      rw [Int.toNat_natCast, hg]
      clear h1 h2
      go_enter Try.func24, Try.ntmps24
      go_wp2_with (fail)
      go_ret
      exact ⟨rfl, rfl⟩
theorem Crash_has {w0 w : World} {B : Nat} {d : DV} (h : Has w0 w B d) (keep : List Int) (A : Option Addr) (c : Nat) (hk : IntsAt w0 A keep) (hl : keep.length ≤ 60) :
    Calls Try.prog 25 #[.pointer (some ⟨B, 0, none⟩), .slice A keep.length c] w fun e w' => e = .returned (.tuple #[]) ∧ Has w0 w' B (crashF d keep) :=
  h.call (h.ok.crash keep) fun F mf ms Q cq K ck hd hn => Crash_any hd h.ok keep A c (hk.below h.base) (by omega) (hk.far hn)
theorem Start_has {w0 w : World} {B : Nat} {d : DV} (h : Has w0 w B d) :
    Calls Try.prog 26 #[.pointer (some ⟨B, 0, none⟩)] w fun e w' => e = .returned (.tuple #[]) ∧ Has w0 w' B (StartF d) :=
  h.call h.ok.Start fun F mf ms Q cq K ck hd hn => (Start_any hd).mono fun e w' ⟨he, h1, k1, _⟩ => ⟨he, F, ⟨_, _, _, _, _, _, h1⟩, Ext.same k1, kk_of hd h1 rfl⟩
theorem Read_has {w0 w : World} {B : Nat} {d : DV} (h : Has w0 w B d) (f at_ n : Int) (r : List UInt8 × Int) (hr : ReadF d f at_ n = r) :
    Calls Try.prog 20 #[.pointer (some ⟨B, 0, none⟩), .int .i64 f, .int .i64 at_, .int .i64 n] w fun e w' => e = .returned (.tuple #[strV r.1, .int .i64 r.2]) ∧ w = w' :=
  h.read fun F mf ms Q cq K ck hd => Read_any hd f at_ n r hr
theorem Size_has {w0 w : World} {B : Nat} {d : DV} (h : Has w0 w B d) (f : Int) (r : Int) (hr : r = (d.file f).now.length) :
    Calls Try.prog 16 #[.pointer (some ⟨B, 0, none⟩), .int .i64 f] w fun e w' => e = .returned (.int .i64 r) ∧ w = w' :=
  h.read fun F mf ms Q cq K ck hd => Size_any hd f r hr
theorem Down_has {w0 w : World} {B : Nat} {d : DV} (h : Has w0 w B d) (r : Bool) (hr : d.down = r) :
    Calls Try.prog 14 #[.pointer (some ⟨B, 0, none⟩)] w fun e w' => e = .returned (.bool r) ∧ w = w' := by
  subst hr
  exact h.read fun F mf ms Q cq K ck hd => Down_any hd
theorem Write_has {w0 w : World} {B : Nat} {d : DV} (h : Has w0 w B d) (f at_ : Int) (s : List UInt8) (hat : inI at_) (hs : s.length ≤ 140737488351232) :
    Calls Try.prog 29 #[.pointer (some ⟨B, 0, none⟩), .int .i64 f, .int .i64 at_, strV s] w fun e w' => e = .returned (.int .i64 (WriteF d f at_ s).2) ∧ Has w0 w' B (WriteF d f at_ s).1 :=
  h.call (h.ok.Write _ _ _) fun F mf ms Q cq K ck hd hn => Write_any hd h.ok f at_ s hat hs
theorem Sync_has {w0 w : World} {B : Nat} {d : DV} (h : Has w0 w B d) (f : Int) :
    Calls Try.prog 19 #[.pointer (some ⟨B, 0, none⟩), .int .i64 f] w fun e w' => e = .returned (.int .i64 (SyncF d f).2) ∧ Has w0 w' B (SyncF d f).1 :=
  h.call (h.ok.Sync _) fun F mf ms Q cq K ck hd hn => Sync_any hd h.ok f
theorem Trunc_has {w0 w : World} {B : Nat} {d : DV} (h : Has w0 w B d) (f n : Int) :
    Calls Try.prog 30 #[.pointer (some ⟨B, 0, none⟩), .int .i64 f, .int .i64 n] w fun e w' => e = .returned (.int .i64 (TruncF d f n).2) ∧ Has w0 w' B (TruncF d f n).1 :=
  h.call (h.ok.Trunc _ _) fun F mf ms Q cq K ck hd hn => Trunc_any hd h.ok f n
theorem Arm_has {w0 w : World} {B : Nat} {d : DV} (h : Has w0 w B d) (n : Int) (hn : inI n) (keep : List Int) (A : Option Addr) (c : Nat) (hk : IntsAt w0 A keep) (hl : keep.length ≤ 60) :
    Calls Try.prog 27 #[.pointer (some ⟨B, 0, none⟩), .int .i64 n, .slice A keep.length c] w fun e w' => e = .returned (.tuple #[]) ∧ Has w0 w' B (ArmF d n keep) :=
  h.call (h.ok.Arm n hn.2 keep (by omega)) fun F mf ms Q cq K ck hd _ => Arm_any hd n keep A c (hk.below h.base) (by omega)
theorem do_has {w0 w : World} {B : Nat} {d : DV} (h : Has w0 w B d) (a : ActC) (ha : a.ok) (hf : a.few) (hk : IntsAt w0 a.A a.keep) :
    Calls Try.prog 12 #[.pointer (some ⟨B, 0, none⟩), .agg #[.int .i64 a.do_, .int .i64 a.f, .int .i64 a.n, strV a.s, .slice a.A a.keep.length a.c]] w fun e w' => e = .returned (.int .i64 (doF d a).2) ∧ Has w0 w' B (doF d a).1 :=
  h.call (h.ok.do_ ha hf.2.1) fun F mf ms Q cq K ck hd hn => do_any hd h.ok a ha hf (hk.below h.base) (hk.far hn)
theorem Copy_has {w0 w : World} {B : Nat} {d : DV} (h : Has w0 w B d) :
    Calls Try.prog 18 #[.pointer (some ⟨B, 0, none⟩)] w fun e w' => ∃ B', e = .returned (.pointer (some ⟨B', 0, none⟩)) ∧ Two w0 w' B d B' d ∧ Has w w' B' d ∧ Below w.heap.size w w' :=
  h.read fun F mf ms Q cq K ck hd => (Copy_any hd h.ok).mono fun e w' ⟨B', he, h1, h2, h3⟩ => ⟨B', he, h.beside h2 h1 h.ok (.inr ⟨rfl, h3⟩), ⟨_, h1, h.ok, fun k hk => hk.1, h2⟩, h2⟩
set_option maxHeartbeats 1000000 in
theorem after_any {w0 w : World} {B : Nat} {d : DV} (h : Has w0 w B d) (f : Int) (keep : List Int) (A : Option Addr) (c : Nat) (hk : IntsAt w A keep) (hl : keep.length ≤ 60) (r : List UInt8 × Bool) (hr : afterF d f keep = r) :
    Calls Try.prog 23 #[.pointer (some ⟨B, 0, none⟩), .int .i64 f, .slice A keep.length c] w fun e w' => e = .returned (.tuple #[strV r.1, .bool r.2]) ∧ Below w.heap.size w w' := by
  obtain ⟨s, e2, hR⟩ : ∃ s e2, ReadF (StartF (crashF d keep)) f 0 16777216 = (s, e2) := ⟨_, _, rfl⟩
  have hr' : r = (s, decide (e2 = 0)) := by rw [← hr, afterF, hR]
  subst hr'
  have H := Lib.hid h
  have HK := Lib.hid hk
  have HR := Lib.hid hR
  clear h hk hr hR
  go_enter Try.func23, Try.ntmps23
  go_wp2_with (first
    | ((with_reducible refine (Copy_has H.out).mono ?_); rintro e w1 ⟨B', rfl, _, h1, _⟩; have H1 := Lib.hid h1; clear h1)
    | ((with_reducible refine (Crash_has H1.out keep A c HK.out hl).mono ?_); rintro e w2 ⟨rfl, h2⟩; have H2 := Lib.hid h2; clear h2)
    | ((with_reducible refine (Start_has H2.out).mono ?_); rintro e w3 ⟨rfl, h3⟩; have H3 := Lib.hid h3; clear h3)
    | ((with_reducible refine (Read_has H3.out f 0 16777216 (s, e2) HR.out).mono ?_); rintro e w4 ⟨rfl, rfl⟩))
  go_ret2
  exact ⟨rfl, H3.out.base⟩
end Go.Proofs.Ythnechlnaacgfaa
