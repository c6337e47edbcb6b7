/- kerbsidelaw02: small, same. -/
import Derived.Test.YthnechlnaacgfaaDiskB
namespace Go.Proofs.Ythnechlnaacgfaa
open Go.RowKit

theorem IntsAt.lit (w : World) (ks : List Int) (t : TypeId) : IntsAt (w.alloc (.cells (ks.map (Value.int .i64)).toArray t)) (some ⟨w.heap.size, 0, none⟩) ks := by
  refine ⟨by simp, fun i x hx => ?_⟩
  rw [List.getElem?_map] at hx
  cases hk : ks[i]? with
  | none => rw [hk] at hx; cases hx
  | some k =>
    rw [hk] at hx
    simp only [Option.map_some, Option.some.injEq] at hx
    subst hx
    refine ⟨w.heap.size, 0, rfl, by simp, fun j v hv => ?_⟩
    rw [World.cell?_alloc_new, Nat.mul_one, Nat.zero_add]
    cases j with
    | zero =>
      simp at hv
      subst hv
      simp [hk]
    | succ j => simp at hv
section
variable {w0 w : World} {B1 B2 : Nat} {d1 d2 : DV}
theorem Two.crashLit (h : Two w0 w B1 d1 B2 d2) (ks : List Int) (hl : ks.length ≤ 60) (n : Nat) (hn : ks.length = n) (X : Array Value) (hX : (ks.map (Value.int .i64)).toArray = X) (t : TypeId) (c : Nat) :
    Calls Try.prog 25 #[.pointer (some ⟨B1, 0, none⟩), .slice (some ⟨w.heap.size, 0, none⟩) n c] (w.alloc (.cells X t)) fun e w' => e = .returned (.tuple #[]) ∧ Two w0 w' B1 (crashF d1 ks) B2 d2 := by
  subst hn hX
  obtain ⟨F1, F2, a, b, ok1, ok2, e, f, g⟩ := h
  have hb := below_alloc w (.cells (ks.map (Value.int .i64)).toArray t)
  have a' := a.keeps (G' := F2) (Keeps.below hb) (fun k h => .inl h)
  have b' := b.keeps (G' := F1) (Keeps.below hb) (fun k h => .inl h)
  obtain ⟨mf, ms, Q, cq, K, ck, h1, ha⟩ := id a'
  refine (Crash_any h1 ok1 ks _ c (IntsAt.lit w ks t) (by omega) (fun _ ad he hf => ?_)).mono fun e' w' ⟨he, ht⟩ => ?_
  · injection he with he
    subst he
    have := a.lt _ hf
    simp at this
  obtain ⟨F1', h2, hE⟩ := a'.step b'.lt ht
  refine ⟨he, F1', F2, h2, b'.keeps hE.keeps hE.sup, ok1.crash ks, ok2, fun k hk => ?_, f, keeps_below (g.trans (hb.mono g.size)) hE.keeps e⟩
  rcases hE.sup k hk with h5 | h5
  · exact e k h5
  · have := g.size
    have := hb.size
    omega
theorem Two.write (h : Two w0 w B1 d1 B2 d2) (f at_ : Int) (s : List UInt8) (hat : inI at_) (hs : s.length ≤ 140737488351232) (r : DV × Int) (hr : WriteF d1 f at_ s = r) :
    Calls Try.prog 29 #[.pointer (some ⟨B1, 0, none⟩), .int .i64 f, .int .i64 at_, .string ⟨s.toArray⟩] w fun e w' => e = .returned (.int .i64 r.2) ∧ Two w0 w' B1 r.1 B2 d2 := by
  subst hr
  exact h.call (h.fst.ok.Write _ _ _) fun F mf ms Q cq K ck hd hn => Write_any hd h.fst.ok f at_ s hat hs
theorem Two.start (h : Two w0 w B1 d1 B2 d2) : Calls Try.prog 26 #[.pointer (some ⟨B1, 0, none⟩)] w fun e w' => e = .returned (.tuple #[]) ∧ Two w0 w' B1 (StartF d1) B2 d2 :=
  h.call h.fst.ok.Start fun F mf ms Q cq K ck hd hn => (Start_any hd).mono fun e w' ⟨he, h1, k1, _⟩ => ⟨he, F, ⟨_, _, _, _, _, _, h1⟩, Ext.same k1, kk_of hd h1 rfl⟩
theorem Read_str {B : Nat} {d : DV} (h : Has w0 w B d) (f at_ n : Int) (s : List UInt8) (e : Int) (hr : ReadF d f at_ n = (s, e)) :
    Calls Try.prog 20 #[.pointer (some ⟨B, 0, none⟩), .int .i64 f, .int .i64 at_, .int .i64 n] w fun e' w' => e' = .returned (.tuple #[.string ⟨s.toArray⟩, .int .i64 e]) ∧ w = w' := Read_has h f at_ n (s, e) hr
theorem Write_str {B : Nat} {d : DV} (h : Has w0 w B d) (f at_ : Int) (s : List UInt8) (hat : inI at_) (hs : s.length ≤ 140737488351232) (r : DV × Int) (hr : WriteF d f at_ s = r) :
    Calls Try.prog 29 #[.pointer (some ⟨B, 0, none⟩), .int .i64 f, .int .i64 at_, .string ⟨s.toArray⟩] w fun e w' => e = .returned (.int .i64 r.2) ∧ Has w0 w' B r.1 := by
  subst hr
  exact Write_has h f at_ s hat hs
end
def sD1 : DV := (WriteF newD 0 0 [97, 98, 99]).1
def sD2 : DV := (SyncF sD1 0).1
def sD3 : DV := (WriteF sD2 0 1 [88, 89]).1
def sD4 : DV := crashF sD3 [1]
def sD5 : DV := StartF sD4
def sC1 : DV := crashF sD3 [0]
def sC2 : DV := StartF sC1
def sC3 : DV := (WriteF sC2 1 62 [97, 98, 99, 100]).1
def sC4 : DV := crashF sC3 [0, 1]
def sC5 : DV := StartF sC4
def sC6 : DV := (WriteF sC5 16 0 []).1
theorem se1 : WriteF newD 0 0 [97, 98, 99] = (sD1, 0) := by kernel_rfl
theorem se2 : SyncF sD1 0 = (sD2, 0) := by kernel_rfl
theorem se3 : WriteF sD2 0 1 [88, 89] = (sD3, 0) := by kernel_rfl
theorem se4 : sD4.down = true := by kernel_rfl
theorem se5 : ReadF sD4 0 0 9 = ([], 8) := by kernel_rfl
theorem se6 : ReadF sD5 0 0 9 = ([97, 88, 89], 0) := by kernel_rfl
theorem se7 : ReadF sC2 0 1 9 = ([98, 99], 0) := by kernel_rfl
theorem se8 : WriteF sC2 1 62 [97, 98, 99, 100] = (sC3, 0) := by kernel_rfl
theorem se9 : ReadF sC5 1 60 100 = ([0, 0, 0, 0, 99, 100], 0) := by kernel_rfl
theorem se10 : (66 : Int) = (sC5.file 1).now.length := by kernel_rfl
theorem se11 : WriteF sC5 16 0 [] = (sC6, 1) := by kernel_rfl
theorem se12 : (WriteF sC6 1 16777216 [97]).2 = 6 := by kernel_rfl
set_option maxRecDepth 100000 in
set_option maxHeartbeats 4000000 in
theorem small_any (w : World) : Calls Try.prog 8 #[] w fun e w' => e = .returned (.bool true) ∧ Below w.heap.size w w' := by
  obtain ⟨d13, e13, h13⟩ : ∃ d e, WriteF sC6 1 16777216 [97] = (d, e) := ⟨_, _, rfl⟩
  have he13 : e13 = 6 := by rw [← se12, h13]
  subst he13
  have H13 := Lib.hid h13
  clear h13
  go_enter Try.func8, Try.ntmps8
  go_wp2_with (fail)
  ((with_reducible refine (New_has w).mono ?_); rintro e w1 ⟨B, rfl, h1⟩)
  have H1 := Lib.hid h1
  clear h1
  go_wp2_with (fail)
  ((with_reducible refine (Write_str H1.out 0 0 [97, 98, 99] (by unfold inI; omega) (by simp) _ se1).mono ?_); rintro e w2 ⟨rfl, h1⟩)
  have H2 := Lib.hid h1
  clear h1 
  have hs := Sync_has H2.out 0
  rw [se2] at hs
  have HS := Lib.hid hs
  clear hs
  go_wp2_with (fail)
  ((with_reducible refine (HS.out).mono ?_); rintro e w3 ⟨rfl, h1⟩)
  have H3 := Lib.hid h1
  clear h1 HS
  go_wp2_with (fail)
  ((with_reducible refine (Write_str H3.out 0 1 [88, 89] (by unfold inI; omega) (by simp) _ se3).mono ?_); rintro e w4 ⟨rfl, h1⟩)
  have H4 := Lib.hid h1
  clear h1 
  go_wp2_with (fail)
  ((with_reducible refine (Copy_has H4.out).mono ?_); rintro e w5 ⟨C, rfl, h1, _, _⟩)
  have H5 := Lib.hid h1
  clear h1
  go_wp2_with (fail)
  ((with_reducible refine (Two.crashLit H5.out [1] (by simp) 1 rfl #[.int .i64 1] rfl _ _).mono ?_); rintro e w6 ⟨rfl, h1⟩)
  have H6 : Hid (Two w w6 B sD4 C sD3) := h1
  clear h1
  go_wp2_with (fail)
  ((with_reducible refine (Down_has H6.out.fst true se4).mono ?_); rintro _ _ ⟨rfl, rfl⟩)
  go_wp2_with (fail)
  ((with_reducible refine (Read_str H6.out.fst 0 0 9 _ _ se5).mono ?_); rintro _ _ ⟨rfl, rfl⟩)
  go_wp2_with (fail)
  ((with_reducible refine (Two.start H6.out).mono ?_); rintro e w7 ⟨rfl, h1⟩)
  have H7 : Hid (Two w w7 B sD5 C sD3) := h1
  clear h1
  go_wp2_with (fail)
  ((with_reducible refine (Read_str H7.out.fst 0 0 9 _ _ se6).mono ?_); rintro _ _ ⟨rfl, rfl⟩)
  go_wp2_with (fail)
  ((with_reducible refine (Two.crashLit H7.out.swap [0] (by simp) 1 rfl #[.int .i64 0] rfl _ _).mono ?_); rintro e w8 ⟨rfl, h1⟩)
  have H8 : Hid (Two w w8 C sC1 B sD5) := h1
  clear h1
  go_wp2_with (fail)
  ((with_reducible refine (Two.start H8.out).mono ?_); rintro e w9 ⟨rfl, h1⟩)
  have H9 : Hid (Two w w9 C sC2 B sD5) := h1
  clear h1
  go_wp2_with (fail)
  ((with_reducible refine (Read_str H9.out.fst 0 1 9 _ _ se7).mono ?_); rintro _ _ ⟨rfl, rfl⟩)
  go_wp2_with (fail)
  ((with_reducible refine (Two.write H9.out 1 62 [97, 98, 99, 100] (by unfold inI; omega) (by simp) _ se8).mono ?_); rintro e w10 ⟨rfl, h1⟩)
  have H10 := Lib.hid h1
  clear h1
  go_wp2_with (fail)
  ((with_reducible refine (Two.crashLit H10.out [0, 1] (by simp) 2 rfl #[.int .i64 0, .int .i64 1] rfl _ _).mono ?_); rintro e w11 ⟨rfl, h1⟩)
  have H11 : Hid (Two w w11 C sC4 B sD5) := h1
  clear h1
  go_wp2_with (fail)
  ((with_reducible refine (Two.start H11.out).mono ?_); rintro e w12 ⟨rfl, h1⟩)
  have H12 : Hid (Two w w12 C sC5 B sD5) := h1
  clear h1
  go_wp2_with (fail)
  ((with_reducible refine (Read_str H12.out.fst 1 60 100 _ _ se9).mono ?_); rintro _ _ ⟨rfl, rfl⟩)
  go_wp2_with (fail)
  ((with_reducible refine (Size_has H12.out.fst 1 66 se10).mono ?_); rintro _ _ ⟨rfl, rfl⟩)
  go_wp2_with (fail)
  ((with_reducible refine (Two.write H12.out 16 0 [] (by unfold inI; omega) (by simp) _ se11).mono ?_); rintro e w13 ⟨rfl, h1⟩)
  have H13' := Lib.hid h1
  clear h1
  go_wp2_with (fail)
  ((with_reducible refine (Two.write H13'.out 1 16777216 [97] (by unfold inI; omega) (by simp) _ H13.out).mono ?_); rintro e w14 ⟨rfl, h1⟩)
  have H14 := Lib.hid h1
  clear h1
  go_wp2_with (fail)
  go_ret
  exact ⟨rfl, H14.out.fst.base⟩
end Go.Proofs.Ythnechlnaacgfaa
