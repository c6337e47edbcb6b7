/- kerbsidelaw02: acts: do, few, played, after, byteAt, same. -/
import Derived.Test.YthnechlnaacgfaaDiskL
namespace Go.Proofs.Ythnechlnaacgfaa
open Go.RowKit

/-- an act, with where its keep list lies -/
structure ActC where
  do_ : Int
  f : Int
  n : Int
  s : List UInt8
  keep : List Int
  A : Option Addr
  c : Nat
def ActC.cells (a : ActC) : List Value := [.int .i64 a.do_, .int .i64 a.f, .int .i64 a.n, strV a.s, .slice a.A a.keep.length a.c]
def inI (x : Int) : Prop := -9223372036854775808 ≤ x ∧ x ≤ 9223372036854775807
def ActC.ok (a : ActC) : Prop := inI a.do_ ∧ inI a.f ∧ inI a.n
def ActC.few (a : ActC) : Prop := a.s.length ≤ 300 ∧ a.keep.length ≤ 60 ∧ ¬ (3000 < a.n ∧ a.n < 16776916)
instance (a : ActC) : Decidable a.few := by unfold ActC.few; exact inferInstance
/-- an int list that came in -/
abbrev IntsAt (w : World) (A : Option Addr) (ks : List Int) : Prop := Sl w 1 A ks.length (ks.map fun k => [.int .i64 k])
theorem IntsAt.below {w w' : World} {A : Option Addr} {ks : List Int} (h : IntsAt w A ks) (hb : Below w.heap.size w w') : IntsAt w' A ks := Sl.below h hb
theorem IntsAt.lt {w : World} {A : Option Addr} {ks : List Int} (h : IntsAt w A ks) (hk : ks ≠ []) : ∀ ad, A = some ad → ad.block < w.heap.size := fun ad he => by
  obtain ⟨k, r, e⟩ := List.exists_cons_of_ne_nil hk
  obtain ⟨b, o, hA, hb, _⟩ := h.2 0 [.int .i64 k] (by rw [e]; rfl)
  rw [he] at hA
  injection hA with hA
  rw [hA]
  exact hb
theorem IntsAt.far {w0 : World} {A : Option Addr} {ks : List Int} {F : Nat → Prop} (h : IntsAt w0 A ks) (hF : ∀ k, F k → w0.heap.size ≤ k) : ks ≠ [] → ∀ ad, A = some ad → ¬ F ad.block := fun hk ad he hf => by
  have := h.lt hk ad he
  have := hF _ hf
  omega
def ActsAt (w : World) (l : List ActC) : Prop := ∀ a ∈ l, IntsAt w a.A a.keep
def doF (d : DV) (a : ActC) : DV × Int :=
  if a.do_ % 8 = 2 then SyncF d a.f else if a.do_ % 8 = 3 then TruncF d a.f a.n else if a.do_ % 8 = 4 then (LoseF d (a.n % 4), 0)
  else if a.do_ % 8 = 5 then (ArmF d a.n a.keep, 0) else if a.do_ % 8 = 6 then (crashF d a.keep, 0) else if a.do_ % 8 = 7 then (StartF d, 0) else WriteF d a.f a.n a.s
theorem DOk.do_ {d : DV} (h : DOk d) {a : ActC} (ha : a.ok) (hk : a.keep.length ≤ 60) : DOk (doF d a).1 := by
  unfold doF
  split
  · exact h.Sync _
  · split
    · exact h.Trunc _ _
    · split
      · exact h.Lose _ (by omega)
      · split
        · exact h.Arm _ ha.2.2.2 _ (by omega)
        · split
          · exact h.crash _
          · split
            · exact h.Start
            · exact h.Write _ _ _
section
variable {w : World} {F : Nat → Prop} {B : Nat} {d : DV} {mf ms : Nat} {Q : Option Addr} {cq : Nat} {K : Option Addr} {ck : Nat}
theorem DskTo.alloc {o : Obj} {w' : World} {d' : DV} (h : DiskAt w F B d mf ms Q cq K ck) (ht : DskTo F (w.alloc o) B d' w') : DskTo F w B d' w' :=
  ht.from (Ext.same (Keeps.below (below_alloc w o))) (KK.below (below_alloc w o) (h.lt B h.fB))
set_option maxHeartbeats 2000000 in
theorem do_any (h : DiskAt w F B d mf ms Q cq K ck) (hok : DOk d) (a : ActC) (ha : a.ok) (hf : a.few) (hk : IntsAt w a.A a.keep) (hkf : a.keep ≠ [] → ∀ ad, a.A = some ad → ¬ F ad.block) :
    Calls Try.prog 12 #[.pointer (some ⟨B, 0, none⟩), .agg #[.int .i64 a.do_, .int .i64 a.f, .int .i64 a.n, strV a.s, .slice a.A a.keep.length a.c]] w fun e w' => e = .returned (.int .i64 (doF d a).2) ∧ DskTo F w B (doF d a).1 w' := by
  obtain ⟨do_, f, n, s, keep, A, c⟩ := a
  simp only at hk hkf ⊢
  obtain ⟨fs, fk, fn⟩ := hf
  obtain ⟨_, _, hn⟩ := ha
  simp only at fs fk hn
  unfold inI at hn
  have H := Lib.hid h
  have HO := Lib.hid hok
  have HK := Lib.hid hk
  have HKF := Lib.hid hkf
  have hb7 := and7 do_
  have HA := Lib.hid (h.below (below_alloc w (.cells #[.int .i64 do_, .int .i64 f, .int .i64 n, strV s, .slice A keep.length c] 33)))
  have HKA := Lib.hid (hk.below (below_alloc w (.cells #[.int .i64 do_, .int .i64 f, .int .i64 n, strV s, .slice A keep.length c] 33)))
  have hmod : 0 ≤ do_ % 8 ∧ do_ % 8 < 8 := by omega
  clear h hok hk hkf fn
  unfold doF
  simp only
  by_cases h2 : do_ % 8 = 2
  · rw [if_pos h2]
    rw [h2] at hb7
    clear hmod h2
    go_enter Try.func12, Try.ntmps12
    go_wp2_with ((with_reducible refine (Sync_any HA.out HO.out f).mono ?_); rintro e w1 ⟨rfl, h1⟩; have H1 := Lib.hid h1; clear h1)
    go_ret
    exact ⟨rfl, H1.out.alloc H.out⟩
  rw [if_neg h2]
  by_cases h3 : do_ % 8 = 3
  · rw [if_pos h3]
    rw [h3] at hb7
    clear hmod h2 h3
    go_enter Try.func12, Try.ntmps12
    go_wp2_with ((with_reducible refine (Trunc_any HA.out HO.out f n).mono ?_); rintro e w1 ⟨rfl, h1⟩; have H1 := Lib.hid h1; clear h1)
    go_ret
    exact ⟨rfl, H1.out.alloc H.out⟩
  rw [if_neg h3]
  by_cases h4 : do_ % 8 = 4
  · rw [if_pos h4]
    rw [h4] at hb7
    have hb3 := and3 n
    clear hmod h2 h3 h4
    go_enter Try.func12, Try.ntmps12
    go_wp2_with ((with_reducible refine (Lose_any HA.out (n % 4)).mono ?_); rintro e w1 ⟨rfl, h1, k1, z1⟩; have H1 := Lib.hid h1; have K1 := Lib.hid k1; clear h1 k1 z1)
    go_ret
    exact ⟨rfl, DskTo.alloc H.out ⟨F, ⟨_, _, _, _, _, _, H1.out⟩, Ext.same K1.out, kk_of HA.out H1.out rfl⟩⟩
  rw [if_neg h4]
  by_cases h5 : do_ % 8 = 5
  · rw [if_pos h5]
    rw [h5] at hb7
    clear hmod h2 h3 h4 h5
    go_enter Try.func12, Try.ntmps12
    go_wp2_with ((with_reducible refine (Arm_any HA.out n keep A c HKA.out (by omega)).mono ?_); rintro e w1 ⟨rfl, h1⟩; have H1 := Lib.hid h1; clear h1)
    go_ret
    exact ⟨rfl, H1.out.alloc H.out⟩
  rw [if_neg h5]
  by_cases h6 : do_ % 8 = 6
  · rw [if_pos h6]
    rw [h6] at hb7
    clear hmod h2 h3 h4 h5 h6
    go_enter Try.func12, Try.ntmps12
    go_wp2_with ((with_reducible refine (Crash_any HA.out HO.out keep A c HKA.out (by omega) HKF.out).mono ?_); rintro e w1 ⟨rfl, h1⟩; have H1 := Lib.hid h1; clear h1)
    go_ret
    exact ⟨rfl, H1.out.alloc H.out⟩
  rw [if_neg h6]
  by_cases h7 : do_ % 8 = 7
  · rw [if_pos h7]
    rw [h7] at hb7
    clear hmod h2 h3 h4 h5 h6 h7
    go_enter Try.func12, Try.ntmps12
    go_wp2_with ((with_reducible refine (Start_any HA.out).mono ?_); rintro e w1 ⟨rfl, h1, k1, z1⟩; have H1 := Lib.hid h1; have K1 := Lib.hid k1; clear h1 k1 z1)
    go_ret
    exact ⟨rfl, DskTo.alloc H.out ⟨F, ⟨_, _, _, _, _, _, H1.out⟩, Ext.same K1.out, kk_of HA.out H1.out rfl⟩⟩
  rw [if_neg h7]
  have hw : ∀ w1, DiskAt w1 F B d mf ms Q cq K ck → _ := fun w1 h1 => Write_any h1 HO.out f n s hn (by omega)
  unfold strV at hw HA
  have HW := Lib.hid hw
  unfold strV
  rcases (by omega : do_ % 8 = 0 ∨ do_ % 8 = 1) with h0 | h0
  · rw [h0] at hb7
    clear hmod h2 h3 h4 h5 h6 h7 h0 hw
    go_enter Try.func12, Try.ntmps12
    go_wp2_with ((with_reducible refine (HW.out _ HA.out).mono ?_); rintro e w1 ⟨rfl, h1⟩; have H1 := Lib.hid h1; clear h1)
    go_ret
    exact ⟨rfl, H1.out.alloc H.out⟩
  · rw [h0] at hb7
    clear hmod h2 h3 h4 h5 h6 h7 h0 hw
    go_enter Try.func12, Try.ntmps12
    go_wp2_with ((with_reducible refine (HW.out _ HA.out).mono ?_); rintro e w1 ⟨rfl, h1⟩; have H1 := Lib.hid h1; clear h1)
    go_ret
    exact ⟨rfl, H1.out.alloc H.out⟩
end
end Go.Proofs.Ythnechlnaacgfaa
