/- kerbsidelaw49: begin, World's do, walked. -/
/- kerbsidelaw49: World's do, the kinds of writing, walked (written by wip/gen_devx.py). -/
/- kerbsidelaw49: World's do: handing over, and nothing, walked. -/
/- disk: plain laws: a settled file, a successful sync; without the acts. -/
import Derived.Test.YtjncmlglhegnaaaGreatDoorDevU
import Derived.Test.YtjncmlglhegnaaaGreatDoorDevO
import Derived.Test.YtjncmlglhegnaaaGreatDoorDevC
namespace Go.Proofs.YtjncmlglhegnaaaGreatDoor
open Go.RowKit Go.Sort Go.Lib

def startW (number units : Int) : WorV := ⟨newD, none, number, units, [], [], [], [], 0, []⟩
section
variable {w0 w w' : World} {Rs : List Res} {W : Nat} {v : WorV}
theorem sees_nil (B X : Nat) (Y : World) : WorI.sees ⟨B, X, ⟨none, 0, []⟩, ⟨none, 0, []⟩, ⟨none, 0, []⟩, ⟨none, 0, []⟩⟩ [] Y := by
  have h : ChAt Y none 0 [] := ⟨Sl.nil_ _ _ _, fun e he => by simp at he, fun e he => by simp at he⟩
  exact ⟨⟨h, (fun e he => by simp at he), Nat.le_refl _⟩, h, h, h⟩
set_option maxRecDepth 100000 in
set_option maxHeartbeats 4000000 in
theorem begin_any (h : Sep w0 w Rs) (hE : Env w0.heap.size w0) (number units : Int) (ho : OpenOk (startW number units)) :
    Calls Tryz.prog 41 #[.int .i64 number, .int .i64 units] w fun e w' => ∃ W, e = .returned (.pointer (some ⟨W, 0, none⟩)) ∧ Sep w0 w' (worR W (openW (startW number units)) :: Rs) := by
  have HS := Lib.hid h
  have HE := Lib.hid hE
  have HO := Lib.hid ho
  clear h hE ho
  go_enter Tryz.func41, Tryz.ntmps41
  go_wp2_with (fail)
  ((with_reducible refine (New_sep HS.out).mono ?_); rintro _ w1 ⟨B, rfl, h1⟩)
  have HS1 := Lib.hid (h1.box (worX B (.pointer none) number units (.slice none 0 0) (.slice none 0 0) (.slice none 0 0) (.slice none 0 0) 0) 73)
  clear h1
  obtain ⟨zW, kW, fW⟩ := HS1.out.loc
  go_wp2_with (fail)
  have hw : Sep w0 (w1.alloc (.cells (worX B (.pointer none) number units (.slice none 0 0) (.slice none 0 0) (.slice none 0 0) (.slice none 0 0) 0) 73)) (worR w1.heap.size (startW number units) :: Rs) := Sep.worPack ⟨B, 0, ⟨none, 0, []⟩, ⟨none, 0, []⟩, ⟨none, 0, []⟩, ⟨none, 0, []⟩⟩ ⟨rfl, rfl, rfl, rfl⟩ (HS1.out.seesNew (φ := WorI.sees ⟨B, 0, ⟨none, 0, []⟩, ⟨none, 0, []⟩, ⟨none, 0, []⟩, ⟨none, 0, []⟩⟩ []) (sees_nil B 0)).sw
  have HW := Lib.hid (wopen_any hw HE.out ⟨by simp [startW], by simp [startW]⟩ HO.out)
  clear hw zW kW fW
  ((with_reducible refine (HW.out).mono ?_); rintro _ w2 ⟨rfl, h2⟩)
  go_wp2_with (fail)
  go_ret
  exact ⟨_, rfl, h2⟩
abbrev actX (a : ActE) : Array Value := #[.int .i64 a.kind, .int .i64 a.day, .int .i64 a.n, .string ⟨a.s.toArray⟩, .slice a.A a.keep.length a.c]
set_option maxRecDepth 100000 in
set_option maxHeartbeats 16000000 in
theorem do4_any (h : Sep w0 w (worR W v :: Rs)) (a : ActE) (hk : a.kind = 4) (hn : a.n ≤ 9223372036854775807) :
    Calls Tryz.prog 43 #[.pointer (some ⟨W, 0, none⟩), .agg (actX a)] w fun e w' => e = .returned (.tuple #[]) ∧ Sep w0 w' (worR W ({ v with d := LoseF v.d a.n }) :: Rs) := by
  obtain ⟨⟨B, X, LH, LD, LL, LT⟩, hv, hq⟩ := h.worPart
  simp only [worLs] at hq
  obtain ⟨d, xo, number, units, handed, durable, last, torn, spent, ex⟩ := v
  simp only at hq
  obtain ⟨kind, day, n, s, keep, A, c⟩ := a
  simp only at hk
  subst hk
  have HV := Lib.hid hv
  have HS := Lib.hid (hq.box (actX ⟨4, day, n, s, keep, A, c⟩) 51)
  simp only [actX] at HS ⊢
  have HN := Lib.hid hn
  clear h hq hv
  go_enter Tryz.func43, Tryz.ntmps43
  go_upto_region 1 with (fail)
  generalize w.alloc (.cells #[.int .i64 4, .int .i64 day, .int .i64 n, .string ⟨s.toArray⟩, .slice A keep.length c] 51) = wA at HS ⊢
  generalize w.heap.size = gA at HS ⊢
  obtain ⟨zA, kA, fA⟩ := HS.out.loc
  obtain ⟨zW, kW, fW⟩ := HS.out.sw.loc
  go_upto_region 3 with (fail)
  go_still_tail 6, (by kernel_rfl)
  change wpList _ _ _ _ _ wA.drew
  replace HS := Lib.hid HS.out.drew
  clear zA kA fA zW kW fW
  generalize wA.drew = wz at *
  have HLO := Lib.hid (Lose_sep HS.out.r4 n HN.out _ rfl)
  go_wp2_with (fail)
  ((with_reducible refine (HLO.out).mono ?_); rintro _ w2 ⟨rfl, h2⟩)
  replace HS := Lib.hid h2.l4
  clear h2 HLO
  obtain ⟨zA, kA, fA⟩ := HS.out.loc
  obtain ⟨zW, kW, fW⟩ := HS.out.sw.loc
  cases xo with
  | none =>
    simp only [devP] at kW
    go_wp2_with (fail)
    refine bodyPost_ret (results_none rfl _ _ _) rfl ?_
    exact ⟨rfl, Sep.worPack ⟨B, X, LH, LD, LL, LT⟩ HV.out HS.out.drop⟩
  | some x =>
    simp only [devP] at kW
    go_wp2_with (fail)
    go_end0
    exact ⟨rfl, Sep.worPack ⟨B, X, LH, LD, LL, LT⟩ HV.out HS.out.drop⟩
set_option maxRecDepth 100000 in
set_option maxHeartbeats 16000000 in
theorem do5_any (h : Sep w0 w (worR W v :: Rs)) (a : ActE) (hk : a.kind = 5) (hn : a.n ≤ 9223372036854775807) (hl : a.keep.length ≤ 40) (hs : Sl w0 1 a.A a.keep.length (a.keep.map fun k => [.int .i64 k])) :
    Calls Tryz.prog 43 #[.pointer (some ⟨W, 0, none⟩), .agg (actX a)] w fun e w' => e = .returned (.tuple #[]) ∧ Sep w0 w' (worR W ({ v with d := ArmF v.d a.n a.keep }) :: Rs) := by
  obtain ⟨⟨B, X, LH, LD, LL, LT⟩, hv, hq⟩ := h.worPart
  simp only [worLs] at hq
  obtain ⟨d, xo, number, units, handed, durable, last, torn, spent, ex⟩ := v
  simp only at hq
  obtain ⟨kind, day, n, s, keep, A, c⟩ := a
  simp only at hk
  subst hk
  have HV := Lib.hid hv
  have HS := Lib.hid (hq.box (actX ⟨5, day, n, s, keep, A, c⟩) 51)
  simp only [actX] at HS ⊢
  have HN := Lib.hid hn
  have HL := Lib.hid hl
  have HK := Lib.hid hs
  clear h hq hv
  go_enter Tryz.func43, Tryz.ntmps43
  go_upto_region 1 with (fail)
  generalize w.alloc (.cells #[.int .i64 5, .int .i64 day, .int .i64 n, .string ⟨s.toArray⟩, .slice A keep.length c] 51) = wA at HS ⊢
  generalize w.heap.size = gA at HS ⊢
  obtain ⟨zA, kA, fA⟩ := HS.out.loc
  obtain ⟨zW, kW, fW⟩ := HS.out.sw.loc
  go_upto_region 5 with (fail)
  go_still_tail 8, (by kernel_rfl)
  change wpList _ _ _ _ _ wA.drew
  replace HS := Lib.hid HS.out.drew
  clear zA kA fA zW kW fW
  generalize wA.drew = wz at *
  have HLO := Lib.hid (Arm_sep HS.out.r4 n HN.out keep A c HK.out (Nat.le_trans HL.out (by decide)) _ rfl)
  go_wp2_with (fail)
  ((with_reducible refine (HLO.out).mono ?_); rintro _ w2 ⟨rfl, h2⟩)
  replace HS := Lib.hid h2.l4
  clear h2 HLO
  obtain ⟨zA, kA, fA⟩ := HS.out.loc
  obtain ⟨zW, kW, fW⟩ := HS.out.sw.loc
  cases xo with
  | none =>
    simp only [devP] at kW
    go_wp2_with (fail)
    refine bodyPost_ret (results_none rfl _ _ _) rfl ?_
    exact ⟨rfl, Sep.worPack ⟨B, X, LH, LD, LL, LT⟩ HV.out HS.out.drop⟩
  | some x =>
    simp only [devP] at kW
    go_wp2_with (fail)
    go_end0
    exact ⟨rfl, Sep.worPack ⟨B, X, LH, LD, LL, LT⟩ HV.out HS.out.drop⟩
set_option maxRecDepth 100000 in
set_option maxHeartbeats 16000000 in
theorem do7_any (h : Sep w0 w (worR W v :: Rs)) (a : ActE) (hE : Env w0.heap.size w0) (hk : a.kind = 7) (hok : OkW v) (ho : OpenOk { v with d := StartF v.d }) :
    Calls Tryz.prog 43 #[.pointer (some ⟨W, 0, none⟩), .agg (actX a)] w fun e w' => e = .returned (.tuple #[]) ∧ Sep w0 w' (worR W (openW { v with d := StartF v.d }) :: Rs) := by
  obtain ⟨⟨B, X, LH, LD, LL, LT⟩, hv, hq⟩ := h.worPart
  obtain ⟨d, xo, number, units, handed, durable, last, torn, spent, ex⟩ := v
  obtain ⟨kind, day, n, s, keep, A, c⟩ := a
  simp only at hk
  subst hk
  have HV := Lib.hid hv
  have HS := Lib.hid (hq.box (actX ⟨7, day, n, s, keep, A, c⟩) 51)
  simp only [actX, worLs, List.cons_append] at HS ⊢
  have HO := Lib.hid ho
  have HOK := Lib.hid hok
  have HE := Lib.hid hE
  clear h hq hv
  go_enter Tryz.func43, Tryz.ntmps43
  go_upto_region 1 with (fail)
  generalize w.alloc (.cells #[.int .i64 7, .int .i64 day, .int .i64 n, .string ⟨s.toArray⟩, .slice A keep.length c] 51) = wA at HS ⊢
  generalize w.heap.size = gA at HS ⊢
  obtain ⟨zA, kA, fA⟩ := HS.out.loc
  obtain ⟨zW, kW, fW⟩ := HS.out.sw.loc
  have HST := Lib.hid (Start_sep HS.out.r4 _ rfl)
  go_wp2_with (fail)
  ((with_reducible refine (HST.out).mono ?_); rintro _ w2 ⟨rfl, h2⟩)
  have HW : Hid (Sep w0 w2 (worR W ⟨StartF d, xo, number, units, handed, durable, last, torn, spent, ex⟩ :: boxR gA #[.int .i64 7, .int .i64 day, .int .i64 n, .string ⟨s.toArray⟩, .slice A keep.length c] :: Rs)) := Lib.hid (Sep.worPack ⟨B, X, LH, LD, LL, LT⟩ HV.out (h2.l4.perm (List.perm_middle (l₁ := worLs W ⟨StartF d, xo, number, units, handed, durable, last, torn, spent, ex⟩ ⟨B, X, LH, LD, LL, LT⟩) (l₂ := Rs)).symm))
  have HOP := Lib.hid (wopen_any HW.out HE.out HOK.out HO.out)
  clear h2 HST zA kA fA zW kW fW HS
  go_wp2_with (fail)
  ((with_reducible refine (HOP.out).mono ?_); rintro _ w6 ⟨rfl, h5⟩)
  clear HOP HW
  obtain ⟨⟨B2, X2, LH2, LD2, LL2, LT2⟩, hv2, hq2⟩ := Sep.worPart h5
  have HV2 := Lib.hid hv2
  have HS2 := Lib.hid hq2
  simp only [worLs, List.cons_append] at HS2
  clear h5 hv2 hq2
  obtain ⟨vO, hvO⟩ : ∃ vO, openW ⟨StartF d, xo, number, units, handed, durable, last, torn, spent, ex⟩ = vO := ⟨_, rfl⟩
  rw [hvO] at HV2 HS2
  obtain ⟨zW, kW, fW⟩ := HS2.out.loc
  have HA : Hid (Loc w6 gA #[.int .i64 7, .int .i64 day, .int .i64 n, .string ⟨s.toArray⟩, .slice A keep.length c]) := Lib.hid ((HS2.out.perm (show List.Perm _ _ from List.perm_middle (l₁ := worLs W vO ⟨B2, X2, LH2, LD2, LL2, LT2⟩) (l₂ := Rs))).loc)
  obtain ⟨zA, kA, fA⟩ := HA.out
  have HEND : Hid (Sep w0 w6 (worR W vO :: Rs)) := Lib.hid (Sep.worPack ⟨B2, X2, LH2, LD2, LL2, LT2⟩ HV2.out (HS2.out.perm (show List.Perm _ _ from List.perm_middle (l₁ := worLs W vO ⟨B2, X2, LH2, LD2, LL2, LT2⟩) (l₂ := Rs))).drop)
  cases hxo : vO.x with
  | none =>
    simp only [hxo, devP] at kW
    go_wp2_with (fail)
    refine bodyPost_ret (results_none rfl _ _ _) rfl ?_
    have hend := HEND.out
    rw [← hvO] at hend
    exact ⟨rfl, hend⟩
  | some x =>
    simp only [hxo, devP] at kW
    go_wp2_with (fail)
    go_end0
    have hend := HEND.out
    rw [← hvO] at hend
    exact ⟨rfl, hend⟩
set_option maxRecDepth 100000 in
set_option maxHeartbeats 16000000 in
theorem do6_any (h : Sep w0 w (worR W v :: Rs)) (a : ActE) (hE : Env w0.heap.size w0) (hk : a.kind = 6) (hl : a.keep.length ≤ 40) (hs : Sl w0 1 a.A a.keep.length (a.keep.map fun k => [.int .i64 k])) (hok : OkW v) (ho : OpenOk { v with d := StartF (crashF v.d a.keep) }) :
    Calls Tryz.prog 43 #[.pointer (some ⟨W, 0, none⟩), .agg (actX a)] w fun e w' => e = .returned (.tuple #[]) ∧ Sep w0 w' (worR W (openW { v with d := StartF (crashF v.d a.keep) }) :: Rs) := by
  obtain ⟨⟨B, X, LH, LD, LL, LT⟩, hv, hq⟩ := h.worPart
  obtain ⟨d, xo, number, units, handed, durable, last, torn, spent, ex⟩ := v
  obtain ⟨kind, day, n, s, keep, A, c⟩ := a
  simp only at hk
  subst hk
  have HV := Lib.hid hv
  have HS := Lib.hid (hq.box (actX ⟨6, day, n, s, keep, A, c⟩) 51)
  simp only [actX, worLs, List.cons_append] at HS ⊢
  have HO := Lib.hid ho
  have HOK := Lib.hid hok
  have HE := Lib.hid hE
  have HL := Lib.hid hl
  have HK := Lib.hid hs
  clear h hq hv
  go_enter Tryz.func43, Tryz.ntmps43
  go_upto_region 1 with (fail)
  generalize w.alloc (.cells #[.int .i64 6, .int .i64 day, .int .i64 n, .string ⟨s.toArray⟩, .slice A keep.length c] 51) = wA at HS ⊢
  generalize w.heap.size = gA at HS ⊢
  obtain ⟨zA, kA, fA⟩ := HS.out.loc
  obtain ⟨zW, kW, fW⟩ := HS.out.sw.loc
  go_upto_region 9 with (fail)
  go_still_tail 6, (by kernel_rfl)
  change wpList _ _ _ _ _ wA.drew
  replace HS := Lib.hid HS.out.drew
  clear zA kA fA zW kW fW
  generalize wA.drew = wz at *
  have HLO := Lib.hid (Crash_sep HS.out.r4 keep A c HK.out (Nat.le_trans HL.out (by decide)) _ rfl)
  go_wp2_with (fail)
  ((with_reducible refine (HLO.out).mono ?_); rintro _ w1 ⟨rfl, h1⟩)
  replace HS := Lib.hid h1.l4
  clear h1 HLO
  obtain ⟨zA, kA, fA⟩ := HS.out.loc
  obtain ⟨zW, kW, fW⟩ := HS.out.sw.loc
  have HST := Lib.hid (Start_sep HS.out.r4 _ rfl)
  go_wp2_with (fail)
  ((with_reducible refine (HST.out).mono ?_); rintro _ w2 ⟨rfl, h2⟩)
  have HW : Hid (Sep w0 w2 (worR W ⟨StartF (crashF d keep), xo, number, units, handed, durable, last, torn, spent, ex⟩ :: boxR gA #[.int .i64 6, .int .i64 day, .int .i64 n, .string ⟨s.toArray⟩, .slice A keep.length c] :: Rs)) := Lib.hid (Sep.worPack ⟨B, X, LH, LD, LL, LT⟩ HV.out (h2.l4.perm (List.perm_middle (l₁ := worLs W ⟨StartF (crashF d keep), xo, number, units, handed, durable, last, torn, spent, ex⟩ ⟨B, X, LH, LD, LL, LT⟩) (l₂ := Rs)).symm))
  have HOP := Lib.hid (wopen_any HW.out HE.out HOK.out HO.out)
  clear h2 HST zA kA fA zW kW fW HS
  go_wp2_with (fail)
  ((with_reducible refine (HOP.out).mono ?_); rintro _ w6 ⟨rfl, h5⟩)
  clear HOP HW
  obtain ⟨⟨B2, X2, LH2, LD2, LL2, LT2⟩, hv2, hq2⟩ := Sep.worPart h5
  have HV2 := Lib.hid hv2
  have HS2 := Lib.hid hq2
  simp only [worLs, List.cons_append] at HS2
  clear h5 hv2 hq2
  obtain ⟨vO, hvO⟩ : ∃ vO, openW ⟨StartF (crashF d keep), xo, number, units, handed, durable, last, torn, spent, ex⟩ = vO := ⟨_, rfl⟩
  rw [hvO] at HV2 HS2
  obtain ⟨zW, kW, fW⟩ := HS2.out.loc
  have HA : Hid (Loc w6 gA #[.int .i64 6, .int .i64 day, .int .i64 n, .string ⟨s.toArray⟩, .slice A keep.length c]) := Lib.hid ((HS2.out.perm (show List.Perm _ _ from List.perm_middle (l₁ := worLs W vO ⟨B2, X2, LH2, LD2, LL2, LT2⟩) (l₂ := Rs))).loc)
  obtain ⟨zA, kA, fA⟩ := HA.out
  have HEND : Hid (Sep w0 w6 (worR W vO :: Rs)) := Lib.hid (Sep.worPack ⟨B2, X2, LH2, LD2, LL2, LT2⟩ HV2.out (HS2.out.perm (show List.Perm _ _ from List.perm_middle (l₁ := worLs W vO ⟨B2, X2, LH2, LD2, LL2, LT2⟩) (l₂ := Rs))).drop)
  cases hxo : vO.x with
  | none =>
    simp only [hxo, devP] at kW
    go_wp2_with (fail)
    refine bodyPost_ret (results_none rfl _ _ _) rfl ?_
    have hend := HEND.out
    rw [← hvO] at hend
    exact ⟨rfl, hend⟩
  | some x =>
    simp only [hxo, devP] at kW
    go_wp2_with (fail)
    go_end0
    have hend := HEND.out
    rw [← hvO] at hend
    exact ⟨rfl, hend⟩
end
end Go.Proofs.YtjncmlglhegnaaaGreatDoor
namespace Go.Proofs.YtjncmlglhegnaaaGreatDoor
open Go.RowKit Go.Sort Go.Lib

section
variable {w0 w w' : World} {Rs : List Res} {W : Nat} {v : WorV}
theorem returnZ {B X : Nat} {d : DV} {x : DevV} (h : Sep w0 w (devR B X x :: diskR B d :: Rs)) (hE : Env w0.heap.size w0) (hok : DevOk x) (day : Int) (A : Option Addr) (hse : Sl w 1 A 8 (zed8.map intC)) (r : DV × DevV × Int) (hr : returnD d x day zed8 = r) :
    Calls Tryz.prog 31 #[.pointer (some ⟨X, 0, none⟩), .int .i64 day, .slice A 8 8] w fun e w' => e = .returned (.int .i64 r.2.2) ∧ Sep w0 w' (devR B X r.2.1 :: diskR B r.1 :: Rs) :=
  returnD_sep h hE hok day A 8 zed8 hse r hr
theorem Sep.toDev {a b c d e : Res} (h : Sep w0 w (a :: b :: c :: d :: e :: Rs)) : Sep w0 w (e :: d :: a :: b :: c :: Rs) := h.r5.r5.sw
theorem Sep.ofDev {a b c d e : Res} (h : Sep w0 w (e :: d :: a :: b :: c :: Rs)) : Sep w0 w (a :: b :: c :: d :: e :: Rs) := h.sw.r5.r5.r5
set_option maxRecDepth 100000 in
set_option maxHeartbeats 16000000 in
theorem do0_any (h : Sep w0 w (worR W v :: Rs)) (a : ActE) (x : DevV) (hx : v.x = some x) (hE : Env w0.heap.size w0) (hk : a.kind = 0) (hok : DevOk x) (ht : a.s.length ≤ 3010) (ho : WrittenOk { v with d := (writeD v.d x a.day zed8 a.s).1, x := some (writeD v.d x a.day zed8 a.s).2.1 } (writeD v.d x a.day zed8 a.s).2.1) :
    Calls Tryz.prog 43 #[.pointer (some ⟨W, 0, none⟩), .agg (actX a)] w fun e w' => e = .returned (.tuple #[]) ∧ Sep w0 w' (worR W (writtenW { v with d := (writeD v.d x a.day zed8 a.s).1, x := some (writeD v.d x a.day zed8 a.s).2.1 } (writeD v.d x a.day zed8 a.s).2.1 (writeD v.d x a.day zed8 a.s).2.2 a.day a.s false) :: Rs) := by
  obtain ⟨⟨B, X, LH, LD, LL, LT⟩, hv, hq⟩ := h.worPart
  obtain ⟨d, xo, number, units, handed, durable, last, torn, spent, ex⟩ := v
  obtain ⟨kind, day, n, s, keep, A, c⟩ := a
  simp only at hk hx
  subst hk hx
  have HV := Lib.hid hv
  have HS := Lib.hid (hq.box (actX ⟨0, day, n, s, keep, A, c⟩) 51)
  simp only [actX, worLs, List.cons_append, devO, devP, List.nil_append] at HS ⊢
  obtain ⟨⟨r1, r2, r3⟩, hr⟩ : ∃ r, writeD d x day zed8 s = r := ⟨_, rfl⟩
  simp only [hr] at ho ⊢
  have HR := Lib.hid hr
  have HO := Lib.hid ho
  have HE := Lib.hid hE
  have HOK := Lib.hid hok
  clear hr ho
  have HT := Lib.hid ht
  clear h hq hv
  go_enter Tryz.func43, Tryz.ntmps43
  go_upto_region 1 with (fail)
  generalize w.alloc (.cells #[.int .i64 0, .int .i64 day, .int .i64 n, .string ⟨s.toArray⟩, .slice A keep.length c] 51) = wA at HS ⊢
  generalize w.heap.size = gA at HS ⊢
  obtain ⟨zA, kA, fA⟩ := HS.out.loc
  obtain ⟨zW, kW, fW⟩ := HS.out.sw.loc
  go_upto_region 15 with (fail)
  refine wpTill.startN 11 (S := (fun w' => w'.cell? ⟨W, 1, none⟩ = some (.pointer (some ⟨X, 0, none⟩)) ∧ w'.cell? ⟨gA, 1, none⟩ = some (.int .i64 day) ∧ w'.cell? ⟨gA, 3, none⟩ = some (.string ⟨s.toArray⟩))) (T := fun _ => True) (m := 300) rfl (by kernel_rfl) ?_
  have HQ := Lib.hid HS.out.drew
  clear zA kA fA zW kW fW HS
  generalize wA.drew = wz at *
  refine wpTill.take (i := 0) (v := ?_) (by rfl) rfl (by kernel_rfl) (by kernel_rfl) (by kernel_rfl) (by exact fun _ _ _ h => h) ⟨HQ.out.sw.loc.cell 1, HQ.out.loc.cell 1, HQ.out.loc.cell 3⟩ (fun _ => trivial) (Or.inl ⟨by rfl, ?_⟩) ?_
  rotate_left
  · (intro w' hSw; (try dsimp only at hSw); go_simp; (try with_reducible rfl))
  (try simp only [Act.put, List.setIfInBounds_toArray, List.set_cons_zero, List.set_cons_succ, List.getElem_toArray, List.getElem_cons_zero, List.getElem_cons_succ])
  refine wpTill.take (i := 1) (v := ?_) (by rfl) rfl (by kernel_rfl) (by kernel_rfl) (by kernel_rfl) (by exact fun _ _ _ h => h) ⟨HQ.out.sw.loc.cell 1, HQ.out.loc.cell 1, HQ.out.loc.cell 3⟩ (fun _ => trivial) (Or.inl ⟨by rfl, ?_⟩) ?_
  rotate_left
  · (intro w' hSw; (try dsimp only at hSw); go_simp; (try with_reducible rfl))
  (try simp only [Act.put, List.setIfInBounds_toArray, List.set_cons_zero, List.set_cons_succ, List.getElem_toArray, List.getElem_cons_zero, List.getElem_cons_succ])
  refine wpTill.take (i := 2) (v := ?_) (by rfl) rfl (by kernel_rfl) (by kernel_rfl) (by kernel_rfl) (by exact fun _ _ _ h => h) ⟨HQ.out.sw.loc.cell 1, HQ.out.loc.cell 1, HQ.out.loc.cell 3⟩ (fun _ => trivial) (Or.inl ⟨by rfl, ?_⟩) ?_
  rotate_left
  · (intro w' hSw; (try dsimp only at hSw); go_simp; (try with_reducible rfl))
  (try simp only [Act.put, List.setIfInBounds_toArray, List.set_cons_zero, List.set_cons_succ, List.getElem_toArray, List.getElem_cons_zero, List.getElem_cons_succ])
  refine wpTill.take (i := 3) (v := ?_) (by rfl) rfl (by kernel_rfl) (by kernel_rfl) (by kernel_rfl) (by exact fun _ _ _ h => h) ⟨HQ.out.sw.loc.cell 1, HQ.out.loc.cell 1, HQ.out.loc.cell 3⟩ (fun _ => trivial) (Or.inl ⟨by rfl, ?_⟩) ?_
  rotate_left
  · (intro w' hSw; (try dsimp only at hSw); go_simp; (try with_reducible rfl))
  (try simp only [Act.put, List.setIfInBounds_toArray, List.set_cons_zero, List.set_cons_succ, List.getElem_toArray, List.getElem_cons_zero, List.getElem_cons_succ])
  refine wpTill.take (i := 4) (v := ?_) (by rfl) rfl (by kernel_rfl) (by kernel_rfl) (by kernel_rfl) (by exact fun _ _ _ h => h) ⟨HQ.out.sw.loc.cell 1, HQ.out.loc.cell 1, HQ.out.loc.cell 3⟩ (fun _ => trivial) (Or.inl ⟨by rfl, ?_⟩) ?_
  rotate_left
  · (intro w' hSw; (try dsimp only at hSw); go_simp; (try with_reducible rfl))
  (try simp only [Act.put, List.setIfInBounds_toArray, List.set_cons_zero, List.set_cons_succ, List.getElem_toArray, List.getElem_cons_zero, List.getElem_cons_succ])
  refine wpTill.take (i := 5) (v := ?_) (by rfl) rfl (by kernel_rfl) (by kernel_rfl) (by kernel_rfl) (by exact fun _ _ _ h => h) ⟨HQ.out.sw.loc.cell 1, HQ.out.loc.cell 1, HQ.out.loc.cell 3⟩ (fun _ => trivial) (Or.inl ⟨by rfl, ?_⟩) ?_
  rotate_left
  · (intro w' hSw; (try dsimp only at hSw); go_simp; (try with_reducible rfl))
  (try simp only [Act.put, List.setIfInBounds_toArray, List.set_cons_zero, List.set_cons_succ, List.getElem_toArray, List.getElem_cons_zero, List.getElem_cons_succ])
  refine wpTill.take (i := 7) (v := ?_) (by rfl) rfl (by kernel_rfl) (by kernel_rfl) (by kernel_rfl) (by exact fun _ _ _ h => h) ⟨HQ.out.sw.loc.cell 1, HQ.out.loc.cell 1, HQ.out.loc.cell 3⟩ (fun _ => trivial) (Or.inl ⟨by rfl, ?_⟩) ?_
  rotate_left
  · (intro w' hSw; (try dsimp only at hSw); go_simp; (try with_reducible rfl))
  (try simp only [Act.put, List.setIfInBounds_toArray, List.set_cons_zero, List.set_cons_succ, List.getElem_toArray, List.getElem_cons_zero, List.getElem_cons_succ])
  refine wpTill.take (i := 8) (v := ?_) (by rfl) rfl (by kernel_rfl) (by kernel_rfl) (by kernel_rfl) (by exact fun _ _ _ h => h) ⟨HQ.out.sw.loc.cell 1, HQ.out.loc.cell 1, HQ.out.loc.cell 3⟩ (fun _ => trivial) (Or.inl ⟨by rfl, ?_⟩) ?_
  rotate_left
  · (intro w' hSw; (try dsimp only at hSw); go_simp; (try with_reducible rfl))
  (try simp only [Act.put, List.setIfInBounds_toArray, List.set_cons_zero, List.set_cons_succ, List.getElem_toArray, List.getElem_cons_zero, List.getElem_cons_succ])
  refine wpTill.step (i := 6) (by kernel_rfl) (by rfl) (fun K' hK => ?_)
  replace hK := Lib.hid hK
  go_simp
  go_at_call 54
  ((with_reducible refine (none_any _).mono ?_); rintro _ wN ⟨AZ, rfl, hz, hbN⟩)
  replace HQ := Lib.hid (HQ.out.below hbN)
  have HZ := Lib.hid hz
  clear hz hbN
  refine hK.out _ _ ⟨HQ.out.sw.loc.cell 1, HQ.out.loc.cell 1, HQ.out.loc.cell 3⟩ (fun _ => trivial) ?_
  clear hK K'
  (try simp only [Act.put, List.setIfInBounds_toArray, List.set_cons_zero, List.set_cons_succ, List.getElem_toArray, List.getElem_cons_zero, List.getElem_cons_succ])
  have HWR := Lib.hid (writeZ HQ.out.toDev HE.out HOK.out day AZ HZ.out s (Nat.le_trans HT.out (by decide)) _ HR.out)
  refine wpTill.step (i := 9) (by kernel_rfl) (by rfl) (fun K' hK => ?_)
  replace hK := Lib.hid hK
  go_simp
  go_at_call 27
  ((with_reducible refine (HWR.out).mono ?_); rintro _ wV ⟨rfl, hV⟩)
  replace HQ := Lib.hid hV.ofDev
  clear hV HWR HZ
  refine hK.out _ _ ⟨HQ.out.sw.loc.cell 1, HQ.out.loc.cell 1, HQ.out.loc.cell 3⟩ (fun _ => trivial) ?_
  clear hK K'
  (try simp only [Act.put, List.setIfInBounds_toArray, List.set_cons_zero, List.set_cons_succ, List.getElem_toArray, List.getElem_cons_zero, List.getElem_cons_succ])
  refine wpTill.take (i := 10) (v := ?_) (by rfl) rfl (by kernel_rfl) (by kernel_rfl) (by kernel_rfl) (by exact fun _ _ _ h => h) ⟨HQ.out.sw.loc.cell 1, HQ.out.loc.cell 1, HQ.out.loc.cell 3⟩ (fun _ => trivial) (Or.inl ⟨by rfl, ?_⟩) ?_
  rotate_left
  · (intro w' hSw; (try dsimp only at hSw); go_simp; (try with_reducible rfl))
  (try simp only [Act.put, List.setIfInBounds_toArray, List.set_cons_zero, List.set_cons_succ, List.getElem_toArray, List.getElem_cons_zero, List.getElem_cons_succ])
  refine wpTill.stop (by kernel_rfl) ?_ _
  have HW : Hid (Sep w0 wV (worR W ⟨r1, some r2, number, units, handed, durable, last, torn, spent, ex⟩ :: boxR gA #[.int .i64 0, .int .i64 day, .int .i64 n, .string ⟨s.toArray⟩, .slice A keep.length c] :: Rs)) := Lib.hid (Sep.worPack ⟨B, X, LH, LD, LL, LT⟩ HV.out (HQ.out.perm (List.perm_middle (l₁ := worLs W ⟨r1, some r2, number, units, handed, durable, last, torn, spent, ex⟩ ⟨B, X, LH, LD, LL, LT⟩) (l₂ := Rs)).symm))
  clear HQ
  obtain ⟨zA, kA, fA⟩ := HW.out.sw.loc
  have HWN := Lib.hid (written_any HW.out r2 rfl HO.out r3 day s (Nat.le_trans HT.out (by decide)) false)
  go_wp2_with (fail)
  ((with_reducible refine (HWN.out).mono ?_); rintro _ w6 ⟨rfl, h6⟩)
  go_wp2_with (fail)
  go_end0
  exact ⟨rfl, h6.sw.drop⟩
set_option maxRecDepth 100000 in
set_option maxHeartbeats 16000000 in
theorem do2_any (h : Sep w0 w (worR W v :: Rs)) (a : ActE) (x : DevV) (hx : v.x = some x) (hE : Env w0.heap.size w0) (hk : a.kind = 2) (hok : DevOk x) (ho : WrittenOk { v with d := (returnD v.d x a.day zed8).1, x := some (returnD v.d x a.day zed8).2.1 } (returnD v.d x a.day zed8).2.1) :
    Calls Tryz.prog 43 #[.pointer (some ⟨W, 0, none⟩), .agg (actX a)] w fun e w' => e = .returned (.tuple #[]) ∧ Sep w0 w' (worR W (writtenW { v with d := (returnD v.d x a.day zed8).1, x := some (returnD v.d x a.day zed8).2.1 } (returnD v.d x a.day zed8).2.1 (returnD v.d x a.day zed8).2.2 a.day backT true) :: Rs) := by
  obtain ⟨⟨B, X, LH, LD, LL, LT⟩, hv, hq⟩ := h.worPart
  obtain ⟨d, xo, number, units, handed, durable, last, torn, spent, ex⟩ := v
  obtain ⟨kind, day, n, s, keep, A, c⟩ := a
  simp only at hk hx
  subst hk hx
  have HV := Lib.hid hv
  have HS := Lib.hid (hq.box (actX ⟨2, day, n, s, keep, A, c⟩) 51)
  simp only [actX, worLs, List.cons_append, devO, devP, List.nil_append] at HS ⊢
  obtain ⟨⟨r1, r2, r3⟩, hr⟩ : ∃ r, returnD d x day zed8 = r := ⟨_, rfl⟩
  simp only [hr] at ho ⊢
  have HR := Lib.hid hr
  have HO := Lib.hid ho
  have HE := Lib.hid hE
  have HOK := Lib.hid hok
  clear hr ho
  clear h hq hv
  go_enter Tryz.func43, Tryz.ntmps43
  go_upto_region 1 with (fail)
  generalize w.alloc (.cells #[.int .i64 2, .int .i64 day, .int .i64 n, .string ⟨s.toArray⟩, .slice A keep.length c] 51) = wA at HS ⊢
  generalize w.heap.size = gA at HS ⊢
  obtain ⟨zA, kA, fA⟩ := HS.out.loc
  obtain ⟨zW, kW, fW⟩ := HS.out.sw.loc
  go_upto_region 23 with (fail)
  refine wpTill.startN 9 (S := (fun w' => w'.cell? ⟨W, 1, none⟩ = some (.pointer (some ⟨X, 0, none⟩)) ∧ w'.cell? ⟨gA, 1, none⟩ = some (.int .i64 day))) (T := fun _ => True) (m := 300) rfl (by kernel_rfl) ?_
  have HQ := Lib.hid HS.out.drew
  clear zA kA fA zW kW fW HS
  generalize wA.drew = wz at *
  refine wpTill.take (i := 0) (v := ?_) (by rfl) rfl (by kernel_rfl) (by kernel_rfl) (by kernel_rfl) (by exact fun _ _ _ h => h) ⟨HQ.out.sw.loc.cell 1, HQ.out.loc.cell 1⟩ (fun _ => trivial) (Or.inl ⟨by rfl, ?_⟩) ?_
  rotate_left
  · (intro w' hSw; (try dsimp only at hSw); go_simp; (try with_reducible rfl))
  (try simp only [Act.put, List.setIfInBounds_toArray, List.set_cons_zero, List.set_cons_succ, List.getElem_toArray, List.getElem_cons_zero, List.getElem_cons_succ])
  refine wpTill.take (i := 1) (v := ?_) (by rfl) rfl (by kernel_rfl) (by kernel_rfl) (by kernel_rfl) (by exact fun _ _ _ h => h) ⟨HQ.out.sw.loc.cell 1, HQ.out.loc.cell 1⟩ (fun _ => trivial) (Or.inl ⟨by rfl, ?_⟩) ?_
  rotate_left
  · (intro w' hSw; (try dsimp only at hSw); go_simp; (try with_reducible rfl))
  (try simp only [Act.put, List.setIfInBounds_toArray, List.set_cons_zero, List.set_cons_succ, List.getElem_toArray, List.getElem_cons_zero, List.getElem_cons_succ])
  refine wpTill.take (i := 2) (v := ?_) (by rfl) rfl (by kernel_rfl) (by kernel_rfl) (by kernel_rfl) (by exact fun _ _ _ h => h) ⟨HQ.out.sw.loc.cell 1, HQ.out.loc.cell 1⟩ (fun _ => trivial) (Or.inl ⟨by rfl, ?_⟩) ?_
  rotate_left
  · (intro w' hSw; (try dsimp only at hSw); go_simp; (try with_reducible rfl))
  (try simp only [Act.put, List.setIfInBounds_toArray, List.set_cons_zero, List.set_cons_succ, List.getElem_toArray, List.getElem_cons_zero, List.getElem_cons_succ])
  refine wpTill.take (i := 3) (v := ?_) (by rfl) rfl (by kernel_rfl) (by kernel_rfl) (by kernel_rfl) (by exact fun _ _ _ h => h) ⟨HQ.out.sw.loc.cell 1, HQ.out.loc.cell 1⟩ (fun _ => trivial) (Or.inl ⟨by rfl, ?_⟩) ?_
  rotate_left
  · (intro w' hSw; (try dsimp only at hSw); go_simp; (try with_reducible rfl))
  (try simp only [Act.put, List.setIfInBounds_toArray, List.set_cons_zero, List.set_cons_succ, List.getElem_toArray, List.getElem_cons_zero, List.getElem_cons_succ])
  refine wpTill.take (i := 4) (v := ?_) (by rfl) rfl (by kernel_rfl) (by kernel_rfl) (by kernel_rfl) (by exact fun _ _ _ h => h) ⟨HQ.out.sw.loc.cell 1, HQ.out.loc.cell 1⟩ (fun _ => trivial) (Or.inl ⟨by rfl, ?_⟩) ?_
  rotate_left
  · (intro w' hSw; (try dsimp only at hSw); go_simp; (try with_reducible rfl))
  (try simp only [Act.put, List.setIfInBounds_toArray, List.set_cons_zero, List.set_cons_succ, List.getElem_toArray, List.getElem_cons_zero, List.getElem_cons_succ])
  refine wpTill.take (i := 5) (v := ?_) (by rfl) rfl (by kernel_rfl) (by kernel_rfl) (by kernel_rfl) (by exact fun _ _ _ h => h) ⟨HQ.out.sw.loc.cell 1, HQ.out.loc.cell 1⟩ (fun _ => trivial) (Or.inl ⟨by rfl, ?_⟩) ?_
  rotate_left
  · (intro w' hSw; (try dsimp only at hSw); go_simp; (try with_reducible rfl))
  (try simp only [Act.put, List.setIfInBounds_toArray, List.set_cons_zero, List.set_cons_succ, List.getElem_toArray, List.getElem_cons_zero, List.getElem_cons_succ])
  refine wpTill.step (i := 6) (by kernel_rfl) (by rfl) (fun K' hK => ?_)
  replace hK := Lib.hid hK
  go_simp
  go_at_call 54
  ((with_reducible refine (none_any _).mono ?_); rintro _ wN ⟨AZ, rfl, hz, hbN⟩)
  replace HQ := Lib.hid (HQ.out.below hbN)
  have HZ := Lib.hid hz
  clear hz hbN
  refine hK.out _ _ ⟨HQ.out.sw.loc.cell 1, HQ.out.loc.cell 1⟩ (fun _ => trivial) ?_
  clear hK K'
  (try simp only [Act.put, List.setIfInBounds_toArray, List.set_cons_zero, List.set_cons_succ, List.getElem_toArray, List.getElem_cons_zero, List.getElem_cons_succ])
  have HWR := Lib.hid (returnZ HQ.out.toDev HE.out HOK.out day AZ HZ.out _ HR.out)
  refine wpTill.step (i := 7) (by kernel_rfl) (by rfl) (fun K' hK => ?_)
  replace hK := Lib.hid hK
  go_simp
  go_at_call 31
  ((with_reducible refine (HWR.out).mono ?_); rintro _ wV ⟨rfl, hV⟩)
  replace HQ := Lib.hid hV.ofDev
  clear hV HWR HZ
  refine hK.out _ _ ⟨HQ.out.sw.loc.cell 1, HQ.out.loc.cell 1⟩ (fun _ => trivial) ?_
  clear hK K'
  (try simp only [Act.put, List.setIfInBounds_toArray, List.set_cons_zero, List.set_cons_succ, List.getElem_toArray, List.getElem_cons_zero, List.getElem_cons_succ])
  refine wpTill.take (i := 8) (v := ?_) (by rfl) rfl (by kernel_rfl) (by kernel_rfl) (by kernel_rfl) (by exact fun _ _ _ h => h) ⟨HQ.out.sw.loc.cell 1, HQ.out.loc.cell 1⟩ (fun _ => trivial) (Or.inl ⟨by rfl, ?_⟩) ?_
  rotate_left
  · (intro w' hSw; (try dsimp only at hSw); go_simp; (try with_reducible rfl))
  (try simp only [Act.put, List.setIfInBounds_toArray, List.set_cons_zero, List.set_cons_succ, List.getElem_toArray, List.getElem_cons_zero, List.getElem_cons_succ])
  refine wpTill.stop (by kernel_rfl) ?_ _
  have HW : Hid (Sep w0 wV (worR W ⟨r1, some r2, number, units, handed, durable, last, torn, spent, ex⟩ :: boxR gA #[.int .i64 2, .int .i64 day, .int .i64 n, .string ⟨s.toArray⟩, .slice A keep.length c] :: Rs)) := Lib.hid (Sep.worPack ⟨B, X, LH, LD, LL, LT⟩ HV.out (HQ.out.perm (List.perm_middle (l₁ := worLs W ⟨r1, some r2, number, units, handed, durable, last, torn, spent, ex⟩ ⟨B, X, LH, LD, LL, LT⟩) (l₂ := Rs)).symm))
  clear HQ
  obtain ⟨zA, kA, fA⟩ := HW.out.sw.loc
  have HWN : Hid (Calls Tryz.prog 88 #[.pointer (some ⟨W, 0, none⟩), .int .i64 r3, .int .i64 day, .string ⟨#[33, 98]⟩, .bool true] wV _) := Lib.hid (written_any HW.out r2 rfl HO.out r3 day backT (by decide) true)
  go_wp2_with (fail)
  ((with_reducible refine (HWN.out).mono ?_); rintro _ w6 ⟨rfl, h6⟩)
  go_wp2_with (fail)
  go_end0
  exact ⟨rfl, h6.sw.drop⟩
set_option maxRecDepth 100000 in
set_option maxHeartbeats 16000000 in
theorem do1_any (h : Sep w0 w (worR W v :: Rs)) (a : ActE) (x : DevV) (hx : v.x = some x) (hE : Env w0.heap.size w0) (hk : a.kind = 1) (hok : DevOk x) (hn : -9223372036854775808 ≤ a.n ∧ a.n ≤ 9223372036854775807) (hsp : (spendD v.d x a.day zed8 a.n).2.2 = 0 → IntKind.i64.wrap (v.spent + a.n) = v.spent + a.n) (ho : WrittenOk { v with d := (spendD v.d x a.day zed8 a.n).1, x := some (spendD v.d x a.day zed8 a.n).2.1 } (spendD v.d x a.day zed8 a.n).2.1) :
    Calls Tryz.prog 43 #[.pointer (some ⟨W, 0, none⟩), .agg (actX a)] w fun e w' => e = .returned (.tuple #[]) ∧ Sep w0 w' (worR W ({ writtenW { v with d := (spendD v.d x a.day zed8 a.n).1, x := some (spendD v.d x a.day zed8 a.n).2.1 } (spendD v.d x a.day zed8 a.n).2.1 (spendD v.d x a.day zed8 a.n).2.2 a.day (spendT a.n) true with spent := if (spendD v.d x a.day zed8 a.n).2.2 = 0 then v.spent + a.n else v.spent }) :: Rs) := by
  obtain ⟨⟨B, X, LH, LD, LL, LT⟩, hv, hq⟩ := h.worPart
  obtain ⟨d, xo, number, units, handed, durable, last, torn, spent, ex⟩ := v
  obtain ⟨kind, day, n, s, keep, A, c⟩ := a
  simp only at hk hx
  subst hk hx
  have HV := Lib.hid hv
  have HS := Lib.hid (hq.box (actX ⟨1, day, n, s, keep, A, c⟩) 51)
  simp only [actX, worLs, List.cons_append, devO, devP, List.nil_append] at HS ⊢
  have HN := Lib.hid hn
  obtain ⟨⟨r1, r2, r3⟩, hr⟩ : ∃ r, spendD d x day zed8 n = r := ⟨_, rfl⟩
  simp only [hr] at ho hsp ⊢
  have HR := Lib.hid hr
  have HO := Lib.hid ho
  have HE := Lib.hid hE
  have HOK := Lib.hid hok
  clear hr ho
  have HSPT := Lib.hid hsp
  clear hsp
  clear h hq hv
  go_enter Tryz.func43, Tryz.ntmps43
  go_upto_region 1 with (fail)
  generalize w.alloc (.cells #[.int .i64 1, .int .i64 day, .int .i64 n, .string ⟨s.toArray⟩, .slice A keep.length c] 51) = wA at HS ⊢
  generalize w.heap.size = gA at HS ⊢
  obtain ⟨zA, kA, fA⟩ := HS.out.loc
  obtain ⟨zW, kW, fW⟩ := HS.out.sw.loc
  go_upto_region 18 with (fail)
  refine wpTill.startN 11 (S := (fun w' => w'.cell? ⟨W, 1, none⟩ = some (.pointer (some ⟨X, 0, none⟩)) ∧ w'.cell? ⟨gA, 1, none⟩ = some (.int .i64 day) ∧ w'.cell? ⟨gA, 2, none⟩ = some (.int .i64 n))) (T := fun _ => True) (m := 300) rfl (by kernel_rfl) ?_
  have HQ := Lib.hid HS.out.drew
  clear zA kA fA zW kW fW HS
  generalize wA.drew = wz at *
  refine wpTill.take (i := 0) (v := ?_) (by rfl) rfl (by kernel_rfl) (by kernel_rfl) (by kernel_rfl) (by exact fun _ _ _ h => h) ⟨HQ.out.sw.loc.cell 1, HQ.out.loc.cell 1, HQ.out.loc.cell 2⟩ (fun _ => trivial) (Or.inl ⟨by rfl, ?_⟩) ?_
  rotate_left
  · (intro w' hSw; (try dsimp only at hSw); go_simp; (try with_reducible rfl))
  (try simp only [Act.put, List.setIfInBounds_toArray, List.set_cons_zero, List.set_cons_succ, List.getElem_toArray, List.getElem_cons_zero, List.getElem_cons_succ])
  refine wpTill.take (i := 1) (v := ?_) (by rfl) rfl (by kernel_rfl) (by kernel_rfl) (by kernel_rfl) (by exact fun _ _ _ h => h) ⟨HQ.out.sw.loc.cell 1, HQ.out.loc.cell 1, HQ.out.loc.cell 2⟩ (fun _ => trivial) (Or.inl ⟨by rfl, ?_⟩) ?_
  rotate_left
  · (intro w' hSw; (try dsimp only at hSw); go_simp; (try with_reducible rfl))
  (try simp only [Act.put, List.setIfInBounds_toArray, List.set_cons_zero, List.set_cons_succ, List.getElem_toArray, List.getElem_cons_zero, List.getElem_cons_succ])
  refine wpTill.take (i := 2) (v := ?_) (by rfl) rfl (by kernel_rfl) (by kernel_rfl) (by kernel_rfl) (by exact fun _ _ _ h => h) ⟨HQ.out.sw.loc.cell 1, HQ.out.loc.cell 1, HQ.out.loc.cell 2⟩ (fun _ => trivial) (Or.inl ⟨by rfl, ?_⟩) ?_
  rotate_left
  · (intro w' hSw; (try dsimp only at hSw); go_simp; (try with_reducible rfl))
  (try simp only [Act.put, List.setIfInBounds_toArray, List.set_cons_zero, List.set_cons_succ, List.getElem_toArray, List.getElem_cons_zero, List.getElem_cons_succ])
  refine wpTill.take (i := 3) (v := ?_) (by rfl) rfl (by kernel_rfl) (by kernel_rfl) (by kernel_rfl) (by exact fun _ _ _ h => h) ⟨HQ.out.sw.loc.cell 1, HQ.out.loc.cell 1, HQ.out.loc.cell 2⟩ (fun _ => trivial) (Or.inl ⟨by rfl, ?_⟩) ?_
  rotate_left
  · (intro w' hSw; (try dsimp only at hSw); go_simp; (try with_reducible rfl))
  (try simp only [Act.put, List.setIfInBounds_toArray, List.set_cons_zero, List.set_cons_succ, List.getElem_toArray, List.getElem_cons_zero, List.getElem_cons_succ])
  refine wpTill.take (i := 4) (v := ?_) (by rfl) rfl (by kernel_rfl) (by kernel_rfl) (by kernel_rfl) (by exact fun _ _ _ h => h) ⟨HQ.out.sw.loc.cell 1, HQ.out.loc.cell 1, HQ.out.loc.cell 2⟩ (fun _ => trivial) (Or.inl ⟨by rfl, ?_⟩) ?_
  rotate_left
  · (intro w' hSw; (try dsimp only at hSw); go_simp; (try with_reducible rfl))
  (try simp only [Act.put, List.setIfInBounds_toArray, List.set_cons_zero, List.set_cons_succ, List.getElem_toArray, List.getElem_cons_zero, List.getElem_cons_succ])
  refine wpTill.take (i := 5) (v := ?_) (by rfl) rfl (by kernel_rfl) (by kernel_rfl) (by kernel_rfl) (by exact fun _ _ _ h => h) ⟨HQ.out.sw.loc.cell 1, HQ.out.loc.cell 1, HQ.out.loc.cell 2⟩ (fun _ => trivial) (Or.inl ⟨by rfl, ?_⟩) ?_
  rotate_left
  · (intro w' hSw; (try dsimp only at hSw); go_simp; (try with_reducible rfl))
  (try simp only [Act.put, List.setIfInBounds_toArray, List.set_cons_zero, List.set_cons_succ, List.getElem_toArray, List.getElem_cons_zero, List.getElem_cons_succ])
  refine wpTill.take (i := 7) (v := ?_) (by rfl) rfl (by kernel_rfl) (by kernel_rfl) (by kernel_rfl) (by exact fun _ _ _ h => h) ⟨HQ.out.sw.loc.cell 1, HQ.out.loc.cell 1, HQ.out.loc.cell 2⟩ (fun _ => trivial) (Or.inl ⟨by rfl, ?_⟩) ?_
  rotate_left
  · (intro w' hSw; (try dsimp only at hSw); go_simp; (try with_reducible rfl))
  (try simp only [Act.put, List.setIfInBounds_toArray, List.set_cons_zero, List.set_cons_succ, List.getElem_toArray, List.getElem_cons_zero, List.getElem_cons_succ])
  refine wpTill.take (i := 8) (v := ?_) (by rfl) rfl (by kernel_rfl) (by kernel_rfl) (by kernel_rfl) (by exact fun _ _ _ h => h) ⟨HQ.out.sw.loc.cell 1, HQ.out.loc.cell 1, HQ.out.loc.cell 2⟩ (fun _ => trivial) (Or.inl ⟨by rfl, ?_⟩) ?_
  rotate_left
  · (intro w' hSw; (try dsimp only at hSw); go_simp; (try with_reducible rfl))
  (try simp only [Act.put, List.setIfInBounds_toArray, List.set_cons_zero, List.set_cons_succ, List.getElem_toArray, List.getElem_cons_zero, List.getElem_cons_succ])
  refine wpTill.step (i := 6) (by kernel_rfl) (by rfl) (fun K' hK => ?_)
  replace hK := Lib.hid hK
  go_simp
  go_at_call 54
  ((with_reducible refine (none_any _).mono ?_); rintro _ wN ⟨AZ, rfl, hz, hbN⟩)
  replace HQ := Lib.hid (HQ.out.below hbN)
  have HZ := Lib.hid hz
  clear hz hbN
  refine hK.out _ _ ⟨HQ.out.sw.loc.cell 1, HQ.out.loc.cell 1, HQ.out.loc.cell 2⟩ (fun _ => trivial) ?_
  clear hK K'
  (try simp only [Act.put, List.setIfInBounds_toArray, List.set_cons_zero, List.set_cons_succ, List.getElem_toArray, List.getElem_cons_zero, List.getElem_cons_succ])
  have HWR := Lib.hid (spendZ HQ.out.toDev HE.out HOK.out day AZ HZ.out n HN.out _ HR.out)
  refine wpTill.step (i := 9) (by kernel_rfl) (by rfl) (fun K' hK => ?_)
  replace hK := Lib.hid hK
  go_simp
  go_at_call 29
  ((with_reducible refine (HWR.out).mono ?_); rintro _ wV ⟨rfl, hV⟩)
  replace HQ := Lib.hid hV.ofDev
  clear hV HWR HZ
  refine hK.out _ _ ⟨HQ.out.sw.loc.cell 1, HQ.out.loc.cell 1, HQ.out.loc.cell 2⟩ (fun _ => trivial) ?_
  clear hK K'
  (try simp only [Act.put, List.setIfInBounds_toArray, List.set_cons_zero, List.set_cons_succ, List.getElem_toArray, List.getElem_cons_zero, List.getElem_cons_succ])
  refine wpTill.take (i := 10) (v := ?_) (by rfl) rfl (by kernel_rfl) (by kernel_rfl) (by kernel_rfl) (by exact fun _ _ _ h => h) ⟨HQ.out.sw.loc.cell 1, HQ.out.loc.cell 1, HQ.out.loc.cell 2⟩ (fun _ => trivial) (Or.inl ⟨by rfl, ?_⟩) ?_
  rotate_left
  · (intro w' hSw; (try dsimp only at hSw); go_simp; (try with_reducible rfl))
  (try simp only [Act.put, List.setIfInBounds_toArray, List.set_cons_zero, List.set_cons_succ, List.getElem_toArray, List.getElem_cons_zero, List.getElem_cons_succ])
  refine wpTill.stop (by kernel_rfl) ?_ _
  have HW : Hid (Sep w0 wV (worR W ⟨r1, some r2, number, units, handed, durable, last, torn, spent, ex⟩ :: boxR gA #[.int .i64 1, .int .i64 day, .int .i64 n, .string ⟨s.toArray⟩, .slice A keep.length c] :: Rs)) := Lib.hid (Sep.worPack ⟨B, X, LH, LD, LL, LT⟩ HV.out (HQ.out.perm (List.perm_middle (l₁ := worLs W ⟨r1, some r2, number, units, handed, durable, last, torn, spent, ex⟩ ⟨B, X, LH, LD, LL, LT⟩) (l₂ := Rs)).symm))
  clear HQ
  obtain ⟨zA, kA, fA⟩ := HW.out.sw.loc
  obtain ⟨tS, htS⟩ : ∃ t, spendT n = t := ⟨_, rfl⟩
  have HTL : Hid (tS.length ≤ 23) := Lib.hid (by
    rw [← htS]
    unfold spendT encN
    split
    · simp
    · have := encI_len (n := n) HN.out; simp; omega)
  have HST := Lib.hid (fun W => RSpendText_any W n HN.out.1 HN.out.2 tS htS)
  go_upto_region 19 with (fail)
  refine wpTill.startN 8 (S := fun w' => w'.cell? ⟨gA, 1, none⟩ = some (.int .i64 day) ∧ w'.cell? ⟨gA, 2, none⟩ = some (.int .i64 n)) (T := fun _ => True) (m := 300) rfl (by kernel_rfl) ?_
  replace HW := Lib.hid HW.out.drew
  clear zA kA fA
  generalize wV.drew = wz2 at *
  refine wpTill.take (i := 0) (v := ?_) (by rfl) rfl (by kernel_rfl) (by kernel_rfl) (by kernel_rfl) (by exact fun _ _ _ h => h) ⟨HW.out.sw.loc.cell 1, HW.out.sw.loc.cell 2⟩ (fun _ => trivial) (Or.inl ⟨by rfl, ?_⟩) ?_
  rotate_left
  · (intro w' hSw; (try dsimp only at hSw); go_simp; (try with_reducible rfl))
  (try simp only [Act.put, List.setIfInBounds_toArray, List.set_cons_zero, List.set_cons_succ, List.getElem_toArray, List.getElem_cons_zero, List.getElem_cons_succ])
  refine wpTill.take (i := 1) (v := ?_) (by rfl) rfl (by kernel_rfl) (by kernel_rfl) (by kernel_rfl) (by exact fun _ _ _ h => h) ⟨HW.out.sw.loc.cell 1, HW.out.sw.loc.cell 2⟩ (fun _ => trivial) (Or.inl ⟨by rfl, ?_⟩) ?_
  rotate_left
  · (intro w' hSw; (try dsimp only at hSw); go_simp; (try with_reducible rfl))
  (try simp only [Act.put, List.setIfInBounds_toArray, List.set_cons_zero, List.set_cons_succ, List.getElem_toArray, List.getElem_cons_zero, List.getElem_cons_succ])
  refine wpTill.take (i := 2) (v := ?_) (by rfl) rfl (by kernel_rfl) (by kernel_rfl) (by kernel_rfl) (by exact fun _ _ _ h => h) ⟨HW.out.sw.loc.cell 1, HW.out.sw.loc.cell 2⟩ (fun _ => trivial) (Or.inl ⟨by rfl, ?_⟩) ?_
  rotate_left
  · (intro w' hSw; (try dsimp only at hSw); go_simp; (try with_reducible rfl))
  (try simp only [Act.put, List.setIfInBounds_toArray, List.set_cons_zero, List.set_cons_succ, List.getElem_toArray, List.getElem_cons_zero, List.getElem_cons_succ])
  refine wpTill.take (i := 3) (v := ?_) (by rfl) rfl (by kernel_rfl) (by kernel_rfl) (by kernel_rfl) (by exact fun _ _ _ h => h) ⟨HW.out.sw.loc.cell 1, HW.out.sw.loc.cell 2⟩ (fun _ => trivial) (Or.inl ⟨by rfl, ?_⟩) ?_
  rotate_left
  · (intro w' hSw; (try dsimp only at hSw); go_simp; (try with_reducible rfl))
  (try simp only [Act.put, List.setIfInBounds_toArray, List.set_cons_zero, List.set_cons_succ, List.getElem_toArray, List.getElem_cons_zero, List.getElem_cons_succ])
  refine wpTill.take (i := 4) (v := ?_) (by rfl) rfl (by kernel_rfl) (by kernel_rfl) (by kernel_rfl) (by exact fun _ _ _ h => h) ⟨HW.out.sw.loc.cell 1, HW.out.sw.loc.cell 2⟩ (fun _ => trivial) (Or.inl ⟨by rfl, ?_⟩) ?_
  rotate_left
  · (intro w' hSw; (try dsimp only at hSw); go_simp; (try with_reducible rfl))
  (try simp only [Act.put, List.setIfInBounds_toArray, List.set_cons_zero, List.set_cons_succ, List.getElem_toArray, List.getElem_cons_zero, List.getElem_cons_succ])
  refine wpTill.take (i := 5) (v := ?_) (by rfl) rfl (by kernel_rfl) (by kernel_rfl) (by kernel_rfl) (by exact fun _ _ _ h => h) ⟨HW.out.sw.loc.cell 1, HW.out.sw.loc.cell 2⟩ (fun _ => trivial) (Or.inl ⟨by rfl, ?_⟩) ?_
  rotate_left
  · (intro w' hSw; (try dsimp only at hSw); go_simp; (try with_reducible rfl))
  (try simp only [Act.put, List.setIfInBounds_toArray, List.set_cons_zero, List.set_cons_succ, List.getElem_toArray, List.getElem_cons_zero, List.getElem_cons_succ])
  refine wpTill.step (i := 6) (by kernel_rfl) (by rfl) (fun K' hK => ?_)
  replace hK := Lib.hid hK
  go_simp
  go_at_call 13
  ((with_reducible refine (HST.out _).mono ?_); rintro _ wT ⟨rfl, hbT⟩)
  replace HW := Lib.hid (HW.out.below hbT)
  clear hbT
  refine hK.out _ _ ⟨HW.out.sw.loc.cell 1, HW.out.sw.loc.cell 2⟩ (fun _ => trivial) ?_
  clear hK K'
  (try simp only [Act.put, List.setIfInBounds_toArray, List.set_cons_zero, List.set_cons_succ, List.getElem_toArray, List.getElem_cons_zero, List.getElem_cons_succ])
  have HWN := Lib.hid (written_any HW.out r2 rfl HO.out r3 day tS (Nat.le_trans HTL.out (by decide)) true)
  refine wpTill.step (i := 7) (by kernel_rfl) (by rfl) (fun K' hK => ?_)
  replace hK := Lib.hid hK
  go_simp
  go_at_call 88
  ((with_reducible refine (HWN.out).mono ?_); rintro _ w6 ⟨rfl, h6⟩)
  have H6 := Lib.hid h6
  clear h6 HWN HW
  refine hK.out _ _ ⟨H6.out.sw.loc.cell 1, H6.out.sw.loc.cell 2⟩ (fun _ => trivial) ?_
  clear hK K'
  (try simp only [Act.put, List.setIfInBounds_toArray, List.set_cons_zero, List.set_cons_succ, List.getElem_toArray, List.getElem_cons_zero, List.getElem_cons_succ])
  refine wpTill.stop (by kernel_rfl) ?_ _
  by_cases he : r3 = 0
  · subst he
    obtain ⟨⟨B6, X6, H6h, H6d, H6l, H6t⟩, hv6, hq6⟩ := Sep.worPart H6.out
    have HV6 := Lib.hid hv6
    have HS6 := Lib.hid hq6
    simp only [worLs, List.cons_append, writtenW, devO, devP, List.nil_append] at HS6
    have HSW := Lib.hid (HSPT.out rfl)
    have HM := Lib.hid (show List.Perm _ _ from List.perm_middle (l₁ := worLs W (writtenW ⟨r1, some r2, number, units, handed, durable, last, torn, spent, ex⟩ r2 0 day tS true) ⟨B6, X6, H6h, H6d, H6l, H6t⟩) (l₂ := Rs) (a := boxR gA #[.int .i64 1, .int .i64 day, .int .i64 n, .string ⟨s.toArray⟩, .slice A keep.length c]))
    have HA6 := Lib.hid (hq6.perm HM.out).loc
    clear hv6 hq6
    obtain ⟨zW, kW, fW⟩ := HS6.out.loc
    obtain ⟨zA, kA, fA⟩ := HA6.out
    go_upto_region 21 with (fail)
    have hsw := HSW.out
    go_still_tail 10, (by kernel_rfl)
    change wpList _ _ _ _ _ w6.drew
    have HD := Lib.hid HS6.out.drew
    replace HS6 := Lib.hid (HS6.out.drew.set_ 8 (.int .i64 (spent + n)))
    have HX : Hid (Sep w0 (w6.drew.setCell ⟨W, 8, none⟩ (.int .i64 (spent + n))) (worLs W { writtenW ⟨r1, some r2, number, units, handed, durable, last, torn, spent, ex⟩ r2 0 day tS true with spent := spent + n } ⟨B6, X6, H6h, H6d, H6l, H6t⟩ ++ (boxR gA #[.int .i64 1, .int .i64 day, .int .i64 n, .string ⟨s.toArray⟩, .slice A keep.length c] :: Rs))) := Lib.hid (by simpa [worLs, writtenW, devO, devP] using HS6.out)
    have HAD := Lib.hid HA6.out.drew
    clear zW zA kA fA kW fW
    generalize w6.drew = wy at *
    obtain ⟨zW, kW, fW⟩ := HD.out.loc
    obtain ⟨zA, kA, fA⟩ := HAD.out
    go_wp2_with (fail)
    go_end0
    refine ⟨rfl, ?_⟩
    have hend := Sep.worPack (v := { writtenW ⟨r1, some r2, number, units, handed, durable, last, torn, spent, ex⟩ r2 0 day tS true with spent := spent + n }) ⟨B6, X6, H6h, H6d, H6l, H6t⟩ HV6.out (HX.out.perm (show List.Perm _ _ from List.perm_middle (l₁ := worLs W { writtenW ⟨r1, some r2, number, units, handed, durable, last, torn, spent, ex⟩ r2 0 day tS true with spent := spent + n } ⟨B6, X6, H6h, H6d, H6l, H6t⟩) (l₂ := Rs))).drop
    exact hend
  · have heb : (r3 == 0) = false := beq_eq_false_iff_ne.2 he
    go_wp2_with (fail)
    go_end0
    refine ⟨rfl, ?_⟩
    exact H6.out.sw.drop
end
end Go.Proofs.YtjncmlglhegnaaaGreatDoor
namespace Go.Proofs.YtjncmlglhegnaaaGreatDoor
open Go.RowKit Go.Sort Go.Lib

section
variable {w0 w w' : World} {Rs : List Res} {W : Nat} {v : WorV}
set_option maxRecDepth 100000 in
set_option maxHeartbeats 16000000 in
theorem doNone_any (h : Sep w0 w (worR W v :: Rs)) (a : ActE) (hx : v.x = none) (h4 : a.kind ≠ 4) (h5 : a.kind ≠ 5) (h6 : a.kind ≠ 6) (h7 : a.kind ≠ 7) :
    Calls Tryz.prog 43 #[.pointer (some ⟨W, 0, none⟩), .agg (actX a)] w fun e w' => e = .returned (.tuple #[]) ∧ Sep w0 w' (worR W v :: Rs) := by
  obtain ⟨⟨B, X, LH, LD, LL, LT⟩, hv, hq⟩ := h.worPart
  obtain ⟨d, xo, number, units, handed, durable, last, torn, spent, ex⟩ := v
  obtain ⟨kind, day, n, s, keep, A, c⟩ := a
  simp only at hx h4 h5 h6 h7
  subst hx
  have HV := Lib.hid hv
  have HS := Lib.hid (hq.box (actX ⟨kind, day, n, s, keep, A, c⟩) 51)
  simp only [actX, worLs, List.cons_append, devO, devP, List.nil_append] at HS ⊢
  have g4 : (kind == 4) = false := beq_eq_false_iff_ne.2 h4
  have g5 : (kind == 5) = false := beq_eq_false_iff_ne.2 h5
  have g6 : (kind == 6) = false := beq_eq_false_iff_ne.2 h6
  have g7 : (kind == 7) = false := beq_eq_false_iff_ne.2 h7
  clear h hq hv h4 h5 h6 h7
  go_enter Tryz.func43, Tryz.ntmps43
  obtain ⟨zA, kA, fA⟩ := HS.out.loc
  obtain ⟨zW, kW, fW⟩ := HS.out.sw.loc
  go_wp2_with (fail)
  refine bodyPost_ret (results_none rfl _ _ _) rfl ?_
  exact ⟨rfl, Sep.worPack ⟨B, X, LH, LD, LL, LT⟩ HV.out HS.out.drop⟩
set_option maxRecDepth 100000 in
set_option maxHeartbeats 16000000 in
theorem doElse_any (h : Sep w0 w (worR W v :: Rs)) (a : ActE) (x : DevV) (hx : v.x = some x) (hr : a.kind < 0 ∨ 7 < a.kind) :
    Calls Tryz.prog 43 #[.pointer (some ⟨W, 0, none⟩), .agg (actX a)] w fun e w' => e = .returned (.tuple #[]) ∧ Sep w0 w' (worR W v :: Rs) := by
  obtain ⟨⟨B, X, LH, LD, LL, LT⟩, hv, hq⟩ := h.worPart
  obtain ⟨d, xo, number, units, handed, durable, last, torn, spent, ex⟩ := v
  obtain ⟨kind, day, n, s, keep, A, c⟩ := a
  simp only at hx hr
  subst hx
  have HV := Lib.hid hv
  have HS := Lib.hid (hq.box (actX ⟨kind, day, n, s, keep, A, c⟩) 51)
  simp only [actX, worLs, List.cons_append, devO, devP, List.nil_append] at HS ⊢
  have g0 : (kind == 0) = false := beq_eq_false_iff_ne.2 (by omega)
  have g1 : (kind == 1) = false := beq_eq_false_iff_ne.2 (by omega)
  have g2 : (kind == 2) = false := beq_eq_false_iff_ne.2 (by omega)
  have g3 : (kind == 3) = false := beq_eq_false_iff_ne.2 (by omega)
  have g4 : (kind == 4) = false := beq_eq_false_iff_ne.2 (by omega)
  have g5 : (kind == 5) = false := beq_eq_false_iff_ne.2 (by omega)
  have g6 : (kind == 6) = false := beq_eq_false_iff_ne.2 (by omega)
  have g7 : (kind == 7) = false := beq_eq_false_iff_ne.2 (by omega)
  clear h hq hv hr
  go_enter Tryz.func43, Tryz.ntmps43
  obtain ⟨zA, kA, fA⟩ := HS.out.loc
  obtain ⟨zW, kW, fW⟩ := HS.out.sw.loc
  go_wp2_with (fail)
  go_end0
  exact ⟨rfl, Sep.worPack ⟨B, X, LH, LD, LL, LT⟩ HV.out HS.out.drop⟩
set_option maxRecDepth 100000 in
set_option maxHeartbeats 16000000 in
theorem do3_any (h : Sep w0 w (worR W v :: Rs)) (a : ActE) (x : DevV) (hx : v.x = some x) (hk : a.kind = 3) (hfew : x.ents.length ≤ 1000) (hrt : ∀ u ∈ x.ents, RightE u) (hpre : v.handed <+: x.ents) (hck : checkF x.ents = 0) :
    Calls Tryz.prog 43 #[.pointer (some ⟨W, 0, none⟩), .agg (actX a)] w fun e w' => e = .returned (.tuple #[]) ∧ Sep w0 w' (worR W (if (handD v.d x).2.2.1 = 0 then { v with d := (handD v.d x).1, x := some (handD v.d x).2.1, handed := x.ents, durable := x.ents } else { v with d := (handD v.d x).1, x := some (handD v.d x).2.1 }) :: Rs) := by
  obtain ⟨⟨B, X, LH, LD, LL, LT⟩, hv, hq⟩ := h.worPart
  obtain ⟨d, xo, number, units, handed, durable, last, torn, spent, ex⟩ := v
  obtain ⟨kind, day, n, s, keep, A, c⟩ := a
  simp only at hx hk hpre
  subst hx hk
  have HV := Lib.hid hv
  have HS := Lib.hid (hq.box (actX ⟨3, day, n, s, keep, A, c⟩) 51)
  simp only [actX, worLs, List.cons_append, devO, devP, List.nil_append] at HS ⊢
  have HPRE := Lib.hid hpre
  have HCK := Lib.hid hck
  have HFEW := Lib.hid hfew
  have HRT := Lib.hid hrt
  obtain ⟨⟨r1, r2, r3, r4⟩, hr⟩ : ∃ r, handD d x = r := ⟨_, rfl⟩
  have HHD := Lib.hid (Hand_sep HS.out.toDev hfew hrt _ hr)
  have hr2 : r2.ents = x.ents ∧ (r3 = 0 → r4 = x.ents) := by
    unfold handD at hr
    simp only [Prod.mk.injEq] at hr
    obtain ⟨_, h2, h3, h4⟩ := hr
    refine ⟨by rw [← h2], fun h0 => ?_⟩
    rw [← h4, if_neg (by rw [h3]; exact fun h => h h0)]
  have HR2 := Lib.hid hr2
  rw [hr]
  clear h hq hv hpre hck hr hfew hrt hr2
  go_enter Tryz.func43, Tryz.ntmps43
  go_upto_region 1 with (fail)
  generalize w.alloc (.cells #[.int .i64 3, .int .i64 day, .int .i64 n, .string ⟨s.toArray⟩, .slice A keep.length c] 51) = wA at *
  generalize hgA : w.heap.size = gA at HS HHD ⊢
  clear hgA
  obtain ⟨zA, kA, fA⟩ := HS.out.loc
  obtain ⟨zW, kW, fW⟩ := HS.out.sw.loc
  go_wp2_with (fail)
  clear zA kA fA zW kW fW HS
  ((with_reducible refine (HHD.out).mono ?_); rintro _ w2 ⟨A2, c2, fs, hfs, rfl, h2⟩)
  have HCAP := Lib.hid (own_capE h2.own).1
  have HFS := Lib.hid hfs
  have H2 := Lib.hid h2
  clear h2 hfs HHD
  by_cases h0 : r3 = 0
  case neg =>
    have hb : (r3 == 0) = false := beq_eq_false_iff_ne.2 h0
    have HX := Lib.hid H2.out.drop.drop.ofDev
    have H0 := Lib.hid h0
    clear h0
    go_wp2_with (fail)
    go_end0
    refine ⟨rfl, ?_⟩
    exact Sep.worPack ⟨B, X, LH, LD, LL, LT⟩ HV.out HX.out.drop
  subst h0
  obtain ⟨hre, hr4⟩ := HR2.out
  obtain rfl : r4 = x.ents := hr4 rfl
  have HX : Hid (Sep w0 w2 (boxR W (worX B (.pointer (some ⟨X, 0, none⟩)) number units LH.val LD.val LL.val LT.val spent) :: seesR (fun Y => WorI.sees ⟨B, X, LH, LD, LL, LT⟩ ex Y ∧ ChAt Y A2 fs.length fs) :: diskR B r1 :: devR B X r2 :: boxR gA #[.int .i64 3, .int .i64 day, .int .i64 n, .string ⟨s.toArray⟩, .slice A keep.length c] :: Rs)) := Lib.hid (by
    have h := H2.out.ownSees.seesTurn (ψ := fun Y => ChAt Y A2 fs.length fs) fun Y hY => ⟨hY.1, hY.2, fun e he => by
      have h := HRT.out e.v (by rw [← HFS.out]; exact List.mem_map.2 ⟨e, he, rfl⟩)
      have := h.len
      have := h.txt
      exact ⟨by omega, by omega⟩⟩
    exact h.r6.seesAnd.r5.perm (((List.Perm.swap _ _ _).cons _).cons _))
  clear H2
  have HFL : Hid (fs.length ≤ 1000) := Lib.hid (by rw [← vsOf_len, HFS.out]; exact HFEW.out)
  have HBG := Lib.hid (begins49_any w2 A2 LH.A fs.length LH.es.length c2 LH.c fs LH.es HX.out.sw.sees.2 HX.out.sw.sees.1.1.1 HCAP.out (by have := HFL.out; omega) (by rw [HFS.out, HV.out.1]; exact HPRE.out))
  obtain ⟨zW, kW, fW⟩ := HX.out.loc
  go_wp2_with (fail)
  clear zW kW fW
  ((with_reducible refine (HBG.out).mono ?_); rintro _ w3 ⟨rfl, hb3⟩)
  have HX3 := Lib.hid (HX.out.below hb3)
  clear hb3 HBG HX
  obtain ⟨zW, kW, fW⟩ := HX3.out.loc
  have HAL := Lib.hid (All_dev HX3.out.r4 (by rw [HR2.out.1]; exact HFEW.out) (by rw [HR2.out.1]; exact HRT.out))
  go_wp2_with (fail)
  clear zW kW fW
  ((with_reducible refine (HAL.out).mono ?_); rintro _ w4 ⟨A4, c4, gs, hgs, rfl, h4⟩)
  have hca : ChAt w4 A4 gs.length gs := ⟨h4.own.sl', h4.sw.sees, fun e he => by
    have h := HRT.out e.v (by rw [← HR2.out.1, ← hgs]; exact List.mem_map.2 ⟨e, he, rfl⟩)
    have := h.len
    have := h.txt
    exact ⟨by omega, by omega⟩⟩
  have HX4 := Lib.hid (h4.drop.drop.l4)
  have HSC := Lib.hid (SameChain_any w4 A2 A4 fs.length c2 gs.length c4 fs gs HX4.out.sw.sees.2 hca (by have := HFL.out; omega) true (decide_eq_true (by rw [hgs, HFS.out, HR2.out.1])))
  clear h4 hgs hca HX3 HAL
  obtain ⟨zW, kW, fW⟩ := HX4.out.loc
  go_wp2_with (fail)
  clear zW kW fW
  ((with_reducible refine (HSC.out).mono ?_); rintro _ w5 ⟨rfl, hb5⟩)
  have HX5 := Lib.hid (HX4.out.below hb5)
  clear hb5 HSC HX4
  have HCH := Lib.hid (Check_any w5 A2 fs.length c2 fs HX5.out.sw.sees.2 0 (by rw [HFS.out]; exact HCK.out))
  obtain ⟨zW, kW, fW⟩ := HX5.out.loc
  go_wp2_with (fail)
  clear zW kW fW
  ((with_reducible refine (HCH.out).mono ?_); rintro _ w6 ⟨rfl, hb6⟩)
  have HX6 := Lib.hid (HX5.out.below hb6)
  clear hb6 HCH HX5
  obtain ⟨zW, kW, fW⟩ := HX6.out.loc
  have HX7 : Hid (Sep w0 (((w6.setCell ⟨W, 9, none⟩ (.bool false)).setCell ⟨W, 4, none⟩ (.slice A2 fs.length c2)).setCell ⟨W, 5, none⟩ (.slice A2 fs.length c2)) (boxR W (worX B (.pointer (some ⟨X, 0, none⟩)) number units (.slice A2 fs.length c2) (.slice A2 fs.length c2) LL.val LT.val spent) :: seesR (WorI.sees ⟨B, X, ⟨A2, c2, fs⟩, ⟨A2, c2, fs⟩, LL, LT⟩ ex) :: diskR B r1 :: devR B X r2 :: Rs)) := Lib.hid (by
    have h := ((HX6.out.r5.drop.set_ 9 (.bool false)).set_ 4 (.slice A2 fs.length c2)).set_ 5 (.slice A2 fs.length c2)
    have h2 := (h.sw.seesTurn (ψ := WorI.sees ⟨B, X, ⟨A2, c2, fs⟩, ⟨A2, c2, fs⟩, LL, LT⟩ ex) fun Y hY => ⟨⟨hY.2, hY.1.1.2.1, HCAP.out⟩, hY.2, hY.1.2.2⟩).sw
    simpa using h2)
  go_wp2_with (fail)
  go_end0
  exact ⟨rfl, Sep.worPack ⟨B, X, ⟨A2, c2, fs⟩, ⟨A2, c2, fs⟩, LL, LT⟩ ⟨HFS.out, HFS.out, HV.out.2.2⟩ HX7.out⟩
end
end Go.Proofs.YtjncmlglhegnaaaGreatDoor
namespace Go.Proofs.YtjncmlglhegnaaaGreatDoor
/- a file that is settled -/
def Stb (f : Int) (X : List UInt8) (d : DV) : Prop := d.file f = ⟨X, X⟩ ∧ ∀ p ∈ d.queue, p.1 ≠ f
theorem getA_survive_ne {f : Int} {p : Int × Int} (h : p.1 ≠ f) (fs : List (Int × FileV)) : getA f (surviveF fs p) = getA f fs := by
  unfold surviveF
  dsimp only
  split
  · rfl
  · exact getA_put_ne _ (fun e => h e.symm) _
theorem getA_surviveAll_ne {f : Int} (keep : List Int) : ∀ (ps : List (Int × Int)) (i : Nat) (fs : List (Int × FileV)), (∀ p ∈ ps, p.1 ≠ f) → getA f (surviveAll keep i ps fs) = getA f fs
  | [], _, _, _ => rfl
  | p :: ps, i, fs, h => by
    unfold surviveAll
    rw [getA_surviveAll_ne keep ps (i + 1) _ (fun q hq => h q (by simp [hq]))]
    split
    · rfl
    · exact getA_survive_ne (h p (by simp)) fs
namespace Stb
variable {f : Int} {X : List UInt8} {d : DV}
theorem of (h : Stb f X d) {d' : DV} (h1 : d'.files = d.files) (h2 : d'.queue = d.queue) : Stb f X d' := ⟨by rw [DV.file_of h1]; exact h.1, by rw [h2]; exact h.2⟩
theorem crash (h : Stb f X d) (keep : List Int) : Stb f X (crashF d keep) := by
  cases hd : d.down with
  | true => rw [crashF, if_pos hd]; exact h
  | false =>
    refine ⟨?_, ?_⟩
    · rw [crash_file hd, getA_surviveAll_ne keep _ _ _ h.2]
      have := h.1
      unfold DV.file at this
      rw [this]
    · unfold crashF
      rw [if_neg (by simp [hd])]
      simp
theorem ends (h : Stb f X d) : Stb f X (endsF d).1 := by
  unfold endsF
  split
  · exact h
  · exact h.of rfl rfl
theorem begin_ (h : Stb f X d) : Stb f X (beginF d) := by
  unfold beginF
  dsimp only
  split
  · exact h.ends.crash _
  · exact h.ends
theorem write (h : Stb f X d) {g : Int} (hg : g ≠ f) (a : Int) (s : List UInt8) : Stb f X (writeF d g a s).1 := by
  unfold writeF
  split
  · exact h
  · split
    · exact h
    · split
      · exact h
      · split
        · exact h
        · refine ⟨?_, fun p hp => ?_⟩
          · have h1 : ({ d with files := putA g ⟨putB (d.file g).now a.toNat s, (d.file g).last⟩ d.files, queue := addQ d.queue (touched g a.toNat s.length) } : DV).file f = d.file f := by
              unfold DV.file
              rw [getA_put_ne _ (fun e => hg e.symm)]
            exact h1.trans h.1
          · rcases (addQ_mem _ _).1 hp with hp | hp
            · exact h.2 p hp
            · rw [(touched_mem hp).1]; exact hg
theorem settle (h : Stb f X d) {g : Int} (hg : g ≠ f) (s : List UInt8) : Stb f X (settleF d g s) := by
  refine ⟨?_, fun p hp => h.2 p (List.mem_filter.1 hp).1⟩
  have h1 : (settleF d g s).file f = d.file f := by
    unfold DV.file settleF
    rw [getA_put_ne _ (fun e => hg e.symm)]
  exact h1.trans h.1
theorem Write (h : Stb f X d) {g : Int} (hg : g ≠ f) (a : Int) (s : List UInt8) : Stb f X (WriteF d g a s).1 := by
  unfold WriteF
  dsimp only
  split
  · exact (h.ends.write hg a s).crash _
  · exact h.ends.write hg a s
theorem Sync (h : Stb f X d) {g : Int} (hg : g ≠ f) : Stb f X (SyncF d g).1 := by
  unfold SyncF
  dsimp only
  split
  · exact h.begin_
  · split
    · exact h.begin_.of rfl rfl
    · exact h.begin_.settle hg _
theorem Trunc (h : Stb f X d) {g : Int} (hg : g ≠ f) (n : Int) : Stb f X (TruncF d g n).1 := by
  unfold TruncF
  dsimp only
  split
  · exact h.begin_
  · split
    · exact h.begin_
    · exact h.begin_.settle hg _
theorem read (h : Stb f X d) (hok : DOk d) (h0 : 0 ≤ f) (h1 : f < 16) (keep : List Int) : ReadF (StartF (crashF d keep)) f 0 16777216 = (X, 0) := by
  have hc := h.crash keep
  rw [ReadF_ok (mayB rfl h0 h1) _ _ (by omega) (by omega), Start_file, hc.1]
  have := (hok.file f).1
  rw [h.1] at this
  simp only [Int.toNat_zero, List.drop_zero]
  rw [List.take_of_length_le (by simpa using this)]
end Stb
theorem crash_is_down (d : DV) (keep : List Int) : (crashF d keep).down = true := by
  unfold crashF
  split
  · assumption
  · rfl
theorem sync_ok {d : DV} {f : Int} (hok : DOk d) (h : (SyncF d f).2 = 0) :
    (0 ≤ f ∧ f < 16) ∧ ReadF d f 0 16777216 = ((d.file f).now, 0) ∧ Stb f (d.file f).now (SyncF d f).1 ∧ ReadF (SyncF d f).1 f 0 16777216 = ((d.file f).now, 0) := by
  unfold SyncF at h ⊢
  dsimp only at h ⊢
  by_cases hm : mayF (beginF d) f = 0
  · obtain ⟨hd, h0, h1⟩ := DOk.may hm
    have hb : (endsF d).2 = false := by
      cases he : (endsF d).2
      · rfl
      · have : beginF d = crashF (endsF d).1 (endsF d).1.keep := by
          unfold beginF
          simp [he]
        rw [this, crash_is_down] at hd
        cases hd
    have hbe : beginF d = (endsF d).1 := by
      unfold beginF
      simp [hb]
    have hf1 : (beginF d).files = d.files := by
      rw [hbe]
      unfold endsF
      split <;> rfl
    have hd1 : (beginF d).down = d.down := by
      rw [hbe]
      unfold endsF
      split <;> rfl
    have hfile : (beginF d).file f = d.file f := DV.file_of hf1 f
    rw [if_neg (by simp [hm])] at h ⊢
    split at h
    · cases h
    · rename_i hl
      rw [if_neg hl]
      have hlen := (hok.file f).1
      refine ⟨⟨h0, h1⟩, ?_, ⟨?_, ?_⟩, ?_⟩
      · rw [ReadF_ok (mayB (by rw [← hd1]; exact hd) h0 h1) _ _ (by omega) (by omega)]
        simp only [Int.toNat_zero, List.drop_zero]
        rw [List.take_of_length_le (by simpa using hlen)]
      · rw [hfile]; exact settle_file _ _ _
      · intro p hp
        have := (List.mem_filter.1 hp).2
        simpa using this
      · rw [ReadF_ok (mayB (d := settleF (beginF d) f ((beginF d).file f).now) hd h0 h1) _ _ (by omega) (by omega), settle_file, hfile]
        simp only [Int.toNat_zero, List.drop_zero]
        rw [List.take_of_length_le (by simpa using hlen)]
  · rw [if_pos hm] at h
    exact absurd h hm

/- two disks that are alike but for a scheduled crash -/
structure Sim (d c : DV) : Prop where
  files : d.files = c.files
  queue : d.queue = c.queue
  lost : d.lost = c.lost
  down : d.down = c.down
namespace Sim
variable {d c : DV}
theorem file (h : Sim d c) (f : Int) : d.file f = c.file f := DV.file_of h.files f
theorem may (h : Sim d c) (f : Int) : mayF d f = mayF c f := by unfold mayF; rw [h.down]
theorem write (h : Sim d c) (f a : Int) (s : List UInt8) : (writeF d f a s).2 = (writeF c f a s).2 ∧ Sim (writeF d f a s).1 (writeF c f a s).1 ∧ (writeF d f a s).1.armed = d.armed ∧ (writeF d f a s).1.keep = d.keep := by
  unfold writeF
  rw [h.may f]
  split
  · exact ⟨rfl, h, rfl, rfl⟩
  · split
    · exact ⟨rfl, h, rfl, rfl⟩
    · split
      · exact ⟨rfl, h, rfl, rfl⟩
      · split
        · exact ⟨rfl, h, rfl, rfl⟩
        · exact ⟨rfl, ⟨by show putA _ _ _ = putA _ _ _; rw [h.file f, h.files], by show addQ _ _ = addQ _ _; rw [h.queue], h.lost, h.down⟩, rfl, rfl⟩
theorem settle (h : Sim d c) (f : Int) (s : List UInt8) : Sim (settleF d f s) (settleF c f s) :=
  ⟨by show putA _ _ _ = putA _ _ _; rw [h.files], by show List.filter _ _ = List.filter _ _; rw [h.queue], h.lost, h.down⟩
theorem crash (h : Sim d c) (keep : List Int) : (crashF d keep).files = (crashF c keep).files ∧ Sim (crashF d keep) (crashF c keep) := by
  unfold crashF
  rw [h.down]
  split
  · exact ⟨h.files, h⟩
  · exact ⟨by show List.map _ _ = List.map _ _; rw [h.files, h.queue], by show List.map _ _ = List.map _ _; rw [h.files, h.queue], rfl, h.lost, rfl⟩
theorem armed (h : Sim d c) (n : Int) : Sim { d with armed := n } c := ⟨h.files, h.queue, h.lost, h.down⟩
end Sim
/-- what 'same' asks -/
def SameD (d c : DV) : Prop := d.down = c.down ∧ d.files = c.files
theorem SameD.read {d c : DV} (h : SameD d c) (f a n : Int) : ReadF d f a n = ReadF c f a n := by
  unfold ReadF mayF
  rw [h.1, DV.file_of h.2]
end Go.Proofs.YtjncmlglhegnaaaGreatDoor
