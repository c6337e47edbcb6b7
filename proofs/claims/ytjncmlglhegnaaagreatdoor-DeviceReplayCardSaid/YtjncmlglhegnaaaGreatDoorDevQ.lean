/- kerbsidelaw49: DeviceReplay, walked. -/
import Derived.Test.YtjncmlglhegnaaaGreatDoorDevO
import Derived.Test.YtjncmlglhegnaaaGreatDoorSlCut
import Derived.Test.YtjncmlglhegnaaaGreatDoorOrdL
import Derived.Deep.DeepCutAuto
namespace Go.Proofs.YtjncmlglhegnaaaGreatDoor
open Go.RowKit Go.Sort Go.Lib

theorem loan_cells {w : World} {n : Nat} {l : LoanV} (h : Loc w n #[.int .i64 l.device, .int .i64 l.units, .int .i64 l.spent, .bool l.back]) : w.cell? ⟨n, 0, none⟩ = some (.int .i64 l.device) ∧ w.cell? ⟨n, 1, none⟩ = some (.int .i64 l.units) ∧ w.cell? ⟨n, 2, none⟩ = some (.int .i64 l.spent) ∧ w.cell? ⟨n, 3, none⟩ = some (.bool l.back) := ⟨h.cell 0, h.cell 1, h.cell 2, h.cell 3⟩
set_option maxRecDepth 100000 in
set_option maxHeartbeats 32000000 in
theorem deviceReplay_any (w : World) (hE : Env w.heap.size w) (A : Option Addr) (n c : Nat) (l : List EntC) (hs : Sl w 5 A n (l.map EntC.cells)) (hc : n ≤ c) (ha : ∀ e ∈ l, EntAt w e) (loan : LoanV) (i : Int) (hi : 0 ≤ i ∧ i ≤ 255) (u : Int) (hu : -9223372036854775808 ≤ u ∧ u ≤ 9223372036854775807) :
    Calls Tryz.prog 3 #[.slice A n c, .agg (loanX loan), .int .u8 i, .int .i64 u] w fun x w' => x = .returned (.bool true) ∧ Below w.heap.size w w' := by
  have HSA := Lib.hid (fun W (hb : Below w.heap.size w W) => sane_any W ((hE.below hb).up hb.size))
  have HEV := Lib.hid (fun W (hb : Below w.heap.size w W) => (⟨hE.below hb, hb.size⟩ : Env w.heap.size W ∧ w.heap.size ≤ W.heap.size))
  have HFW : Hid (∀ W, Below w.heap.size w W → Calls Tryz.prog 9 #[.slice A n c, .int .i64 20] W (FewPost W l 20)) := Lib.hid (fun W (hb : Below w.heap.size w W) => Few_any W A n c l (hs.below hb) 20 (by omega))
  have HS := Lib.hid hs
  have HA := Lib.hid ha
  have hll : l.length = n := by simpa using hs.1
  have HL := Lib.hid hll
  have HI := Lib.hid hi
  have HC := Lib.hid hc
  have HU := Lib.hid hu
  have HS0 := Lib.hid ((Sep.start w).box (loanX loan) 24)
  simp only [loanX] at HS0 ⊢
  clear hE hs ha hll hi hc hu
  go_enter Tryz.func3, Tryz.ntmps3
  go_wp2_with (fail)
  generalize hg0 : w.heap.size = g0 at HS0 ⊢
  generalize hWA : w.alloc (.cells #[.int .i64 loan.device, .int .i64 loan.units, .int .i64 loan.spent, .bool loan.back] 24) = wA at HS0 ⊢
  clear hWA
  subst hg0
  ((with_reducible refine (HSA.out _ HS0.out.base).mono ?_); rintro _ w1 ⟨rfl, hb1⟩)
  have HS1 := Lib.hid (HS0.out.below hb1)
  clear hb1 HS0
  go_wp2_with (fail)
  ((with_reducible refine (HFW.out _ HS1.out.base).mono ?_); rintro _ w2 ⟨few, rfl, hfew, hb2⟩)
  have HS2 := Lib.hid (HS1.out.below hb2)
  have HFE := Lib.hid hfew
  clear hfew hb2 HS1
  cases few
  · go_wp2_with (fail)
    go_ret
    exact ⟨rfl, HS2.out.base⟩
  obtain ⟨hpl, hln⟩ := HFE.out rfl
  have HCH := Lib.hid (ChAt.of HS.out HA.out hpl)
  clear HFE hpl hln HS HA HFW HSA
  by_cases h20 : n ≤ 20
  case neg =>
    have h20i : 20 < (n : Int) := by omega
    clear h20
    go_wp2_with (fail)
    go_ret
    exact ⟨rfl, HS2.out.base⟩
  have h20i : ¬ 20 < (n : Int) := by omega
  have HN : Hid (n ≤ 20) := Lib.hid h20
  clear h20
  obtain ⟨⟨a, ok⟩, hr⟩ : ∃ r, replayF (textsOf (vsOf l)) loan = r := ⟨_, rfl⟩
  have HR := Lib.hid hr
  have HRP := Lib.hid (fun W (hb : Below w.heap.size w W) => Replay_any W (HEV.out W hb).1 (HEV.out W hb).2 A n c l (HCH.out.below hb) (by have := HN.out; omega) loan _ hr)
  simp only [loanX] at HRP
  clear hr
  obtain ⟨zL, kL, fL⟩ := HS2.out.loc
  go_wp2_with (fail)
  ((with_reducible refine (HRP.out _ HS2.out.base).mono ?_); rintro _ w3 ⟨rfl, hb3⟩)
  have HS3 := Lib.hid ((HS2.out.below hb3).box (loanX a) 24)
  simp only [loanX] at HS3
  clear hb3 HS2 zL kL fL
  obtain ⟨zA, kA, fA⟩ := HS3.out.loc
  cases ok
  · have ha0 : a = noLoan := by have h := replayF_no (by rw [HR.out]); rw [HR.out] at h; exact h
    subst ha0
    simp only [noLoan] at kA ⊢
    go_wp2_with (fail)
    go_ret
    exact ⟨rfl, HS3.out.base⟩
  have hR : replayF (textsOf (vsOf l)) loan = (a, true) := HR.out
  obtain ⟨hk1, hlt1, hlt2⟩ := replayF_take (i.toNat % (n + 1)) (by rw [hR] : (replayF (textsOf (vsOf l)) loan).2 = true)
  rw [hR] at hlt1 hlt2
  obtain ⟨p, hp⟩ : ∃ p : Nat, i % ((n : Int) + 1) = (p : Int) := ⟨(i % ((n : Int) + 1)).toNat, by have := Int.emod_nonneg i (b := (n : Int) + 1) (by omega); omega⟩
  have hpp : i.toNat % (n + 1) = p := by
    have hi0 := HI.out.1
    have : ((i.toNat % (n + 1) : Nat) : Int) = (p : Int) := by rw [← hp, Int.natCast_emod, Int.toNat_of_nonneg hi0]; rfl
    omega
  rw [hpp] at hk1 hlt2
  obtain ⟨⟨b, okb⟩, hrb⟩ : ∃ r, replayF ((textsOf (vsOf l)).take p) loan = r := ⟨_, rfl⟩
  rw [hrb] at hk1 hlt2
  simp only at hk1 hlt1 hlt2
  subst hk1
  have HP : Hid (p ≤ n) := Lib.hid (by have := Int.emod_lt_of_pos i (b := (n : Int) + 1) (by omega); omega)
  have HL1 := Lib.hid hlt1
  have HL2 := Lib.hid hlt2
  have hpn : (p : Int) < (n : Int) + 1 := by have := HP.out; omega
  have hp0 : (0 : Int) ≤ (p : Int) := by omega
  have hpc : (p : Int) ≤ (c : Int) := by have := HC.out; have := HP.out; omega
  have hpnn : (p : Int) ≤ (n : Int) := by have := HP.out; omega
  have hptn : ((p : Int)).toNat = p := by omega
  have hn1 : ¬ ((n : Int) + 1 = 0) := by omega
  have hpt : i.tmod ((n : Int) + 1) = (p : Int) := by rw [Int.tmod_eq_emod_of_nonneg HI.out.1]; exact hp
  have hwp : IntKind.i64.wrap (p : Int) = (p : Int) := IntWalk.i64_in _ (by have := HN.out; omega)
  have hwi : IntKind.i64.wrap i = i := IntWalk.i64_in _ (by have := HI.out; omega)
  have hwn : IntKind.i64.wrap ((n : Int) + 1) = (n : Int) + 1 := IntWalk.i64_in _ (by have := HN.out; omega)
  have HRB := Lib.hid (fun W (hb : Below w.heap.size w W) => Replay_any W (HEV.out W hb).1 (HEV.out W hb).2 A p c (l.take p) ((HCH.out.part hb ((HCH.out.below hb).sl.head HP.out |> fun h => by rwa [← List.map_take] at h) (fun x hx => List.mem_of_mem_take hx))) (by have := HN.out; have := HP.out; omega) loan (b, true) (by rw [← hrb]; unfold textsOf vsOf; rw [List.map_take, List.map_take]))
  simp only [loanX] at HRB
  clear hrb hlt1 hlt2 hpp hR
  go_upto_region 8 with (fail)
  generalize w3.alloc (.cells #[.int .i64 a.device, .int .i64 a.units, .int .i64 a.spent, .bool a.back] 24) = wB at *
  generalize w3.heap.size = gA at *
  clear zA kA fA
  go_cut [13, 14] (fun s13 s14 wy => ∃ g : Nat, s13 = .pointer (some ⟨g, 0, none⟩) ∧ s14 = .bool true ∧ Sep w wy (boxR g (loanX b) :: boxR gA (loanX a) :: boxR w.heap.size (loanX loan) :: []))
  case first =>
    refine wpTill.startN 11 (S := fun w' => w'.cell? ⟨w.heap.size, 0, none⟩ = some (.int .i64 loan.device) ∧ w'.cell? ⟨w.heap.size, 1, none⟩ = some (.int .i64 loan.units) ∧ w'.cell? ⟨w.heap.size, 2, none⟩ = some (.int .i64 loan.spent) ∧ w'.cell? ⟨w.heap.size, 3, none⟩ = some (.bool loan.back)) (T := fun _ => True) (m := 300) rfl (by kernel_rfl) ?_
    have HQ := Lib.hid HS3.out.drew
    generalize wB.drew = wz at *
  -- BEGIN R8
    refine wpTill.take (i := 0) (v := ?_) (by rfl) rfl (by kernel_rfl) (by kernel_rfl) (by kernel_rfl) (by exact fun _ _ _ h => h) (loan_cells HQ.out.drop.loc) (fun _ => trivial) (Or.inl ⟨by rfl, ?_⟩) ?_
    rotate_left
    · (intro w' hSw; (try dsimp only at hSw); go_simp; (try with_reducible rfl))
    (try simp only [Act.put, List.setIfInBounds_toArray, List.set_cons_zero, List.set_cons_succ, List.getElem_toArray, List.getElem_cons_zero, List.getElem_cons_succ])
    refine wpTill.take (i := 1) (v := ?_) (by rfl) rfl (by kernel_rfl) (by kernel_rfl) (by kernel_rfl) (by exact fun _ _ _ h => h) (loan_cells HQ.out.drop.loc) (fun _ => trivial) (Or.inl ⟨by rfl, ?_⟩) ?_
    rotate_left
    · (intro w' hSw; (try dsimp only at hSw); go_simp; (try with_reducible rfl))
    (try simp only [Act.put, List.setIfInBounds_toArray, List.set_cons_zero, List.set_cons_succ, List.getElem_toArray, List.getElem_cons_zero, List.getElem_cons_succ])
    refine wpTill.take (i := 2) (v := ?_) (by rfl) rfl (by kernel_rfl) (by kernel_rfl) (by kernel_rfl) (by exact fun _ _ _ h => h) (loan_cells HQ.out.drop.loc) (fun _ => trivial) (Or.inl ⟨by rfl, ?_⟩) ?_
    rotate_left
    · (intro w' hSw; (try dsimp only at hSw); go_simp; (try with_reducible rfl))
    (try simp only [Act.put, List.setIfInBounds_toArray, List.set_cons_zero, List.set_cons_succ, List.getElem_toArray, List.getElem_cons_zero, List.getElem_cons_succ])
    refine wpTill.take (i := 3) (v := ?_) (by rfl) rfl (by kernel_rfl) (by kernel_rfl) (by kernel_rfl) (by exact fun _ _ _ h => h) (loan_cells HQ.out.drop.loc) (fun _ => trivial) (Or.inl ⟨by rfl, ?_⟩) ?_
    rotate_left
    · (intro w' hSw; (try dsimp only at hSw); go_simp; (try with_reducible rfl))
    (try simp only [Act.put, List.setIfInBounds_toArray, List.set_cons_zero, List.set_cons_succ, List.getElem_toArray, List.getElem_cons_zero, List.getElem_cons_succ])
    refine wpTill.step2 (i := 4) (j := 8) (by kernel_rfl) (by rfl) (by rfl) (fun K' hK => ?_) (fun K' hK => ?_)
    rotate_left
    · skip
      replace hK := Lib.hid hK
      go_simp
      replace HQ := Lib.hid ((HQ.out.box #[.int .i64 0, .int .i64 0, .int .i64 0, .bool false] 24))
      refine hK.out _ _ (loan_cells HQ.out.drop.drop.loc) (fun _ => trivial) ?_
      clear hK K'
      (try simp only [Act.put, List.setIfInBounds_toArray, List.set_cons_zero, List.set_cons_succ, List.getElem_toArray, List.getElem_cons_zero, List.getElem_cons_succ])
      generalize wz.alloc (.cells #[.int .i64 0, .int .i64 0, .int .i64 0, .bool false] 24) = wX at *
      generalize wz.heap.size = gX at *
      refine wpTill.step (i := 4) (by kernel_rfl) (by rfl) (fun K' hK => ?_)
      replace hK := Lib.hid hK
      go_simp
      go_at_call 10
      ((with_reducible refine (HRB.out _ HQ.out.base).mono ?_); rintro _ wN ⟨rfl, hbN⟩)
      replace HQ := Lib.hid (HQ.out.below hbN)
      clear hbN
      refine hK.out _ _ (loan_cells HQ.out.drop.drop.loc) (fun _ => trivial) ?_
      clear hK K'
      (try simp only [Act.put, List.setIfInBounds_toArray, List.set_cons_zero, List.set_cons_succ, List.getElem_toArray, List.getElem_cons_zero, List.getElem_cons_succ])
      refine wpTill.take (i := 5) (v := ?_) (by rfl) rfl (by kernel_rfl) (by kernel_rfl) (by kernel_rfl) (by exact fun _ _ _ h => h) (loan_cells HQ.out.drop.drop.loc) (fun _ => trivial) (Or.inl ⟨by rfl, ?_⟩) ?_
      rotate_left
      · (intro w' hSw; (try dsimp only at hSw); go_simp; (try with_reducible rfl))
      (try simp only [Act.put, List.setIfInBounds_toArray, List.set_cons_zero, List.set_cons_succ, List.getElem_toArray, List.getElem_cons_zero, List.getElem_cons_succ])
      refine wpTill.take (i := 6) (v := ?_) (by rfl) rfl (by kernel_rfl) (by kernel_rfl) (by kernel_rfl) (by exact fun _ _ _ h => h) (loan_cells HQ.out.drop.drop.loc) (fun _ => trivial) (Or.inl ⟨by rfl, ?_⟩) ?_
      rotate_left
      · (intro w' hSw; (try dsimp only at hSw); go_simp; (try with_reducible rfl))
      (try simp only [Act.put, List.setIfInBounds_toArray, List.set_cons_zero, List.set_cons_succ, List.getElem_toArray, List.getElem_cons_zero, List.getElem_cons_succ])
      refine wpTill.take (i := 7) (v := ?_) (by rfl) rfl (by kernel_rfl) (by kernel_rfl) (by kernel_rfl) (by exact fun _ _ _ h => h) (loan_cells HQ.out.drop.drop.loc) (fun _ => trivial) (Or.inl ⟨by rfl, ?_⟩) ?_
      rotate_left
      · (intro w' hSw; (try dsimp only at hSw); go_simp; (try with_reducible rfl))
      (try simp only [Act.put, List.setIfInBounds_toArray, List.set_cons_zero, List.set_cons_succ, List.getElem_toArray, List.getElem_cons_zero, List.getElem_cons_succ])
      obtain ⟨zE, kE, fE⟩ := HQ.out.loc
      refine wpTill.step (i := 9) (by kernel_rfl) (by rfl) (fun K' hK => ?_)
      replace hK := Lib.hid hK
      go_simp
      replace HQ := Lib.hid (HQ.out.setLoan b)
      refine hK.out _ _ (loan_cells HQ.out.drop.drop.loc) (fun _ => trivial) ?_
      clear hK K'
      (try simp only [Act.put, List.setIfInBounds_toArray, List.set_cons_zero, List.set_cons_succ, List.getElem_toArray, List.getElem_cons_zero, List.getElem_cons_succ])
      refine wpTill.take (i := 10) (v := ?_) (by rfl) rfl (by kernel_rfl) (by kernel_rfl) (by kernel_rfl) (by exact fun _ _ _ h => h) (loan_cells HQ.out.drop.drop.loc) (fun _ => trivial) (Or.inl ⟨by rfl, ?_⟩) ?_
      rotate_left
      · (intro w' hSw; (try dsimp only at hSw); go_simp; (try with_reducible rfl))
      (try simp only [Act.put, List.setIfInBounds_toArray, List.set_cons_zero, List.set_cons_succ, List.getElem_toArray, List.getElem_cons_zero, List.getElem_cons_succ])
      refine wpTill.stop (by kernel_rfl) ?_ _
      go_wp2_with (fail)
      go_meet
      exact ⟨_, rfl, rfl, HQ.out⟩
    replace hK := Lib.hid hK
    go_simp
    go_at_call 10
    ((with_reducible refine (HRB.out _ HQ.out.base).mono ?_); rintro _ wN ⟨rfl, hbN⟩)
    replace HQ := Lib.hid (HQ.out.below hbN)
    clear hbN
    refine hK.out _ _ (loan_cells HQ.out.drop.loc) (fun _ => trivial) ?_
    clear hK K'
    (try simp only [Act.put, List.setIfInBounds_toArray, List.set_cons_zero, List.set_cons_succ, List.getElem_toArray, List.getElem_cons_zero, List.getElem_cons_succ])
    refine wpTill.take (i := 5) (v := ?_) (by rfl) rfl (by kernel_rfl) (by kernel_rfl) (by kernel_rfl) (by exact fun _ _ _ h => h) (loan_cells HQ.out.drop.loc) (fun _ => trivial) (Or.inl ⟨by rfl, ?_⟩) ?_
    rotate_left
    · (intro w' hSw; (try dsimp only at hSw); go_simp; (try with_reducible rfl))
    (try simp only [Act.put, List.setIfInBounds_toArray, List.set_cons_zero, List.set_cons_succ, List.getElem_toArray, List.getElem_cons_zero, List.getElem_cons_succ])
    refine wpTill.take (i := 6) (v := ?_) (by rfl) rfl (by kernel_rfl) (by kernel_rfl) (by kernel_rfl) (by exact fun _ _ _ h => h) (loan_cells HQ.out.drop.loc) (fun _ => trivial) (Or.inl ⟨by rfl, ?_⟩) ?_
    rotate_left
    · (intro w' hSw; (try dsimp only at hSw); go_simp; (try with_reducible rfl))
    (try simp only [Act.put, List.setIfInBounds_toArray, List.set_cons_zero, List.set_cons_succ, List.getElem_toArray, List.getElem_cons_zero, List.getElem_cons_succ])
    refine wpTill.take (i := 7) (v := ?_) (by rfl) rfl (by kernel_rfl) (by kernel_rfl) (by kernel_rfl) (by exact fun _ _ _ h => h) (loan_cells HQ.out.drop.loc) (fun _ => trivial) (Or.inl ⟨by rfl, ?_⟩) ?_
    rotate_left
    · (intro w' hSw; (try dsimp only at hSw); go_simp; (try with_reducible rfl))
    (try simp only [Act.put, List.setIfInBounds_toArray, List.set_cons_zero, List.set_cons_succ, List.getElem_toArray, List.getElem_cons_zero, List.getElem_cons_succ])
    refine wpTill.step (i := 8) (by kernel_rfl) (by rfl) (fun K' hK => ?_)
    replace hK := Lib.hid hK
    go_simp
    replace HQ := Lib.hid ((HQ.out.box #[.int .i64 0, .int .i64 0, .int .i64 0, .bool false] 24))
    refine hK.out _ _ (loan_cells HQ.out.drop.drop.loc) (fun _ => trivial) ?_
    clear hK K'
    (try simp only [Act.put, List.setIfInBounds_toArray, List.set_cons_zero, List.set_cons_succ, List.getElem_toArray, List.getElem_cons_zero, List.getElem_cons_succ])
    generalize wN.alloc (.cells #[.int .i64 0, .int .i64 0, .int .i64 0, .bool false] 24) = wX at *
    generalize wN.heap.size = gX at *
    obtain ⟨zE, kE, fE⟩ := HQ.out.loc
    refine wpTill.step (i := 9) (by kernel_rfl) (by rfl) (fun K' hK => ?_)
    replace hK := Lib.hid hK
    go_simp
    replace HQ := Lib.hid (HQ.out.setLoan b)
    refine hK.out _ _ (loan_cells HQ.out.drop.drop.loc) (fun _ => trivial) ?_
    clear hK K'
    (try simp only [Act.put, List.setIfInBounds_toArray, List.set_cons_zero, List.set_cons_succ, List.getElem_toArray, List.getElem_cons_zero, List.getElem_cons_succ])
    refine wpTill.take (i := 10) (v := ?_) (by rfl) rfl (by kernel_rfl) (by kernel_rfl) (by kernel_rfl) (by exact fun _ _ _ h => h) (loan_cells HQ.out.drop.drop.loc) (fun _ => trivial) (Or.inl ⟨by rfl, ?_⟩) ?_
    rotate_left
    · (intro w' hSw; (try dsimp only at hSw); go_simp; (try with_reducible rfl))
    (try simp only [Act.put, List.setIfInBounds_toArray, List.set_cons_zero, List.set_cons_succ, List.getElem_toArray, List.getElem_cons_zero, List.getElem_cons_succ])
    refine wpTill.stop (by kernel_rfl) ?_ _
    go_wp2_with (fail)
    go_meet
    exact ⟨_, rfl, rfl, HQ.out⟩
  -- END R8
  case rest =>
  obtain ⟨gB, rfl, rfl, hq5⟩ := hcut
  have HS5 := Lib.hid hq5
  simp only [loanX] at HS5
  clear hq5 HS3 HRB hpn hp0 hpc hpnn hptn hn1 hpt hwp hwi hwn
  go_upto_region 9 with (fail)
  go_cut [97] (fun s97 wy => s97 = .bool false ∧ wy = wc)
  case first =>
    obtain ⟨zB, kB, fB⟩ := HS5.out.loc
    obtain ⟨zA, kA, fA⟩ := HS5.out.sw.loc
    obtain ⟨zL, kL, fL⟩ := HS5.out.r3.loc
    have h1 : ¬ (a.spent < b.spent) := by have := HL2.out.spent; omega
    have h2 : (a.device != loan.device) = false := by rw [HL1.out.dev]; simp
    have h3 : (a.units != loan.units) = false := by rw [HL1.out.units]; simp
    have h4 : ¬ (a.units < a.spent) := by have := HL1.out.most; omega
    cases hbb : b.back
    · go_wp2_with (fail)
      go_meet
      exact ⟨rfl, rfl⟩
    · have hab := HL2.out.back hbb
      go_wp2_with (fail)
      go_meet
      exact ⟨rfl, rfl⟩
  case rest =>
  obtain ⟨rfl, rfl⟩ := hcut
  go_wp2_with (fail)
  go_loopw [15, 16] (fun rv iv wr => ∃ (k : Nat) (r : Bool), k ≤ n ∧ rv = .bool r ∧ iv = .int .i64 (k : Int) ∧ Sep w wr (boxR gB (loanX b) :: boxR gA (loanX a) :: boxR w.heap.size (loanX loan) :: []) ∧ (r = false → ∀ x ∈ l.take k, resB x.v.text = false)) (fun _ iv _ => n - (Go.RowKit.intOf iv).toNat)
  case atStart => exact ⟨0, false, Nat.zero_le _, rfl, rfl, HS5.out, fun _ x hx => by simp at hx⟩
  case round =>
    obtain ⟨k, r, hk, rfl, rfl, hq, hres⟩ := hrel
    obtain ⟨wo, rfl⟩ : ∃ wo : World, wo = wr := ⟨_, rfl⟩
    have HSO := Lib.hid hq
    have HRE := Lib.hid hres
    simp only [loanX] at HSO
    clear hq hres HS5
    by_cases hlt : k < n
    · obtain ⟨x, hx⟩ : ∃ v, l[k]? = some v := ⟨_, List.getElem?_eq_getElem (by rw [HL.out]; exact hlt)⟩
      obtain ⟨bx, ox, rfl, hbl, d0, d1, d2, d3, d4⟩ := ent_at (HCH.out.below HSO.out.base).sl hx
      have hki : (k : Int) < (n : Int) := by omega
      have hk0 : (0 : Int) ≤ (k : Int) := by omega
      have hwk : IntKind.i64.wrap ((k : Int) + 1) = (k : Int) + 1 := IntWalk.i64_in _ (by have := HN.out; omega)
      have HXI := Lib.hid hx
      have HLT := Lib.hid hlt
      have HXL : Hid (x.v.text.length ≤ 140737488351232) := Lib.hid (HCH.out.len x (List.mem_of_getElem? hx)).2
      clear hx hlt hk d0 d1 d2 d3 hbl
      cases r
      · obtain ⟨q, hq⟩ : ∃ q, resB x.v.text = q := ⟨_, rfl⟩
        have HRV := Lib.hid (fun W => RReserved_any W x.v.text HXL.out q hq)
        have HQ := Lib.hid hq
        clear hq
        go_wp2_with (fail)
        ((with_reducible refine (HRV.out _).mono ?_); rintro _ w9 ⟨rfl, hw9⟩; obtain rfl := hw9.symm)
        go_wp2_with (fail)
        go_roundw
        case rel => exact ⟨k + 1, q, HLT.out, by simp, by go_num, HSO.out, fun e y hy => by
          rw [List.take_add_one, HXI.out, Option.toList_some] at hy
          rcases List.mem_append.1 hy with h | h
          · exact HRE.out (by simp) y h
          · rw [List.mem_singleton.1 h, HQ.out]; exact e⟩
        case measure => have := HLT.out; simp [Go.RowKit.intOf]; omega
      · go_wp2_with (fail)
        go_roundw
        case rel => exact ⟨k + 1, true, HLT.out, by simp, by go_num, HSO.out, fun e => by cases e⟩
        case measure => have := HLT.out; simp [Go.RowKit.intOf]; omega
    · obtain rfl : k = n := by omega
      have hki : ¬ ((k : Int) < (k : Int)) := by omega
      clear hlt hk
      go_upto_region 16 with (fail)
      go_cut [119] (fun s119 wy => s119 = .bool false ∧ wy = wo)
      case first =>
        obtain ⟨zA, kA, fA⟩ := HSO.out.sw.loc
        obtain ⟨zL, kL, fL⟩ := HSO.out.r3.loc
        cases r
        · have hal : a = loan := by
            have h1 := replayF_free (ts := textsOf (vsOf l)) (l := loan) (by rw [HR.out]) (fun t ht => by
              obtain ⟨v, hv, rfl⟩ := List.mem_map.1 ht
              obtain ⟨x, hx, rfl⟩ := List.mem_map.1 hv
              exact HRE.out (by simp) x (by rw [List.take_of_length_le (by rw [HL.out]; exact Nat.le_refl _)]; exact hx))
            rw [HR.out] at h1
            exact h1
          subst hal
          go_wp2_with (fail)
          go_meet
          exact ⟨rfl, rfl⟩
        · go_wp2_with (fail)
          go_meet
          exact ⟨rfl, rfl⟩
      case rest =>
      obtain ⟨rfl, rfl⟩ := hcut
      obtain ⟨⟨want, e⟩, hw⟩ : ∃ q, spendF a u = q := ⟨_, rfl⟩
      have HW := Lib.hid hw
      have HSP := Lib.hid (fun W => Spend_any a.device a.units a.spent a.back u _ hw W)
      clear hw
      obtain ⟨zA, kA, fA⟩ := HSO.out.sw.loc
      go_wp2_with (fail)
      ((with_reducible refine (HSP.out _).mono ?_); rintro _ w6 ⟨rfl, hb6⟩)
      have HS6 := Lib.hid ((HSO.out.below hb6).box (loanX want) 24)
      simp only [loanX] at HS6
      clear hb6 zA kA fA HSO HSP
      go_upto_region 19 with (fail)
      generalize w6.alloc (.cells #[.int .i64 want.device, .int .i64 want.units, .int .i64 want.spent, .bool want.back] 24) = wW at *
      generalize w6.heap.size = gW at *
      obtain ⟨⟨d, may⟩, hd⟩ : ∃ q, replayF (textsOf (vsOf l) ++ [spendT u]) loan = q := ⟨_, rfl⟩
      obtain ⟨tS, htS⟩ : ∃ t, spendT u = t := ⟨_, rfl⟩
      have HD := Lib.hid hd
      have HTL : Hid (tS.length ≤ 23) := Lib.hid (by
        rw [← htS]
        unfold spendT encN
        split
        · simp
        · have := encI_len (n := u) HU.out; simp; omega)
      have HST := Lib.hid (fun W => RSpendText_any W u HU.out.1 HU.out.2 tS htS)
      have HME : Hid (l.map EntC.cells ++ [[.int .i64 0, .int .i64 0, .int .i64 0, .slice none 0 0, .string ⟨tS.toArray⟩]] = (l ++ [(⟨⟨0, 0, 0, [], tS⟩, none, 0⟩ : EntC)]).map EntC.cells) := Lib.hid (by rw [List.map_append]; rfl)
      have HRC := Lib.hid (fun W A3 c3 (hb : Below w.heap.size w W) (hsl : Sl W 5 A3 (k + 1) ((l ++ [(⟨⟨0, 0, 0, [], tS⟩, none, 0⟩ : EntC)]).map EntC.cells)) => Replay_any W (HEV.out W hb).1 (HEV.out W hb).2 A3 (k + 1) c3 (l ++ [(⟨⟨0, 0, 0, [], tS⟩, none, 0⟩ : EntC)]) ⟨hsl, fun x hx => by
        rcases List.mem_append.1 hx with h | h
        · exact (HCH.out.at_ x h).below hb
        · rw [List.mem_singleton.1 h]; exact Sl.nil_ _ _ _, fun x hx => by
        rcases List.mem_append.1 hx with h | h
        · exact HCH.out.len x h
        · rw [List.mem_singleton.1 h]; exact ⟨by simp, by have := HTL.out; show tS.length ≤ _; omega⟩⟩ (by have := HN.out; omega) loan (d, may) (by rw [← hd, ← htS]; unfold textsOf vsOf; rw [List.map_append, List.map_append]; rfl))
      simp only [loanX] at HRC
      have HN0 := Lib.hid HN.out
      obtain ⟨i0, hi0, hz0, hz1, hz2⟩ := info_parts infoEnt
      clear hd htS
      go_cut [19, 20] (fun s19 s20 wy => ∃ g : Nat, s19 = .pointer (some ⟨g, 0, none⟩) ∧ s20 = .bool may ∧ Sep w wy (boxR g (loanX d) :: boxR gW (loanX want) :: boxR gB (loanX b) :: boxR gA (loanX a) :: boxR w.heap.size (loanX loan) :: []))
      case first =>
        refine wpTill.startN 16 (S := fun w' => w'.cell? ⟨w.heap.size, 0, none⟩ = some (.int .i64 loan.device) ∧ w'.cell? ⟨w.heap.size, 1, none⟩ = some (.int .i64 loan.units) ∧ w'.cell? ⟨w.heap.size, 2, none⟩ = some (.int .i64 loan.spent) ∧ w'.cell? ⟨w.heap.size, 3, none⟩ = some (.bool loan.back)) (T := fun _ => True) (m := 300) rfl (by kernel_rfl) ?_
        have HQ := Lib.hid HS6.out.drew
        generalize wW.drew = wz at *
  -- BEGIN R19
        refine wpTill.take (i := 1) (v := ?_) (by rfl) rfl (by kernel_rfl) (by kernel_rfl) (by kernel_rfl) (by exact fun _ _ _ h => h) (loan_cells HQ.out.drop.drop.drop.loc) (fun _ => trivial) (Or.inl ⟨by rfl, ?_⟩) ?_
        rotate_left
        · (intro w' hSw; (try dsimp only at hSw); go_simp; (try with_reducible rfl))
        (try simp only [Act.put, List.setIfInBounds_toArray, List.set_cons_zero, List.set_cons_succ, List.getElem_toArray, List.getElem_cons_zero, List.getElem_cons_succ])
        refine wpTill.take (i := 3) (v := ?_) (by rfl) rfl (by kernel_rfl) (by kernel_rfl) (by kernel_rfl) (by exact fun _ _ _ h => h) (loan_cells HQ.out.drop.drop.drop.loc) (fun _ => trivial) (Or.inl ⟨by rfl, ?_⟩) ?_
        rotate_left
        · (intro w' hSw; (try dsimp only at hSw); go_simp; (try with_reducible rfl))
        (try simp only [Act.put, List.setIfInBounds_toArray, List.set_cons_zero, List.set_cons_succ, List.getElem_toArray, List.getElem_cons_zero, List.getElem_cons_succ])
        refine wpTill.take (i := 8) (v := ?_) (by rfl) rfl (by kernel_rfl) (by kernel_rfl) (by kernel_rfl) (by exact fun _ _ _ h => h) (loan_cells HQ.out.drop.drop.drop.loc) (fun _ => trivial) (Or.inl ⟨by rfl, ?_⟩) ?_
        rotate_left
        · (intro w' hSw; (try dsimp only at hSw); go_simp; (try with_reducible rfl))
        (try simp only [Act.put, List.setIfInBounds_toArray, List.set_cons_zero, List.set_cons_succ, List.getElem_toArray, List.getElem_cons_zero, List.getElem_cons_succ])
        refine wpTill.step2 (i := 0) (j := 13) (by kernel_rfl) (by rfl) (by rfl) (fun K' hK => ?_) (fun K' hK => ?_)
        rotate_left
        · skip
          replace hK := Lib.hid hK
          go_simp
          replace HQ := Lib.hid ((HQ.out.box #[.int .i64 0, .int .i64 0, .int .i64 0, .bool false] 24))
          refine hK.out _ _ (loan_cells HQ.out.drop.drop.drop.drop.loc) (fun _ => trivial) ?_
          clear hK K'
          (try simp only [Act.put, List.setIfInBounds_toArray, List.set_cons_zero, List.set_cons_succ, List.getElem_toArray, List.getElem_cons_zero, List.getElem_cons_succ])
          generalize wz.alloc (.cells #[.int .i64 0, .int .i64 0, .int .i64 0, .bool false] 24) = wX at *
          generalize wz.heap.size = gX at *
          refine wpTill.step (i := 0) (by kernel_rfl) (by rfl) (fun K' hK => ?_)
          replace hK := Lib.hid hK
          go_simp
          replace HQ := Lib.hid (HQ.out.ownNew (below_alloc _ (.cells #[] 32)) (Own.empty (e := 32) (size := 5) (w := wX) (by simp) (Nat.le_refl _)))
          refine hK.out _ _ (loan_cells HQ.out.drop.drop.drop.drop.drop.loc) (fun _ => trivial) ?_
          clear hK K'
          (try simp only [Act.put, List.setIfInBounds_toArray, List.set_cons_zero, List.set_cons_succ, List.getElem_toArray, List.getElem_cons_zero, List.getElem_cons_succ])
          generalize wX.alloc (.cells #[] 32) = wE at *
          generalize wX.heap.size = gE at *
          refine wpTill.step (i := 2) (by kernel_rfl) (by rfl) (fun K' hK => ?_)
          replace hK := Lib.hid hK
          (refine step_append_sl _ (by rfl) (.tmp 127) (.tmp 128) _ (by rfl) w.heap.size 32 i0 _ 5 64 Tryz.underlying22 hi0 hz0 hz1 hz2 rfl (by omega) (.slice (some ⟨gE, 0, none⟩) 0 0) 0 [] (by rfl) HQ.out.own A k c (l.map EntC.cells) (by rfl) ((HCH.out.below HQ.out.base).sl) (ents_len _) (ents_one _) (by have := HN0.out; simp only [maxLen]; omega) (by have := HN0.out; omega) HQ.out.base.size ?_)
          intro A2 c2 w2a hown2 hg2 hat2
          replace HQ := Lib.hid (HQ.out.grown hown2 hg2 hat2)
          rw [Nat.zero_add, List.nil_append] at HQ
          rw [Nat.zero_add]
          clear hown2 hg2 hat2
          refine hK.out _ _ (loan_cells HQ.out.drop.drop.drop.drop.drop.loc) (fun _ => trivial) ?_
          clear hK K'
          (try simp only [Act.put, List.setIfInBounds_toArray, List.set_cons_zero, List.set_cons_succ, List.getElem_toArray, List.getElem_cons_zero, List.getElem_cons_succ])
          refine wpTill.step (i := 4) (by kernel_rfl) (by rfl) (fun K' hK => ?_)
          replace hK := Lib.hid hK
          go_simp
          go_at_call 13
          ((with_reducible refine (HST.out _).mono ?_); rintro _ wT ⟨rfl, hbT⟩)
          replace HQ := Lib.hid (HQ.out.below hbT)
          clear hbT
          refine hK.out _ _ (loan_cells HQ.out.drop.drop.drop.drop.drop.loc) (fun _ => trivial) ?_
          clear hK K'
          (try simp only [Act.put, List.setIfInBounds_toArray, List.set_cons_zero, List.set_cons_succ, List.getElem_toArray, List.getElem_cons_zero, List.getElem_cons_succ])
          refine wpTill.take (i := 5) (v := ?_) (by rfl) rfl (by kernel_rfl) (by kernel_rfl) (by kernel_rfl) (by exact fun _ _ _ h => h) (loan_cells HQ.out.drop.drop.drop.drop.drop.loc) (fun _ => trivial) (Or.inl ⟨by rfl, ?_⟩) ?_
          rotate_left
          · (intro w' hSw; (try dsimp only at hSw); go_simp; (try with_reducible rfl))
          (try simp only [Act.put, List.setIfInBounds_toArray, List.set_cons_zero, List.set_cons_succ, List.getElem_toArray, List.getElem_cons_zero, List.getElem_cons_succ])
          refine wpTill.step (i := 6) (by kernel_rfl) (by rfl) (fun K' hK => ?_)
          replace hK := Lib.hid hK
          go_simp
          have HN := Lib.hid (Sl.new_ wT 32 [.int .i64 0, .int .i64 0, .int .i64 0, .slice none 0 0, .string ⟨tS.toArray⟩])
          replace HQ := Lib.hid (HQ.out.alloc (.cells #[.int .i64 0, .int .i64 0, .int .i64 0, .slice none 0 0, .string ⟨tS.toArray⟩] 32))
          refine hK.out _ _ (loan_cells HQ.out.drop.drop.drop.drop.drop.loc) (fun _ => trivial) ?_
          clear hK K'
          (try simp only [Act.put, List.setIfInBounds_toArray, List.set_cons_zero, List.set_cons_succ, List.getElem_toArray, List.getElem_cons_zero, List.getElem_cons_succ])
          generalize wT.alloc (.cells #[.int .i64 0, .int .i64 0, .int .i64 0, .slice none 0 0, .string ⟨tS.toArray⟩] 32) = wR at *
          generalize wT.heap.size = gR at *
          refine wpTill.step (i := 7) (by kernel_rfl) (by rfl) (fun K' hK => ?_)
          replace hK := Lib.hid hK
          (refine step_append_sl _ (by rfl) (.tmp 129) (.tmp 133) _ (by rfl) w.heap.size 32 i0 _ 5 64 Tryz.underlying22 hi0 hz0 hz1 hz2 rfl (by omega) (.slice A2 k c2) k (l.map EntC.cells) (by rfl) HQ.out.own (some ⟨gR, 0, none⟩) 1 1 [[.int .i64 0, .int .i64 0, .int .i64 0, .slice none 0 0, .string ⟨tS.toArray⟩]] (by rfl) HN.out (by simp) (by simp [Value.oneCell']) (by have := HN0.out; simp only [maxLen]; omega) (by have := HN0.out; omega) HQ.out.base.size ?_)
          intro A3 c3 w3a hown3 hg3 hat3
          replace HQ := Lib.hid (HQ.out.grown hown3 hg3 hat3)
          rw [HME.out] at HQ
          clear hown3 hg3 hat3 HN
          refine hK.out _ _ (loan_cells HQ.out.drop.drop.drop.drop.drop.loc) (fun _ => trivial) ?_
          clear hK K'
          (try simp only [Act.put, List.setIfInBounds_toArray, List.set_cons_zero, List.set_cons_succ, List.getElem_toArray, List.getElem_cons_zero, List.getElem_cons_succ])
          refine wpTill.step (i := 9) (by kernel_rfl) (by rfl) (fun K' hK => ?_)
          replace hK := Lib.hid hK
          go_simp
          go_at_call 10
          ((with_reducible refine (HRC.out _ A3 c3 HQ.out.base HQ.out.own.sl').mono ?_); rintro _ wN ⟨rfl, hbN⟩)
          replace HQ := Lib.hid (HQ.out.below hbN)
          clear hbN
          refine hK.out _ _ (loan_cells HQ.out.drop.drop.drop.drop.drop.loc) (fun _ => trivial) ?_
          clear hK K'
          (try simp only [Act.put, List.setIfInBounds_toArray, List.set_cons_zero, List.set_cons_succ, List.getElem_toArray, List.getElem_cons_zero, List.getElem_cons_succ])
          refine wpTill.take (i := 10) (v := ?_) (by rfl) rfl (by kernel_rfl) (by kernel_rfl) (by kernel_rfl) (by exact fun _ _ _ h => h) (loan_cells HQ.out.drop.drop.drop.drop.drop.loc) (fun _ => trivial) (Or.inl ⟨by rfl, ?_⟩) ?_
          rotate_left
          · (intro w' hSw; (try dsimp only at hSw); go_simp; (try with_reducible rfl))
          (try simp only [Act.put, List.setIfInBounds_toArray, List.set_cons_zero, List.set_cons_succ, List.getElem_toArray, List.getElem_cons_zero, List.getElem_cons_succ])
          refine wpTill.take (i := 11) (v := ?_) (by rfl) rfl (by kernel_rfl) (by kernel_rfl) (by kernel_rfl) (by exact fun _ _ _ h => h) (loan_cells HQ.out.drop.drop.drop.drop.drop.loc) (fun _ => trivial) (Or.inl ⟨by rfl, ?_⟩) ?_
          rotate_left
          · (intro w' hSw; (try dsimp only at hSw); go_simp; (try with_reducible rfl))
          (try simp only [Act.put, List.setIfInBounds_toArray, List.set_cons_zero, List.set_cons_succ, List.getElem_toArray, List.getElem_cons_zero, List.getElem_cons_succ])
          refine wpTill.take (i := 12) (v := ?_) (by rfl) rfl (by kernel_rfl) (by kernel_rfl) (by kernel_rfl) (by exact fun _ _ _ h => h) (loan_cells HQ.out.drop.drop.drop.drop.drop.loc) (fun _ => trivial) (Or.inl ⟨by rfl, ?_⟩) ?_
          rotate_left
          · (intro w' hSw; (try dsimp only at hSw); go_simp; (try with_reducible rfl))
          (try simp only [Act.put, List.setIfInBounds_toArray, List.set_cons_zero, List.set_cons_succ, List.getElem_toArray, List.getElem_cons_zero, List.getElem_cons_succ])
          replace HQ := Lib.hid HQ.out.drop
          obtain ⟨zE, kE, fE⟩ := HQ.out.loc
          refine wpTill.step (i := 14) (by kernel_rfl) (by rfl) (fun K' hK => ?_)
          replace hK := Lib.hid hK
          go_simp
          replace HQ := Lib.hid (HQ.out.setLoan d)
          refine hK.out _ _ (loan_cells HQ.out.drop.drop.drop.drop.loc) (fun _ => trivial) ?_
          clear hK K'
          (try simp only [Act.put, List.setIfInBounds_toArray, List.set_cons_zero, List.set_cons_succ, List.getElem_toArray, List.getElem_cons_zero, List.getElem_cons_succ])
          refine wpTill.take (i := 15) (v := ?_) (by rfl) rfl (by kernel_rfl) (by kernel_rfl) (by kernel_rfl) (by exact fun _ _ _ h => h) (loan_cells HQ.out.drop.drop.drop.drop.loc) (fun _ => trivial) (Or.inl ⟨by rfl, ?_⟩) ?_
          rotate_left
          · (intro w' hSw; (try dsimp only at hSw); go_simp; (try with_reducible rfl))
          (try simp only [Act.put, List.setIfInBounds_toArray, List.set_cons_zero, List.set_cons_succ, List.getElem_toArray, List.getElem_cons_zero, List.getElem_cons_succ])
          refine wpTill.stop (by kernel_rfl) ?_ _
          go_wp2_with (fail)
          go_meet
          exact ⟨_, rfl, rfl, HQ.out⟩
        replace hK := Lib.hid hK
        go_simp
        replace HQ := Lib.hid (HQ.out.ownNew (below_alloc _ (.cells #[] 32)) (Own.empty (e := 32) (size := 5) (w := wz) (by simp) (Nat.le_refl _)))
        refine hK.out _ _ (loan_cells HQ.out.drop.drop.drop.drop.loc) (fun _ => trivial) ?_
        clear hK K'
        (try simp only [Act.put, List.setIfInBounds_toArray, List.set_cons_zero, List.set_cons_succ, List.getElem_toArray, List.getElem_cons_zero, List.getElem_cons_succ])
        generalize wz.alloc (.cells #[] 32) = wE at *
        generalize wz.heap.size = gE at *
        refine wpTill.step2 (i := 2) (j := 13) (by kernel_rfl) (by rfl) (by rfl) (fun K' hK => ?_) (fun K' hK => ?_)
        rotate_left
        · skip
          replace hK := Lib.hid hK
          go_simp
          replace HQ := Lib.hid ((HQ.out.box #[.int .i64 0, .int .i64 0, .int .i64 0, .bool false] 24).sw)
          refine hK.out _ _ (loan_cells HQ.out.drop.drop.drop.drop.drop.loc) (fun _ => trivial) ?_
          clear hK K'
          (try simp only [Act.put, List.setIfInBounds_toArray, List.set_cons_zero, List.set_cons_succ, List.getElem_toArray, List.getElem_cons_zero, List.getElem_cons_succ])
          generalize wE.alloc (.cells #[.int .i64 0, .int .i64 0, .int .i64 0, .bool false] 24) = wX at *
          generalize wE.heap.size = gX at *
          refine wpTill.step (i := 2) (by kernel_rfl) (by rfl) (fun K' hK => ?_)
          replace hK := Lib.hid hK
          (refine step_append_sl _ (by rfl) (.tmp 127) (.tmp 128) _ (by rfl) w.heap.size 32 i0 _ 5 64 Tryz.underlying22 hi0 hz0 hz1 hz2 rfl (by omega) (.slice (some ⟨gE, 0, none⟩) 0 0) 0 [] (by rfl) HQ.out.own A k c (l.map EntC.cells) (by rfl) ((HCH.out.below HQ.out.base).sl) (ents_len _) (ents_one _) (by have := HN0.out; simp only [maxLen]; omega) (by have := HN0.out; omega) HQ.out.base.size ?_)
          intro A2 c2 w2a hown2 hg2 hat2
          replace HQ := Lib.hid (HQ.out.grown hown2 hg2 hat2)
          rw [Nat.zero_add, List.nil_append] at HQ
          rw [Nat.zero_add]
          clear hown2 hg2 hat2
          refine hK.out _ _ (loan_cells HQ.out.drop.drop.drop.drop.drop.loc) (fun _ => trivial) ?_
          clear hK K'
          (try simp only [Act.put, List.setIfInBounds_toArray, List.set_cons_zero, List.set_cons_succ, List.getElem_toArray, List.getElem_cons_zero, List.getElem_cons_succ])
          refine wpTill.step (i := 4) (by kernel_rfl) (by rfl) (fun K' hK => ?_)
          replace hK := Lib.hid hK
          go_simp
          go_at_call 13
          ((with_reducible refine (HST.out _).mono ?_); rintro _ wT ⟨rfl, hbT⟩)
          replace HQ := Lib.hid (HQ.out.below hbT)
          clear hbT
          refine hK.out _ _ (loan_cells HQ.out.drop.drop.drop.drop.drop.loc) (fun _ => trivial) ?_
          clear hK K'
          (try simp only [Act.put, List.setIfInBounds_toArray, List.set_cons_zero, List.set_cons_succ, List.getElem_toArray, List.getElem_cons_zero, List.getElem_cons_succ])
          refine wpTill.take (i := 5) (v := ?_) (by rfl) rfl (by kernel_rfl) (by kernel_rfl) (by kernel_rfl) (by exact fun _ _ _ h => h) (loan_cells HQ.out.drop.drop.drop.drop.drop.loc) (fun _ => trivial) (Or.inl ⟨by rfl, ?_⟩) ?_
          rotate_left
          · (intro w' hSw; (try dsimp only at hSw); go_simp; (try with_reducible rfl))
          (try simp only [Act.put, List.setIfInBounds_toArray, List.set_cons_zero, List.set_cons_succ, List.getElem_toArray, List.getElem_cons_zero, List.getElem_cons_succ])
          refine wpTill.step (i := 6) (by kernel_rfl) (by rfl) (fun K' hK => ?_)
          replace hK := Lib.hid hK
          go_simp
          have HN := Lib.hid (Sl.new_ wT 32 [.int .i64 0, .int .i64 0, .int .i64 0, .slice none 0 0, .string ⟨tS.toArray⟩])
          replace HQ := Lib.hid (HQ.out.alloc (.cells #[.int .i64 0, .int .i64 0, .int .i64 0, .slice none 0 0, .string ⟨tS.toArray⟩] 32))
          refine hK.out _ _ (loan_cells HQ.out.drop.drop.drop.drop.drop.loc) (fun _ => trivial) ?_
          clear hK K'
          (try simp only [Act.put, List.setIfInBounds_toArray, List.set_cons_zero, List.set_cons_succ, List.getElem_toArray, List.getElem_cons_zero, List.getElem_cons_succ])
          generalize wT.alloc (.cells #[.int .i64 0, .int .i64 0, .int .i64 0, .slice none 0 0, .string ⟨tS.toArray⟩] 32) = wR at *
          generalize wT.heap.size = gR at *
          refine wpTill.step (i := 7) (by kernel_rfl) (by rfl) (fun K' hK => ?_)
          replace hK := Lib.hid hK
          (refine step_append_sl _ (by rfl) (.tmp 129) (.tmp 133) _ (by rfl) w.heap.size 32 i0 _ 5 64 Tryz.underlying22 hi0 hz0 hz1 hz2 rfl (by omega) (.slice A2 k c2) k (l.map EntC.cells) (by rfl) HQ.out.own (some ⟨gR, 0, none⟩) 1 1 [[.int .i64 0, .int .i64 0, .int .i64 0, .slice none 0 0, .string ⟨tS.toArray⟩]] (by rfl) HN.out (by simp) (by simp [Value.oneCell']) (by have := HN0.out; simp only [maxLen]; omega) (by have := HN0.out; omega) HQ.out.base.size ?_)
          intro A3 c3 w3a hown3 hg3 hat3
          replace HQ := Lib.hid (HQ.out.grown hown3 hg3 hat3)
          rw [HME.out] at HQ
          clear hown3 hg3 hat3 HN
          refine hK.out _ _ (loan_cells HQ.out.drop.drop.drop.drop.drop.loc) (fun _ => trivial) ?_
          clear hK K'
          (try simp only [Act.put, List.setIfInBounds_toArray, List.set_cons_zero, List.set_cons_succ, List.getElem_toArray, List.getElem_cons_zero, List.getElem_cons_succ])
          refine wpTill.step (i := 9) (by kernel_rfl) (by rfl) (fun K' hK => ?_)
          replace hK := Lib.hid hK
          go_simp
          go_at_call 10
          ((with_reducible refine (HRC.out _ A3 c3 HQ.out.base HQ.out.own.sl').mono ?_); rintro _ wN ⟨rfl, hbN⟩)
          replace HQ := Lib.hid (HQ.out.below hbN)
          clear hbN
          refine hK.out _ _ (loan_cells HQ.out.drop.drop.drop.drop.drop.loc) (fun _ => trivial) ?_
          clear hK K'
          (try simp only [Act.put, List.setIfInBounds_toArray, List.set_cons_zero, List.set_cons_succ, List.getElem_toArray, List.getElem_cons_zero, List.getElem_cons_succ])
          refine wpTill.take (i := 10) (v := ?_) (by rfl) rfl (by kernel_rfl) (by kernel_rfl) (by kernel_rfl) (by exact fun _ _ _ h => h) (loan_cells HQ.out.drop.drop.drop.drop.drop.loc) (fun _ => trivial) (Or.inl ⟨by rfl, ?_⟩) ?_
          rotate_left
          · (intro w' hSw; (try dsimp only at hSw); go_simp; (try with_reducible rfl))
          (try simp only [Act.put, List.setIfInBounds_toArray, List.set_cons_zero, List.set_cons_succ, List.getElem_toArray, List.getElem_cons_zero, List.getElem_cons_succ])
          refine wpTill.take (i := 11) (v := ?_) (by rfl) rfl (by kernel_rfl) (by kernel_rfl) (by kernel_rfl) (by exact fun _ _ _ h => h) (loan_cells HQ.out.drop.drop.drop.drop.drop.loc) (fun _ => trivial) (Or.inl ⟨by rfl, ?_⟩) ?_
          rotate_left
          · (intro w' hSw; (try dsimp only at hSw); go_simp; (try with_reducible rfl))
          (try simp only [Act.put, List.setIfInBounds_toArray, List.set_cons_zero, List.set_cons_succ, List.getElem_toArray, List.getElem_cons_zero, List.getElem_cons_succ])
          refine wpTill.take (i := 12) (v := ?_) (by rfl) rfl (by kernel_rfl) (by kernel_rfl) (by kernel_rfl) (by exact fun _ _ _ h => h) (loan_cells HQ.out.drop.drop.drop.drop.drop.loc) (fun _ => trivial) (Or.inl ⟨by rfl, ?_⟩) ?_
          rotate_left
          · (intro w' hSw; (try dsimp only at hSw); go_simp; (try with_reducible rfl))
          (try simp only [Act.put, List.setIfInBounds_toArray, List.set_cons_zero, List.set_cons_succ, List.getElem_toArray, List.getElem_cons_zero, List.getElem_cons_succ])
          replace HQ := Lib.hid HQ.out.drop
          obtain ⟨zE, kE, fE⟩ := HQ.out.loc
          refine wpTill.step (i := 14) (by kernel_rfl) (by rfl) (fun K' hK => ?_)
          replace hK := Lib.hid hK
          go_simp
          replace HQ := Lib.hid (HQ.out.setLoan d)
          refine hK.out _ _ (loan_cells HQ.out.drop.drop.drop.drop.loc) (fun _ => trivial) ?_
          clear hK K'
          (try simp only [Act.put, List.setIfInBounds_toArray, List.set_cons_zero, List.set_cons_succ, List.getElem_toArray, List.getElem_cons_zero, List.getElem_cons_succ])
          refine wpTill.take (i := 15) (v := ?_) (by rfl) rfl (by kernel_rfl) (by kernel_rfl) (by kernel_rfl) (by exact fun _ _ _ h => h) (loan_cells HQ.out.drop.drop.drop.drop.loc) (fun _ => trivial) (Or.inl ⟨by rfl, ?_⟩) ?_
          rotate_left
          · (intro w' hSw; (try dsimp only at hSw); go_simp; (try with_reducible rfl))
          (try simp only [Act.put, List.setIfInBounds_toArray, List.set_cons_zero, List.set_cons_succ, List.getElem_toArray, List.getElem_cons_zero, List.getElem_cons_succ])
          refine wpTill.stop (by kernel_rfl) ?_ _
          go_wp2_with (fail)
          go_meet
          exact ⟨_, rfl, rfl, HQ.out⟩
        replace hK := Lib.hid hK
        (refine step_append_sl _ (by rfl) (.tmp 127) (.tmp 128) _ (by rfl) w.heap.size 32 i0 _ 5 64 Tryz.underlying22 hi0 hz0 hz1 hz2 rfl (by omega) (.slice (some ⟨gE, 0, none⟩) 0 0) 0 [] (by rfl) HQ.out.own A k c (l.map EntC.cells) (by rfl) ((HCH.out.below HQ.out.base).sl) (ents_len _) (ents_one _) (by have := HN0.out; simp only [maxLen]; omega) (by have := HN0.out; omega) HQ.out.base.size ?_)
        intro A2 c2 w2a hown2 hg2 hat2
        replace HQ := Lib.hid (HQ.out.grown hown2 hg2 hat2)
        rw [Nat.zero_add, List.nil_append] at HQ
        rw [Nat.zero_add]
        clear hown2 hg2 hat2
        refine hK.out _ _ (loan_cells HQ.out.drop.drop.drop.drop.loc) (fun _ => trivial) ?_
        clear hK K'
        (try simp only [Act.put, List.setIfInBounds_toArray, List.set_cons_zero, List.set_cons_succ, List.getElem_toArray, List.getElem_cons_zero, List.getElem_cons_succ])
        refine wpTill.step2 (i := 4) (j := 13) (by kernel_rfl) (by rfl) (by rfl) (fun K' hK => ?_) (fun K' hK => ?_)
        rotate_left
        · skip
          replace hK := Lib.hid hK
          go_simp
          replace HQ := Lib.hid ((HQ.out.box #[.int .i64 0, .int .i64 0, .int .i64 0, .bool false] 24).sw)
          refine hK.out _ _ (loan_cells HQ.out.drop.drop.drop.drop.drop.loc) (fun _ => trivial) ?_
          clear hK K'
          (try simp only [Act.put, List.setIfInBounds_toArray, List.set_cons_zero, List.set_cons_succ, List.getElem_toArray, List.getElem_cons_zero, List.getElem_cons_succ])
          generalize w2a.alloc (.cells #[.int .i64 0, .int .i64 0, .int .i64 0, .bool false] 24) = wX at *
          generalize w2a.heap.size = gX at *
          refine wpTill.step (i := 4) (by kernel_rfl) (by rfl) (fun K' hK => ?_)
          replace hK := Lib.hid hK
          go_simp
          go_at_call 13
          ((with_reducible refine (HST.out _).mono ?_); rintro _ wT ⟨rfl, hbT⟩)
          replace HQ := Lib.hid (HQ.out.below hbT)
          clear hbT
          refine hK.out _ _ (loan_cells HQ.out.drop.drop.drop.drop.drop.loc) (fun _ => trivial) ?_
          clear hK K'
          (try simp only [Act.put, List.setIfInBounds_toArray, List.set_cons_zero, List.set_cons_succ, List.getElem_toArray, List.getElem_cons_zero, List.getElem_cons_succ])
          refine wpTill.take (i := 5) (v := ?_) (by rfl) rfl (by kernel_rfl) (by kernel_rfl) (by kernel_rfl) (by exact fun _ _ _ h => h) (loan_cells HQ.out.drop.drop.drop.drop.drop.loc) (fun _ => trivial) (Or.inl ⟨by rfl, ?_⟩) ?_
          rotate_left
          · (intro w' hSw; (try dsimp only at hSw); go_simp; (try with_reducible rfl))
          (try simp only [Act.put, List.setIfInBounds_toArray, List.set_cons_zero, List.set_cons_succ, List.getElem_toArray, List.getElem_cons_zero, List.getElem_cons_succ])
          refine wpTill.step (i := 6) (by kernel_rfl) (by rfl) (fun K' hK => ?_)
          replace hK := Lib.hid hK
          go_simp
          have HN := Lib.hid (Sl.new_ wT 32 [.int .i64 0, .int .i64 0, .int .i64 0, .slice none 0 0, .string ⟨tS.toArray⟩])
          replace HQ := Lib.hid (HQ.out.alloc (.cells #[.int .i64 0, .int .i64 0, .int .i64 0, .slice none 0 0, .string ⟨tS.toArray⟩] 32))
          refine hK.out _ _ (loan_cells HQ.out.drop.drop.drop.drop.drop.loc) (fun _ => trivial) ?_
          clear hK K'
          (try simp only [Act.put, List.setIfInBounds_toArray, List.set_cons_zero, List.set_cons_succ, List.getElem_toArray, List.getElem_cons_zero, List.getElem_cons_succ])
          generalize wT.alloc (.cells #[.int .i64 0, .int .i64 0, .int .i64 0, .slice none 0 0, .string ⟨tS.toArray⟩] 32) = wR at *
          generalize wT.heap.size = gR at *
          refine wpTill.step (i := 7) (by kernel_rfl) (by rfl) (fun K' hK => ?_)
          replace hK := Lib.hid hK
          (refine step_append_sl _ (by rfl) (.tmp 129) (.tmp 133) _ (by rfl) w.heap.size 32 i0 _ 5 64 Tryz.underlying22 hi0 hz0 hz1 hz2 rfl (by omega) (.slice A2 k c2) k (l.map EntC.cells) (by rfl) HQ.out.own (some ⟨gR, 0, none⟩) 1 1 [[.int .i64 0, .int .i64 0, .int .i64 0, .slice none 0 0, .string ⟨tS.toArray⟩]] (by rfl) HN.out (by simp) (by simp [Value.oneCell']) (by have := HN0.out; simp only [maxLen]; omega) (by have := HN0.out; omega) HQ.out.base.size ?_)
          intro A3 c3 w3a hown3 hg3 hat3
          replace HQ := Lib.hid (HQ.out.grown hown3 hg3 hat3)
          rw [HME.out] at HQ
          clear hown3 hg3 hat3 HN
          refine hK.out _ _ (loan_cells HQ.out.drop.drop.drop.drop.drop.loc) (fun _ => trivial) ?_
          clear hK K'
          (try simp only [Act.put, List.setIfInBounds_toArray, List.set_cons_zero, List.set_cons_succ, List.getElem_toArray, List.getElem_cons_zero, List.getElem_cons_succ])
          refine wpTill.step (i := 9) (by kernel_rfl) (by rfl) (fun K' hK => ?_)
          replace hK := Lib.hid hK
          go_simp
          go_at_call 10
          ((with_reducible refine (HRC.out _ A3 c3 HQ.out.base HQ.out.own.sl').mono ?_); rintro _ wN ⟨rfl, hbN⟩)
          replace HQ := Lib.hid (HQ.out.below hbN)
          clear hbN
          refine hK.out _ _ (loan_cells HQ.out.drop.drop.drop.drop.drop.loc) (fun _ => trivial) ?_
          clear hK K'
          (try simp only [Act.put, List.setIfInBounds_toArray, List.set_cons_zero, List.set_cons_succ, List.getElem_toArray, List.getElem_cons_zero, List.getElem_cons_succ])
          refine wpTill.take (i := 10) (v := ?_) (by rfl) rfl (by kernel_rfl) (by kernel_rfl) (by kernel_rfl) (by exact fun _ _ _ h => h) (loan_cells HQ.out.drop.drop.drop.drop.drop.loc) (fun _ => trivial) (Or.inl ⟨by rfl, ?_⟩) ?_
          rotate_left
          · (intro w' hSw; (try dsimp only at hSw); go_simp; (try with_reducible rfl))
          (try simp only [Act.put, List.setIfInBounds_toArray, List.set_cons_zero, List.set_cons_succ, List.getElem_toArray, List.getElem_cons_zero, List.getElem_cons_succ])
          refine wpTill.take (i := 11) (v := ?_) (by rfl) rfl (by kernel_rfl) (by kernel_rfl) (by kernel_rfl) (by exact fun _ _ _ h => h) (loan_cells HQ.out.drop.drop.drop.drop.drop.loc) (fun _ => trivial) (Or.inl ⟨by rfl, ?_⟩) ?_
          rotate_left
          · (intro w' hSw; (try dsimp only at hSw); go_simp; (try with_reducible rfl))
          (try simp only [Act.put, List.setIfInBounds_toArray, List.set_cons_zero, List.set_cons_succ, List.getElem_toArray, List.getElem_cons_zero, List.getElem_cons_succ])
          refine wpTill.take (i := 12) (v := ?_) (by rfl) rfl (by kernel_rfl) (by kernel_rfl) (by kernel_rfl) (by exact fun _ _ _ h => h) (loan_cells HQ.out.drop.drop.drop.drop.drop.loc) (fun _ => trivial) (Or.inl ⟨by rfl, ?_⟩) ?_
          rotate_left
          · (intro w' hSw; (try dsimp only at hSw); go_simp; (try with_reducible rfl))
          (try simp only [Act.put, List.setIfInBounds_toArray, List.set_cons_zero, List.set_cons_succ, List.getElem_toArray, List.getElem_cons_zero, List.getElem_cons_succ])
          replace HQ := Lib.hid HQ.out.drop
          obtain ⟨zE, kE, fE⟩ := HQ.out.loc
          refine wpTill.step (i := 14) (by kernel_rfl) (by rfl) (fun K' hK => ?_)
          replace hK := Lib.hid hK
          go_simp
          replace HQ := Lib.hid (HQ.out.setLoan d)
          refine hK.out _ _ (loan_cells HQ.out.drop.drop.drop.drop.loc) (fun _ => trivial) ?_
          clear hK K'
          (try simp only [Act.put, List.setIfInBounds_toArray, List.set_cons_zero, List.set_cons_succ, List.getElem_toArray, List.getElem_cons_zero, List.getElem_cons_succ])
          refine wpTill.take (i := 15) (v := ?_) (by rfl) rfl (by kernel_rfl) (by kernel_rfl) (by kernel_rfl) (by exact fun _ _ _ h => h) (loan_cells HQ.out.drop.drop.drop.drop.loc) (fun _ => trivial) (Or.inl ⟨by rfl, ?_⟩) ?_
          rotate_left
          · (intro w' hSw; (try dsimp only at hSw); go_simp; (try with_reducible rfl))
          (try simp only [Act.put, List.setIfInBounds_toArray, List.set_cons_zero, List.set_cons_succ, List.getElem_toArray, List.getElem_cons_zero, List.getElem_cons_succ])
          refine wpTill.stop (by kernel_rfl) ?_ _
          go_wp2_with (fail)
          go_meet
          exact ⟨_, rfl, rfl, HQ.out⟩
        replace hK := Lib.hid hK
        go_simp
        go_at_call 13
        ((with_reducible refine (HST.out _).mono ?_); rintro _ wT ⟨rfl, hbT⟩)
        replace HQ := Lib.hid (HQ.out.below hbT)
        clear hbT
        refine hK.out _ _ (loan_cells HQ.out.drop.drop.drop.drop.loc) (fun _ => trivial) ?_
        clear hK K'
        (try simp only [Act.put, List.setIfInBounds_toArray, List.set_cons_zero, List.set_cons_succ, List.getElem_toArray, List.getElem_cons_zero, List.getElem_cons_succ])
        refine wpTill.take (i := 5) (v := ?_) (by rfl) rfl (by kernel_rfl) (by kernel_rfl) (by kernel_rfl) (by exact fun _ _ _ h => h) (loan_cells HQ.out.drop.drop.drop.drop.loc) (fun _ => trivial) (Or.inl ⟨by rfl, ?_⟩) ?_
        rotate_left
        · (intro w' hSw; (try dsimp only at hSw); go_simp; (try with_reducible rfl))
        (try simp only [Act.put, List.setIfInBounds_toArray, List.set_cons_zero, List.set_cons_succ, List.getElem_toArray, List.getElem_cons_zero, List.getElem_cons_succ])
        refine wpTill.step2 (i := 6) (j := 13) (by kernel_rfl) (by rfl) (by rfl) (fun K' hK => ?_) (fun K' hK => ?_)
        rotate_left
        · skip
          replace hK := Lib.hid hK
          go_simp
          replace HQ := Lib.hid ((HQ.out.box #[.int .i64 0, .int .i64 0, .int .i64 0, .bool false] 24).sw)
          refine hK.out _ _ (loan_cells HQ.out.drop.drop.drop.drop.drop.loc) (fun _ => trivial) ?_
          clear hK K'
          (try simp only [Act.put, List.setIfInBounds_toArray, List.set_cons_zero, List.set_cons_succ, List.getElem_toArray, List.getElem_cons_zero, List.getElem_cons_succ])
          generalize wT.alloc (.cells #[.int .i64 0, .int .i64 0, .int .i64 0, .bool false] 24) = wX at *
          generalize wT.heap.size = gX at *
          refine wpTill.step (i := 6) (by kernel_rfl) (by rfl) (fun K' hK => ?_)
          replace hK := Lib.hid hK
          go_simp
          have HN := Lib.hid (Sl.new_ wX 32 [.int .i64 0, .int .i64 0, .int .i64 0, .slice none 0 0, .string ⟨tS.toArray⟩])
          replace HQ := Lib.hid (HQ.out.alloc (.cells #[.int .i64 0, .int .i64 0, .int .i64 0, .slice none 0 0, .string ⟨tS.toArray⟩] 32))
          refine hK.out _ _ (loan_cells HQ.out.drop.drop.drop.drop.drop.loc) (fun _ => trivial) ?_
          clear hK K'
          (try simp only [Act.put, List.setIfInBounds_toArray, List.set_cons_zero, List.set_cons_succ, List.getElem_toArray, List.getElem_cons_zero, List.getElem_cons_succ])
          generalize wX.alloc (.cells #[.int .i64 0, .int .i64 0, .int .i64 0, .slice none 0 0, .string ⟨tS.toArray⟩] 32) = wR at *
          generalize wX.heap.size = gR at *
          refine wpTill.step (i := 7) (by kernel_rfl) (by rfl) (fun K' hK => ?_)
          replace hK := Lib.hid hK
          (refine step_append_sl _ (by rfl) (.tmp 129) (.tmp 133) _ (by rfl) w.heap.size 32 i0 _ 5 64 Tryz.underlying22 hi0 hz0 hz1 hz2 rfl (by omega) (.slice A2 k c2) k (l.map EntC.cells) (by rfl) HQ.out.own (some ⟨gR, 0, none⟩) 1 1 [[.int .i64 0, .int .i64 0, .int .i64 0, .slice none 0 0, .string ⟨tS.toArray⟩]] (by rfl) HN.out (by simp) (by simp [Value.oneCell']) (by have := HN0.out; simp only [maxLen]; omega) (by have := HN0.out; omega) HQ.out.base.size ?_)
          intro A3 c3 w3a hown3 hg3 hat3
          replace HQ := Lib.hid (HQ.out.grown hown3 hg3 hat3)
          rw [HME.out] at HQ
          clear hown3 hg3 hat3 HN
          refine hK.out _ _ (loan_cells HQ.out.drop.drop.drop.drop.drop.loc) (fun _ => trivial) ?_
          clear hK K'
          (try simp only [Act.put, List.setIfInBounds_toArray, List.set_cons_zero, List.set_cons_succ, List.getElem_toArray, List.getElem_cons_zero, List.getElem_cons_succ])
          refine wpTill.step (i := 9) (by kernel_rfl) (by rfl) (fun K' hK => ?_)
          replace hK := Lib.hid hK
          go_simp
          go_at_call 10
          ((with_reducible refine (HRC.out _ A3 c3 HQ.out.base HQ.out.own.sl').mono ?_); rintro _ wN ⟨rfl, hbN⟩)
          replace HQ := Lib.hid (HQ.out.below hbN)
          clear hbN
          refine hK.out _ _ (loan_cells HQ.out.drop.drop.drop.drop.drop.loc) (fun _ => trivial) ?_
          clear hK K'
          (try simp only [Act.put, List.setIfInBounds_toArray, List.set_cons_zero, List.set_cons_succ, List.getElem_toArray, List.getElem_cons_zero, List.getElem_cons_succ])
          refine wpTill.take (i := 10) (v := ?_) (by rfl) rfl (by kernel_rfl) (by kernel_rfl) (by kernel_rfl) (by exact fun _ _ _ h => h) (loan_cells HQ.out.drop.drop.drop.drop.drop.loc) (fun _ => trivial) (Or.inl ⟨by rfl, ?_⟩) ?_
          rotate_left
          · (intro w' hSw; (try dsimp only at hSw); go_simp; (try with_reducible rfl))
          (try simp only [Act.put, List.setIfInBounds_toArray, List.set_cons_zero, List.set_cons_succ, List.getElem_toArray, List.getElem_cons_zero, List.getElem_cons_succ])
          refine wpTill.take (i := 11) (v := ?_) (by rfl) rfl (by kernel_rfl) (by kernel_rfl) (by kernel_rfl) (by exact fun _ _ _ h => h) (loan_cells HQ.out.drop.drop.drop.drop.drop.loc) (fun _ => trivial) (Or.inl ⟨by rfl, ?_⟩) ?_
          rotate_left
          · (intro w' hSw; (try dsimp only at hSw); go_simp; (try with_reducible rfl))
          (try simp only [Act.put, List.setIfInBounds_toArray, List.set_cons_zero, List.set_cons_succ, List.getElem_toArray, List.getElem_cons_zero, List.getElem_cons_succ])
          refine wpTill.take (i := 12) (v := ?_) (by rfl) rfl (by kernel_rfl) (by kernel_rfl) (by kernel_rfl) (by exact fun _ _ _ h => h) (loan_cells HQ.out.drop.drop.drop.drop.drop.loc) (fun _ => trivial) (Or.inl ⟨by rfl, ?_⟩) ?_
          rotate_left
          · (intro w' hSw; (try dsimp only at hSw); go_simp; (try with_reducible rfl))
          (try simp only [Act.put, List.setIfInBounds_toArray, List.set_cons_zero, List.set_cons_succ, List.getElem_toArray, List.getElem_cons_zero, List.getElem_cons_succ])
          replace HQ := Lib.hid HQ.out.drop
          obtain ⟨zE, kE, fE⟩ := HQ.out.loc
          refine wpTill.step (i := 14) (by kernel_rfl) (by rfl) (fun K' hK => ?_)
          replace hK := Lib.hid hK
          go_simp
          replace HQ := Lib.hid (HQ.out.setLoan d)
          refine hK.out _ _ (loan_cells HQ.out.drop.drop.drop.drop.loc) (fun _ => trivial) ?_
          clear hK K'
          (try simp only [Act.put, List.setIfInBounds_toArray, List.set_cons_zero, List.set_cons_succ, List.getElem_toArray, List.getElem_cons_zero, List.getElem_cons_succ])
          refine wpTill.take (i := 15) (v := ?_) (by rfl) rfl (by kernel_rfl) (by kernel_rfl) (by kernel_rfl) (by exact fun _ _ _ h => h) (loan_cells HQ.out.drop.drop.drop.drop.loc) (fun _ => trivial) (Or.inl ⟨by rfl, ?_⟩) ?_
          rotate_left
          · (intro w' hSw; (try dsimp only at hSw); go_simp; (try with_reducible rfl))
          (try simp only [Act.put, List.setIfInBounds_toArray, List.set_cons_zero, List.set_cons_succ, List.getElem_toArray, List.getElem_cons_zero, List.getElem_cons_succ])
          refine wpTill.stop (by kernel_rfl) ?_ _
          go_wp2_with (fail)
          go_meet
          exact ⟨_, rfl, rfl, HQ.out⟩
        replace hK := Lib.hid hK
        go_simp
        have HN := Lib.hid (Sl.new_ wT 32 [.int .i64 0, .int .i64 0, .int .i64 0, .slice none 0 0, .string ⟨tS.toArray⟩])
        replace HQ := Lib.hid (HQ.out.alloc (.cells #[.int .i64 0, .int .i64 0, .int .i64 0, .slice none 0 0, .string ⟨tS.toArray⟩] 32))
        refine hK.out _ _ (loan_cells HQ.out.drop.drop.drop.drop.loc) (fun _ => trivial) ?_
        clear hK K'
        (try simp only [Act.put, List.setIfInBounds_toArray, List.set_cons_zero, List.set_cons_succ, List.getElem_toArray, List.getElem_cons_zero, List.getElem_cons_succ])
        generalize wT.alloc (.cells #[.int .i64 0, .int .i64 0, .int .i64 0, .slice none 0 0, .string ⟨tS.toArray⟩] 32) = wR at *
        generalize wT.heap.size = gR at *
        refine wpTill.step2 (i := 7) (j := 13) (by kernel_rfl) (by rfl) (by rfl) (fun K' hK => ?_) (fun K' hK => ?_)
        rotate_left
        · skip
          replace hK := Lib.hid hK
          go_simp
          replace HQ := Lib.hid ((HQ.out.box #[.int .i64 0, .int .i64 0, .int .i64 0, .bool false] 24).sw)
          replace HN := Lib.hid (Sl.alloc HN.out (.cells #[.int .i64 0, .int .i64 0, .int .i64 0, .bool false] 24))
          refine hK.out _ _ (loan_cells HQ.out.drop.drop.drop.drop.drop.loc) (fun _ => trivial) ?_
          clear hK K'
          (try simp only [Act.put, List.setIfInBounds_toArray, List.set_cons_zero, List.set_cons_succ, List.getElem_toArray, List.getElem_cons_zero, List.getElem_cons_succ])
          generalize wR.alloc (.cells #[.int .i64 0, .int .i64 0, .int .i64 0, .bool false] 24) = wX at *
          generalize wR.heap.size = gX at *
          refine wpTill.step (i := 7) (by kernel_rfl) (by rfl) (fun K' hK => ?_)
          replace hK := Lib.hid hK
          (refine step_append_sl _ (by rfl) (.tmp 129) (.tmp 133) _ (by rfl) w.heap.size 32 i0 _ 5 64 Tryz.underlying22 hi0 hz0 hz1 hz2 rfl (by omega) (.slice A2 k c2) k (l.map EntC.cells) (by rfl) HQ.out.own (some ⟨gR, 0, none⟩) 1 1 [[.int .i64 0, .int .i64 0, .int .i64 0, .slice none 0 0, .string ⟨tS.toArray⟩]] (by rfl) HN.out (by simp) (by simp [Value.oneCell']) (by have := HN0.out; simp only [maxLen]; omega) (by have := HN0.out; omega) HQ.out.base.size ?_)
          intro A3 c3 w3a hown3 hg3 hat3
          replace HQ := Lib.hid (HQ.out.grown hown3 hg3 hat3)
          rw [HME.out] at HQ
          clear hown3 hg3 hat3 HN
          refine hK.out _ _ (loan_cells HQ.out.drop.drop.drop.drop.drop.loc) (fun _ => trivial) ?_
          clear hK K'
          (try simp only [Act.put, List.setIfInBounds_toArray, List.set_cons_zero, List.set_cons_succ, List.getElem_toArray, List.getElem_cons_zero, List.getElem_cons_succ])
          refine wpTill.step (i := 9) (by kernel_rfl) (by rfl) (fun K' hK => ?_)
          replace hK := Lib.hid hK
          go_simp
          go_at_call 10
          ((with_reducible refine (HRC.out _ A3 c3 HQ.out.base HQ.out.own.sl').mono ?_); rintro _ wN ⟨rfl, hbN⟩)
          replace HQ := Lib.hid (HQ.out.below hbN)
          clear hbN
          refine hK.out _ _ (loan_cells HQ.out.drop.drop.drop.drop.drop.loc) (fun _ => trivial) ?_
          clear hK K'
          (try simp only [Act.put, List.setIfInBounds_toArray, List.set_cons_zero, List.set_cons_succ, List.getElem_toArray, List.getElem_cons_zero, List.getElem_cons_succ])
          refine wpTill.take (i := 10) (v := ?_) (by rfl) rfl (by kernel_rfl) (by kernel_rfl) (by kernel_rfl) (by exact fun _ _ _ h => h) (loan_cells HQ.out.drop.drop.drop.drop.drop.loc) (fun _ => trivial) (Or.inl ⟨by rfl, ?_⟩) ?_
          rotate_left
          · (intro w' hSw; (try dsimp only at hSw); go_simp; (try with_reducible rfl))
          (try simp only [Act.put, List.setIfInBounds_toArray, List.set_cons_zero, List.set_cons_succ, List.getElem_toArray, List.getElem_cons_zero, List.getElem_cons_succ])
          refine wpTill.take (i := 11) (v := ?_) (by rfl) rfl (by kernel_rfl) (by kernel_rfl) (by kernel_rfl) (by exact fun _ _ _ h => h) (loan_cells HQ.out.drop.drop.drop.drop.drop.loc) (fun _ => trivial) (Or.inl ⟨by rfl, ?_⟩) ?_
          rotate_left
          · (intro w' hSw; (try dsimp only at hSw); go_simp; (try with_reducible rfl))
          (try simp only [Act.put, List.setIfInBounds_toArray, List.set_cons_zero, List.set_cons_succ, List.getElem_toArray, List.getElem_cons_zero, List.getElem_cons_succ])
          refine wpTill.take (i := 12) (v := ?_) (by rfl) rfl (by kernel_rfl) (by kernel_rfl) (by kernel_rfl) (by exact fun _ _ _ h => h) (loan_cells HQ.out.drop.drop.drop.drop.drop.loc) (fun _ => trivial) (Or.inl ⟨by rfl, ?_⟩) ?_
          rotate_left
          · (intro w' hSw; (try dsimp only at hSw); go_simp; (try with_reducible rfl))
          (try simp only [Act.put, List.setIfInBounds_toArray, List.set_cons_zero, List.set_cons_succ, List.getElem_toArray, List.getElem_cons_zero, List.getElem_cons_succ])
          replace HQ := Lib.hid HQ.out.drop
          obtain ⟨zE, kE, fE⟩ := HQ.out.loc
          refine wpTill.step (i := 14) (by kernel_rfl) (by rfl) (fun K' hK => ?_)
          replace hK := Lib.hid hK
          go_simp
          replace HQ := Lib.hid (HQ.out.setLoan d)
          refine hK.out _ _ (loan_cells HQ.out.drop.drop.drop.drop.loc) (fun _ => trivial) ?_
          clear hK K'
          (try simp only [Act.put, List.setIfInBounds_toArray, List.set_cons_zero, List.set_cons_succ, List.getElem_toArray, List.getElem_cons_zero, List.getElem_cons_succ])
          refine wpTill.take (i := 15) (v := ?_) (by rfl) rfl (by kernel_rfl) (by kernel_rfl) (by kernel_rfl) (by exact fun _ _ _ h => h) (loan_cells HQ.out.drop.drop.drop.drop.loc) (fun _ => trivial) (Or.inl ⟨by rfl, ?_⟩) ?_
          rotate_left
          · (intro w' hSw; (try dsimp only at hSw); go_simp; (try with_reducible rfl))
          (try simp only [Act.put, List.setIfInBounds_toArray, List.set_cons_zero, List.set_cons_succ, List.getElem_toArray, List.getElem_cons_zero, List.getElem_cons_succ])
          refine wpTill.stop (by kernel_rfl) ?_ _
          go_wp2_with (fail)
          go_meet
          exact ⟨_, rfl, rfl, HQ.out⟩
        replace hK := Lib.hid hK
        (refine step_append_sl _ (by rfl) (.tmp 129) (.tmp 133) _ (by rfl) w.heap.size 32 i0 _ 5 64 Tryz.underlying22 hi0 hz0 hz1 hz2 rfl (by omega) (.slice A2 k c2) k (l.map EntC.cells) (by rfl) HQ.out.own (some ⟨gR, 0, none⟩) 1 1 [[.int .i64 0, .int .i64 0, .int .i64 0, .slice none 0 0, .string ⟨tS.toArray⟩]] (by rfl) HN.out (by simp) (by simp [Value.oneCell']) (by have := HN0.out; simp only [maxLen]; omega) (by have := HN0.out; omega) HQ.out.base.size ?_)
        intro A3 c3 w3a hown3 hg3 hat3
        replace HQ := Lib.hid (HQ.out.grown hown3 hg3 hat3)
        rw [HME.out] at HQ
        clear hown3 hg3 hat3 HN
        refine hK.out _ _ (loan_cells HQ.out.drop.drop.drop.drop.loc) (fun _ => trivial) ?_
        clear hK K'
        (try simp only [Act.put, List.setIfInBounds_toArray, List.set_cons_zero, List.set_cons_succ, List.getElem_toArray, List.getElem_cons_zero, List.getElem_cons_succ])
        refine wpTill.step2 (i := 9) (j := 13) (by kernel_rfl) (by rfl) (by rfl) (fun K' hK => ?_) (fun K' hK => ?_)
        rotate_left
        · skip
          replace hK := Lib.hid hK
          go_simp
          replace HQ := Lib.hid ((HQ.out.box #[.int .i64 0, .int .i64 0, .int .i64 0, .bool false] 24).sw)
          refine hK.out _ _ (loan_cells HQ.out.drop.drop.drop.drop.drop.loc) (fun _ => trivial) ?_
          clear hK K'
          (try simp only [Act.put, List.setIfInBounds_toArray, List.set_cons_zero, List.set_cons_succ, List.getElem_toArray, List.getElem_cons_zero, List.getElem_cons_succ])
          generalize w3a.alloc (.cells #[.int .i64 0, .int .i64 0, .int .i64 0, .bool false] 24) = wX at *
          generalize w3a.heap.size = gX at *
          refine wpTill.step (i := 9) (by kernel_rfl) (by rfl) (fun K' hK => ?_)
          replace hK := Lib.hid hK
          go_simp
          go_at_call 10
          ((with_reducible refine (HRC.out _ A3 c3 HQ.out.base HQ.out.own.sl').mono ?_); rintro _ wN ⟨rfl, hbN⟩)
          replace HQ := Lib.hid (HQ.out.below hbN)
          clear hbN
          refine hK.out _ _ (loan_cells HQ.out.drop.drop.drop.drop.drop.loc) (fun _ => trivial) ?_
          clear hK K'
          (try simp only [Act.put, List.setIfInBounds_toArray, List.set_cons_zero, List.set_cons_succ, List.getElem_toArray, List.getElem_cons_zero, List.getElem_cons_succ])
          refine wpTill.take (i := 10) (v := ?_) (by rfl) rfl (by kernel_rfl) (by kernel_rfl) (by kernel_rfl) (by exact fun _ _ _ h => h) (loan_cells HQ.out.drop.drop.drop.drop.drop.loc) (fun _ => trivial) (Or.inl ⟨by rfl, ?_⟩) ?_
          rotate_left
          · (intro w' hSw; (try dsimp only at hSw); go_simp; (try with_reducible rfl))
          (try simp only [Act.put, List.setIfInBounds_toArray, List.set_cons_zero, List.set_cons_succ, List.getElem_toArray, List.getElem_cons_zero, List.getElem_cons_succ])
          refine wpTill.take (i := 11) (v := ?_) (by rfl) rfl (by kernel_rfl) (by kernel_rfl) (by kernel_rfl) (by exact fun _ _ _ h => h) (loan_cells HQ.out.drop.drop.drop.drop.drop.loc) (fun _ => trivial) (Or.inl ⟨by rfl, ?_⟩) ?_
          rotate_left
          · (intro w' hSw; (try dsimp only at hSw); go_simp; (try with_reducible rfl))
          (try simp only [Act.put, List.setIfInBounds_toArray, List.set_cons_zero, List.set_cons_succ, List.getElem_toArray, List.getElem_cons_zero, List.getElem_cons_succ])
          refine wpTill.take (i := 12) (v := ?_) (by rfl) rfl (by kernel_rfl) (by kernel_rfl) (by kernel_rfl) (by exact fun _ _ _ h => h) (loan_cells HQ.out.drop.drop.drop.drop.drop.loc) (fun _ => trivial) (Or.inl ⟨by rfl, ?_⟩) ?_
          rotate_left
          · (intro w' hSw; (try dsimp only at hSw); go_simp; (try with_reducible rfl))
          (try simp only [Act.put, List.setIfInBounds_toArray, List.set_cons_zero, List.set_cons_succ, List.getElem_toArray, List.getElem_cons_zero, List.getElem_cons_succ])
          replace HQ := Lib.hid HQ.out.drop
          obtain ⟨zE, kE, fE⟩ := HQ.out.loc
          refine wpTill.step (i := 14) (by kernel_rfl) (by rfl) (fun K' hK => ?_)
          replace hK := Lib.hid hK
          go_simp
          replace HQ := Lib.hid (HQ.out.setLoan d)
          refine hK.out _ _ (loan_cells HQ.out.drop.drop.drop.drop.loc) (fun _ => trivial) ?_
          clear hK K'
          (try simp only [Act.put, List.setIfInBounds_toArray, List.set_cons_zero, List.set_cons_succ, List.getElem_toArray, List.getElem_cons_zero, List.getElem_cons_succ])
          refine wpTill.take (i := 15) (v := ?_) (by rfl) rfl (by kernel_rfl) (by kernel_rfl) (by kernel_rfl) (by exact fun _ _ _ h => h) (loan_cells HQ.out.drop.drop.drop.drop.loc) (fun _ => trivial) (Or.inl ⟨by rfl, ?_⟩) ?_
          rotate_left
          · (intro w' hSw; (try dsimp only at hSw); go_simp; (try with_reducible rfl))
          (try simp only [Act.put, List.setIfInBounds_toArray, List.set_cons_zero, List.set_cons_succ, List.getElem_toArray, List.getElem_cons_zero, List.getElem_cons_succ])
          refine wpTill.stop (by kernel_rfl) ?_ _
          go_wp2_with (fail)
          go_meet
          exact ⟨_, rfl, rfl, HQ.out⟩
        replace hK := Lib.hid hK
        go_simp
        go_at_call 10
        ((with_reducible refine (HRC.out _ A3 c3 HQ.out.base HQ.out.own.sl').mono ?_); rintro _ wN ⟨rfl, hbN⟩)
        replace HQ := Lib.hid (HQ.out.below hbN)
        clear hbN
        refine hK.out _ _ (loan_cells HQ.out.drop.drop.drop.drop.loc) (fun _ => trivial) ?_
        clear hK K'
        (try simp only [Act.put, List.setIfInBounds_toArray, List.set_cons_zero, List.set_cons_succ, List.getElem_toArray, List.getElem_cons_zero, List.getElem_cons_succ])
        refine wpTill.take (i := 10) (v := ?_) (by rfl) rfl (by kernel_rfl) (by kernel_rfl) (by kernel_rfl) (by exact fun _ _ _ h => h) (loan_cells HQ.out.drop.drop.drop.drop.loc) (fun _ => trivial) (Or.inl ⟨by rfl, ?_⟩) ?_
        rotate_left
        · (intro w' hSw; (try dsimp only at hSw); go_simp; (try with_reducible rfl))
        (try simp only [Act.put, List.setIfInBounds_toArray, List.set_cons_zero, List.set_cons_succ, List.getElem_toArray, List.getElem_cons_zero, List.getElem_cons_succ])
        refine wpTill.take (i := 11) (v := ?_) (by rfl) rfl (by kernel_rfl) (by kernel_rfl) (by kernel_rfl) (by exact fun _ _ _ h => h) (loan_cells HQ.out.drop.drop.drop.drop.loc) (fun _ => trivial) (Or.inl ⟨by rfl, ?_⟩) ?_
        rotate_left
        · (intro w' hSw; (try dsimp only at hSw); go_simp; (try with_reducible rfl))
        (try simp only [Act.put, List.setIfInBounds_toArray, List.set_cons_zero, List.set_cons_succ, List.getElem_toArray, List.getElem_cons_zero, List.getElem_cons_succ])
        refine wpTill.take (i := 12) (v := ?_) (by rfl) rfl (by kernel_rfl) (by kernel_rfl) (by kernel_rfl) (by exact fun _ _ _ h => h) (loan_cells HQ.out.drop.drop.drop.drop.loc) (fun _ => trivial) (Or.inl ⟨by rfl, ?_⟩) ?_
        rotate_left
        · (intro w' hSw; (try dsimp only at hSw); go_simp; (try with_reducible rfl))
        (try simp only [Act.put, List.setIfInBounds_toArray, List.set_cons_zero, List.set_cons_succ, List.getElem_toArray, List.getElem_cons_zero, List.getElem_cons_succ])
        refine wpTill.step (i := 13) (by kernel_rfl) (by rfl) (fun K' hK => ?_)
        replace hK := Lib.hid hK
        go_simp
        replace HQ := Lib.hid ((HQ.out.box #[.int .i64 0, .int .i64 0, .int .i64 0, .bool false] 24).sw)
        refine hK.out _ _ (loan_cells HQ.out.drop.drop.drop.drop.drop.loc) (fun _ => trivial) ?_
        clear hK K'
        (try simp only [Act.put, List.setIfInBounds_toArray, List.set_cons_zero, List.set_cons_succ, List.getElem_toArray, List.getElem_cons_zero, List.getElem_cons_succ])
        generalize wN.alloc (.cells #[.int .i64 0, .int .i64 0, .int .i64 0, .bool false] 24) = wX at *
        generalize wN.heap.size = gX at *
        replace HQ := Lib.hid HQ.out.drop
        obtain ⟨zE, kE, fE⟩ := HQ.out.loc
        refine wpTill.step (i := 14) (by kernel_rfl) (by rfl) (fun K' hK => ?_)
        replace hK := Lib.hid hK
        go_simp
        replace HQ := Lib.hid (HQ.out.setLoan d)
        refine hK.out _ _ (loan_cells HQ.out.drop.drop.drop.drop.loc) (fun _ => trivial) ?_
        clear hK K'
        (try simp only [Act.put, List.setIfInBounds_toArray, List.set_cons_zero, List.set_cons_succ, List.getElem_toArray, List.getElem_cons_zero, List.getElem_cons_succ])
        refine wpTill.take (i := 15) (v := ?_) (by rfl) rfl (by kernel_rfl) (by kernel_rfl) (by kernel_rfl) (by exact fun _ _ _ h => h) (loan_cells HQ.out.drop.drop.drop.drop.loc) (fun _ => trivial) (Or.inl ⟨by rfl, ?_⟩) ?_
        rotate_left
        · (intro w' hSw; (try dsimp only at hSw); go_simp; (try with_reducible rfl))
        (try simp only [Act.put, List.setIfInBounds_toArray, List.set_cons_zero, List.set_cons_succ, List.getElem_toArray, List.getElem_cons_zero, List.getElem_cons_succ])
        refine wpTill.stop (by kernel_rfl) ?_ _
        go_wp2_with (fail)
        go_meet
        exact ⟨_, rfl, rfl, HQ.out⟩
  -- END R19
      case rest =>
      obtain ⟨g19, rfl, rfl, hq7⟩ := hcut
      have HS7 := Lib.hid hq7
      simp only [loanX] at HS7
      clear hq7 HS6 HRC HST
      have hlaw := replayF_spend (ts := textsOf (vsOf l)) (l := loan) (n := u) (by rw [HR.out]) HU.out.2
      rw [HD.out, HR.out, HW.out] at hlaw
      by_cases hu0 : u < 0
      · have hmay := hlaw.1 hu0
        simp only at hmay
        subst hmay
        clear hlaw
        go_wp2_with (fail)
        go_ret
        exact ⟨rfl, HS7.out.base⟩
      · have h2 := hlaw.2 (by omega)
        simp only [Prod.mk.injEq] at h2
        obtain ⟨rfl, hme⟩ := h2
        have HB7 := Lib.hid HS7.out.base
        obtain ⟨zD, kD, fD⟩ := HS7.out.loc
        obtain ⟨zW, kW, fW⟩ := HS7.out.sw.loc
        clear hlaw
        by_cases he : e = 0
        · subst he
          obtain rfl : may = true := by rw [hme]; rfl
          clear hme
          go_wp2_with (fail)
          go_ret
          exact ⟨rfl, HB7.out⟩
        · obtain rfl : may = false := by rw [hme]; exact decide_eq_false he
          have heb : (e == 0) = false := beq_eq_false_iff_ne.2 he
          clear hme
          go_wp2_with (fail)
          go_ret
          exact ⟨rfl, HB7.out⟩
end Go.Proofs.YtjncmlglhegnaaaGreatDoor
