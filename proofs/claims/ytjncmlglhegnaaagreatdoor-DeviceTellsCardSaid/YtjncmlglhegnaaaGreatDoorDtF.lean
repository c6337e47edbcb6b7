/- kerbsideref49: All, Loan, put, walked. -/
/- kerbsideref49: Write, Spend, Return, Hand, walked. -/
/- kerbsidelaw49: DeviceTells, walked. -/
import Derived.Test.YtjncmlglhegnaaaGreatDoorDtC
import Derived.Test.YtjncmlglhegnaaaGreatDoorChainRE
import Derived.Test.YtjncmlglhegnaaaGreatDoorDevO
import Derived.Test.YtjncmlglhegnaaaGreatDoorDevR
import Derived.Test.YtjncmlglhegnaaaGreatDoorDevT
import Derived.Test.YtjncmlglhegnaaaGreatDoorSameC
import Derived.Deep.LoopGhost
import Derived.Deep.DeepCutAuto
import Derived.Deep.CutBlock
namespace Go.Proofs.YtjncmlglhegnaaaGreatDoor
open Go.RowKit Go.Sort Go.Lib

theorem formB_short (t : List UInt8) (ht : t.length ≤ 1099511627776) : (formB t).length ≤ t.length + 60 := by
  have h1 := encT_len (s := t) (by omega)
  have h2 := sumF_rng t
  have h3 : (encN (sumF t)).length ≤ 21 := by unfold encN; rw [if_neg (by omega)]; exact encI_len ⟨by omega, by omega⟩
  unfold formB
  rw [List.length_append]
  omega
theorem formsB_short : ∀ {l : List (List UInt8)}, (∀ t ∈ l, t.length ≤ 100000) → (formsB l).length ≤ l.length * 100060
  | [], _ => by simp [formsB]
  | t :: l, h => by
    have h1 := formsB_short (l := l) fun u hu => h u (List.mem_cons_of_mem _ hu)
    have h2 := formB_short t (by have := h t (List.mem_cons_self ..); omega)
    have h3 := h t (List.mem_cons_self ..)
    rw [formsB_cons, List.length_append, List.length_cons]
    omega
/-- what the reference's device keeps within -/
structure RDevOk (y : RDevV) : Prop where
  dec : decAll y.j.recs = some y.ents
  few : y.ents.length ≤ 1000
  small : ∀ t ∈ y.j.recs, t.length ≤ 100000
theorem RDevOk.recs {y : RDevV} (h : RDevOk y) : y.j.recs.length ≤ 1000 := by
  have h1 := decAll_len h.dec
  have h2 := h.few
  omega
theorem RDevOk.forms {y : RDevV} (h : RDevOk y) : (formsB y.j.recs).length ≤ 1099511627776 := by
  have h1 := formsB_short h.small
  have h2 := h.recs
  omega
theorem results_rloan {W : World} {n : Nat} {l : LoanV} {tmps : Array Value} (h : Loc W n (loanX l)) (ht : tmps.getD 2 undef = .pointer (some ⟨n, 0, none⟩)) :
    (results Tryz.f39 tmps).run Tryz.prog W = .ok (.agg (loanX l)) W := by
  have ht' : tmps[2]?.getD undef = .pointer (some ⟨n, 0, none⟩) := by simpa using ht
  simp only [results, show Tryz.f39.results = #[.cell 2 24] from rfl]
  have hl := loadVar_loan h
  simp [ht', asAddr, hl]
section
variable {w0 w w' : World} {Rs : List Res} {C X : Nat} {r : DV} {y : RDevV}
theorem RDevOk.chAt {A : Option Addr} {c : Nat} {fs : List EntC} (hok : RDevOk y) (hf : vsOf fs = y.ents) (h : Sep w0 w (ownR 32 5 (.slice A fs.length c) fs.length (fs.map EntC.cells) :: seesR (SeenAt fs) :: Rs)) : ChAt w A fs.length fs :=
  chAt_of (by rw [hf]; exact hok.dec) h.own.sl' h.sw.sees
set_option maxRecDepth 100000 in
set_option maxHeartbeats 4000000 in
theorem RAll_sep (h : Sep w0 w (rdevR C X y :: Rs)) (hok : RDevOk y) :
    Calls Tryz.prog 37 #[.pointer (some ⟨X, 0, none⟩)] w fun e w' => ∃ A c fs, vsOf fs = y.ents ∧ e = .returned (.slice A fs.length c) ∧ Sep w0 w' (ownR 32 5 (.slice A fs.length c) fs.length (fs.map EntC.cells) :: seesR (SeenAt fs) :: rdevR C X y :: Rs) := by
  obtain ⟨J, hp⟩ := h.rdevPart
  obtain ⟨A3, c3, hq⟩ := hp.sw.jref_part
  have HS := Lib.hid hq
  have HOK := Lib.hid hok
  obtain ⟨zJ, kJ, fJ⟩ := hq.loc
  obtain ⟨zX, kX, fX⟩ := hq.r3.loc
  simp only [jrefX] at kJ
  have HC := Lib.hid (rentries_any w A3 y.j.recs.length c3 y.j.recs hq.sw.own.sl' (by have := hok.recs; omega) hok.small)
  clear h hp hq hok
  go_enter Tryz.func37, Tryz.ntmps37
  go_wp2_with (fail)
  ((with_reducible refine HC.out.mono ?_); rintro _ w4 hP)
  clear zJ kJ fJ zX kX fX HC
  rcases hP with ⟨A4, c4, es, hde, rfl, hS⟩ | ⟨hde, rfl, hb⟩
  case inr => exact absurd (HOK.out.dec.symm.trans hde) (by simp)
  have HS5 := Lib.hid (HS.out.graft hS)
  simp only [List.cons_append, List.nil_append] at HS5
  have hes : vsOf es = y.ents := by
    have := hde.symm.trans HOK.out.dec
    injection this
  have HES := Lib.hid hes
  clear hS hde hes
  go_wp2_with (fail)
  go_ret
  have h7 := Sep.jref_join (j := y.j) (HS5.out.r4.r4) rfl rfl rfl
  exact ⟨A4, c4, es, HES.out, rfl, (Sep.rdevPack h7.r4).l3⟩
theorem RDevOk.first (h : Sep w0 w (rdevR C X y :: Rs)) : w.cell? ⟨X, 1, none⟩ = some (.int .i64 y.number) ∧ w.cell? ⟨X, 2, none⟩ = some (.int .i64 y.first.device) ∧ w.cell? ⟨X, 3, none⟩ = some (.int .i64 y.first.units) ∧ w.cell? ⟨X, 4, none⟩ = some (.int .i64 y.first.spent) ∧ w.cell? ⟨X, 5, none⟩ = some (.bool y.first.back) := by
  obtain ⟨J, hp⟩ := h.rdevPart
  exact ⟨hp.loc.cell 1, hp.loc.cell 2, hp.loc.cell 3, hp.loc.cell 4, hp.loc.cell 5⟩
set_option maxRecDepth 100000 in
set_option maxHeartbeats 16000000 in
theorem RLoan_sep (h : Sep w0 w (rdevR C X y :: Rs)) (hok : RDevOk y) :
    Calls Tryz.prog 39 #[.pointer (some ⟨X, 0, none⟩)] w fun e w' => e = .returned (.agg (loanX y.loan)) ∧ Sep w0 w' (rdevR C X y :: Rs) := by
  obtain ⟨⟨⟨rd, ru, rs, rb⟩, ro⟩, hrp⟩ : ∃ q, replayF (textsOf y.ents) y.first = q := ⟨_, rfl⟩
  have hl : y.loan = ⟨rd, ru, rs, rb⟩ := by unfold RDevV.loan; rw [hrp]
  rw [hl]
  have HS := Lib.hid ((h.box #[.int .i64 0, .int .i64 0, .int .i64 0, .bool false] 24).sw)
  have HSS : Hid (∀ W Rs, Sep w0 W (rdevR C X y :: Rs) → (W.cell? ⟨X, 2, none⟩ = some (.int .i64 y.first.device) ∧ W.cell? ⟨X, 3, none⟩ = some (.int .i64 y.first.units) ∧ W.cell? ⟨X, 4, none⟩ = some (.int .i64 y.first.spent) ∧ W.cell? ⟨X, 5, none⟩ = some (.bool y.first.back))) := Lib.hid fun W Rs h => (RDevOk.first h).2
  have HA := Lib.hid (fun W Rs (h : Sep w0 W (rdevR C X y :: Rs)) => RAll_sep h hok)
  have HRP := Lib.hid (fun W A c (fs : List EntC) Rs (hf : vsOf fs = y.ents) (h : Sep w0 W (ownR 32 5 (.slice A fs.length c) fs.length (fs.map EntC.cells) :: seesR (SeenAt fs) :: Rs)) => rReplay_any W A fs.length c fs (hok.chAt hf h) (by have := hok.few; rw [← hf, vsOf_len] at this; omega) y.first (⟨rd, ru, rs, rb⟩, ro) (by rw [hf]; exact hrp))
  simp only [loanX] at HRP
  clear h hok hrp hl
  go_enter Tryz.func39, Tryz.ntmps39
  go_upto_region 1 with (fail)
  generalize w.heap.size = g2 at HS ⊢
  generalize w.alloc (.cells #[.int .i64 0, .int .i64 0, .int .i64 0, .bool false] 24) = wA at HS ⊢
  go_cut [3] (fun s3 wy => ∃ g : Nat, s3 = .pointer (some ⟨g, 0, none⟩) ∧ Sep w0 wy (boxR g (loanX ⟨rd, ru, rs, rb⟩) :: rdevR C X y :: boxR g2 #[.int .i64 0, .int .i64 0, .int .i64 0, .bool false] :: Rs))
  case first =>
    refine wpTill.startN 13 (S := fun W => W.cell? ⟨X, 2, none⟩ = some (.int .i64 y.first.device) ∧ W.cell? ⟨X, 3, none⟩ = some (.int .i64 y.first.units) ∧ W.cell? ⟨X, 4, none⟩ = some (.int .i64 y.first.spent) ∧ W.cell? ⟨X, 5, none⟩ = some (.bool y.first.back)) (T := fun _ => True) (m := 300) rfl (by kernel_rfl) ?_
    have HQ := Lib.hid HS.out.drew
    generalize wA.drew = wz at *
-- BEGIN loan
    refine wpTill.take (i := 0) (v := ?_) (by rfl) rfl (by kernel_rfl) (by kernel_rfl) (by kernel_rfl) (by exact fun _ _ _ h => h) (HSS.out _ _ HQ.out) (fun _ => trivial) (Or.inl ⟨by rfl, ?_⟩) ?_
    rotate_left
    · (intro w' hSw; (try dsimp only at hSw); go_simp; (try with_reducible rfl))
    (try simp only [Act.put, List.setIfInBounds_toArray, List.set_cons_zero, List.set_cons_succ, List.getElem_toArray, List.getElem_cons_zero, List.getElem_cons_succ])
    refine wpTill.take (i := 2) (v := ?_) (by rfl) rfl (by kernel_rfl) (by kernel_rfl) (by kernel_rfl) (by exact fun _ _ _ h => h) (HSS.out _ _ HQ.out) (fun _ => trivial) (Or.inl ⟨by rfl, ?_⟩) ?_
    rotate_left
    · (intro w' hSw; (try dsimp only at hSw); go_simp; (try with_reducible rfl))
    (try simp only [Act.put, List.setIfInBounds_toArray, List.set_cons_zero, List.set_cons_succ, List.getElem_toArray, List.getElem_cons_zero, List.getElem_cons_succ])
    refine wpTill.take (i := 3) (v := ?_) (by rfl) rfl (by kernel_rfl) (by kernel_rfl) (by kernel_rfl) (by exact fun _ _ _ h => h) (HSS.out _ _ HQ.out) (fun _ => trivial) (Or.inl ⟨by rfl, ?_⟩) ?_
    rotate_left
    · (intro w' hSw; (try dsimp only at hSw); go_simp; (try with_reducible rfl))
    (try simp only [Act.put, List.setIfInBounds_toArray, List.set_cons_zero, List.set_cons_succ, List.getElem_toArray, List.getElem_cons_zero, List.getElem_cons_succ])
    refine wpTill.take (i := 4) (v := ?_) (by rfl) rfl (by kernel_rfl) (by kernel_rfl) (by kernel_rfl) (by exact fun _ _ _ h => h) (HSS.out _ _ HQ.out) (fun _ => trivial) (Or.inl ⟨by rfl, ?_⟩) ?_
    rotate_left
    · (intro w' hSw; (try dsimp only at hSw); go_simp; (try with_reducible rfl))
    (try simp only [Act.put, List.setIfInBounds_toArray, List.set_cons_zero, List.set_cons_succ, List.getElem_toArray, List.getElem_cons_zero, List.getElem_cons_succ])
    refine wpTill.take (i := 5) (v := ?_) (by rfl) rfl (by kernel_rfl) (by kernel_rfl) (by kernel_rfl) (by exact fun _ _ _ h => h) (HSS.out _ _ HQ.out) (fun _ => trivial) (Or.inl ⟨by rfl, ?_⟩) ?_
    rotate_left
    · (intro w' hSw; (try dsimp only at hSw); go_simp; (try with_reducible rfl))
    (try simp only [Act.put, List.setIfInBounds_toArray, List.set_cons_zero, List.set_cons_succ, List.getElem_toArray, List.getElem_cons_zero, List.getElem_cons_succ])
    refine wpTill.step2 (i := 1) (j := 10) (by kernel_rfl) (by rfl) (by rfl) (fun K' hK => ?_) (fun K' hK => ?_)
    rotate_left
    · skip
      replace hK := Lib.hid hK
      go_simp
      replace HQ := Lib.hid (HQ.out.box #[.int .i64 0, .int .i64 0, .int .i64 0, .bool false] 24).sw
      refine hK.out _ _ (HSS.out _ _ HQ.out) (fun _ => trivial) ?_
      clear hK K'
      (try simp only [Act.put, List.setIfInBounds_toArray, List.set_cons_zero, List.set_cons_succ, List.getElem_toArray, List.getElem_cons_zero, List.getElem_cons_succ])
      generalize wz.alloc (.cells #[.int .i64 0, .int .i64 0, .int .i64 0, .bool false] 24) = wX at *
      generalize wz.heap.size = gX at *
      refine wpTill.step (i := 1) (by kernel_rfl) (by rfl) (fun K' hK => ?_)
      replace hK := Lib.hid hK
      go_simp
      go_at_call 37
      ((with_reducible refine (HA.out _ _ HQ.out).mono ?_); rintro _ wN ⟨A, c, fs, hfs, rfl, h2⟩)
      have HFS := Lib.hid hfs
      replace HQ := Lib.hid h2.r3
      clear hfs h2
      refine hK.out _ _ (HSS.out _ _ HQ.out) (fun _ => trivial) ?_
      clear hK K'
      (try simp only [Act.put, List.setIfInBounds_toArray, List.set_cons_zero, List.set_cons_succ, List.getElem_toArray, List.getElem_cons_zero, List.getElem_cons_succ])
      refine wpTill.step (i := 6) (by kernel_rfl) (by rfl) (fun K' hK => ?_)
      replace hK := Lib.hid hK
      go_simp
      go_at_call 70
      ((with_reducible refine (HRP.out _ _ _ _ _ HFS.out HQ.out.l3).mono ?_); rintro _ wM ⟨rfl, hbM⟩)
      replace HQ := Lib.hid (HQ.out.below hbM)
      clear hbM
      refine hK.out _ _ (HSS.out _ _ HQ.out) (fun _ => trivial) ?_
      clear hK K'
      (try simp only [Act.put, List.setIfInBounds_toArray, List.set_cons_zero, List.set_cons_succ, List.getElem_toArray, List.getElem_cons_zero, List.getElem_cons_succ])
      refine wpTill.take (i := 7) (v := ?_) (by rfl) rfl (by kernel_rfl) (by kernel_rfl) (by kernel_rfl) (by exact fun _ _ _ h => h) (HSS.out _ _ HQ.out) (fun _ => trivial) (Or.inl ⟨by rfl, ?_⟩) ?_
      rotate_left
      · (intro w' hSw; (try dsimp only at hSw); go_simp; (try with_reducible rfl))
      (try simp only [Act.put, List.setIfInBounds_toArray, List.set_cons_zero, List.set_cons_succ, List.getElem_toArray, List.getElem_cons_zero, List.getElem_cons_succ])
      refine wpTill.take (i := 8) (v := ?_) (by rfl) rfl (by kernel_rfl) (by kernel_rfl) (by kernel_rfl) (by exact fun _ _ _ h => h) (HSS.out _ _ HQ.out) (fun _ => trivial) (Or.inl ⟨by rfl, ?_⟩) ?_
      rotate_left
      · (intro w' hSw; (try dsimp only at hSw); go_simp; (try with_reducible rfl))
      (try simp only [Act.put, List.setIfInBounds_toArray, List.set_cons_zero, List.set_cons_succ, List.getElem_toArray, List.getElem_cons_zero, List.getElem_cons_succ])
      refine wpTill.take (i := 9) (v := ?_) (by rfl) rfl (by kernel_rfl) (by kernel_rfl) (by kernel_rfl) (by exact fun _ _ _ h => h) (HSS.out _ _ HQ.out) (fun _ => trivial) (Or.inl ⟨by rfl, ?_⟩) ?_
      rotate_left
      · (intro w' hSw; (try dsimp only at hSw); go_simp; (try with_reducible rfl))
      (try simp only [Act.put, List.setIfInBounds_toArray, List.set_cons_zero, List.set_cons_succ, List.getElem_toArray, List.getElem_cons_zero, List.getElem_cons_succ])
      replace HQ := Lib.hid HQ.out.r4
      obtain ⟨zE, kE, fE⟩ := HQ.out.loc
      refine wpTill.step (i := 11) (by kernel_rfl) (by rfl) (fun K' hK => ?_)
      replace hK := Lib.hid hK
      go_simp
      replace HQ := Lib.hid (HQ.out.setLoan ⟨rd, ru, rs, rb⟩).sw
      refine hK.out _ _ (HSS.out _ _ HQ.out) (fun _ => trivial) ?_
      clear hK K'
      (try simp only [Act.put, List.setIfInBounds_toArray, List.set_cons_zero, List.set_cons_succ, List.getElem_toArray, List.getElem_cons_zero, List.getElem_cons_succ])
      refine wpTill.take (i := 12) (v := ?_) (by rfl) rfl (by kernel_rfl) (by kernel_rfl) (by kernel_rfl) (by exact fun _ _ _ h => h) (HSS.out _ _ HQ.out) (fun _ => trivial) (Or.inl ⟨by rfl, ?_⟩) ?_
      rotate_left
      · (intro w' hSw; (try dsimp only at hSw); go_simp; (try with_reducible rfl))
      (try simp only [Act.put, List.setIfInBounds_toArray, List.set_cons_zero, List.set_cons_succ, List.getElem_toArray, List.getElem_cons_zero, List.getElem_cons_succ])
      refine wpTill.stop (by kernel_rfl) ?_ _
      go_wp2_with (fail)
      go_meet
      exact ⟨_, rfl, HQ.out.sw.r3.drop.r3.drop⟩
    replace hK := Lib.hid hK
    go_simp
    go_at_call 37
    ((with_reducible refine (HA.out _ _ HQ.out).mono ?_); rintro _ wN ⟨A, c, fs, hfs, rfl, h2⟩)
    have HFS := Lib.hid hfs
    replace HQ := Lib.hid h2.r3
    clear hfs h2
    refine hK.out _ _ (HSS.out _ _ HQ.out) (fun _ => trivial) ?_
    clear hK K'
    (try simp only [Act.put, List.setIfInBounds_toArray, List.set_cons_zero, List.set_cons_succ, List.getElem_toArray, List.getElem_cons_zero, List.getElem_cons_succ])
    refine wpTill.step2 (i := 6) (j := 10) (by kernel_rfl) (by rfl) (by rfl) (fun K' hK => ?_) (fun K' hK => ?_)
    rotate_left
    · skip
      replace hK := Lib.hid hK
      go_simp
      replace HQ := Lib.hid (HQ.out.box #[.int .i64 0, .int .i64 0, .int .i64 0, .bool false] 24).sw
      refine hK.out _ _ (HSS.out _ _ HQ.out) (fun _ => trivial) ?_
      clear hK K'
      (try simp only [Act.put, List.setIfInBounds_toArray, List.set_cons_zero, List.set_cons_succ, List.getElem_toArray, List.getElem_cons_zero, List.getElem_cons_succ])
      generalize wN.alloc (.cells #[.int .i64 0, .int .i64 0, .int .i64 0, .bool false] 24) = wX at *
      generalize wN.heap.size = gX at *
      refine wpTill.step (i := 6) (by kernel_rfl) (by rfl) (fun K' hK => ?_)
      replace hK := Lib.hid hK
      go_simp
      go_at_call 70
      ((with_reducible refine (HRP.out _ _ _ _ _ HFS.out HQ.out.r4.r4).mono ?_); rintro _ wM ⟨rfl, hbM⟩)
      replace HQ := Lib.hid (HQ.out.below hbM)
      clear hbM
      refine hK.out _ _ (HSS.out _ _ HQ.out) (fun _ => trivial) ?_
      clear hK K'
      (try simp only [Act.put, List.setIfInBounds_toArray, List.set_cons_zero, List.set_cons_succ, List.getElem_toArray, List.getElem_cons_zero, List.getElem_cons_succ])
      refine wpTill.take (i := 7) (v := ?_) (by rfl) rfl (by kernel_rfl) (by kernel_rfl) (by kernel_rfl) (by exact fun _ _ _ h => h) (HSS.out _ _ HQ.out) (fun _ => trivial) (Or.inl ⟨by rfl, ?_⟩) ?_
      rotate_left
      · (intro w' hSw; (try dsimp only at hSw); go_simp; (try with_reducible rfl))
      (try simp only [Act.put, List.setIfInBounds_toArray, List.set_cons_zero, List.set_cons_succ, List.getElem_toArray, List.getElem_cons_zero, List.getElem_cons_succ])
      refine wpTill.take (i := 8) (v := ?_) (by rfl) rfl (by kernel_rfl) (by kernel_rfl) (by kernel_rfl) (by exact fun _ _ _ h => h) (HSS.out _ _ HQ.out) (fun _ => trivial) (Or.inl ⟨by rfl, ?_⟩) ?_
      rotate_left
      · (intro w' hSw; (try dsimp only at hSw); go_simp; (try with_reducible rfl))
      (try simp only [Act.put, List.setIfInBounds_toArray, List.set_cons_zero, List.set_cons_succ, List.getElem_toArray, List.getElem_cons_zero, List.getElem_cons_succ])
      refine wpTill.take (i := 9) (v := ?_) (by rfl) rfl (by kernel_rfl) (by kernel_rfl) (by kernel_rfl) (by exact fun _ _ _ h => h) (HSS.out _ _ HQ.out) (fun _ => trivial) (Or.inl ⟨by rfl, ?_⟩) ?_
      rotate_left
      · (intro w' hSw; (try dsimp only at hSw); go_simp; (try with_reducible rfl))
      (try simp only [Act.put, List.setIfInBounds_toArray, List.set_cons_zero, List.set_cons_succ, List.getElem_toArray, List.getElem_cons_zero, List.getElem_cons_succ])
      replace HQ := Lib.hid HQ.out.sw
      obtain ⟨zE, kE, fE⟩ := HQ.out.loc
      refine wpTill.step (i := 11) (by kernel_rfl) (by rfl) (fun K' hK => ?_)
      replace hK := Lib.hid hK
      go_simp
      replace HQ := Lib.hid (HQ.out.setLoan ⟨rd, ru, rs, rb⟩).sw
      refine hK.out _ _ (HSS.out _ _ HQ.out) (fun _ => trivial) ?_
      clear hK K'
      (try simp only [Act.put, List.setIfInBounds_toArray, List.set_cons_zero, List.set_cons_succ, List.getElem_toArray, List.getElem_cons_zero, List.getElem_cons_succ])
      refine wpTill.take (i := 12) (v := ?_) (by rfl) rfl (by kernel_rfl) (by kernel_rfl) (by kernel_rfl) (by exact fun _ _ _ h => h) (HSS.out _ _ HQ.out) (fun _ => trivial) (Or.inl ⟨by rfl, ?_⟩) ?_
      rotate_left
      · (intro w' hSw; (try dsimp only at hSw); go_simp; (try with_reducible rfl))
      (try simp only [Act.put, List.setIfInBounds_toArray, List.set_cons_zero, List.set_cons_succ, List.getElem_toArray, List.getElem_cons_zero, List.getElem_cons_succ])
      refine wpTill.stop (by kernel_rfl) ?_ _
      go_wp2_with (fail)
      go_meet
      exact ⟨_, rfl, HQ.out.sw.r3.drop.r3.drop⟩
    replace hK := Lib.hid hK
    go_simp
    go_at_call 70
    ((with_reducible refine (HRP.out _ _ _ _ _ HFS.out HQ.out.l3).mono ?_); rintro _ wM ⟨rfl, hbM⟩)
    replace HQ := Lib.hid (HQ.out.below hbM)
    clear hbM
    refine hK.out _ _ (HSS.out _ _ HQ.out) (fun _ => trivial) ?_
    clear hK K'
    (try simp only [Act.put, List.setIfInBounds_toArray, List.set_cons_zero, List.set_cons_succ, List.getElem_toArray, List.getElem_cons_zero, List.getElem_cons_succ])
    refine wpTill.take (i := 7) (v := ?_) (by rfl) rfl (by kernel_rfl) (by kernel_rfl) (by kernel_rfl) (by exact fun _ _ _ h => h) (HSS.out _ _ HQ.out) (fun _ => trivial) (Or.inl ⟨by rfl, ?_⟩) ?_
    rotate_left
    · (intro w' hSw; (try dsimp only at hSw); go_simp; (try with_reducible rfl))
    (try simp only [Act.put, List.setIfInBounds_toArray, List.set_cons_zero, List.set_cons_succ, List.getElem_toArray, List.getElem_cons_zero, List.getElem_cons_succ])
    refine wpTill.take (i := 8) (v := ?_) (by rfl) rfl (by kernel_rfl) (by kernel_rfl) (by kernel_rfl) (by exact fun _ _ _ h => h) (HSS.out _ _ HQ.out) (fun _ => trivial) (Or.inl ⟨by rfl, ?_⟩) ?_
    rotate_left
    · (intro w' hSw; (try dsimp only at hSw); go_simp; (try with_reducible rfl))
    (try simp only [Act.put, List.setIfInBounds_toArray, List.set_cons_zero, List.set_cons_succ, List.getElem_toArray, List.getElem_cons_zero, List.getElem_cons_succ])
    refine wpTill.take (i := 9) (v := ?_) (by rfl) rfl (by kernel_rfl) (by kernel_rfl) (by kernel_rfl) (by exact fun _ _ _ h => h) (HSS.out _ _ HQ.out) (fun _ => trivial) (Or.inl ⟨by rfl, ?_⟩) ?_
    rotate_left
    · (intro w' hSw; (try dsimp only at hSw); go_simp; (try with_reducible rfl))
    (try simp only [Act.put, List.setIfInBounds_toArray, List.set_cons_zero, List.set_cons_succ, List.getElem_toArray, List.getElem_cons_zero, List.getElem_cons_succ])
    refine wpTill.step (i := 10) (by kernel_rfl) (by rfl) (fun K' hK => ?_)
    replace hK := Lib.hid hK
    go_simp
    replace HQ := Lib.hid (HQ.out.box #[.int .i64 0, .int .i64 0, .int .i64 0, .bool false] 24).sw
    refine hK.out _ _ (HSS.out _ _ HQ.out) (fun _ => trivial) ?_
    clear hK K'
    (try simp only [Act.put, List.setIfInBounds_toArray, List.set_cons_zero, List.set_cons_succ, List.getElem_toArray, List.getElem_cons_zero, List.getElem_cons_succ])
    generalize wM.alloc (.cells #[.int .i64 0, .int .i64 0, .int .i64 0, .bool false] 24) = wX at *
    generalize wM.heap.size = gX at *
    replace HQ := Lib.hid HQ.out.sw
    obtain ⟨zE, kE, fE⟩ := HQ.out.loc
    refine wpTill.step (i := 11) (by kernel_rfl) (by rfl) (fun K' hK => ?_)
    replace hK := Lib.hid hK
    go_simp
    replace HQ := Lib.hid (HQ.out.setLoan ⟨rd, ru, rs, rb⟩).sw
    refine hK.out _ _ (HSS.out _ _ HQ.out) (fun _ => trivial) ?_
    clear hK K'
    (try simp only [Act.put, List.setIfInBounds_toArray, List.set_cons_zero, List.set_cons_succ, List.getElem_toArray, List.getElem_cons_zero, List.getElem_cons_succ])
    refine wpTill.take (i := 12) (v := ?_) (by rfl) rfl (by kernel_rfl) (by kernel_rfl) (by kernel_rfl) (by exact fun _ _ _ h => h) (HSS.out _ _ HQ.out) (fun _ => trivial) (Or.inl ⟨by rfl, ?_⟩) ?_
    rotate_left
    · (intro w' hSw; (try dsimp only at hSw); go_simp; (try with_reducible rfl))
    (try simp only [Act.put, List.setIfInBounds_toArray, List.set_cons_zero, List.set_cons_succ, List.getElem_toArray, List.getElem_cons_zero, List.getElem_cons_succ])
    refine wpTill.stop (by kernel_rfl) ?_ _
    go_wp2_with (fail)
    go_meet
    exact ⟨_, rfl, HQ.out.sw.r3.drop.r3.drop⟩
-- END loan
  case rest =>
    obtain ⟨g, rfl, hq⟩ := hcut
    obtain ⟨w2, rfl⟩ : ∃ w2 : World, w2 = wc := ⟨_, rfl⟩
    have HS2 := Lib.hid hq
    clear hq HS HSS HA HRP
    simp only [loanX] at HS2
    obtain ⟨zg, kg, fg⟩ := HS2.out.loc
    obtain ⟨z2, k2, f2⟩ := HS2.out.r3.loc
    go_wp2_with (fail)
    have HSE := Lib.hid (HS2.out.r3.setLoan ⟨rd, ru, rs, rb⟩)
    exact bodyPost_ret (results_rloan HSE.out.loc rfl) rfl ⟨rfl, HSE.out.drop.drop⟩
set_option maxRecDepth 100000 in
set_option maxHeartbeats 16000000 in
theorem rput_sep (h : Sep w0 w (rdevR C X y :: refR C r :: Rs)) (hok : RDevOk y) (day : Int) (sA : Option Addr) (sc : Nat) (seen : List Int) (hse : Sl w0 1 sA seen.length (seen.map intC)) (text : List UInt8) (ht : text.length ≤ 1099511627776) (x : DV × RDevV × Int) (hr : rputD r y day seen text = x) :
    Calls Tryz.prog 77 #[.pointer (some ⟨X, 0, none⟩), .int .i64 day, .slice sA seen.length sc, .string ⟨text.toArray⟩] w fun e w' => e = .returned (.int .i64 x.2.2) ∧ Sep w0 w' (rdevR C X x.2.1 :: refR C x.1 :: Rs) := by
  obtain ⟨⟨NV, er⟩, hnx⟩ : ∃ q, nextF y.ents y.number day seen text = q := ⟨_, rfl⟩
  have HSS : Hid (∀ W Rs, Sep w0 W (rdevR C X y :: Rs) → W.cell? ⟨X, 1, none⟩ = some (.int .i64 y.number)) := Lib.hid fun W Rs h => (RDevOk.first h).1
  have HA := Lib.hid (fun W Rs (h : Sep w0 W (rdevR C X y :: Rs)) => RAll_sep h hok)
  have HNX := Lib.hid (fun W A c (fs : List EntC) Rs (hf : vsOf fs = y.ents) (h : Sep w0 W (ownR 32 5 (.slice A fs.length c) fs.length (fs.map EntC.cells) :: seesR (SeenAt fs) :: Rs)) => RNext_any W A fs.length c fs (hok.chAt hf h) (by have := hok.few; rwa [← hf, vsOf_len] at this) y.number day sA seen.length sc seen (hse.below h.base) text (by omega) (NV, er) (by rw [hf]; exact hnx))
  unfold rputD at hr
  rw [hnx] at hr
  simp only at hr
  have HR := Lib.hid hr
  have HNE := Lib.hid hnx
  have HOK := Lib.hid hok
  have HS := Lib.hid h
  clear h hok hse hnx hr
  go_enter Tryz.func77, Tryz.ntmps77
  go_upto_region 1 with (fail)
  go_cut [9, 10] (fun s9 s10 wy => ∃ (g : Nat) (v : EntC), s9 = .pointer (some ⟨g, 0, none⟩) ∧ s10 = .int .i64 er ∧ v.v = NV ∧ Sep w0 wy (boxR g v.cells.toArray :: rdevR C X y :: seesR (fun W => EntAt W v) :: refR C r :: Rs))
  case first =>
    refine wpTill.startN 16 (S := fun W => W.cell? ⟨X, 1, none⟩ = some (.int .i64 y.number)) (T := fun _ => True) (m := 300) rfl (by kernel_rfl) ?_
    have HQ := Lib.hid HS.out.drew
    generalize w.drew = wz at *
-- BEGIN put
    refine wpTill.take (i := 0) (v := ?_) (by rfl) rfl (by kernel_rfl) (by kernel_rfl) (by kernel_rfl) (by exact fun _ _ _ h => h) (HSS.out _ _ HQ.out) (fun _ => trivial) (Or.inl ⟨by rfl, ?_⟩) ?_
    rotate_left
    · (intro w' hSw; (try dsimp only at hSw); go_simp; (try with_reducible rfl))
    (try simp only [Act.put, List.setIfInBounds_toArray, List.set_cons_zero, List.set_cons_succ, List.getElem_toArray, List.getElem_cons_zero, List.getElem_cons_succ])
    refine wpTill.take (i := 2) (v := ?_) (by rfl) rfl (by kernel_rfl) (by kernel_rfl) (by kernel_rfl) (by exact fun _ _ _ h => h) (HSS.out _ _ HQ.out) (fun _ => trivial) (Or.inl ⟨by rfl, ?_⟩) ?_
    rotate_left
    · (intro w' hSw; (try dsimp only at hSw); go_simp; (try with_reducible rfl))
    (try simp only [Act.put, List.setIfInBounds_toArray, List.set_cons_zero, List.set_cons_succ, List.getElem_toArray, List.getElem_cons_zero, List.getElem_cons_succ])
    refine wpTill.take (i := 3) (v := ?_) (by rfl) rfl (by kernel_rfl) (by kernel_rfl) (by kernel_rfl) (by exact fun _ _ _ h => h) (HSS.out _ _ HQ.out) (fun _ => trivial) (Or.inl ⟨by rfl, ?_⟩) ?_
    rotate_left
    · (intro w' hSw; (try dsimp only at hSw); go_simp; (try with_reducible rfl))
    (try simp only [Act.put, List.setIfInBounds_toArray, List.set_cons_zero, List.set_cons_succ, List.getElem_toArray, List.getElem_cons_zero, List.getElem_cons_succ])
    refine wpTill.take (i := 4) (v := ?_) (by rfl) rfl (by kernel_rfl) (by kernel_rfl) (by kernel_rfl) (by exact fun _ _ _ h => h) (HSS.out _ _ HQ.out) (fun _ => trivial) (Or.inl ⟨by rfl, ?_⟩) ?_
    rotate_left
    · (intro w' hSw; (try dsimp only at hSw); go_simp; (try with_reducible rfl))
    (try simp only [Act.put, List.setIfInBounds_toArray, List.set_cons_zero, List.set_cons_succ, List.getElem_toArray, List.getElem_cons_zero, List.getElem_cons_succ])
    refine wpTill.take (i := 5) (v := ?_) (by rfl) rfl (by kernel_rfl) (by kernel_rfl) (by kernel_rfl) (by exact fun _ _ _ h => h) (HSS.out _ _ HQ.out) (fun _ => trivial) (Or.inl ⟨by rfl, ?_⟩) ?_
    rotate_left
    · (intro w' hSw; (try dsimp only at hSw); go_simp; (try with_reducible rfl))
    (try simp only [Act.put, List.setIfInBounds_toArray, List.set_cons_zero, List.set_cons_succ, List.getElem_toArray, List.getElem_cons_zero, List.getElem_cons_succ])
    refine wpTill.take (i := 6) (v := ?_) (by rfl) rfl (by kernel_rfl) (by kernel_rfl) (by kernel_rfl) (by exact fun _ _ _ h => h) (HSS.out _ _ HQ.out) (fun _ => trivial) (Or.inl ⟨by rfl, ?_⟩) ?_
    rotate_left
    · (intro w' hSw; (try dsimp only at hSw); go_simp; (try with_reducible rfl))
    (try simp only [Act.put, List.setIfInBounds_toArray, List.set_cons_zero, List.set_cons_succ, List.getElem_toArray, List.getElem_cons_zero, List.getElem_cons_succ])
    refine wpTill.take (i := 7) (v := ?_) (by rfl) rfl (by kernel_rfl) (by kernel_rfl) (by kernel_rfl) (by exact fun _ _ _ h => h) (HSS.out _ _ HQ.out) (fun _ => trivial) (Or.inl ⟨by rfl, ?_⟩) ?_
    rotate_left
    · (intro w' hSw; (try dsimp only at hSw); go_simp; (try with_reducible rfl))
    (try simp only [Act.put, List.setIfInBounds_toArray, List.set_cons_zero, List.set_cons_succ, List.getElem_toArray, List.getElem_cons_zero, List.getElem_cons_succ])
    refine wpTill.take (i := 8) (v := ?_) (by rfl) rfl (by kernel_rfl) (by kernel_rfl) (by kernel_rfl) (by exact fun _ _ _ h => h) (HSS.out _ _ HQ.out) (fun _ => trivial) (Or.inl ⟨by rfl, ?_⟩) ?_
    rotate_left
    · (intro w' hSw; (try dsimp only at hSw); go_simp; (try with_reducible rfl))
    (try simp only [Act.put, List.setIfInBounds_toArray, List.set_cons_zero, List.set_cons_succ, List.getElem_toArray, List.getElem_cons_zero, List.getElem_cons_succ])
    refine wpTill.step2 (i := 1) (j := 13) (by kernel_rfl) (by rfl) (by rfl) (fun K' hK => ?_) (fun K' hK => ?_)
    rotate_left
    · skip
      replace hK := Lib.hid hK
      go_simp
      replace HQ := Lib.hid (HQ.out.box #[.int .i64 0, .int .i64 0, .int .i64 0, .slice none 0 0, .string ⟨#[]⟩] 32).sw
      refine hK.out _ _ (HSS.out _ _ HQ.out) (fun _ => trivial) ?_
      clear hK K'
      (try simp only [Act.put, List.setIfInBounds_toArray, List.set_cons_zero, List.set_cons_succ, List.getElem_toArray, List.getElem_cons_zero, List.getElem_cons_succ])
      generalize wz.alloc (.cells #[.int .i64 0, .int .i64 0, .int .i64 0, .slice none 0 0, .string ⟨#[]⟩] 32) = wX at *
      generalize wz.heap.size = gX at *
      refine wpTill.step (i := 1) (by kernel_rfl) (by rfl) (fun K' hK => ?_)
      replace hK := Lib.hid hK
      go_simp
      go_at_call 37
      ((with_reducible refine (HA.out _ _ HQ.out).mono ?_); rintro _ wN ⟨A, c, fs, hfs, rfl, h2⟩)
      have HFS := Lib.hid hfs
      replace HQ := Lib.hid h2.r3
      clear hfs h2
      refine hK.out _ _ (HSS.out _ _ HQ.out) (fun _ => trivial) ?_
      clear hK K'
      (try simp only [Act.put, List.setIfInBounds_toArray, List.set_cons_zero, List.set_cons_succ, List.getElem_toArray, List.getElem_cons_zero, List.getElem_cons_succ])
      refine wpTill.step (i := 9) (by kernel_rfl) (by rfl) (fun K' hK => ?_)
      replace hK := Lib.hid hK
      go_simp
      go_at_call 129
      ((with_reducible refine (HNX.out _ _ _ _ _ HFS.out HQ.out.l3).mono ?_); rintro _ wM ⟨⟨⟨xd, xn, xy, xs, xt⟩, xA, xc⟩, hxv, rfl, hxf, hbM⟩)
      simp only at hxf hxv ⊢
      simp only [EntC.cells]
      have HXV := Lib.hid hxv
      replace HQ := Lib.hid ((HQ.out.r3.seesAdd hbM (Sl.rests hxf)).l3)
      clear hxv hxf hbM
      refine hK.out _ _ (HSS.out _ _ HQ.out) (fun _ => trivial) ?_
      clear hK K'
      (try simp only [Act.put, List.setIfInBounds_toArray, List.set_cons_zero, List.set_cons_succ, List.getElem_toArray, List.getElem_cons_zero, List.getElem_cons_succ])
      refine wpTill.take (i := 10) (v := ?_) (by rfl) rfl (by kernel_rfl) (by kernel_rfl) (by kernel_rfl) (by exact fun _ _ _ h => h) (HSS.out _ _ HQ.out) (fun _ => trivial) (Or.inl ⟨by rfl, ?_⟩) ?_
      rotate_left
      · (intro w' hSw; (try dsimp only at hSw); go_simp; (try with_reducible rfl))
      (try simp only [Act.put, List.setIfInBounds_toArray, List.set_cons_zero, List.set_cons_succ, List.getElem_toArray, List.getElem_cons_zero, List.getElem_cons_succ])
      refine wpTill.take (i := 11) (v := ?_) (by rfl) rfl (by kernel_rfl) (by kernel_rfl) (by kernel_rfl) (by exact fun _ _ _ h => h) (HSS.out _ _ HQ.out) (fun _ => trivial) (Or.inl ⟨by rfl, ?_⟩) ?_
      rotate_left
      · (intro w' hSw; (try dsimp only at hSw); go_simp; (try with_reducible rfl))
      (try simp only [Act.put, List.setIfInBounds_toArray, List.set_cons_zero, List.set_cons_succ, List.getElem_toArray, List.getElem_cons_zero, List.getElem_cons_succ])
      refine wpTill.take (i := 12) (v := ?_) (by rfl) rfl (by kernel_rfl) (by kernel_rfl) (by kernel_rfl) (by exact fun _ _ _ h => h) (HSS.out _ _ HQ.out) (fun _ => trivial) (Or.inl ⟨by rfl, ?_⟩) ?_
      rotate_left
      · (intro w' hSw; (try dsimp only at hSw); go_simp; (try with_reducible rfl))
      (try simp only [Act.put, List.setIfInBounds_toArray, List.set_cons_zero, List.set_cons_succ, List.getElem_toArray, List.getElem_cons_zero, List.getElem_cons_succ])
      replace HQ := Lib.hid HQ.out.r4
      obtain ⟨zE, kE, fE⟩ := HQ.out.loc
      refine wpTill.step (i := 14) (by kernel_rfl) (by rfl) (fun K' hK => ?_)
      replace hK := Lib.hid hK
      go_simp
      replace HQ := Lib.hid (HQ.out.setEntD ⟨⟨xd, xn, xy, xs, xt⟩, xA, xc⟩).sw
      simp only [EntC.cells] at HQ
      refine hK.out _ _ (HSS.out _ _ HQ.out) (fun _ => trivial) ?_
      clear hK K'
      (try simp only [Act.put, List.setIfInBounds_toArray, List.set_cons_zero, List.set_cons_succ, List.getElem_toArray, List.getElem_cons_zero, List.getElem_cons_succ])
      refine wpTill.take (i := 15) (v := ?_) (by rfl) rfl (by kernel_rfl) (by kernel_rfl) (by kernel_rfl) (by exact fun _ _ _ h => h) (HSS.out _ _ HQ.out) (fun _ => trivial) (Or.inl ⟨by rfl, ?_⟩) ?_
      rotate_left
      · (intro w' hSw; (try dsimp only at hSw); go_simp; (try with_reducible rfl))
      (try simp only [Act.put, List.setIfInBounds_toArray, List.set_cons_zero, List.set_cons_succ, List.getElem_toArray, List.getElem_cons_zero, List.getElem_cons_succ])
      refine wpTill.stop (by kernel_rfl) ?_ _
      go_wp2_with (fail)
      go_meet
      exact ⟨_, ⟨⟨xd, xn, xy, xs, xt⟩, xA, xc⟩, rfl, rfl, HXV.out, ((HQ.out.sw.r4.seesTurn (ψ := fun W => EntAt W ⟨⟨xd, xn, xy, xs, xt⟩, xA, xc⟩) fun W h => h.2).l3).r4.drop⟩
    replace hK := Lib.hid hK
    go_simp
    go_at_call 37
    ((with_reducible refine (HA.out _ _ HQ.out).mono ?_); rintro _ wN ⟨A, c, fs, hfs, rfl, h2⟩)
    have HFS := Lib.hid hfs
    replace HQ := Lib.hid h2.r3
    clear hfs h2
    refine hK.out _ _ (HSS.out _ _ HQ.out) (fun _ => trivial) ?_
    clear hK K'
    (try simp only [Act.put, List.setIfInBounds_toArray, List.set_cons_zero, List.set_cons_succ, List.getElem_toArray, List.getElem_cons_zero, List.getElem_cons_succ])
    refine wpTill.step2 (i := 9) (j := 13) (by kernel_rfl) (by rfl) (by rfl) (fun K' hK => ?_) (fun K' hK => ?_)
    rotate_left
    · skip
      replace hK := Lib.hid hK
      go_simp
      replace HQ := Lib.hid (HQ.out.box #[.int .i64 0, .int .i64 0, .int .i64 0, .slice none 0 0, .string ⟨#[]⟩] 32).sw
      refine hK.out _ _ (HSS.out _ _ HQ.out) (fun _ => trivial) ?_
      clear hK K'
      (try simp only [Act.put, List.setIfInBounds_toArray, List.set_cons_zero, List.set_cons_succ, List.getElem_toArray, List.getElem_cons_zero, List.getElem_cons_succ])
      generalize wN.alloc (.cells #[.int .i64 0, .int .i64 0, .int .i64 0, .slice none 0 0, .string ⟨#[]⟩] 32) = wX at *
      generalize wN.heap.size = gX at *
      refine wpTill.step (i := 9) (by kernel_rfl) (by rfl) (fun K' hK => ?_)
      replace hK := Lib.hid hK
      go_simp
      go_at_call 129
      ((with_reducible refine (HNX.out _ _ _ _ _ HFS.out HQ.out.r4.r4).mono ?_); rintro _ wM ⟨⟨⟨xd, xn, xy, xs, xt⟩, xA, xc⟩, hxv, rfl, hxf, hbM⟩)
      simp only at hxf hxv ⊢
      simp only [EntC.cells]
      have HXV := Lib.hid hxv
      replace HQ := Lib.hid ((HQ.out.r4.seesAdd hbM (Sl.rests hxf)).l4)
      clear hxv hxf hbM
      refine hK.out _ _ (HSS.out _ _ HQ.out) (fun _ => trivial) ?_
      clear hK K'
      (try simp only [Act.put, List.setIfInBounds_toArray, List.set_cons_zero, List.set_cons_succ, List.getElem_toArray, List.getElem_cons_zero, List.getElem_cons_succ])
      refine wpTill.take (i := 10) (v := ?_) (by rfl) rfl (by kernel_rfl) (by kernel_rfl) (by kernel_rfl) (by exact fun _ _ _ h => h) (HSS.out _ _ HQ.out) (fun _ => trivial) (Or.inl ⟨by rfl, ?_⟩) ?_
      rotate_left
      · (intro w' hSw; (try dsimp only at hSw); go_simp; (try with_reducible rfl))
      (try simp only [Act.put, List.setIfInBounds_toArray, List.set_cons_zero, List.set_cons_succ, List.getElem_toArray, List.getElem_cons_zero, List.getElem_cons_succ])
      refine wpTill.take (i := 11) (v := ?_) (by rfl) rfl (by kernel_rfl) (by kernel_rfl) (by kernel_rfl) (by exact fun _ _ _ h => h) (HSS.out _ _ HQ.out) (fun _ => trivial) (Or.inl ⟨by rfl, ?_⟩) ?_
      rotate_left
      · (intro w' hSw; (try dsimp only at hSw); go_simp; (try with_reducible rfl))
      (try simp only [Act.put, List.setIfInBounds_toArray, List.set_cons_zero, List.set_cons_succ, List.getElem_toArray, List.getElem_cons_zero, List.getElem_cons_succ])
      refine wpTill.take (i := 12) (v := ?_) (by rfl) rfl (by kernel_rfl) (by kernel_rfl) (by kernel_rfl) (by exact fun _ _ _ h => h) (HSS.out _ _ HQ.out) (fun _ => trivial) (Or.inl ⟨by rfl, ?_⟩) ?_
      rotate_left
      · (intro w' hSw; (try dsimp only at hSw); go_simp; (try with_reducible rfl))
      (try simp only [Act.put, List.setIfInBounds_toArray, List.set_cons_zero, List.set_cons_succ, List.getElem_toArray, List.getElem_cons_zero, List.getElem_cons_succ])
      replace HQ := Lib.hid HQ.out.sw
      obtain ⟨zE, kE, fE⟩ := HQ.out.loc
      refine wpTill.step (i := 14) (by kernel_rfl) (by rfl) (fun K' hK => ?_)
      replace hK := Lib.hid hK
      go_simp
      replace HQ := Lib.hid (HQ.out.setEntD ⟨⟨xd, xn, xy, xs, xt⟩, xA, xc⟩).sw
      simp only [EntC.cells] at HQ
      refine hK.out _ _ (HSS.out _ _ HQ.out) (fun _ => trivial) ?_
      clear hK K'
      (try simp only [Act.put, List.setIfInBounds_toArray, List.set_cons_zero, List.set_cons_succ, List.getElem_toArray, List.getElem_cons_zero, List.getElem_cons_succ])
      refine wpTill.take (i := 15) (v := ?_) (by rfl) rfl (by kernel_rfl) (by kernel_rfl) (by kernel_rfl) (by exact fun _ _ _ h => h) (HSS.out _ _ HQ.out) (fun _ => trivial) (Or.inl ⟨by rfl, ?_⟩) ?_
      rotate_left
      · (intro w' hSw; (try dsimp only at hSw); go_simp; (try with_reducible rfl))
      (try simp only [Act.put, List.setIfInBounds_toArray, List.set_cons_zero, List.set_cons_succ, List.getElem_toArray, List.getElem_cons_zero, List.getElem_cons_succ])
      refine wpTill.stop (by kernel_rfl) ?_ _
      go_wp2_with (fail)
      go_meet
      exact ⟨_, ⟨⟨xd, xn, xy, xs, xt⟩, xA, xc⟩, rfl, rfl, HXV.out, ((HQ.out.sw.r4.seesTurn (ψ := fun W => EntAt W ⟨⟨xd, xn, xy, xs, xt⟩, xA, xc⟩) fun W h => h.2).l3).r4.drop⟩
    replace hK := Lib.hid hK
    go_simp
    go_at_call 129
    ((with_reducible refine (HNX.out _ _ _ _ _ HFS.out HQ.out.l3).mono ?_); rintro _ wM ⟨⟨⟨xd, xn, xy, xs, xt⟩, xA, xc⟩, hxv, rfl, hxf, hbM⟩)
    simp only at hxf hxv ⊢
    simp only [EntC.cells]
    have HXV := Lib.hid hxv
    replace HQ := Lib.hid ((HQ.out.r3.seesAdd hbM (Sl.rests hxf)).l3)
    clear hxv hxf hbM
    refine hK.out _ _ (HSS.out _ _ HQ.out) (fun _ => trivial) ?_
    clear hK K'
    (try simp only [Act.put, List.setIfInBounds_toArray, List.set_cons_zero, List.set_cons_succ, List.getElem_toArray, List.getElem_cons_zero, List.getElem_cons_succ])
    refine wpTill.take (i := 10) (v := ?_) (by rfl) rfl (by kernel_rfl) (by kernel_rfl) (by kernel_rfl) (by exact fun _ _ _ h => h) (HSS.out _ _ HQ.out) (fun _ => trivial) (Or.inl ⟨by rfl, ?_⟩) ?_
    rotate_left
    · (intro w' hSw; (try dsimp only at hSw); go_simp; (try with_reducible rfl))
    (try simp only [Act.put, List.setIfInBounds_toArray, List.set_cons_zero, List.set_cons_succ, List.getElem_toArray, List.getElem_cons_zero, List.getElem_cons_succ])
    refine wpTill.take (i := 11) (v := ?_) (by rfl) rfl (by kernel_rfl) (by kernel_rfl) (by kernel_rfl) (by exact fun _ _ _ h => h) (HSS.out _ _ HQ.out) (fun _ => trivial) (Or.inl ⟨by rfl, ?_⟩) ?_
    rotate_left
    · (intro w' hSw; (try dsimp only at hSw); go_simp; (try with_reducible rfl))
    (try simp only [Act.put, List.setIfInBounds_toArray, List.set_cons_zero, List.set_cons_succ, List.getElem_toArray, List.getElem_cons_zero, List.getElem_cons_succ])
    refine wpTill.take (i := 12) (v := ?_) (by rfl) rfl (by kernel_rfl) (by kernel_rfl) (by kernel_rfl) (by exact fun _ _ _ h => h) (HSS.out _ _ HQ.out) (fun _ => trivial) (Or.inl ⟨by rfl, ?_⟩) ?_
    rotate_left
    · (intro w' hSw; (try dsimp only at hSw); go_simp; (try with_reducible rfl))
    (try simp only [Act.put, List.setIfInBounds_toArray, List.set_cons_zero, List.set_cons_succ, List.getElem_toArray, List.getElem_cons_zero, List.getElem_cons_succ])
    refine wpTill.step (i := 13) (by kernel_rfl) (by rfl) (fun K' hK => ?_)
    replace hK := Lib.hid hK
    go_simp
    replace HQ := Lib.hid (HQ.out.box #[.int .i64 0, .int .i64 0, .int .i64 0, .slice none 0 0, .string ⟨#[]⟩] 32).sw
    refine hK.out _ _ (HSS.out _ _ HQ.out) (fun _ => trivial) ?_
    clear hK K'
    (try simp only [Act.put, List.setIfInBounds_toArray, List.set_cons_zero, List.set_cons_succ, List.getElem_toArray, List.getElem_cons_zero, List.getElem_cons_succ])
    generalize wM.alloc (.cells #[.int .i64 0, .int .i64 0, .int .i64 0, .slice none 0 0, .string ⟨#[]⟩] 32) = wX at *
    generalize wM.heap.size = gX at *
    replace HQ := Lib.hid HQ.out.sw
    obtain ⟨zE, kE, fE⟩ := HQ.out.loc
    refine wpTill.step (i := 14) (by kernel_rfl) (by rfl) (fun K' hK => ?_)
    replace hK := Lib.hid hK
    go_simp
    replace HQ := Lib.hid (HQ.out.setEntD ⟨⟨xd, xn, xy, xs, xt⟩, xA, xc⟩).sw
    simp only [EntC.cells] at HQ
    refine hK.out _ _ (HSS.out _ _ HQ.out) (fun _ => trivial) ?_
    clear hK K'
    (try simp only [Act.put, List.setIfInBounds_toArray, List.set_cons_zero, List.set_cons_succ, List.getElem_toArray, List.getElem_cons_zero, List.getElem_cons_succ])
    refine wpTill.take (i := 15) (v := ?_) (by rfl) rfl (by kernel_rfl) (by kernel_rfl) (by kernel_rfl) (by exact fun _ _ _ h => h) (HSS.out _ _ HQ.out) (fun _ => trivial) (Or.inl ⟨by rfl, ?_⟩) ?_
    rotate_left
    · (intro w' hSw; (try dsimp only at hSw); go_simp; (try with_reducible rfl))
    (try simp only [Act.put, List.setIfInBounds_toArray, List.set_cons_zero, List.set_cons_succ, List.getElem_toArray, List.getElem_cons_zero, List.getElem_cons_succ])
    refine wpTill.stop (by kernel_rfl) ?_ _
    go_wp2_with (fail)
    go_meet
    exact ⟨_, ⟨⟨xd, xn, xy, xs, xt⟩, xA, xc⟩, rfl, rfl, HXV.out, ((HQ.out.sw.r4.seesTurn (ψ := fun W => EntAt W ⟨⟨xd, xn, xy, xs, xt⟩, xA, xc⟩) fun W h => h.2).l3).r4.drop⟩
-- END put
  case rest =>
    obtain ⟨g, ⟨⟨vd, vn, vy, vs, vt⟩, vA, vc⟩, rfl, rfl, hv, hq⟩ := hcut
    obtain ⟨w2, rfl⟩ : ∃ w2 : World, w2 = wc := ⟨_, rfl⟩
    simp only at hv
    have HEV := Lib.hid hq.r3.sees
    obtain ⟨J, hp⟩ := hq.sw.rdevPart
    have HP := Lib.hid hp
    clear hq hp HNX HSS HS HA
    by_cases her : er = 0
    case neg =>
      have hr := HR.out
      rw [if_pos her] at hr
      subst hr
      have hb : (er == 0) = false := by rw [beq_eq_false_iff_ne]; exact her
      have hn : (er != 0) = true := by rw [bne_iff_ne]; exact her
      clear her
      go_wp2_with (fail)
      go_ret
      exact ⟨rfl, HP.out.rdevPack.sw.drop.sw.drop⟩
    subst her
    have hrt : RightE NV := nextF_right HNE.out
    have henc : encodeF NV = (encE NV, true) := by unfold encodeF; rw [if_pos (rightB_true.2 hrt)]
    have hr := HR.out
    rw [if_neg (fun h => h rfl), henc] at hr
    simp only at hr
    have HEN := Lib.hid (REncode_any w2 ⟨⟨vd, vn, vy, vs, vt⟩, vA, vc⟩ HEV.out (by have h1 := hrt.len; have h2 := hrt.txt; rw [← hv] at h1 h2; simp only at h1 h2 ⊢; exact ⟨by omega, by omega⟩) (encE NV, true) (by rw [← henc]; exact congrArg encodeF hv))
    have hel : (encE NV).length ≤ 1099511627776 := by have h1 := encE_short hrt; have h2 := hrt.txt; omega
    obtain ⟨⟨r2, j2, e2⟩, hap⟩ : ∃ q, appendR r y.j (encE NV) = q := ⟨_, rfl⟩
    have HAP := Lib.hid (fun W Rs (h : Sep w0 W (jrefR C J y.j :: refR C r :: Rs)) => AppendRJ_sep h HOK.out.forms (encE NV) hel _ hap)
    rw [hap] at hr
    simp only at hr
    subst hr
    simp only [EntC.cells] at HEN
    generalize encE NV = E at *
    clear hrt henc hel hap HNE HR hv HEV
    have hlg := HP.out.r3.loc
    simp only [EntC.cells] at hlg
    obtain ⟨zg, kg, fg⟩ := hlg
    go_wp2_with (fail)
    ((with_reducible refine HEN.out.mono ?_); rintro _ w3 ⟨rfl, hb3⟩)
    have HP3 := Lib.hid (HP.out.below hb3)
    clear hb3 HEN HP zg kg fg
    obtain ⟨zX, kX, fX⟩ := HP3.out.loc
    go_wp2_with (fail)
    ((with_reducible refine (HAP.out _ _ HP3.out.r5.r3).mono ?_); rintro _ w4 ⟨rfl, h4⟩)
    have HP4 := Lib.hid h4
    clear h4 HAP HP3 zX kX fX
    go_wp2_with (fail)
    go_ret
    exact ⟨rfl, (Sep.rdevPack (y := ⟨j2, y.number, y.first⟩) HP4.out.r3).r3.drop.r3.drop⟩
end
end Go.Proofs.YtjncmlglhegnaaaGreatDoor
namespace Go.Proofs.YtjncmlglhegnaaaGreatDoor
open Go.RowKit Go.Sort Go.Lib

section
variable {w0 w w' : World} {Rs : List Res} {C X : Nat} {r : DV} {y : RDevV}
set_option maxRecDepth 100000 in
set_option maxHeartbeats 4000000 in
theorem RWrite_sep (h : Sep w0 w (rdevR C X y :: refR C r :: Rs)) (hok : RDevOk y) (day : Int) (sA : Option Addr) (sc : Nat) (seen : List Int) (hse : Sl w0 1 sA seen.length (seen.map intC)) (text : List UInt8) (ht : text.length ≤ 1099511627776) (x : DV × RDevV × Int) (hr : rwriteD r y day seen text = x) :
    Calls Tryz.prog 28 #[.pointer (some ⟨X, 0, none⟩), .int .i64 day, .slice sA seen.length sc, .string ⟨text.toArray⟩] w fun e w' => e = .returned (.int .i64 x.2.2) ∧ Sep w0 w' (rdevR C X x.2.1 :: refR C x.1 :: Rs) := by
  unfold rwriteD at hr
  obtain ⟨rb, hrb⟩ : ∃ rb, resB text = rb := ⟨_, rfl⟩
  have HRS := Lib.hid (fun W => RReserved_any W text (by omega) rb hrb)
  have HPU := Lib.hid (fun x (hx : rputD r y day seen text = x) => rput_sep h hok day sA sc seen hse text ht x hx)
  have HS := Lib.hid h
  have hsz := str_size text
  rw [hrb] at hr
  clear h hok hse hrb
  cases rb
  case true =>
    rw [if_pos rfl] at hr
    subst hr
    go_enter Tryz.func28, Tryz.ntmps28
    go_wp2_with (fail)
    ((with_reducible refine (HRS.out _).mono ?_); rintro _ w2 ⟨rfl, hw2⟩; obtain rfl := hw2)
    go_wp2_with (fail)
    go_ret
    exact ⟨rfl, HS.out⟩
  simp only [Bool.false_eq_true, if_false] at hr
  by_cases h3 : 3000 < text.length
  · rw [if_pos h3] at hr
    subst hr
    have h3i : 3000 < (text.length : Int) := by omega
    clear h3 ht
    go_enter Tryz.func28, Tryz.ntmps28
    go_wp2_with (fail)
    ((with_reducible refine (HRS.out _).mono ?_); rintro _ w2 ⟨rfl, hw2⟩; obtain rfl := hw2)
    go_wp2_with (fail)
    go_ret
    exact ⟨rfl, HS.out⟩
  rw [if_neg h3] at hr
  have h3i : (text.length : Int) ≤ 3000 := by omega
  replace HPU := Lib.hid (HPU.out _ hr)
  clear h3 ht hr
  go_enter Tryz.func28, Tryz.ntmps28
  go_wp2_with (fail)
  ((with_reducible refine (HRS.out _).mono ?_); rintro _ w2 ⟨rfl, hw2⟩; obtain rfl := hw2)
  go_wp2_with (fail)
  ((with_reducible refine HPU.out.mono ?_); rintro _ w3 ⟨rfl, h3⟩)
  have HS3 := Lib.hid h3
  clear h3
  go_wp2_with (fail)
  go_ret
  exact ⟨rfl, HS3.out⟩
theorem Sep.rsync (h : Sep w0 w (rdevR C X y :: refR C r :: Rs)) : ∃ J, w.cell? ⟨X, 0, none⟩ = some (.pointer (some ⟨J, 0, none⟩)) ∧ Calls Tryz.prog 81 #[.pointer (some ⟨J, 0, none⟩)] w fun e w' => e = .returned (.int .i64 (syncRJ r y.j).2.2) ∧ Sep w0 w' (rdevR C X { y with j := (syncRJ r y.j).2.1 } :: refR C (syncRJ r y.j).1 :: Rs) := by
  obtain ⟨J, hp⟩ := h.rdevPart
  refine ⟨J, hp.loc.cell 0, (SyncRJ_sep hp.r3.r3 _ rfl).mono ?_⟩
  rintro e w' ⟨rfl, h2⟩
  exact ⟨rfl, (Sep.rdevPack (y := { y with j := (syncRJ r y.j).2.1 }) h2.r3)⟩
set_option maxRecDepth 100000 in
set_option maxHeartbeats 8000000 in
theorem RSpend_sep (h : Sep w0 w (rdevR C X y :: refR C r :: Rs)) (hok : RDevOk y) (day : Int) (sA : Option Addr) (sc : Nat) (seen : List Int) (hse : Sl w0 1 sA seen.length (seen.map intC)) (n : Int) (h0 : -9223372036854775808 ≤ n) (h1 : n ≤ 9223372036854775807) (x : DV × RDevV × Int) (hr : rspendD r y day seen n = x) :
    Calls Tryz.prog 30 #[.pointer (some ⟨X, 0, none⟩), .int .i64 day, .slice sA seen.length sc, .int .i64 n] w fun e w' => e = .returned (.int .i64 x.2.2) ∧ Sep w0 w' (rdevR C X x.2.1 :: refR C x.1 :: Rs) := by
  unfold rspendD rdurD at hr
  obtain ⟨s, hs⟩ : ∃ s, spendT n = s := ⟨_, rfl⟩
  have hsl : s.length ≤ 1099511627776 := by
    rw [← hs]
    unfold spendT encN
    split
    · simp
    · have := encI_len (n := n) ⟨by omega, by omega⟩
      simp only [List.length_append, List.length_cons, List.length_nil]
      omega
  have HST := Lib.hid (fun W => RSpendText_any W n h0 h1 s hs)
  have HLO := Lib.hid (fun W Rs (h : Sep w0 W (rdevR C X y :: Rs)) => RLoan_sep h hok)
  obtain ⟨⟨⟨ld, lu, ls, lb⟩, le⟩, hsp⟩ : ∃ q, spendF y.loan n = q := ⟨_, rfl⟩
  have HSP := Lib.hid (fun W => SpendR_any y.loan.device y.loan.units y.loan.spent y.loan.back n _ hsp W)
  obtain ⟨⟨r1, y1, e1⟩, hpu⟩ : ∃ q, rputD r y day seen s = q := ⟨_, rfl⟩
  have HPU := Lib.hid (fun W Rs (h : Sep w0 W (rdevR C X y :: refR C r :: Rs)) => rput_sep h hok day sA sc seen hse s hsl _ hpu)
  rw [hs, hsp, hpu] at hr
  simp only at hr
  have HR := Lib.hid hr
  have HS := Lib.hid h
  simp only [loanX] at HLO
  clear h hok hse hs hsl hsp hpu hr h0 h1
  go_enter Tryz.func30, Tryz.ntmps30
  go_wp2_with (fail)
  ((with_reducible refine (HLO.out _ _ HS.out).mono ?_); rintro _ w1 ⟨rfl, h1⟩)
  have HS1 := Lib.hid h1
  clear h1 HS HLO
  go_wp2_with (fail)
  ((with_reducible refine (HSP.out _).mono ?_); rintro _ w2 ⟨rfl, hb2⟩)
  have HS2 := Lib.hid ((HS1.out.below hb2).alloc (.cells #[.int .i64 ld, .int .i64 lu, .int .i64 ls, .bool lb] 24))
  clear hb2 HSP HS1
  go_upto_region 2 with (fail)
  generalize w2.alloc (.cells #[.int .i64 ld, .int .i64 lu, .int .i64 ls, .bool lb] 24) = wB at *
  by_cases he : le = 0
  case neg =>
    have hr := HR.out
    rw [if_pos he] at hr
    subst hr
    have hb : (le == 0) = false := by rw [beq_eq_false_iff_ne]; exact he
    have hn : (le != 0) = true := by rw [bne_iff_ne]; exact he
    clear he
    go_wp2_with (fail)
    go_ret
    exact ⟨rfl, HS2.out⟩
  subst he
  have hr := HR.out
  rw [if_neg (fun h => h rfl)] at hr
  clear HR
  go_wp2_with (fail)
  ((with_reducible refine (HST.out _).mono ?_); rintro _ w3 ⟨rfl, hb3⟩)
  have HS3 := Lib.hid (HS2.out.below hb3)
  clear hb3 HST HS2
  go_wp2_with (fail)
  ((with_reducible refine (HPU.out _ _ HS3.out).mono ?_); rintro _ w4 ⟨rfl, h4⟩)
  have HS4 := Lib.hid h4
  clear h4 HS3 HPU
  by_cases he : e1 = 0
  case neg =>
    rw [if_pos he] at hr
    subst hr
    have hb : (e1 == 0) = false := by rw [beq_eq_false_iff_ne]; exact he
    have hn : (e1 != 0) = true := by rw [bne_iff_ne]; exact he
    clear he
    go_wp2_with (fail)
    go_ret
    exact ⟨rfl, HS4.out⟩
  subst he
  rw [if_neg (fun h => h rfl)] at hr
  subst hr
  obtain ⟨J, kX, hsy⟩ := HS4.out.rsync
  have HSY := Lib.hid hsy
  clear hsy
  go_wp2_with (fail)
  ((with_reducible refine HSY.out.mono ?_); rintro _ w5 ⟨rfl, h5⟩)
  have HS5 := Lib.hid h5
  clear h5 HSY HS4 kX
  go_wp2_with (fail)
  go_ret
  exact ⟨rfl, HS5.out⟩
set_option maxRecDepth 100000 in
set_option maxHeartbeats 8000000 in
theorem RReturn_sep (h : Sep w0 w (rdevR C X y :: refR C r :: Rs)) (hok : RDevOk y) (day : Int) (sA : Option Addr) (sc : Nat) (seen : List Int) (hse : Sl w0 1 sA seen.length (seen.map intC)) (x : DV × RDevV × Int) (hr : rreturnD r y day seen = x) :
    Calls Tryz.prog 32 #[.pointer (some ⟨X, 0, none⟩), .int .i64 day, .slice sA seen.length sc] w fun e w' => e = .returned (.int .i64 x.2.2) ∧ Sep w0 w' (rdevR C X x.2.1 :: refR C x.1 :: Rs) := by
  unfold rreturnD rdurD at hr
  have HLO := Lib.hid (fun W Rs (h : Sep w0 W (rdevR C X y :: Rs)) => RLoan_sep h hok)
  obtain ⟨⟨⟨ld, lu, ls, lb⟩, le⟩, hsp⟩ : ∃ q, returnF y.loan = q := ⟨_, rfl⟩
  have HSP := Lib.hid (fun W => ReturnR_any y.loan.device y.loan.units y.loan.spent y.loan.back _ hsp W)
  obtain ⟨⟨r1, y1, e1⟩, hpu⟩ : ∃ q, rputD r y day seen backT = q := ⟨_, rfl⟩
  have HPU := Lib.hid (fun W Rs (h : Sep w0 W (rdevR C X y :: refR C r :: Rs)) => rput_sep h hok day sA sc seen hse backT (by simp [backT]) _ hpu)
  rw [hsp, hpu] at hr
  simp only at hr
  have HR := Lib.hid hr
  have HS := Lib.hid h
  simp only [loanX] at HLO
  simp only [backT] at HPU
  clear h hok hse hsp hpu hr
  go_enter Tryz.func32, Tryz.ntmps32
  go_wp2_with (fail)
  ((with_reducible refine (HLO.out _ _ HS.out).mono ?_); rintro _ w1 ⟨rfl, h1⟩)
  have HS1 := Lib.hid h1
  clear h1 HS HLO
  go_wp2_with (fail)
  ((with_reducible refine (HSP.out _).mono ?_); rintro _ w2 ⟨rfl, hb2⟩)
  have HS2 := Lib.hid ((HS1.out.below hb2).alloc (.cells #[.int .i64 ld, .int .i64 lu, .int .i64 ls, .bool lb] 24))
  clear hb2 HSP HS1
  go_upto_region 2 with (fail)
  generalize w2.alloc (.cells #[.int .i64 ld, .int .i64 lu, .int .i64 ls, .bool lb] 24) = wB at *
  by_cases he : le = 0
  case neg =>
    have hr := HR.out
    rw [if_pos he] at hr
    subst hr
    have hb : (le == 0) = false := by rw [beq_eq_false_iff_ne]; exact he
    have hn : (le != 0) = true := by rw [bne_iff_ne]; exact he
    clear he
    go_wp2_with (fail)
    go_ret
    exact ⟨rfl, HS2.out⟩
  subst he
  have hr := HR.out
  rw [if_neg (fun h => h rfl)] at hr
  clear HR
  go_wp2_with (fail)
  ((with_reducible refine (HPU.out _ _ HS2.out).mono ?_); rintro _ w4 ⟨rfl, h4⟩)
  have HS4 := Lib.hid h4
  clear h4 HS2 HPU
  by_cases he : e1 = 0
  case neg =>
    rw [if_pos he] at hr
    subst hr
    have hb : (e1 == 0) = false := by rw [beq_eq_false_iff_ne]; exact he
    have hn : (e1 != 0) = true := by rw [bne_iff_ne]; exact he
    clear he
    go_wp2_with (fail)
    go_ret
    exact ⟨rfl, HS4.out⟩
  subst he
  rw [if_neg (fun h => h rfl)] at hr
  subst hr
  obtain ⟨J, kX, hsy⟩ := HS4.out.rsync
  have HSY := Lib.hid hsy
  clear hsy
  go_wp2_with (fail)
  ((with_reducible refine HSY.out.mono ?_); rintro _ w5 ⟨rfl, h5⟩)
  have HS5 := Lib.hid h5
  clear h5 HSY HS4 kX
  go_wp2_with (fail)
  go_ret
  exact ⟨rfl, HS5.out⟩
set_option maxRecDepth 100000 in
set_option maxHeartbeats 8000000 in
theorem RHand_sep (h : Sep w0 w (rdevR C X y :: refR C r :: Rs)) (hok : RDevOk y) (x : DV × RDevV × Int × List EntV) (hr : rhandD r y = x) :
    Calls Tryz.prog 34 #[.pointer (some ⟨X, 0, none⟩)] w fun e w' => ∃ A c fs, vsOf fs = x.2.2.2 ∧ e = .returned (.tuple #[.slice A fs.length c, .int .i64 x.2.2.1]) ∧ Sep w0 w' (ownR 32 5 (.slice A fs.length c) fs.length (fs.map EntC.cells) :: seesR (SeenAt fs) :: rdevR C X x.2.1 :: refR C x.1 :: Rs) := by
  obtain ⟨J, kX, hsy⟩ := h.rsync
  unfold rhandD at hr
  have hrc : (syncRJ r y.j).2.1.recs = y.j.recs := by unfold syncRJ; split <;> rfl
  obtain ⟨⟨r1, j1, e1⟩, hsv⟩ : ∃ q, syncRJ r y.j = q := ⟨_, rfl⟩
  rw [hsv] at hr hsy hrc
  simp only at hr hsy hrc
  have hen : RDevV.ents { y with j := j1 } = y.ents := by unfold RDevV.ents; rw [hrc]
  have hok1 : RDevOk { y with j := j1 } := ⟨by rw [hen]; show decAll j1.recs = _; rw [hrc]; exact hok.dec, by rw [hen]; exact hok.few, by show ∀ t ∈ j1.recs, _; rw [hrc]; exact hok.small⟩
  have HSY := Lib.hid hsy
  have HOK := Lib.hid hok1
  have HEN := Lib.hid hen
  clear hok hok1 h hsy hrc hsv hen
  go_enter Tryz.func34, Tryz.ntmps34
  go_wp2_with (fail)
  ((with_reducible refine HSY.out.mono ?_); rintro _ w1 ⟨rfl, h1⟩)
  have HS1 := Lib.hid h1
  clear h1 HSY kX
  by_cases he : e1 = 0
  case neg =>
    rw [if_pos he] at hr
    subst hr
    have hb : (e1 == 0) = false := by rw [beq_eq_false_iff_ne]; exact he
    have hn : (e1 != 0) = true := by rw [bne_iff_ne]; exact he
    have HS3 := Lib.hid ((HS1.out.seesNew (φ := SeenAt []) fun _ u hu => by simp at hu).ownNil 32 5)
    clear he
    go_wp2_with (fail)
    go_ret2
    exact ⟨none, 0, [], rfl, rfl, HS3.out⟩
  subst he
  rw [if_neg (fun h => h rfl)] at hr
  subst hr
  have HA := Lib.hid (RAll_sep HS1.out HOK.out)
  go_wp2_with (fail)
  ((with_reducible refine HA.out.mono ?_); rintro _ w2 ⟨A, c, fs, hfs, rfl, h2⟩)
  have HS2 := Lib.hid h2
  have HFS := Lib.hid hfs
  clear h2 HA HS1 hfs
  go_wp2_with (fail)
  go_ret2
  exact ⟨A, c, fs, HFS.out.trans HEN.out, rfl, HS2.out⟩
end
end Go.Proofs.YtjncmlglhegnaaaGreatDoor
namespace Go.Proofs.YtjncmlglhegnaaaGreatDoor
open Go.RowKit Go.Sort Go.Lib

def dvR (B X : Nat) : Option (DevV × RDevV) → Res
  | none => seesR fun _ => True
  | some p => devR B X p.1
def rvR (C Y : Nat) : Option (DevV × RDevV) → Res
  | none => seesR fun _ => True
  | some p => rdevR C Y p.2
def ddP (X : Nat) : Option (DevV × RDevV) → Value
  | none => .pointer none
  | some _ => .pointer (some ⟨X, 0, none⟩)
theorem open_dv {w0 w : World} {Rs : List Res} {B : Nat} {d d' : DV} {e : Int} (po : Option (DevV × RDevV)) (h : Sep w0 w (diskR B d :: Rs)) (hE : Env w0.heap.size w0) (number : Int) (loan : LoanV) (ho : openD d number loan = (d', po.map Prod.fst, e)) :
    Calls Tryz.prog 17 #[.pointer (some ⟨B, 0, none⟩), .int .i64 number, .agg (loanX loan)] w fun z w' => ∃ X, z = .returned (.tuple #[ddP X po, .int .i64 e]) ∧ Sep w0 w' (dvR B X po :: diskR B d' :: Rs) := by
  refine (OpenDev_sep h hE number loan _ ho).mono ?_
  intro z w' hz
  cases po with
  | none => exact ⟨0, hz.1, hz.2.seesNew fun _ => trivial⟩
  | some p => obtain ⟨X, h1, h2⟩ := hz; exact ⟨X, h1, h2⟩
theorem open_rv {w0 w : World} {Rs : List Res} {C : Nat} {r r' : DV} {e : Int} (po : Option (DevV × RDevV)) (h : Sep w0 w (refR C r :: Rs)) (number : Int) (loan : LoanV) (ho : ropenD r number loan = (r', po.map Prod.snd, e)) :
    Calls Tryz.prog 18 #[.pointer (some ⟨C, 0, none⟩), .int .i64 number, .agg (loanX loan)] w fun z w' => ∃ Y, z = .returned (.tuple #[ddP Y po, .int .i64 e]) ∧ Sep w0 w' (rvR C Y po :: refR C r' :: Rs) := by
  refine (OpenDevR_sep h number loan _ ho).mono ?_
  intro z w' hz
  cases po with
  | none => exact ⟨0, hz.1, hz.2.seesNew fun _ => trivial⟩
  | some p => obtain ⟨X, h1, h2⟩ := hz; exact ⟨X, h1, h2⟩
theorem chAt_right {w : World} {A : Option Addr} {es : List EntC} {l : List EntV} (hs : Sl w 5 A es.length (es.map EntC.cells)) (hi : SeenAt es w) (hl : vsOf es = l) (hr : ∀ v ∈ l, RightE v) : ChAt w A es.length es :=
  ⟨hs, hi, fun e he => by
    have h := hr e.v (by rw [← hl]; exact List.mem_map.2 ⟨e, he, rfl⟩)
    have := h.len
    have := h.txt
    exact ⟨by omega, by omega⟩⟩
theorem RelDev.ok {x : DevV} {y : RDevV} (h : RelDev x y) (hx : DevOk x) : RDevOk y := by
  have e1 : y.j.recs = encs x.ents := by rw [← h.j.recs, h.recs]
  refine ⟨by rw [h.ents, e1]; exact decAll_encs h.right, by rw [h.ents]; exact hx.few, fun t ht => ?_⟩
  rw [e1] at ht
  obtain ⟨v, hv, rfl⟩ := List.mem_map.1 ht
  have hr := h.right v hv
  show ((encodeF v).1).length ≤ _
  rw [encodeF_rightD hr]
  have h1 := encE_tight hr
  have h2 := hr.txt
  omega
theorem TellD.open2 {i : Nat} {d r : DV} {po : Option (DevV × RDevV)} (h : TellD i d r po) (hi : i ≤ 300) (number : Int) (loan : LoanV) :
    ∃ d' r' e po', openD d number loan = (d', po'.map Prod.fst, e) ∧ ropenD r number loan = (r', po'.map Prod.snd, e) ∧ TellD i d' r' po' := by
  obtain ⟨d', r', e, ⟨x, y, h1, h2, h3, _⟩ | ⟨h1, h2, h3⟩⟩ := h.open_ hi number loan
  · exact ⟨d', r', e, some (x, y), h1, h2, h3⟩
  · exact ⟨d', r', e, none, h1, h2, h3⟩
theorem handD_right {d d' : DV} {x x' : DevV} {e : Int} {l : List EntV} (h : handD d x = (d', x', e, l)) (hr : ∀ v ∈ x.ents, RightE v) : ∀ v ∈ l, RightE v := by
  have h1 := congrArg (fun t => t.2.2.2) h
  simp only at h1
  rw [← h1]
  unfold handD
  dsimp only
  split
  · intro v hv; cases hv
  · exact hr
theorem handD_len {d d' : DV} {x x' : DevV} {e : Int} {l : List EntV} (h : handD d x = (d', x', e, l)) : l.length ≤ x.ents.length := by
  have h1 := congrArg (fun t => t.2.2.2) h
  simp only at h1
  rw [← h1]
  unfold handD
  dsimp only
  split
  · exact Nat.zero_le _
  · exact Nat.le_refl _
set_option maxRecDepth 100000 in
set_option maxHeartbeats 64000000 in
theorem deviceTells_any (w : World) (hE : Env w.heap.size w) (A : Option Addr) (n c : Nat) (l : List ActE) (hs : Sl w 5 A n (l.map ActE.cells)) (hok : ∀ a ∈ l, a.ok) (hks : ActsAtE w l) (number : Int) (loan : LoanV) (kA : Option Addr) (kc : Nat) (known : List Int) (hkn : Sl w 1 kA known.length (known.map intC)) :
    Calls Tryz.prog 4 #[.slice A n c, .int .i64 number, .agg (loanX loan), .slice kA known.length kc] w fun e w' => e = .returned (.bool true) ∧ Below w.heap.size w w' := by
  have HE := Lib.hid hE
  have HSA := Lib.hid (fun W (hb : Below w.heap.size w W) => sane_any W ((hE.below hb).up hb.size))
  have HOP := Lib.hid hs
  have HOK := Lib.hid hok
  have HKS := Lib.hid hks
  have HKN := Lib.hid hkn
  have hll : l.length = n := by simpa using hs.1
  have HL := Lib.hid hll
  have HFI := Lib.hid (fun W (hb : Below w.heap.size w W) => Few49_any W A n c l (hs.below hb))
  have HS0 := Lib.hid ((Sep.start w).box (loanX loan) 24)
  obtain ⟨kl, hkl⟩ : ∃ kl, known.length = kl := ⟨_, rfl⟩
  rw [hkl]
  have HKL := Lib.hid hkl
  simp only [loanX] at HS0 ⊢
  clear hE hs hok hks hll hkn hkl
  go_enter Tryz.func4, Tryz.ntmps4
  go_wp2_with (fail)
  generalize hg6 : w.heap.size = g6 at HS0 ⊢
  clear hg6
  generalize w.alloc (.cells #[.int .i64 loan.device, .int .i64 loan.units, .int .i64 loan.spent, .bool loan.back] 24) = wA at HS0 ⊢
  ((with_reducible refine (HSA.out _ HS0.out.base).mono ?_); rintro _ w1 ⟨rfl, hb1⟩)
  have HS1 := Lib.hid (HS0.out.below hb1)
  clear hb1 HS0 HSA
  go_wp2_with (fail)
  ((with_reducible refine (HFI.out _ HS1.out.base).mono ?_); rintro _ _ ⟨r, rfl, hr, rfl⟩)
  have HR := Lib.hid hr
  clear hr HFI
  cases r
  · go_wp2_with (fail)
    go_ret
    exact ⟨rfl, HS1.out.base⟩
  have HF := Lib.hid (HR.out rfl)
  clear HR
  by_cases hk12 : 12 < kl
  · have hk12i : 12 < (kl : Int) := by omega
    clear hk12
    go_wp2_with (fail)
    go_ret
    exact ⟨rfl, HS1.out.base⟩
  have hk12i : (kl : Int) ≤ 12 := by omega
  clear hk12
  have HN : Hid (n ≤ 25) := Lib.hid (by have := HF.out.2; rw [HL.out] at this; exact this)
  go_wp2_with (fail)
  ((with_reducible refine (New_sep HS1.out).mono ?_); rintro e w2 ⟨B, rfl, h1⟩)
  have H2 := Lib.hid h1
  clear h1
  go_wp2_with (fail)
  ((with_reducible refine (NewR_sep H2.out).mono ?_); rintro e w3 ⟨C, rfl, h1⟩)
  have H3 := Lib.hid h1
  clear h1 H2 HS1
  obtain ⟨d1, r1, e1, po1, hop, hopr, hT⟩ := TellD.new.open2 (by decide) number loan
  have HOV := Lib.hid (fun W Rs (h : Sep w W (diskR B newD :: Rs)) => open_dv po1 h HE.out number loan hop)
  have HOR := Lib.hid (fun W Rs (h : Sep w W (refR C newD :: Rs)) => open_rv po1 h number loan hopr)
  have HT1 := Lib.hid hT
  simp only [loanX] at HOV HOR
  clear hop hopr hT
  obtain ⟨z6, k6, f6⟩ := H3.out.r3.loc
  go_wp2_with (fail)
  ((with_reducible refine (HOV.out _ _ H3.out.sw).mono ?_); rintro e w4 ⟨X1, rfl, h1⟩)
  have H4 : Hid (Sep w w4 [dvR B X1 po1, diskR B d1, refR C newD, boxR g6 #[.int .i64 loan.device, .int .i64 loan.units, .int .i64 loan.spent, .bool loan.back]]) := Lib.hid h1
  clear h1 z6 k6 f6 HOV
  obtain ⟨z6, k6, f6⟩ := H4.out.r4.loc
  go_wp2_with (fail)
  ((with_reducible refine (HOR.out _ _ H4.out.r3).mono ?_); rintro e w5 ⟨Y1, rfl, h1⟩)
  have H5 : Hid (Sep w w5 [rvR C Y1 po1, refR C r1, dvR B X1 po1, diskR B d1, boxR g6 #[.int .i64 loan.device, .int .i64 loan.units, .int .i64 loan.spent, .bool loan.back]]) := Lib.hid h1
  clear h1 z6 k6 f6 HOR H3 H4
  go_wp2_with (fail)
  go_loopg [12, 13, 14, 15, 16] n (fun gk xv ev yv fv iv wr => ∃ (q : Nat) (d r : DV) (po : Option (DevV × RDevV)) (X Y : Nat) (x : Int), gk + q = n ∧ xv = ddP X po ∧ ev = .int .i64 x ∧ yv = ddP Y po ∧ fv = .int .i64 x ∧ iv = .int .i64 (q : Int) ∧ TellD q d r po ∧ Sep w wr [diskR B d, refR C r, boxR g6 #[.int .i64 loan.device, .int .i64 loan.units, .int .i64 loan.spent, .bool loan.back], dvR B X po, rvR C Y po])
  case atStart =>
    exact ⟨0, d1, r1, po1, X1, Y1, e1, by omega, rfl, rfl, rfl, rfl, rfl, HT1.out, H5.out.r3.r5.r4.r5⟩
  case round =>
    obtain ⟨q, d, r, po, X, Y, x, hgk, rfl, rfl, rfl, rfl, rfl, hT, hS⟩ := hrel
    obtain ⟨wo, rfl⟩ : ∃ wo : World, wo = wr := ⟨_, rfl⟩
    have HT := Lib.hid hT
    have HS := Lib.hid hS
    have HGK := Lib.hid hgk
    clear hT hS hgk H5 HT1
    by_cases hlt : q < n
    case neg =>
      as_aux_lemma =>
      have hki : (n : Int) ≤ (q : Int) := by omega
      cases po with
      | none =>
        have hxp : ddP X none = .pointer none := rfl
        have hyp : ddP Y none = .pointer none := rfl
        go_wp2_with (fail)
        go_ret
        exact ⟨rfl, HS.out.base⟩
      | some p =>
        have hxp : ddP X (some p) = .pointer (some ⟨X, 0, none⟩) := rfl
        have hyp : ddP Y (some p) = .pointer (some ⟨Y, 0, none⟩) := rfl
        go_wp2_with (fail)
        go_ret
        exact ⟨rfl, HS.out.base⟩
    obtain ⟨a, ha⟩ : ∃ a, l[q]? = some a := ⟨_, List.getElem?_eq_getElem (by rw [HL.out]; exact hlt)⟩
    have HA := Lib.hid (List.mem_of_getElem? ha)
    obtain ⟨b, o, rfl, hbl, q0, q1, q2, q3, q4⟩ := act_at (HOP.out.below HS.out.base) ha
    have HO1 := Lib.hid (HF.out.1 a HA.out)
    have HO2 := Lib.hid (HOK.out a HA.out)
    have HO4 := Lib.hid (HKS.out a HA.out)
    obtain ⟨kd, ad, an, sx, akp, aA, ac⟩ := a
    simp only [ActE.few, ActE.ok] at HO1 HO2 HO4 q0 q1 q2 q3 q4
    have HON : Hid (-9223372036854775808 ≤ an ∧ an ≤ 9223372036854775807) := Lib.hid (by have := HO2.out.2.2; unfold i64In at this; exact this)
    have HAS : Hid (sx.length ≤ 1099511627776) := Lib.hid (by have := HO1.out.1; omega)
    have hki : (q : Int) < (n : Int) := by omega
    have HLT := Lib.hid hlt
    have HK3 : Hid (q ≤ 300) := Lib.hid (by have := HN.out; have := HLT.out; omega)
    have hwk : IntKind.i64.wrap ((q : Int) + 1) = (q : Int) + 1 := IntWalk.i64_in _ (by have := HN.out; have := HLT.out; omega)
    clear ha hlt
    go_upto_region 13 with (fail)
    go_cut [12, 14, 65] (fun s12 s14 s65 wx => s12 = ddP X po ∧ s14 = ddP Y po ∧ s65 = .bool false ∧ wx = wo)
    case first =>
      cases po with
      | none =>
        have hxp : ddP X none = .pointer none := rfl
        have hyp : ddP Y none = .pointer none := rfl
        go_wp2_with (fail)
        go_meet
        case rel => exact ⟨rfl, rfl, rfl, rfl⟩
      | some p =>
        have hxp : ddP X (some p) = .pointer (some ⟨X, 0, none⟩) := rfl
        have hyp : ddP Y (some p) = .pointer (some ⟨Y, 0, none⟩) := rfl
        go_wp2_with (fail)
        go_meet
        case rel => exact ⟨rfl, rfl, rfl, rfl⟩
    case rest =>
    obtain ⟨rfl, rfl, rfl, hwc⟩ := hcut
    obtain rfl := hwc
    obtain ⟨bx, hbx⟩ : ∃ bx, wc.heap.size = bx := ⟨_, rfl⟩
    have HSB := Lib.hid (HS.out.box #[.int .i64 kd, .int .i64 ad, .int .i64 an, .string ⟨sx.toArray⟩, .slice aA akp.length ac] 51)
    go_upto_region 16 with (fail)
    rw [hbx] at HSB
    clear hbx
    generalize wc.alloc (.cells #[.int .i64 kd, .int .i64 ad, .int .i64 an, .string ⟨sx.toArray⟩, .slice aA akp.length ac] 51) = W0 at *
    clear q0 q1 q2 q3 q4 HS hbl
    obtain ⟨zB, kB, fB⟩ := HSB.out.loc
    go_upto_block 2 with (fail)
    go_cut [12, 13, 14, 15] (fun xv ev yv fv wx => ∃ (d r : DV) (po : Option (DevV × RDevV)) (X Y : Nat) (x : Int), xv = ddP X po ∧ ev = .int .i64 x ∧ yv = ddP Y po ∧ fv = .int .i64 x ∧ TellD q d r po ∧ Sep w wx [boxR bx #[.int .i64 kd, .int .i64 ad, .int .i64 an, .string ⟨sx.toArray⟩, .slice aA akp.length ac], diskR B d, refR C r, boxR g6 #[.int .i64 loan.device, .int .i64 loan.units, .int .i64 loan.spent, .bool loan.back], dvR B X po, rvR C Y po])
    case first =>
      by_cases h4 : kd = 4
      · as_aux_lemma =>
        subst h4
        go_wp2_with (fail)
        ((with_reducible refine (Lose_sep HSB.out.sw an HON.out.2 _ rfl).mono ?_); rintro _ w6 ⟨rfl, h6⟩)
        have H6 := Lib.hid h6
        clear h6 zB kB fB
        obtain ⟨zB, kB, fB⟩ := H6.out.sw.loc
        go_wp2_with (fail)
        ((with_reducible refine (LoseR_sep H6.out.r3 an HON.out.2 _ rfl).mono ?_); rintro _ w7 ⟨rfl, h7⟩)
        have H7 := Lib.hid h7.sw.r3
        clear h7
        go_wp2_with (fail)
        go_meet
        case rel => exact ⟨_, _, po, X, Y, x, rfl, rfl, rfl, rfl, HT.out.lose an HON.out.2, H7.out⟩
      by_cases h5 : kd = 5
      · as_aux_lemma =>
        subst h5
        go_wp2_with (fail)
        ((with_reducible refine (Arm_sep HSB.out.sw an HON.out.2 akp aA ac HO4.out (by have := HO1.out.2; omega) _ rfl).mono ?_); rintro _ w6 ⟨rfl, h6⟩)
        have H6 := Lib.hid h6
        clear h6 zB kB fB
        obtain ⟨zB, kB, fB⟩ := H6.out.sw.loc
        go_wp2_with (fail)
        ((with_reducible refine (ArmR_sep H6.out.r3 an HON.out.2 akp aA ac HO4.out (by have := HO1.out.2; omega) _ rfl).mono ?_); rintro _ w7 ⟨rfl, h7⟩)
        have H7 := Lib.hid h7.sw.r3
        clear h7
        go_wp2_with (fail)
        go_meet
        case rel => exact ⟨_, _, po, X, Y, x, rfl, rfl, rfl, rfl, HT.out.arm an HON.out.2 akp (by have := HO1.out.2; omega), H7.out⟩
      have HSC := Lib.hid HSB.out.r6.drop.r5.drop
      by_cases h6k : kd = 6
      · as_aux_lemma =>
        subst h6k
        have HTN := Lib.hid ((HT.out.crash akp).start)
        go_wp2_with (fail)
        ((with_reducible refine (Crash_sep HSC.out.sw akp aA ac HO4.out (by have := HO1.out.2; omega) _ rfl).mono ?_); rintro _ w6 ⟨rfl, h6⟩)
        have H6 := Lib.hid h6
        clear h6 zB kB fB
        obtain ⟨zB, kB, fB⟩ := H6.out.sw.loc
        go_wp2_with (fail)
        ((with_reducible refine (CrashR_sep H6.out.r3 akp aA ac HO4.out (by have := HO1.out.2; omega) _ rfl).mono ?_); rintro _ w7 ⟨rfl, h7⟩)
        have H7a := Lib.hid h7
        clear h7 zB kB fB
        go_wp2_with (fail)
        ((with_reducible refine (Start_sep H7a.out.sw _ rfl).mono ?_); rintro _ w8 ⟨rfl, h8⟩)
        have H8a := Lib.hid h8
        clear h8
        go_wp2_with (fail)
        ((with_reducible refine (StartR_sep H8a.out.sw _ rfl).mono ?_); rintro _ w9 ⟨rfl, h9⟩)
        have H9 := Lib.hid h9
        clear h9
        obtain ⟨d5, r5, e5, po5, ho5, hr5, hT5⟩ := HTN.out.open2 HK3.out number loan
        have HOV := Lib.hid (open_dv po5 H9.out.sw HE.out number loan ho5)
        have HOR := Lib.hid (fun W Rs (h : Sep w W (refR C _ :: Rs)) => open_rv po5 h number loan hr5)
        have HT5 := Lib.hid hT5
        simp only [loanX] at HOV HOR
        clear ho5 hr5 hT5
        obtain ⟨z6, k6, f6⟩ := H9.out.r4.loc
        go_wp2_with (fail)
        ((with_reducible refine (HOV.out).mono ?_); rintro e wa ⟨X5, rfl, h1⟩)
        have HA5 := Lib.hid h1
        clear h1 z6 k6 f6 HOV H9
        obtain ⟨z6, k6, f6⟩ := HA5.out.r5.loc
        go_wp2_with (fail)
        ((with_reducible refine (HOR.out _ _ HA5.out.r3).mono ?_); rintro e wb ⟨Y5, rfl, h1⟩)
        have HB5 := Lib.hid h1
        clear h1 z6 k6 f6 HOR HA5
        go_wp2_with (fail)
        go_meet
        case rel => exact ⟨d5, r5, po5, X5, Y5, e5, rfl, rfl, rfl, rfl, HT5.out, HB5.out.r3.r6.r4.r5.r6⟩
      by_cases h7k : kd = 7
      · as_aux_lemma =>
        subst h7k
        have HTN := Lib.hid HT.out.start
        go_wp2_with (fail)
        ((with_reducible refine (Start_sep HSC.out.sw _ rfl).mono ?_); rintro _ w8 ⟨rfl, h8⟩)
        have H8a := Lib.hid h8
        clear h8 zB kB fB
        go_wp2_with (fail)
        ((with_reducible refine (StartR_sep H8a.out.r3 _ rfl).mono ?_); rintro _ w9 ⟨rfl, h9⟩)
        have H9 := Lib.hid h9
        clear h9
        obtain ⟨d5, r5, e5, po5, ho5, hr5, hT5⟩ := HTN.out.open2 HK3.out number loan
        have HOV := Lib.hid (open_dv po5 H9.out.sw HE.out number loan ho5)
        have HOR := Lib.hid (fun W Rs (h : Sep w W (refR C _ :: Rs)) => open_rv po5 h number loan hr5)
        have HT5 := Lib.hid hT5
        simp only [loanX] at HOV HOR
        clear ho5 hr5 hT5
        obtain ⟨z6, k6, f6⟩ := H9.out.r4.loc
        go_wp2_with (fail)
        ((with_reducible refine (HOV.out).mono ?_); rintro e wa ⟨X5, rfl, h1⟩)
        have HA5 := Lib.hid h1
        clear h1 z6 k6 f6 HOV H9
        obtain ⟨z6, k6, f6⟩ := HA5.out.r5.loc
        go_wp2_with (fail)
        ((with_reducible refine (HOR.out _ _ HA5.out.r3).mono ?_); rintro e wb ⟨Y5, rfl, h1⟩)
        have HB5 := Lib.hid h1
        clear h1 z6 k6 f6 HOR HA5
        go_wp2_with (fail)
        go_meet
        case rel => exact ⟨d5, r5, po5, X5, Y5, e5, rfl, rfl, rfl, rfl, HT5.out, HB5.out.r3.r6.r4.r5.r6⟩
      as_aux_lemma =>
      go_wp2_with (fail)
      go_meet
      case rel => exact ⟨d, r, po, X, Y, x, rfl, rfl, rfl, rfl, HT.out, HSB.out⟩
    case rest =>
    obtain ⟨d, r, po, X, Y, x, rfl, rfl, rfl, rfl, hT, hS⟩ := hcut
    obtain ⟨wo, rfl⟩ : ∃ wo : World, wo = wc := ⟨_, rfl⟩
    have HT := Lib.hid hT
    have HSB := Lib.hid hS
    clear hT hS
    cases po with
    | none =>
      as_aux_lemma =>
      have hxp : ddP X none = .pointer none := rfl
      have hyp : ddP Y none = .pointer none := rfl
      go_wp2_with (fail)
      go_roundg (n - (q + 1))
      case measure => have := HLT.out; have := HGK.out; omega
      case rel => exact ⟨q + 1, d, r, none, X, Y, x, by have := HLT.out; omega, rfl, rfl, rfl, rfl, by go_num, HT.out.up, HSB.out.drop⟩
    | some p =>
      obtain ⟨xv, yv⟩ := p
      have hxp : ddP X (some (xv, yv)) = .pointer (some ⟨X, 0, none⟩) := rfl
      have hyp : ddP Y (some (xv, yv)) = .pointer (some ⟨Y, 0, none⟩) := rfl
      have HDO := Lib.hid (HT.out.devOk HK3.out)
      have HRO := Lib.hid ((HT.out.dev _ rfl).ok HDO.out)
      simp only [dvR, rvR] at HSB
      obtain ⟨zB, kB, fB⟩ := HSB.out.loc
      go_upto_block 3 with (fail)
      go_cut [12, 13, 14, 15] (fun s12 ev s14 fv wx => ∃ (d r : DV) (xv : DevV) (yv : RDevV) (x : Int), s12 = .pointer (some ⟨X, 0, none⟩) ∧ ev = .int .i64 x ∧ s14 = .pointer (some ⟨Y, 0, none⟩) ∧ fv = .int .i64 x ∧ TellD (q + 1) d r (some (xv, yv)) ∧ Sep w wx [diskR B d, refR C r, boxR g6 #[.int .i64 loan.device, .int .i64 loan.units, .int .i64 loan.spent, .bool loan.back], devR B X xv, rdevR C Y yv])
      case first =>
        by_cases h0 : kd = 0
        · as_aux_lemma =>
          subst h0
          obtain ⟨d5, x5, e5, r5, y5, ho, hr, hT5, _⟩ := HT.out.write HK3.out ad known sx
          have HDV := Lib.hid (fun W Rs (h : Sep w W (devR B X xv :: diskR B d :: Rs)) => writeD_sep h HE.out HDO.out ad kA kc known (HKN.out.below h.base) sx HAS.out _ ho)
          have HRV := Lib.hid (fun W Rs (h : Sep w W (rdevR C Y yv :: refR C r :: Rs)) => RWrite_sep h HRO.out ad kA kc known HKN.out sx HAS.out _ hr)
          rw [HKL.out] at HDV HRV
          have HT5 := Lib.hid hT5
          clear ho hr hT5
          go_wp2_with (fail)
          ((with_reducible refine (HDV.out _ _ HSB.out.r3.r6.r4.r6).mono ?_); rintro _ w6 ⟨rfl, h6⟩)
          have H6 := Lib.hid h6
          clear h6 zB kB fB HDV
          obtain ⟨zB, kB, fB⟩ := H6.out.r5.loc
          go_wp2_with (fail)
          ((with_reducible refine (HRV.out _ _ H6.out.r4.r4).mono ?_); rintro _ w7 ⟨rfl, h7⟩)
          have H7 := Lib.hid h7
          clear h7 HRV H6
          go_wp2_with (fail)
          go_meet
          case rel => exact ⟨d5, r5, x5, y5, e5, hxp, rfl, hyp, rfl, HT5.out, H7.out.r3.r6.r4.r5.r6.drop⟩
        by_cases h1 : kd = 1
        · as_aux_lemma =>
          subst h1
          obtain ⟨d5, x5, e5, r5, y5, ho, hr, hT5, _⟩ := HT.out.spend HK3.out ad known an HON.out
          have HDV := Lib.hid (fun W Rs (h : Sep w W (devR B X xv :: diskR B d :: Rs)) => spendD_sep h HE.out HDO.out ad kA kc known (HKN.out.below h.base) an HON.out _ ho)
          have HRV := Lib.hid (fun W Rs (h : Sep w W (rdevR C Y yv :: refR C r :: Rs)) => RSpend_sep h HRO.out ad kA kc known HKN.out an HON.out.1 HON.out.2 _ hr)
          rw [HKL.out] at HDV HRV
          have HT5 := Lib.hid hT5
          clear ho hr hT5
          go_wp2_with (fail)
          ((with_reducible refine (HDV.out _ _ HSB.out.r3.r6.r4.r6).mono ?_); rintro _ w6 ⟨rfl, h6⟩)
          have H6 := Lib.hid h6
          clear h6 zB kB fB HDV
          obtain ⟨zB, kB, fB⟩ := H6.out.r5.loc
          go_wp2_with (fail)
          ((with_reducible refine (HRV.out _ _ H6.out.r4.r4).mono ?_); rintro _ w7 ⟨rfl, h7⟩)
          have H7 := Lib.hid h7
          clear h7 HRV H6
          go_wp2_with (fail)
          go_meet
          case rel => exact ⟨d5, r5, x5, y5, e5, hxp, rfl, hyp, rfl, HT5.out, H7.out.r3.r6.r4.r5.r6.drop⟩
        by_cases h2 : kd = 2
        · as_aux_lemma =>
          subst h2
          obtain ⟨d5, x5, e5, r5, y5, ho, hr, hT5, _⟩ := HT.out.return_ HK3.out ad known
          have HDV := Lib.hid (fun W Rs (h : Sep w W (devR B X xv :: diskR B d :: Rs)) => returnD_sep h HE.out HDO.out ad kA kc known (HKN.out.below h.base) _ ho)
          have HRV := Lib.hid (fun W Rs (h : Sep w W (rdevR C Y yv :: refR C r :: Rs)) => RReturn_sep h HRO.out ad kA kc known HKN.out _ hr)
          rw [HKL.out] at HDV HRV
          have HT5 := Lib.hid hT5
          clear ho hr hT5
          go_wp2_with (fail)
          ((with_reducible refine (HDV.out _ _ HSB.out.r3.r6.r4.r6).mono ?_); rintro _ w6 ⟨rfl, h6⟩)
          have H6 := Lib.hid h6
          clear h6 zB kB fB HDV
          obtain ⟨zB, kB, fB⟩ := H6.out.r5.loc
          go_wp2_with (fail)
          ((with_reducible refine (HRV.out _ _ H6.out.r4.r4).mono ?_); rintro _ w7 ⟨rfl, h7⟩)
          have H7 := Lib.hid h7
          clear h7 HRV H6
          go_wp2_with (fail)
          go_meet
          case rel => exact ⟨d5, r5, x5, y5, e5, hxp, rfl, hyp, rfl, HT5.out, H7.out.r3.r6.r4.r5.r6.drop⟩
        by_cases h3 : kd = 3
        · as_aux_lemma =>
          subst h3
          obtain ⟨d5, x5, e5, r5, y5, m5, ho, hr, hT5, _⟩ := HT.out.hand
          have HRT := Lib.hid (handD_right ho HDO.out.right)
          have HML := Lib.hid (handD_len ho)
          have HDV := Lib.hid (fun W Rs (h : Sep w W (devR B X xv :: diskR B d :: Rs)) => Hand_sep h HDO.out.few HDO.out.right _ ho)
          have HRV := Lib.hid (fun W Rs (h : Sep w W (rdevR C Y yv :: refR C r :: Rs)) => RHand_sep h HRO.out _ hr)
          have HT5 := Lib.hid hT5
          clear ho hr hT5
          go_wp2_with (fail)
          ((with_reducible refine (HDV.out _ _ HSB.out.r3.r6.r4.r6).mono ?_); rintro _ w6 ⟨A6, c6, fs, hfs, rfl, h6⟩)
          have H6 := Lib.hid h6.ownSees
          have HFS := Lib.hid hfs
          clear h6 hfs zB kB fB HDV
          go_wp2_with (fail)
          ((with_reducible refine (HRV.out _ _ H6.out.r5.r5).mono ?_); rintro _ w7 ⟨A7, c7, gs, hgs, rfl, h7⟩)
          have H7 := Lib.hid h7.ownSees
          have HGS := Lib.hid hgs
          clear h7 hgs HRV H6
          have HCF := Lib.hid (chAt_right H7.out.r4.sees.1 H7.out.r4.sees.2 HFS.out HRT.out)
          have HCG := Lib.hid (chAt_right H7.out.sees.1 H7.out.sees.2 HGS.out HRT.out)
          have HSC := Lib.hid (SameChain_any w7 A6 A7 fs.length c6 gs.length c7 fs gs HCF.out HCG.out (by have h1 := HML.out; have h2 := HDO.out.few; rw [← HFS.out, vsOf_len] at h1; omega) true (decide_eq_true (HFS.out.trans HGS.out.symm)))
          go_wp2_with (fail)
          ((with_reducible refine HSC.out.mono ?_); rintro _ w8 ⟨rfl, hb8⟩)
          have H8 := Lib.hid (H7.out.below hb8)
          clear hb8 HSC HCF HCG H7
          go_wp2_with (fail)
          go_meet
          case rel => exact ⟨d5, r5, x5, y5, x, hxp, rfl, hyp, rfl, HT5.out.up, H8.out.drop.r3.drop.r3.r6.r4.r5.r6.drop⟩
        as_aux_lemma =>
        go_wp2_with (fail)
        go_meet
        case rel => exact ⟨d, r, xv, yv, x, rfl, rfl, rfl, rfl, HT.out.up, HSB.out.drop⟩
      case rest =>
      as_aux_lemma =>
      obtain ⟨d, r, xv, yv, x, rfl, rfl, rfl, rfl, hT, hS⟩ := hcut
      obtain ⟨w2, rfl⟩ : ∃ w2 : World, w2 = wc := ⟨_, rfl⟩
      clear HSB zB kB fB HDO HRO hxp hyp HT
      have HT := Lib.hid hT
      have HS := Lib.hid hS
      clear hT hS
      have HDO := Lib.hid (HT.out.devOk (by have := HN.out; have := HLT.out; omega))
      have HRO := Lib.hid ((HT.out.dev _ rfl).ok HDO.out)
      have HEN : Hid (yv.ents = xv.ents) := Lib.hid (HT.out.dev _ rfl).ents
      have hlo : yv.loan = xv.loan := (HT.out.dev _ rfl).loan_
      have HAL := Lib.hid (fun W Rs (h : Sep w W (devR B X xv :: Rs)) => All_dev h HDO.out.few HDO.out.right)
      have HRA := Lib.hid (fun W Rs (h : Sep w W (rdevR C Y yv :: Rs)) => RAll_sep h HRO.out)
      have HLA := Lib.hid (fun W Rs (h : Sep w W (devR B X xv :: Rs)) => Loan_sep h)
      have HLR := Lib.hid (fun W Rs (h : Sep w W (rdevR C Y yv :: Rs)) => RLoan_sep h HRO.out)
      rw [hlo] at HLR
      simp only [loanX] at HLA HLR
      clear hlo
      go_wp2_with (fail)
      ((with_reducible refine (HAL.out _ _ HS.out.r4).mono ?_); rintro _ w6 ⟨A6, c6, fs, hfs, rfl, h6⟩)
      have H6 := Lib.hid h6.ownSees
      have HFS := Lib.hid hfs
      clear h6 hfs HAL HS
      go_wp2_with (fail)
      ((with_reducible refine (HRA.out _ _ H6.out.r6).mono ?_); rintro _ w7 ⟨A7, c7, gs, hgs, rfl, h7⟩)
      have H7 := Lib.hid h7.ownSees
      have HGS := Lib.hid (hgs.trans HEN.out)
      clear h7 hgs HRA H6
      have HCF := Lib.hid (chAt_right H7.out.r3.sees.1 H7.out.r3.sees.2 HFS.out HDO.out.right)
      have HCG := Lib.hid (chAt_right H7.out.sees.1 H7.out.sees.2 HGS.out HDO.out.right)
      have HSC := Lib.hid (SameChain_any w7 A6 A7 fs.length c6 gs.length c7 fs gs HCF.out HCG.out (by have h2 := HDO.out.few; rw [← HFS.out, vsOf_len] at h2; omega) true (decide_eq_true (HFS.out.trans HGS.out.symm)))
      go_wp2_with (fail)
      ((with_reducible refine HSC.out.mono ?_); rintro _ w8 ⟨rfl, hb8⟩)
      have H8 := Lib.hid (H7.out.below hb8).drop.sw.drop
      clear hb8 HSC HCF HCG H7
      go_wp2_with (fail)
      ((with_reducible refine (HLA.out _ _ H8.out.sw).mono ?_); rintro _ w9 ⟨rfl, h9⟩)
      have H9 := Lib.hid h9
      clear h9 H8 HLA
      go_wp2_with (fail)
      ((with_reducible refine (HLR.out _ _ H9.out.sw).mono ?_); rintro _ wa ⟨rfl, ha⟩)
      have HA9 := Lib.hid ha
      clear ha H9 HLR
      go_wp2_with (fail)
      go_roundg (n - (q + 1))
      case measure => have := HLT.out; have := HGK.out; omega
      case rel => exact ⟨q + 1, d, r, some (xv, yv), X, Y, x, by have := HLT.out; omega, rfl, rfl, rfl, rfl, by go_num, HT.out, HA9.out.sw.r5.r5.r5⟩
theorem deviceTells_any2 (w : World) (hE : Env w.heap.size w) (A : Option Addr) (n c : Nat) (l : List ActE) (hs : Sl w 5 A n (l.map ActE.cells)) (hok : ∀ a ∈ l, a.ok) (hks : ActsAtE w l) (number : Int) (loan : LoanV) (kA : Option Addr) (kn kc : Nat) (known : List Int) (hkn : Sl w 1 kA kn (known.map intC)) :
    Calls Tryz.prog 4 #[.slice A n c, .int .i64 number, .agg (loanX loan), .slice kA kn kc] w fun e w' => e = .returned (.bool true) ∧ Below w.heap.size w w' := by
  have hm : known.length = kn := by simpa using hkn.1
  subst hm
  exact deviceTells_any w hE A n c l hs hok hks number loan kA kc known hkn
end Go.Proofs.YtjncmlglhegnaaaGreatDoor
