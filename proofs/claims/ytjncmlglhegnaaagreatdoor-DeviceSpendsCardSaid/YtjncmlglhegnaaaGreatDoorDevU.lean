/- kerbsidelaw49: World's written, walked. -/
import Derived.Test.YtjncmlglhegnaaaGreatDoorDevT
import Derived.Deep.DeepCutAuto
namespace Go.Proofs.YtjncmlglhegnaaaGreatDoor
open Go.RowKit Go.Sort Go.Lib

/-- what is being written, if the call that wrote it has failed -/
def tornF (last all : List EntV) (q : EntV × Int) (e : Int) (torn : List EntV) : List EntV := if all.length = last.length ∧ (e = 8 ∨ e = 9) ∧ q.2 = 0 then [q.1] else torn
def writtenW (v : WorV) (x : DevV) (e day : Int) (text : List UInt8) (s : Bool) : WorV :=
  { v with torn := tornF v.last x.ents (nextF x.ents v.number day zed8 text) e v.torn, last := x.ents, durable := if e = 0 ∧ s = true then x.ents else v.durable }
structure WrittenOk (v : WorV) (x : DevV) : Prop where
  pre : v.last <+: x.ents
  len : x.ents.length ≤ v.last.length + 1
  few : x.ents.length ≤ 1000
  right : ∀ u ∈ x.ents, RightE u
section
variable {w0 w w' : World} {Rs : List Res} {W : Nat} {v : WorV}
set_option maxRecDepth 100000 in
set_option maxHeartbeats 32000000 in
theorem written_any (h : Sep w0 w (worR W v :: Rs)) (x : DevV) (hx : v.x = some x) (ho : WrittenOk v x) (e day : Int) (text : List UInt8) (ht : text.length ≤ 140737488351232) (s : Bool) :
    Calls Tryz.prog 88 #[.pointer (some ⟨W, 0, none⟩), .int .i64 e, .int .i64 day, .string ⟨text.toArray⟩, .bool s] w fun r w' => r = .returned (.tuple #[]) ∧ Sep w0 w' (worR W (writtenW v x e day text s) :: Rs) := by
  obtain ⟨⟨B, X, LH, LD, LL, LT⟩, ⟨hH, hD, hL, hT⟩, hq⟩ := h.worPart
  simp only [worLs] at hq
  simp only at hH hD hL hT
  obtain ⟨d, xo, number, units, handed, durable, last, torn, spent, ex⟩ := v
  simp only at hx hq hH hD hL hT
  subst hx
  obtain ⟨hpre, hlen, hfew, hrt⟩ := ho
  simp only at hpre hlen
  obtain ⟨⟨NV, er⟩, hnx⟩ : ∃ q, nextF x.ents number day zed8 text = q := ⟨_, rfl⟩
  have HS : Hid (Sep w0 w (boxR W (worX B (.pointer (some ⟨X, 0, none⟩)) number units LH.val LD.val LL.val LT.val spent) :: seesR (WorI.sees ⟨B, X, LH, LD, LL, LT⟩ ex) :: diskR B d :: devR B X x :: Rs)) := Lib.hid hq
  unfold writtenW
  simp only
  rw [hnx]
  have HHE := Lib.hid hH
  have HDE := Lib.hid hD
  have HLE := Lib.hid hL
  have HTE := Lib.hid hT
  have HPRE := Lib.hid hpre
  have HLEN := Lib.hid hlen
  have HTX := Lib.hid ht
  have HRT := Lib.hid hrt
  have HAL := Lib.hid (All_dev HS.out.w1 hfew hrt)
  have HFW := Lib.hid hfew
  have HNX0 := Lib.hid hnx
  clear h hH hD hL hT hpre hlen hfew hrt ht hq hnx
  obtain ⟨zW, kW, fW⟩ := HS.out.loc
  go_enter Tryz.func88, Tryz.ntmps88
  go_wp2_with (fail)
  clear zW kW fW
  ((with_reducible refine (HAL.out).mono ?_); rintro _ w4 ⟨A4, c4, fs, hfs, rfl, h4⟩)
  have HCAP := Lib.hid (own_capE h4.own).1
  have HFS := Lib.hid hfs
  have HQ0 : Hid (Sep w0 w4 (boxR W (worX B (.pointer (some ⟨X, 0, none⟩)) number units LH.val LD.val LL.val LT.val spent) :: seesR (fun Y => WorI.sees ⟨B, X, LH, LD, LL, LT⟩ ex Y ∧ ChAt Y A4 fs.length fs) :: diskR B d :: devR B X x :: Rs)) := Lib.hid ((h4.ownSees.seesTurn (ψ := fun Y => ChAt Y A4 fs.length fs) fun Y hY => ⟨hY.1, hY.2, fun e he => by
      have h := HRT.out e.v (by rw [← hfs]; exact List.mem_map.2 ⟨e, he, rfl⟩)
      have := h.len
      have := h.txt
      exact ⟨by omega, by omega⟩⟩).r5.seesAnd.w1.r3.sw)
  have HFL : Hid (fs.length ≤ 1000) := Lib.hid (by rw [← vsOf_len, hfs]; exact HFW.out)
  have HNE : Hid (nextF (vsOf fs) number day zed8 text = (NV, er)) := Lib.hid (by rw [hfs]; exact HNX0.out)
  clear h4 hfs HS HAL
  obtain ⟨tb, htb⟩ : ∃ tb : Bool, decide (fs.length = LL.es.length ∧ (e = 8 ∨ e = 9)) = tb := ⟨_, rfl⟩
  have HTB := Lib.hid htb
  clear htb
  go_upto_region 1 with (fail)
  go_cut [33] (fun s33 wy => s33 = .bool tb ∧ wy = w4)
  case first =>
    obtain ⟨zW, kW, fW⟩ := HQ0.out.loc
    by_cases h1 : fs.length = LL.es.length
    · have h1i : ((fs.length : Int) == (LL.es.length : Int)) = true := by rw [h1]; simp
      have h1n : (fs.length == LL.es.length) = true := by rw [h1]; simp
      by_cases h8 : e = 8
      · subst h8
        have htt : tb = true := by rw [← HTB.out]; exact decide_eq_true ⟨h1, .inl rfl⟩
        subst htt
        clear h1
        go_wp2_with (fail)
        go_meet
        exact ⟨rfl, rfl⟩
      · have h8b : (e == 8) = false := beq_eq_false_iff_ne.2 h8
        have htt : tb = (e == 9) := by
          rw [← HTB.out, Bool.eq_iff_iff, decide_eq_true_iff, beq_iff_eq]
          exact ⟨fun h => h.2.elim (fun h' => absurd h' h8) id, fun h => ⟨h1, .inr h⟩⟩
        subst htt
        clear h1 h8
        go_wp2_with (fail)
        go_meet
        exact ⟨rfl, rfl⟩
    · have h1i : ((fs.length : Int) == (LL.es.length : Int)) = false := by rw [beq_eq_false_iff_ne]; omega
      have h1n : (fs.length == LL.es.length) = false := by rw [beq_eq_false_iff_ne]; exact h1
      have htt : tb = false := by rw [← HTB.out]; exact decide_eq_false fun h => h1 h.1
      subst htt
      clear h1
      go_wp2_with (fail)
      go_meet
      exact ⟨rfl, rfl⟩
  case rest =>
  obtain ⟨rfl, rfl⟩ := hcut
  go_upto_if 33 with (fail)
  go_cut [] (fun wy => ∃ LT2 : LsC, vsOf LT2.es = tornF last x.ents (NV, er) e torn ∧ Sep w0 wy (boxR W (worX B (.pointer (some ⟨X, 0, none⟩)) number units LH.val LD.val LL.val LT2.val spent) :: seesR (fun Y => WorI.sees ⟨B, X, LH, LD, LL, LT2⟩ ex Y ∧ ChAt Y A4 fs.length fs) :: diskR B d :: devR B X x :: Rs))
  case first =>
    cases tb
    case false =>
      go_wp2_with (fail)
      go_meet
      refine ⟨LT, ?_, HQ0.out⟩
      have h := HTB.out
      rw [decide_eq_false_iff_not] at h
      unfold tornF
      rw [if_neg (fun h' => h ⟨?_, h'.2.1⟩), HTE.out]
      have h1 := h'.1
      rw [← HFS.out, vsOf_len, ← HLE.out, vsOf_len] at h1
      exact h1
    have htr : fs.length = LL.es.length ∧ (e = 8 ∨ e = 9) := of_decide_eq_true HTB.out
    have HTR := Lib.hid htr
    clear htr
    go_upto_region 2 with (fail)
    go_cut [11, 12] (fun s11 s12 wy => ∃ (g : Nat) (u : EntC), s11 = .pointer (some ⟨g, 0, none⟩) ∧ s12 = .int .i64 er ∧ u.v = NV ∧ Sep w0 wy (boxR g u.cells.toArray :: boxR W (worX B (.pointer (some ⟨X, 0, none⟩)) number units LH.val LD.val LL.val LT.val spent) :: seesR (fun Y => (WorI.sees ⟨B, X, LH, LD, LL, LT⟩ ex Y ∧ ChAt Y A4 fs.length fs) ∧ EntAt Y u) :: diskR B d :: devR B X x :: Rs))
    case first =>
      refine wpTill.startN 15 (S := fun w' => w'.cell? ⟨W, 2, none⟩ = some (.int .i64 number)) (T := fun _ => True) (m := 300) rfl (by kernel_rfl) ?_
      have HQ := Lib.hid HQ0.out.drew
      generalize wc.drew = wz at *
  -- BEGIN R2
      refine wpTill.take (i := 0) (v := ?_) (by rfl) rfl (by kernel_rfl) (by kernel_rfl) (by kernel_rfl) (by exact fun _ _ _ h => h) (world_cells HQ.out.loc).2.1 (fun _ => trivial) (Or.inl ⟨by rfl, ?_⟩) ?_
      rotate_left
      · (intro w' hSw; (try dsimp only at hSw); go_simp; (try with_reducible rfl))
      (try simp only [Act.put, List.setIfInBounds_toArray, List.set_cons_zero, List.set_cons_succ, List.getElem_toArray, List.getElem_cons_zero, List.getElem_cons_succ])
      refine wpTill.take (i := 1) (v := ?_) (by rfl) rfl (by kernel_rfl) (by kernel_rfl) (by kernel_rfl) (by exact fun _ _ _ h => h) (world_cells HQ.out.loc).2.1 (fun _ => trivial) (Or.inl ⟨by rfl, ?_⟩) ?_
      rotate_left
      · (intro w' hSw; (try dsimp only at hSw); go_simp; (try with_reducible rfl))
      (try simp only [Act.put, List.setIfInBounds_toArray, List.set_cons_zero, List.set_cons_succ, List.getElem_toArray, List.getElem_cons_zero, List.getElem_cons_succ])
      refine wpTill.take (i := 2) (v := ?_) (by rfl) rfl (by kernel_rfl) (by kernel_rfl) (by kernel_rfl) (by exact fun _ _ _ h => h) (world_cells HQ.out.loc).2.1 (fun _ => trivial) (Or.inl ⟨by rfl, ?_⟩) ?_
      rotate_left
      · (intro w' hSw; (try dsimp only at hSw); go_simp; (try with_reducible rfl))
      (try simp only [Act.put, List.setIfInBounds_toArray, List.set_cons_zero, List.set_cons_succ, List.getElem_toArray, List.getElem_cons_zero, List.getElem_cons_succ])
      refine wpTill.take (i := 3) (v := ?_) (by rfl) rfl (by kernel_rfl) (by kernel_rfl) (by kernel_rfl) (by exact fun _ _ _ h => h) (world_cells HQ.out.loc).2.1 (fun _ => trivial) (Or.inl ⟨by rfl, ?_⟩) ?_
      rotate_left
      · (intro w' hSw; (try dsimp only at hSw); go_simp; (try with_reducible rfl))
      (try simp only [Act.put, List.setIfInBounds_toArray, List.set_cons_zero, List.set_cons_succ, List.getElem_toArray, List.getElem_cons_zero, List.getElem_cons_succ])
      refine wpTill.take (i := 4) (v := ?_) (by rfl) rfl (by kernel_rfl) (by kernel_rfl) (by kernel_rfl) (by exact fun _ _ _ h => h) (world_cells HQ.out.loc).2.1 (fun _ => trivial) (Or.inl ⟨by rfl, ?_⟩) ?_
      rotate_left
      · (intro w' hSw; (try dsimp only at hSw); go_simp; (try with_reducible rfl))
      (try simp only [Act.put, List.setIfInBounds_toArray, List.set_cons_zero, List.set_cons_succ, List.getElem_toArray, List.getElem_cons_zero, List.getElem_cons_succ])
      refine wpTill.take (i := 5) (v := ?_) (by rfl) rfl (by kernel_rfl) (by kernel_rfl) (by kernel_rfl) (by exact fun _ _ _ h => h) (world_cells HQ.out.loc).2.1 (fun _ => trivial) (Or.inl ⟨by rfl, ?_⟩) ?_
      rotate_left
      · (intro w' hSw; (try dsimp only at hSw); go_simp; (try with_reducible rfl))
      (try simp only [Act.put, List.setIfInBounds_toArray, List.set_cons_zero, List.set_cons_succ, List.getElem_toArray, List.getElem_cons_zero, List.getElem_cons_succ])
      refine wpTill.take (i := 7) (v := ?_) (by rfl) rfl (by kernel_rfl) (by kernel_rfl) (by kernel_rfl) (by exact fun _ _ _ h => h) (world_cells HQ.out.loc).2.1 (fun _ => trivial) (Or.inl ⟨by rfl, ?_⟩) ?_
      rotate_left
      · (intro w' hSw; (try dsimp only at hSw); go_simp; (try with_reducible rfl))
      (try simp only [Act.put, List.setIfInBounds_toArray, List.set_cons_zero, List.set_cons_succ, List.getElem_toArray, List.getElem_cons_zero, List.getElem_cons_succ])
      refine wpTill.step2 (i := 6) (j := 12) (by kernel_rfl) (by rfl) (by rfl) (fun K' hK => ?_) (fun K' hK => ?_)
      rotate_left
      · skip
        replace hK := Lib.hid hK
        go_simp
        replace HQ := Lib.hid (HQ.out.box #[.int .i64 0, .int .i64 0, .int .i64 0, .slice none 0 0, .string ⟨#[]⟩] 32)
        refine hK.out _ _ (world_cells HQ.out.sw.loc).2.1 (fun _ => trivial) ?_
        clear hK K'
        (try simp only [Act.put, List.setIfInBounds_toArray, List.set_cons_zero, List.set_cons_succ, List.getElem_toArray, List.getElem_cons_zero, List.getElem_cons_succ])
        generalize wz.alloc (.cells #[.int .i64 0, .int .i64 0, .int .i64 0, .slice none 0 0, .string ⟨#[]⟩] 32) = wX at *
        generalize wz.heap.size = gX at *
        refine wpTill.step (i := 6) (by kernel_rfl) (by rfl) (fun K' hK => ?_)
        replace hK := Lib.hid hK
        go_simp
        go_at_call 54
        ((with_reducible refine (none_any _).mono ?_); rintro _ wN ⟨AZ, rfl, hz, hbN⟩)
        replace HQ := Lib.hid (HQ.out.below hbN)
        have HZ := Lib.hid hz
        clear hz hbN
        refine hK.out _ _ (world_cells HQ.out.sw.loc).2.1 (fun _ => trivial) ?_
        clear hK K'
        (try simp only [Act.put, List.setIfInBounds_toArray, List.set_cons_zero, List.set_cons_succ, List.getElem_toArray, List.getElem_cons_zero, List.getElem_cons_succ])
        have HNX := Lib.hid (Next_any wN A4 fs.length c4 fs HQ.out.r3.sees.2 HFL.out number day AZ 8 8 zed8 HZ.out text HTX.out _ HNE.out)
        refine wpTill.step (i := 8) (by kernel_rfl) (by rfl) (fun K' hK => ?_)
        replace hK := Lib.hid hK
        go_simp
        go_at_call 126
        ((with_reducible refine (HNX.out).mono ?_); rintro _ wM ⟨⟨⟨xd, xn, xy, xs, xt⟩, xA, xc⟩, hxv, rfl, hxf, hbN⟩)
        simp only at hxf hxv ⊢
        simp only [EntC.cells]
        have HXV := Lib.hid hxv
        replace HQ := Lib.hid ((HQ.out.r3.seesAdd hbN (Sl.rests hxf)).l3)
        clear hxv hxf hbN HNX HZ
        refine hK.out _ _ (world_cells HQ.out.sw.loc).2.1 (fun _ => trivial) ?_
        clear hK K'
        (try simp only [Act.put, List.setIfInBounds_toArray, List.set_cons_zero, List.set_cons_succ, List.getElem_toArray, List.getElem_cons_zero, List.getElem_cons_succ])
        refine wpTill.take (i := 9) (v := ?_) (by rfl) rfl (by kernel_rfl) (by kernel_rfl) (by kernel_rfl) (by exact fun _ _ _ h => h) (world_cells HQ.out.sw.loc).2.1 (fun _ => trivial) (Or.inl ⟨by rfl, ?_⟩) ?_
        rotate_left
        · (intro w' hSw; (try dsimp only at hSw); go_simp; (try with_reducible rfl))
        (try simp only [Act.put, List.setIfInBounds_toArray, List.set_cons_zero, List.set_cons_succ, List.getElem_toArray, List.getElem_cons_zero, List.getElem_cons_succ])
        refine wpTill.take (i := 10) (v := ?_) (by rfl) rfl (by kernel_rfl) (by kernel_rfl) (by kernel_rfl) (by exact fun _ _ _ h => h) (world_cells HQ.out.sw.loc).2.1 (fun _ => trivial) (Or.inl ⟨by rfl, ?_⟩) ?_
        rotate_left
        · (intro w' hSw; (try dsimp only at hSw); go_simp; (try with_reducible rfl))
        (try simp only [Act.put, List.setIfInBounds_toArray, List.set_cons_zero, List.set_cons_succ, List.getElem_toArray, List.getElem_cons_zero, List.getElem_cons_succ])
        refine wpTill.take (i := 11) (v := ?_) (by rfl) rfl (by kernel_rfl) (by kernel_rfl) (by kernel_rfl) (by exact fun _ _ _ h => h) (world_cells HQ.out.sw.loc).2.1 (fun _ => trivial) (Or.inl ⟨by rfl, ?_⟩) ?_
        rotate_left
        · (intro w' hSw; (try dsimp only at hSw); go_simp; (try with_reducible rfl))
        (try simp only [Act.put, List.setIfInBounds_toArray, List.set_cons_zero, List.set_cons_succ, List.getElem_toArray, List.getElem_cons_zero, List.getElem_cons_succ])
        obtain ⟨zE, kE, fE⟩ := HQ.out.loc
        refine wpTill.step (i := 13) (by kernel_rfl) (by rfl) (fun K' hK => ?_)
        replace hK := Lib.hid hK
        go_simp
        have HQ2 := Lib.hid (HQ.out.setEntD ⟨⟨xd, xn, xy, xs, xt⟩, xA, xc⟩)
        simp only [EntC.cells] at HQ2
        refine hK.out _ _ (world_cells HQ2.out.sw.loc).2.1 (fun _ => trivial) ?_
        clear hK K'
        (try simp only [Act.put, List.setIfInBounds_toArray, List.set_cons_zero, List.set_cons_succ, List.getElem_toArray, List.getElem_cons_zero, List.getElem_cons_succ])
        refine wpTill.take (i := 14) (v := ?_) (by rfl) rfl (by kernel_rfl) (by kernel_rfl) (by kernel_rfl) (by exact fun _ _ _ h => h) (world_cells HQ2.out.sw.loc).2.1 (fun _ => trivial) (Or.inl ⟨by rfl, ?_⟩) ?_
        rotate_left
        · (intro w' hSw; (try dsimp only at hSw); go_simp; (try with_reducible rfl))
        (try simp only [Act.put, List.setIfInBounds_toArray, List.set_cons_zero, List.set_cons_succ, List.getElem_toArray, List.getElem_cons_zero, List.getElem_cons_succ])
        refine wpTill.stop (by kernel_rfl) ?_ _
        go_wp2_with (fail)
        go_meet
        exact ⟨_, ⟨⟨xd, xn, xy, xs, xt⟩, xA, xc⟩, rfl, rfl, HXV.out, HQ2.out⟩
      replace hK := Lib.hid hK
      go_simp
      go_at_call 54
      ((with_reducible refine (none_any _).mono ?_); rintro _ wN ⟨AZ, rfl, hz, hbN⟩)
      replace HQ := Lib.hid (HQ.out.below hbN)
      have HZ := Lib.hid hz
      clear hz hbN
      refine hK.out _ _ (world_cells HQ.out.loc).2.1 (fun _ => trivial) ?_
      clear hK K'
      (try simp only [Act.put, List.setIfInBounds_toArray, List.set_cons_zero, List.set_cons_succ, List.getElem_toArray, List.getElem_cons_zero, List.getElem_cons_succ])
      refine wpTill.step2 (i := 8) (j := 12) (by kernel_rfl) (by rfl) (by rfl) (fun K' hK => ?_) (fun K' hK => ?_)
      rotate_left
      · skip
        replace hK := Lib.hid hK
        go_simp
        replace HQ := Lib.hid (HQ.out.box #[.int .i64 0, .int .i64 0, .int .i64 0, .slice none 0 0, .string ⟨#[]⟩] 32)
        replace HZ := Lib.hid (Sl.alloc HZ.out (.cells #[.int .i64 0, .int .i64 0, .int .i64 0, .slice none 0 0, .string ⟨#[]⟩] 32))
        refine hK.out _ _ (world_cells HQ.out.sw.loc).2.1 (fun _ => trivial) ?_
        clear hK K'
        (try simp only [Act.put, List.setIfInBounds_toArray, List.set_cons_zero, List.set_cons_succ, List.getElem_toArray, List.getElem_cons_zero, List.getElem_cons_succ])
        generalize wN.alloc (.cells #[.int .i64 0, .int .i64 0, .int .i64 0, .slice none 0 0, .string ⟨#[]⟩] 32) = wX at *
        generalize wN.heap.size = gX at *
        have HNX := Lib.hid (Next_any wX A4 fs.length c4 fs HQ.out.r3.sees.2 HFL.out number day AZ 8 8 zed8 HZ.out text HTX.out _ HNE.out)
        refine wpTill.step (i := 8) (by kernel_rfl) (by rfl) (fun K' hK => ?_)
        replace hK := Lib.hid hK
        go_simp
        go_at_call 126
        ((with_reducible refine (HNX.out).mono ?_); rintro _ wM ⟨⟨⟨xd, xn, xy, xs, xt⟩, xA, xc⟩, hxv, rfl, hxf, hbN⟩)
        simp only at hxf hxv ⊢
        simp only [EntC.cells]
        have HXV := Lib.hid hxv
        replace HQ := Lib.hid ((HQ.out.r3.seesAdd hbN (Sl.rests hxf)).l3)
        clear hxv hxf hbN HNX HZ
        refine hK.out _ _ (world_cells HQ.out.sw.loc).2.1 (fun _ => trivial) ?_
        clear hK K'
        (try simp only [Act.put, List.setIfInBounds_toArray, List.set_cons_zero, List.set_cons_succ, List.getElem_toArray, List.getElem_cons_zero, List.getElem_cons_succ])
        refine wpTill.take (i := 9) (v := ?_) (by rfl) rfl (by kernel_rfl) (by kernel_rfl) (by kernel_rfl) (by exact fun _ _ _ h => h) (world_cells HQ.out.sw.loc).2.1 (fun _ => trivial) (Or.inl ⟨by rfl, ?_⟩) ?_
        rotate_left
        · (intro w' hSw; (try dsimp only at hSw); go_simp; (try with_reducible rfl))
        (try simp only [Act.put, List.setIfInBounds_toArray, List.set_cons_zero, List.set_cons_succ, List.getElem_toArray, List.getElem_cons_zero, List.getElem_cons_succ])
        refine wpTill.take (i := 10) (v := ?_) (by rfl) rfl (by kernel_rfl) (by kernel_rfl) (by kernel_rfl) (by exact fun _ _ _ h => h) (world_cells HQ.out.sw.loc).2.1 (fun _ => trivial) (Or.inl ⟨by rfl, ?_⟩) ?_
        rotate_left
        · (intro w' hSw; (try dsimp only at hSw); go_simp; (try with_reducible rfl))
        (try simp only [Act.put, List.setIfInBounds_toArray, List.set_cons_zero, List.set_cons_succ, List.getElem_toArray, List.getElem_cons_zero, List.getElem_cons_succ])
        refine wpTill.take (i := 11) (v := ?_) (by rfl) rfl (by kernel_rfl) (by kernel_rfl) (by kernel_rfl) (by exact fun _ _ _ h => h) (world_cells HQ.out.sw.loc).2.1 (fun _ => trivial) (Or.inl ⟨by rfl, ?_⟩) ?_
        rotate_left
        · (intro w' hSw; (try dsimp only at hSw); go_simp; (try with_reducible rfl))
        (try simp only [Act.put, List.setIfInBounds_toArray, List.set_cons_zero, List.set_cons_succ, List.getElem_toArray, List.getElem_cons_zero, List.getElem_cons_succ])
        obtain ⟨zE, kE, fE⟩ := HQ.out.loc
        refine wpTill.step (i := 13) (by kernel_rfl) (by rfl) (fun K' hK => ?_)
        replace hK := Lib.hid hK
        go_simp
        have HQ2 := Lib.hid (HQ.out.setEntD ⟨⟨xd, xn, xy, xs, xt⟩, xA, xc⟩)
        simp only [EntC.cells] at HQ2
        refine hK.out _ _ (world_cells HQ2.out.sw.loc).2.1 (fun _ => trivial) ?_
        clear hK K'
        (try simp only [Act.put, List.setIfInBounds_toArray, List.set_cons_zero, List.set_cons_succ, List.getElem_toArray, List.getElem_cons_zero, List.getElem_cons_succ])
        refine wpTill.take (i := 14) (v := ?_) (by rfl) rfl (by kernel_rfl) (by kernel_rfl) (by kernel_rfl) (by exact fun _ _ _ h => h) (world_cells HQ2.out.sw.loc).2.1 (fun _ => trivial) (Or.inl ⟨by rfl, ?_⟩) ?_
        rotate_left
        · (intro w' hSw; (try dsimp only at hSw); go_simp; (try with_reducible rfl))
        (try simp only [Act.put, List.setIfInBounds_toArray, List.set_cons_zero, List.set_cons_succ, List.getElem_toArray, List.getElem_cons_zero, List.getElem_cons_succ])
        refine wpTill.stop (by kernel_rfl) ?_ _
        go_wp2_with (fail)
        go_meet
        exact ⟨_, ⟨⟨xd, xn, xy, xs, xt⟩, xA, xc⟩, rfl, rfl, HXV.out, HQ2.out⟩
      replace hK := Lib.hid hK
      have HNX := Lib.hid (Next_any wN A4 fs.length c4 fs HQ.out.sw.sees.2 HFL.out number day AZ 8 8 zed8 HZ.out text HTX.out _ HNE.out)
      go_simp
      go_at_call 126
      ((with_reducible refine (HNX.out).mono ?_); rintro _ wM ⟨⟨⟨xd, xn, xy, xs, xt⟩, xA, xc⟩, hxv, rfl, hxf, hbN⟩)
      simp only at hxf hxv ⊢
      simp only [EntC.cells]
      have HXV := Lib.hid hxv
      replace HQ := Lib.hid ((HQ.out.sw.seesAdd hbN (Sl.rests hxf)).sw)
      clear hxv hxf hbN HNX HZ
      refine hK.out _ _ (world_cells HQ.out.loc).2.1 (fun _ => trivial) ?_
      clear hK K'
      (try simp only [Act.put, List.setIfInBounds_toArray, List.set_cons_zero, List.set_cons_succ, List.getElem_toArray, List.getElem_cons_zero, List.getElem_cons_succ])
      refine wpTill.take (i := 9) (v := ?_) (by rfl) rfl (by kernel_rfl) (by kernel_rfl) (by kernel_rfl) (by exact fun _ _ _ h => h) (world_cells HQ.out.loc).2.1 (fun _ => trivial) (Or.inl ⟨by rfl, ?_⟩) ?_
      rotate_left
      · (intro w' hSw; (try dsimp only at hSw); go_simp; (try with_reducible rfl))
      (try simp only [Act.put, List.setIfInBounds_toArray, List.set_cons_zero, List.set_cons_succ, List.getElem_toArray, List.getElem_cons_zero, List.getElem_cons_succ])
      refine wpTill.take (i := 10) (v := ?_) (by rfl) rfl (by kernel_rfl) (by kernel_rfl) (by kernel_rfl) (by exact fun _ _ _ h => h) (world_cells HQ.out.loc).2.1 (fun _ => trivial) (Or.inl ⟨by rfl, ?_⟩) ?_
      rotate_left
      · (intro w' hSw; (try dsimp only at hSw); go_simp; (try with_reducible rfl))
      (try simp only [Act.put, List.setIfInBounds_toArray, List.set_cons_zero, List.set_cons_succ, List.getElem_toArray, List.getElem_cons_zero, List.getElem_cons_succ])
      refine wpTill.take (i := 11) (v := ?_) (by rfl) rfl (by kernel_rfl) (by kernel_rfl) (by kernel_rfl) (by exact fun _ _ _ h => h) (world_cells HQ.out.loc).2.1 (fun _ => trivial) (Or.inl ⟨by rfl, ?_⟩) ?_
      rotate_left
      · (intro w' hSw; (try dsimp only at hSw); go_simp; (try with_reducible rfl))
      (try simp only [Act.put, List.setIfInBounds_toArray, List.set_cons_zero, List.set_cons_succ, List.getElem_toArray, List.getElem_cons_zero, List.getElem_cons_succ])
      refine wpTill.step (i := 12) (by kernel_rfl) (by rfl) (fun K' hK => ?_)
      replace hK := Lib.hid hK
      go_simp
      replace HQ := Lib.hid (HQ.out.box #[.int .i64 0, .int .i64 0, .int .i64 0, .slice none 0 0, .string ⟨#[]⟩] 32)
      refine hK.out _ _ (world_cells HQ.out.sw.loc).2.1 (fun _ => trivial) ?_
      clear hK K'
      (try simp only [Act.put, List.setIfInBounds_toArray, List.set_cons_zero, List.set_cons_succ, List.getElem_toArray, List.getElem_cons_zero, List.getElem_cons_succ])
      generalize wM.alloc (.cells #[.int .i64 0, .int .i64 0, .int .i64 0, .slice none 0 0, .string ⟨#[]⟩] 32) = wX at *
      generalize wM.heap.size = gX at *
      obtain ⟨zE, kE, fE⟩ := HQ.out.loc
      refine wpTill.step (i := 13) (by kernel_rfl) (by rfl) (fun K' hK => ?_)
      replace hK := Lib.hid hK
      go_simp
      have HQ2 := Lib.hid (HQ.out.setEntD ⟨⟨xd, xn, xy, xs, xt⟩, xA, xc⟩)
      simp only [EntC.cells] at HQ2
      refine hK.out _ _ (world_cells HQ2.out.sw.loc).2.1 (fun _ => trivial) ?_
      clear hK K'
      (try simp only [Act.put, List.setIfInBounds_toArray, List.set_cons_zero, List.set_cons_succ, List.getElem_toArray, List.getElem_cons_zero, List.getElem_cons_succ])
      refine wpTill.take (i := 14) (v := ?_) (by rfl) rfl (by kernel_rfl) (by kernel_rfl) (by kernel_rfl) (by exact fun _ _ _ h => h) (world_cells HQ2.out.sw.loc).2.1 (fun _ => trivial) (Or.inl ⟨by rfl, ?_⟩) ?_
      rotate_left
      · (intro w' hSw; (try dsimp only at hSw); go_simp; (try with_reducible rfl))
      (try simp only [Act.put, List.setIfInBounds_toArray, List.set_cons_zero, List.set_cons_succ, List.getElem_toArray, List.getElem_cons_zero, List.getElem_cons_succ])
      refine wpTill.stop (by kernel_rfl) ?_ _
      go_wp2_with (fail)
      go_meet
      exact ⟨_, ⟨⟨xd, xn, xy, xs, xt⟩, xA, xc⟩, rfl, rfl, HXV.out, HQ2.out⟩
  -- END R2
    case rest =>
    obtain ⟨g, ⟨⟨xd, xn, xy, xs, xt⟩, xA, xc⟩, rfl, rfl, hu, hX⟩ := hcut
    simp only [EntC.cells] at hX
    have HU := Lib.hid hu
    have HX := Lib.hid hX
    clear hu hX
    by_cases her : er = 0
    · subst her
      have hri := nextF_right HNX0.out
      have HRI := Lib.hid hri
      clear hri
      have HY : Hid (Sep w0 ((wc.alloc (.cells #[.int .i64 xd, .int .i64 xn, .int .i64 xy, .slice xA xs.length xc, .string ⟨xt.toArray⟩] 32)).setCell ⟨W, 7, none⟩ (.slice (some ⟨wc.heap.size, 0, none⟩) 1 1)) (boxR W (worX B (.pointer (some ⟨X, 0, none⟩)) number units LH.val LD.val LL.val (.slice (some ⟨wc.heap.size, 0, none⟩) 1 1) spent) :: seesR (fun Y => WorI.sees ⟨B, X, LH, LD, LL, ⟨some ⟨wc.heap.size, 0, none⟩, 1, [⟨⟨xd, xn, xy, xs, xt⟩, xA, xc⟩]⟩⟩ ex Y ∧ ChAt Y A4 fs.length fs) :: diskR B d :: devR B X x :: Rs)) := Lib.hid (by
        have h0 := HX.out.drop.sw.seesAdd (below_alloc wc (.cells #[.int .i64 xd, .int .i64 xn, .int .i64 xy, .slice xA xs.length xc, .string ⟨xt.toArray⟩] 32)) (Sl.rests (w := wc) ⟨Sl.new_ wc 32 [.int .i64 xd, .int .i64 xn, .int .i64 xy, .slice xA xs.length xc, .string ⟨xt.toArray⟩], fun ad e => by injection e with e; rw [← e]; exact Nat.le_refl _⟩)
        have h1 := h0.seesTurn (ψ := fun Y => WorI.sees ⟨B, X, LH, LD, LL, ⟨some ⟨wc.heap.size, 0, none⟩, 1, [⟨⟨xd, xn, xy, xs, xt⟩, xA, xc⟩]⟩⟩ ex Y ∧ ChAt Y A4 fs.length fs) fun Y hY => ⟨⟨hY.1.1.1.1, hY.1.1.1.2.1, hY.1.1.1.2.2.1, ⟨hY.2, fun e he => by rw [List.mem_singleton.1 he]; exact hY.1.2, fun e he => by
          rw [List.mem_singleton.1 he]
          have h := HRI.out
          rw [← HU.out] at h
          have := h.len
          have := h.txt
          simp only at *
          exact ⟨by omega, by omega⟩⟩⟩, hY.1.1.2⟩
        have h2 := h1.sw.set_ 7 (.slice (some ⟨wc.heap.size, 0, none⟩) 1 1)
        simpa using h2)
      obtain ⟨zE, kE, fE⟩ := HX.out.loc
      obtain ⟨zW, kW, fW⟩ := HX.out.sw.loc
      go_wp2_with (fail)
      go_meet
      have hy := HY.out
      rw [World.setCell_alloc_past _ _ _ _ HX.out.sw.loc.lt] at hy
      refine ⟨⟨some ⟨wc.heap.size, 0, none⟩, 1, [⟨⟨xd, xn, xy, xs, xt⟩, xA, xc⟩]⟩, ?_, hy⟩
      unfold tornF
      rw [if_pos ⟨by rw [← HFS.out, vsOf_len, ← HLE.out, vsOf_len]; exact HTR.out.1, HTR.out.2, rfl⟩, ← HU.out]
      rfl
    · have heb : (er == 0) = false := beq_eq_false_iff_ne.2 her
      go_wp2_with (fail)
      go_meet
      refine ⟨LT, ?_, (HX.out.drop.sw.seesTurn fun Y hY => hY.1).sw⟩
      unfold tornF
      rw [if_neg (fun h' => her h'.2.2), HTE.out]
  case rest =>
  obtain ⟨LT2, hT2, hq2⟩ := hcut
  have HQ2 := Lib.hid hq2
  have HT2 := Lib.hid hT2
  clear hq2 hT2 HQ0
  obtain ⟨zW, kW, fW⟩ := HQ2.out.loc
  have HBG := Lib.hid (begins49_any wc A4 LL.A fs.length LL.es.length c4 LL.c fs LL.es HQ2.out.sw.sees.2 HQ2.out.sw.sees.1.2.2.1 HCAP.out (by have := HFL.out; omega) (by rw [HFS.out, HLE.out]; exact HPRE.out))
  have hls : ¬ ((LL.es.length : Int) + 1 < (fs.length : Int)) := by have h := HLEN.out; rw [← HFS.out, ← HLE.out, vsOf_len, vsOf_len] at h; omega
  have hlsd : decide ((LL.es.length : Int) + 1 < (fs.length : Int)) = false := decide_eq_false hls
  have hw1 : IntKind.i64.wrap ((LL.es.length : Int) + 1) = (LL.es.length : Int) + 1 := IntWalk.i64_in _ (by
    have h := HPRE.out.length_le
    rw [← HFS.out, ← HLE.out, vsOf_len, vsOf_len] at h
    have := HFL.out
    omega)
  go_wp2_with (fail)
  ((with_reducible refine (HBG.out).mono ?_); rintro _ w6 ⟨rfl, hb6⟩)
  have HQ3 := Lib.hid (HQ2.out.below hb6)
  clear zW kW fW hb6 HBG HQ2
  obtain ⟨zW, kW, fW⟩ := HQ3.out.loc
  have HQ4 : Hid (Sep w0 ((w6.setCell ⟨W, 9, none⟩ (.bool false)).setCell ⟨W, 6, none⟩ (.slice A4 fs.length c4)) (boxR W (worX B (.pointer (some ⟨X, 0, none⟩)) number units LH.val LD.val (.slice A4 fs.length c4) LT2.val spent) :: seesR (fun Y => WorI.sees ⟨B, X, LH, LD, LL, LT2⟩ ex Y ∧ ChAt Y A4 fs.length fs) :: diskR B d :: devR B X x :: Rs)) := Lib.hid (by
    have h := (HQ3.out.set_ 9 (.bool false)).set_ 6 (.slice A4 fs.length c4)
    simpa using h)
  by_cases he : e = 0
  · subst he
    cases s
    · go_wp2_with (fail)
      go_end0
      exact ⟨rfl, Sep.worPack ⟨B, X, LH, LD, ⟨A4, c4, fs⟩, LT2⟩ ⟨HHE.out, HDE.out, HFS.out, HT2.out⟩ (HQ4.out.sw.seesTurn fun Y hY => ⟨hY.1.1, hY.1.2.1, hY.2, hY.1.2.2.2⟩).sw⟩
    · have HQ5 : Hid (Sep w0 (((w6.setCell ⟨W, 9, none⟩ (.bool false)).setCell ⟨W, 6, none⟩ (.slice A4 fs.length c4)).setCell ⟨W, 5, none⟩ (.slice A4 fs.length c4)) (boxR W (worX B (.pointer (some ⟨X, 0, none⟩)) number units LH.val (.slice A4 fs.length c4) (.slice A4 fs.length c4) LT2.val spent) :: seesR (fun Y => WorI.sees ⟨B, X, LH, LD, LL, LT2⟩ ex Y ∧ ChAt Y A4 fs.length fs) :: diskR B d :: devR B X x :: Rs)) := Lib.hid (by
        have h := HQ4.out.set_ 5 (.slice A4 fs.length c4)
        simpa using h)
      go_wp2_with (fail)
      go_end0
      exact ⟨rfl, Sep.worPack ⟨B, X, LH, ⟨A4, c4, fs⟩, ⟨A4, c4, fs⟩, LT2⟩ ⟨HHE.out, HFS.out, HFS.out, HT2.out⟩ (HQ5.out.sw.seesTurn fun Y hY => ⟨hY.1.1, hY.2, hY.2, hY.1.2.2.2⟩).sw⟩
  · have heb : (e == 0) = false := beq_eq_false_iff_ne.2 he
    go_wp2_with (fail)
    go_end0
    exact ⟨rfl, Sep.worPack ⟨B, X, LH, LD, ⟨A4, c4, fs⟩, LT2⟩ ⟨HHE.out, HDE.out, HFS.out, HT2.out⟩ (HQ4.out.sw.seesTurn fun Y hY => ⟨hY.1.1, hY.1.2.1, hY.2, hY.1.2.2.2⟩).sw⟩
end
end Go.Proofs.YtjncmlglhegnaaaGreatDoor
