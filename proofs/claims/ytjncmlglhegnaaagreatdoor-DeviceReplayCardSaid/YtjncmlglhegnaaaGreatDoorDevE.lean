/- device: put, walked. -/
import Derived.Test.YtjncmlglhegnaaaGreatDoorDevD
namespace Go.Proofs.YtjncmlglhegnaaaGreatDoor
open Go.RowKit Go.Sort

theorem Sep.setEntD {w0 w : World} {n : Nat} {a b c d e : Value} {Rs : List Res} (h : Sep w0 w (boxR n #[a, b, c, d, e] :: Rs)) (x : EntC) : Sep w0 (((((w.setCell ⟨n, 0, none⟩ (.int .i64 x.v.dev)).setCell ⟨n, 1, none⟩ (.int .i64 x.v.no)).setCell ⟨n, 2, none⟩ (.int .i64 x.v.day)).setCell ⟨n, 3, none⟩ (.slice x.A x.v.seen.length x.c)).setCell ⟨n, 4, none⟩ (.string ⟨x.v.text.toArray⟩)) (boxR n x.cells.toArray :: Rs) := by
  have := ((((h.set_ 0 (.int .i64 x.v.dev)).set_ 1 (.int .i64 x.v.no)).set_ 2 (.int .i64 x.v.day)).set_ 3 (.slice x.A x.v.seen.length x.c)).set_ 4 (.string ⟨x.v.text.toArray⟩)
  simpa [EntC.cells] using this
theorem Sep.r6 {w0 w : World} {R1 R2 R3 R4 R5 R6 : Res} {Rs : List Res} (h : Sep w0 w (R1 :: R2 :: R3 :: R4 :: R5 :: R6 :: Rs)) : Sep w0 w (R6 :: R1 :: R2 :: R3 :: R4 :: R5 :: Rs) :=
  h.perm (List.perm_middle (l₁ := [R1, R2, R3, R4, R5]) (a := R6))
theorem Sep.own_ne {w0 w : World} {X : Nat} {cs : Array Value} {e : TypeId} {size n : Nat} {v : Value} {xs : List (List Value)} {Rs : List Res} (h : Sep w0 w (boxR X cs :: ownR e size v n xs :: Rs)) : v.ownBlock ≠ some X := by
  obtain ⟨⟨F1, a1, a2, F2, b1, b2, c⟩, hb⟩ := h
  intro hv
  exact (b2 X ((b1.2 X).2 hv)).2 ((a1.2 X).2 rfl)
/-- a right entry's encoding is short -/
theorem encE_short {x : EntV} (h : RightE x) : (encE x).length ≤ x.text.length + 1200 := by
  have h1 : ∀ n : Int, 0 ≤ n → n ≤ 100000 → (encN n).length ≤ 21 := fun n h0 h1 => by unfold encN; rw [if_neg (by omega)]; exact encI_len ⟨by omega, by omega⟩
  have a1 := h1 x.dev h.d0 (by have := h.d1; omega)
  have a2 := h1 x.no h.n0 (by have := h.n1; omega)
  have a3 := h1 x.day h.y0 h.y1
  have a4 := encT_len (s := x.text) (by have := h.txt; omega)
  have a5 := flat_le encI 21 x.seen fun n hn => encI_len (by have := h.rng n hn; exact ⟨by omega, by omega⟩)
  have a6 := h.len
  have a7 := itoa_length (n := (x.seen.length : Int)) (by omega) (by omega)
  have a8 : (encIs x.seen).length ≤ 1000 := by
    unfold encIs
    simp
    simp only [List.length_flatten, List.map_map, Function.comp_def] at a5 ⊢
    omega
  unfold encE
  simp only [List.length_append]
  omega
theorem nextF_right {l : List EntV} {device day : Int} {seen : List Int} {text : List UInt8} {v : EntV} (h : nextF l device day seen text = (v, 0)) : RightE v := by
  unfold nextF at h
  split at h
  · split at h
    · rename_i hc
      simp only [Prod.mk.injEq] at h
      rw [← h.1]
      exact (check_at hc (i := l.length) (x := nextV l device day seen text) (by simp)).right
    · rename_i hc
      simp only [Prod.mk.injEq] at h
      exact absurd h.2 hc
  · simp at h
section
variable {w0 w w' : World} {Rs : List Res} {B X : Nat} {d d' : DV} {x : DevV}
/-- what put wants of a device -/
structure DevOk (x : DevV) : Prop where
  few : x.ents.length ≤ 1000
  right : ∀ v ∈ x.ents, RightE v
  bytes : -9223372036854775808 ≤ x.j.bytes ∧ x.j.bytes ≤ 4611686018427387904
  recs : x.j.recs.length ≤ 16777216
set_option maxRecDepth 100000 in
set_option maxHeartbeats 8000000 in
theorem put_sep (h : Sep w0 w (devR B X x :: diskR B d :: Rs)) (hE : Env w0.heap.size w0) (hok : DevOk x) (day : Int) (sA : Option Addr) (sc : Nat) (seen : List Int) (hse : Sl w 1 sA seen.length (seen.map intC)) (text : List UInt8) (ht : text.length ≤ 1099511627776) (r : DV × DevV × Int) (hr : putD d x day seen text = r) :
    Calls Tryz.prog 76 #[.pointer (some ⟨X, 0, none⟩), .int .i64 day, .slice sA seen.length sc, .string ⟨text.toArray⟩] w fun e w' => e = .returned (.int .i64 r.2.2) ∧ Sep w0 w' (devR B X r.2.1 :: diskR B r.1 :: Rs) := by
  have HE := Lib.hid (fun W (hb : Below w0.heap.size w0 W) => hE.below hb)
  obtain ⟨J, A, c, es, hes, hp⟩ := h.devPart
  obtain ⟨number, ents, loan, j⟩ := x
  obtain rfl : vsOf es = ents := hes
  simp only at hp
  have HCH : Hid (ChAt w A es.length es) := Lib.hid ⟨hp.sw.own.sl', hp.r3.sees, fun e he => by
    have h := hok.right e.v (List.mem_map.2 ⟨e, he, rfl⟩)
    have := h.len
    have := h.txt
    exact ⟨by omega, by omega⟩⟩
  have hfew : es.length ≤ 1000 := by have := hok.few; rwa [vsOf_len] at this
  obtain ⟨⟨NV, er⟩, hnx⟩ : ∃ q, nextF (vsOf es) number day seen text = q := ⟨_, rfl⟩
  have HNX : Hid (∀ W, Below w.heap.size w W → Calls Tryz.prog 126 #[.slice A es.length c, .int .i64 number, .int .i64 day, .slice sA seen.length sc, .string ⟨text.toArray⟩] W (EntPost W NV (.int .i64 er))) := Lib.hid fun W hb => Next_any W A es.length c es (HCH.out.below hb) hfew number day sA seen.length sc seen (hse.below hb) text (by omega) _ hnx
  unfold putD at hr
  rw [hnx] at hr
  simp only at hr
  have HR := Lib.hid hr
  have HNE := Lib.hid hnx
  have HOK := Lib.hid hok
  have HS := Lib.hid hp
  have HSS : Hid (∀ w', Below w.heap.size w w' → (w'.cell? ⟨X, 0, none⟩ = some (.int .i64 number) ∧ w'.cell? ⟨X, 2, none⟩ = some (.slice A es.length c))) := Lib.hid fun w' hb => ⟨(hp.loc.below hb).cell 0, (hp.loc.below hb).cell 2⟩
  clear h hE hok hse hnx hr hp hfew HCH
  go_enter Tryz.func76, Tryz.ntmps76
  go_upto_region 1 with (fail)
  go_cut [9, 10] (fun s9 s10 wy => ∃ (g : Nat) (v : EntC), s9 = .pointer (some ⟨g, 0, none⟩) ∧ s10 = .int .i64 er ∧ v.v = NV ∧ Sep w0 wy (boxR g v.cells.toArray :: boxR X (devX J number A es.length c loan) :: ownR 32 5 (.slice A es.length c) es.length (es.map EntC.cells) :: seesR (fun W => SeenAt es W ∧ EntAt W v) :: jourR B J j :: diskR B d :: Rs))
  case first =>
    refine wpTill.startN 18 (S := fun w' => w'.cell? ⟨X, 0, none⟩ = some (.int .i64 number) ∧ w'.cell? ⟨X, 2, none⟩ = some (.slice A es.length c)) (T := fun _ => True) (m := 300) rfl (by kernel_rfl) ?_
    have HBZ := Lib.hid (Below.drew (Below.refl w.heap.size w))
    have HQ := Lib.hid HS.out.drew
    generalize w.drew = wz at *
    refine wpTill.take (i := 0) (v := ?_) (by rfl) rfl (by kernel_rfl) (by kernel_rfl) (by kernel_rfl) (by exact fun _ _ _ h => h) (HSS.out _ HBZ.out) (fun _ => trivial) (Or.inl ⟨by rfl, ?_⟩) ?_
    rotate_left
    · (intro w' hSw; (try dsimp only at hSw); go_simp; (try with_reducible rfl))
    (try simp only [Act.put, List.setIfInBounds_toArray, List.set_cons_zero, List.set_cons_succ, List.getElem_toArray, List.getElem_cons_zero, List.getElem_cons_succ])
    refine wpTill.take (i := 1) (v := ?_) (by rfl) rfl (by kernel_rfl) (by kernel_rfl) (by kernel_rfl) (by exact fun _ _ _ h => h) (HSS.out _ HBZ.out) (fun _ => trivial) (Or.inl ⟨by rfl, ?_⟩) ?_
    rotate_left
    · (intro w' hSw; (try dsimp only at hSw); go_simp; (try with_reducible rfl))
    (try simp only [Act.put, List.setIfInBounds_toArray, List.set_cons_zero, List.set_cons_succ, List.getElem_toArray, List.getElem_cons_zero, List.getElem_cons_succ])
    refine wpTill.take (i := 2) (v := ?_) (by rfl) rfl (by kernel_rfl) (by kernel_rfl) (by kernel_rfl) (by exact fun _ _ _ h => h) (HSS.out _ HBZ.out) (fun _ => trivial) (Or.inl ⟨by rfl, ?_⟩) ?_
    rotate_left
    · (intro w' hSw; (try dsimp only at hSw); go_simp; (try with_reducible rfl))
    (try simp only [Act.put, List.setIfInBounds_toArray, List.set_cons_zero, List.set_cons_succ, List.getElem_toArray, List.getElem_cons_zero, List.getElem_cons_succ])
    refine wpTill.take (i := 3) (v := ?_) (by rfl) rfl (by kernel_rfl) (by kernel_rfl) (by kernel_rfl) (by exact fun _ _ _ h => h) (HSS.out _ HBZ.out) (fun _ => trivial) (Or.inl ⟨by rfl, ?_⟩) ?_
    rotate_left
    · (intro w' hSw; (try dsimp only at hSw); go_simp; (try with_reducible rfl))
    (try simp only [Act.put, List.setIfInBounds_toArray, List.set_cons_zero, List.set_cons_succ, List.getElem_toArray, List.getElem_cons_zero, List.getElem_cons_succ])
    refine wpTill.take (i := 4) (v := ?_) (by rfl) rfl (by kernel_rfl) (by kernel_rfl) (by kernel_rfl) (by exact fun _ _ _ h => h) (HSS.out _ HBZ.out) (fun _ => trivial) (Or.inl ⟨by rfl, ?_⟩) ?_
    rotate_left
    · (intro w' hSw; (try dsimp only at hSw); go_simp; (try with_reducible rfl))
    (try simp only [Act.put, List.setIfInBounds_toArray, List.set_cons_zero, List.set_cons_succ, List.getElem_toArray, List.getElem_cons_zero, List.getElem_cons_succ])
    refine wpTill.take (i := 5) (v := ?_) (by rfl) rfl (by kernel_rfl) (by kernel_rfl) (by kernel_rfl) (by exact fun _ _ _ h => h) (HSS.out _ HBZ.out) (fun _ => trivial) (Or.inl ⟨by rfl, ?_⟩) ?_
    rotate_left
    · (intro w' hSw; (try dsimp only at hSw); go_simp; (try with_reducible rfl))
    (try simp only [Act.put, List.setIfInBounds_toArray, List.set_cons_zero, List.set_cons_succ, List.getElem_toArray, List.getElem_cons_zero, List.getElem_cons_succ])
    refine wpTill.take (i := 6) (v := ?_) (by rfl) rfl (by kernel_rfl) (by kernel_rfl) (by kernel_rfl) (by exact fun _ _ _ h => h) (HSS.out _ HBZ.out) (fun _ => trivial) (Or.inl ⟨by rfl, ?_⟩) ?_
    rotate_left
    · (intro w' hSw; (try dsimp only at hSw); go_simp; (try with_reducible rfl))
    (try simp only [Act.put, List.setIfInBounds_toArray, List.set_cons_zero, List.set_cons_succ, List.getElem_toArray, List.getElem_cons_zero, List.getElem_cons_succ])
    refine wpTill.take (i := 7) (v := ?_) (by rfl) rfl (by kernel_rfl) (by kernel_rfl) (by kernel_rfl) (by exact fun _ _ _ h => h) (HSS.out _ HBZ.out) (fun _ => trivial) (Or.inl ⟨by rfl, ?_⟩) ?_
    rotate_left
    · (intro w' hSw; (try dsimp only at hSw); go_simp; (try with_reducible rfl))
    (try simp only [Act.put, List.setIfInBounds_toArray, List.set_cons_zero, List.set_cons_succ, List.getElem_toArray, List.getElem_cons_zero, List.getElem_cons_succ])
    refine wpTill.take (i := 8) (v := ?_) (by rfl) rfl (by kernel_rfl) (by kernel_rfl) (by kernel_rfl) (by exact fun _ _ _ h => h) (HSS.out _ HBZ.out) (fun _ => trivial) (Or.inl ⟨by rfl, ?_⟩) ?_
    rotate_left
    · (intro w' hSw; (try dsimp only at hSw); go_simp; (try with_reducible rfl))
    (try simp only [Act.put, List.setIfInBounds_toArray, List.set_cons_zero, List.set_cons_succ, List.getElem_toArray, List.getElem_cons_zero, List.getElem_cons_succ])
    refine wpTill.take (i := 9) (v := ?_) (by rfl) rfl (by kernel_rfl) (by kernel_rfl) (by kernel_rfl) (by exact fun _ _ _ h => h) (HSS.out _ HBZ.out) (fun _ => trivial) (Or.inl ⟨by rfl, ?_⟩) ?_
    rotate_left
    · (intro w' hSw; (try dsimp only at hSw); go_simp; (try with_reducible rfl))
    (try simp only [Act.put, List.setIfInBounds_toArray, List.set_cons_zero, List.set_cons_succ, List.getElem_toArray, List.getElem_cons_zero, List.getElem_cons_succ])
    refine wpTill.take (i := 10) (v := ?_) (by rfl) rfl (by kernel_rfl) (by kernel_rfl) (by kernel_rfl) (by exact fun _ _ _ h => h) (HSS.out _ HBZ.out) (fun _ => trivial) (Or.inl ⟨by rfl, ?_⟩) ?_
    rotate_left
    · (intro w' hSw; (try dsimp only at hSw); go_simp; (try with_reducible rfl))
    (try simp only [Act.put, List.setIfInBounds_toArray, List.set_cons_zero, List.set_cons_succ, List.getElem_toArray, List.getElem_cons_zero, List.getElem_cons_succ])
    refine wpTill.step2 (i := 11) (j := 15) (by kernel_rfl) (by rfl) (by rfl) (fun K' hK => ?_) (fun K' hK => ?_)
    rotate_left
    · as_aux_lemma =>
      replace hK := Lib.hid hK
      go_simp
      replace HQ := Lib.hid (HQ.out.box #[.int .i64 0, .int .i64 0, .int .i64 0, .slice none 0 0, .string ⟨#[]⟩] 32)
      replace HBZ := Lib.hid (HBZ.out.alloc HBZ.out.size (.cells #[.int .i64 0, .int .i64 0, .int .i64 0, .slice none 0 0, .string ⟨#[]⟩] 32))
      refine hK.out _ _ (HSS.out _ HBZ.out) (fun _ => trivial) ?_
      clear hK K'
      (try simp only [Act.put, List.setIfInBounds_toArray, List.set_cons_zero, List.set_cons_succ, List.getElem_toArray, List.getElem_cons_zero, List.getElem_cons_succ])
      generalize wz.alloc (.cells #[.int .i64 0, .int .i64 0, .int .i64 0, .slice none 0 0, .string ⟨#[]⟩] 32) = wX at *
      generalize wz.heap.size = gX at *
      refine wpTill.step (i := 11) (by kernel_rfl) (by rfl) (fun K' hK => ?_)
      replace hK := Lib.hid hK
      go_simp
      go_at_call 126
      ((with_reducible refine (HNX.out _ HBZ.out).mono ?_); rintro _ wN ⟨⟨⟨xd, xn, xy, xs, xt⟩, xA, xc⟩, hxv, rfl, hxf, hbN⟩)
      simp only at hxf hxv ⊢
      simp only [EntC.cells]
      have HXV := Lib.hid hxv
      replace HQ := Lib.hid ((HQ.out.r4.seesAdd hbN (Sl.rests hxf)).l4)
      replace HBZ := Lib.hid (HBZ.out.trans (hbN.mono HBZ.out.size))
      clear hxv hxf hbN
      refine hK.out _ _ (HSS.out _ HBZ.out) (fun _ => trivial) ?_
      clear hK K'
      (try simp only [Act.put, List.setIfInBounds_toArray, List.set_cons_zero, List.set_cons_succ, List.getElem_toArray, List.getElem_cons_zero, List.getElem_cons_succ])
      refine wpTill.take (i := 12) (v := ?_) (by rfl) rfl (by kernel_rfl) (by kernel_rfl) (by kernel_rfl) (by exact fun _ _ _ h => h) (HSS.out _ HBZ.out) (fun _ => trivial) (Or.inl ⟨by rfl, ?_⟩) ?_
      rotate_left
      · (intro w' hSw; (try dsimp only at hSw); go_simp; (try with_reducible rfl))
      (try simp only [Act.put, List.setIfInBounds_toArray, List.set_cons_zero, List.set_cons_succ, List.getElem_toArray, List.getElem_cons_zero, List.getElem_cons_succ])
      refine wpTill.take (i := 13) (v := ?_) (by rfl) rfl (by kernel_rfl) (by kernel_rfl) (by kernel_rfl) (by exact fun _ _ _ h => h) (HSS.out _ HBZ.out) (fun _ => trivial) (Or.inl ⟨by rfl, ?_⟩) ?_
      rotate_left
      · (intro w' hSw; (try dsimp only at hSw); go_simp; (try with_reducible rfl))
      (try simp only [Act.put, List.setIfInBounds_toArray, List.set_cons_zero, List.set_cons_succ, List.getElem_toArray, List.getElem_cons_zero, List.getElem_cons_succ])
      refine wpTill.take (i := 14) (v := ?_) (by rfl) rfl (by kernel_rfl) (by kernel_rfl) (by kernel_rfl) (by exact fun _ _ _ h => h) (HSS.out _ HBZ.out) (fun _ => trivial) (Or.inl ⟨by rfl, ?_⟩) ?_
      rotate_left
      · (intro w' hSw; (try dsimp only at hSw); go_simp; (try with_reducible rfl))
      (try simp only [Act.put, List.setIfInBounds_toArray, List.set_cons_zero, List.set_cons_succ, List.getElem_toArray, List.getElem_cons_zero, List.getElem_cons_succ])
      obtain ⟨zE, kE, fE⟩ := HQ.out.loc
      refine wpTill.step (i := 16) (by kernel_rfl) (by rfl) (fun K' hK => ?_)
      replace hK := Lib.hid hK
      go_simp
      have HQ2 := Lib.hid (HQ.out.setEntD ⟨⟨xd, xn, xy, xs, xt⟩, xA, xc⟩)
      simp only [EntC.cells] at HQ2
      refine hK.out _ _ ⟨HQ2.out.sw.loc.cell 0, HQ2.out.sw.loc.cell 2⟩ (fun _ => trivial) ?_
      clear hK K'
      (try simp only [Act.put, List.setIfInBounds_toArray, List.set_cons_zero, List.set_cons_succ, List.getElem_toArray, List.getElem_cons_zero, List.getElem_cons_succ])
      refine wpTill.take (i := 17) (v := ?_) (by rfl) rfl (by kernel_rfl) (by kernel_rfl) (by kernel_rfl) (by exact fun _ _ _ h => h) ⟨HQ2.out.sw.loc.cell 0, HQ2.out.sw.loc.cell 2⟩ (fun _ => trivial) (Or.inl ⟨by rfl, ?_⟩) ?_
      rotate_left
      · (intro w' hSw; (try dsimp only at hSw); go_simp; (try with_reducible rfl))
      (try simp only [Act.put, List.setIfInBounds_toArray, List.set_cons_zero, List.set_cons_succ, List.getElem_toArray, List.getElem_cons_zero, List.getElem_cons_succ])
      refine wpTill.stop (by kernel_rfl) ?_ _
      go_wp2_with (fail)
      go_meet
      exact ⟨_, ⟨⟨xd, xn, xy, xs, xt⟩, xA, xc⟩, rfl, rfl, HXV.out, HQ2.out⟩
    replace hK := Lib.hid hK
    go_simp
    go_at_call 126
    ((with_reducible refine (HNX.out _ HBZ.out).mono ?_); rintro _ wN ⟨⟨⟨xd, xn, xy, xs, xt⟩, xA, xc⟩, hxv, rfl, hxf, hbN⟩)
    simp only at hxf hxv ⊢
    simp only [EntC.cells]
    have HXV := Lib.hid hxv
    replace HQ := Lib.hid ((HQ.out.r3.seesAdd hbN (Sl.rests hxf)).l3)
    replace HBZ := Lib.hid (HBZ.out.trans (hbN.mono HBZ.out.size))
    clear hxv hxf hbN
    refine hK.out _ _ (HSS.out _ HBZ.out) (fun _ => trivial) ?_
    clear hK K'
    (try simp only [Act.put, List.setIfInBounds_toArray, List.set_cons_zero, List.set_cons_succ, List.getElem_toArray, List.getElem_cons_zero, List.getElem_cons_succ])
    refine wpTill.take (i := 12) (v := ?_) (by rfl) rfl (by kernel_rfl) (by kernel_rfl) (by kernel_rfl) (by exact fun _ _ _ h => h) (HSS.out _ HBZ.out) (fun _ => trivial) (Or.inl ⟨by rfl, ?_⟩) ?_
    rotate_left
    · (intro w' hSw; (try dsimp only at hSw); go_simp; (try with_reducible rfl))
    (try simp only [Act.put, List.setIfInBounds_toArray, List.set_cons_zero, List.set_cons_succ, List.getElem_toArray, List.getElem_cons_zero, List.getElem_cons_succ])
    refine wpTill.take (i := 13) (v := ?_) (by rfl) rfl (by kernel_rfl) (by kernel_rfl) (by kernel_rfl) (by exact fun _ _ _ h => h) (HSS.out _ HBZ.out) (fun _ => trivial) (Or.inl ⟨by rfl, ?_⟩) ?_
    rotate_left
    · (intro w' hSw; (try dsimp only at hSw); go_simp; (try with_reducible rfl))
    (try simp only [Act.put, List.setIfInBounds_toArray, List.set_cons_zero, List.set_cons_succ, List.getElem_toArray, List.getElem_cons_zero, List.getElem_cons_succ])
    refine wpTill.take (i := 14) (v := ?_) (by rfl) rfl (by kernel_rfl) (by kernel_rfl) (by kernel_rfl) (by exact fun _ _ _ h => h) (HSS.out _ HBZ.out) (fun _ => trivial) (Or.inl ⟨by rfl, ?_⟩) ?_
    rotate_left
    · (intro w' hSw; (try dsimp only at hSw); go_simp; (try with_reducible rfl))
    (try simp only [Act.put, List.setIfInBounds_toArray, List.set_cons_zero, List.set_cons_succ, List.getElem_toArray, List.getElem_cons_zero, List.getElem_cons_succ])
    refine wpTill.step (i := 15) (by kernel_rfl) (by rfl) (fun K' hK => ?_)
    replace hK := Lib.hid hK
    go_simp
    replace HQ := Lib.hid (HQ.out.box #[.int .i64 0, .int .i64 0, .int .i64 0, .slice none 0 0, .string ⟨#[]⟩] 32)
    replace HBZ := Lib.hid (HBZ.out.alloc HBZ.out.size (.cells #[.int .i64 0, .int .i64 0, .int .i64 0, .slice none 0 0, .string ⟨#[]⟩] 32))
    refine hK.out _ _ (HSS.out _ HBZ.out) (fun _ => trivial) ?_
    clear hK K'
    (try simp only [Act.put, List.setIfInBounds_toArray, List.set_cons_zero, List.set_cons_succ, List.getElem_toArray, List.getElem_cons_zero, List.getElem_cons_succ])
    generalize wN.alloc (.cells #[.int .i64 0, .int .i64 0, .int .i64 0, .slice none 0 0, .string ⟨#[]⟩] 32) = wX at *
    generalize wN.heap.size = gX at *
    obtain ⟨zE, kE, fE⟩ := HQ.out.loc
    refine wpTill.step (i := 16) (by kernel_rfl) (by rfl) (fun K' hK => ?_)
    replace hK := Lib.hid hK
    go_simp
    have HQ2 := Lib.hid (HQ.out.setEntD ⟨⟨xd, xn, xy, xs, xt⟩, xA, xc⟩)
    simp only [EntC.cells] at HQ2
    refine hK.out _ _ ⟨HQ2.out.sw.loc.cell 0, HQ2.out.sw.loc.cell 2⟩ (fun _ => trivial) ?_
    clear hK K'
    (try simp only [Act.put, List.setIfInBounds_toArray, List.set_cons_zero, List.set_cons_succ, List.getElem_toArray, List.getElem_cons_zero, List.getElem_cons_succ])
    refine wpTill.take (i := 17) (v := ?_) (by rfl) rfl (by kernel_rfl) (by kernel_rfl) (by kernel_rfl) (by exact fun _ _ _ h => h) ⟨HQ2.out.sw.loc.cell 0, HQ2.out.sw.loc.cell 2⟩ (fun _ => trivial) (Or.inl ⟨by rfl, ?_⟩) ?_
    rotate_left
    · (intro w' hSw; (try dsimp only at hSw); go_simp; (try with_reducible rfl))
    (try simp only [Act.put, List.setIfInBounds_toArray, List.set_cons_zero, List.set_cons_succ, List.getElem_toArray, List.getElem_cons_zero, List.getElem_cons_succ])
    refine wpTill.stop (by kernel_rfl) ?_ _
    go_wp2_with (fail)
    go_meet
    exact ⟨_, ⟨⟨xd, xn, xy, xs, xt⟩, xA, xc⟩, rfl, rfl, HXV.out, HQ2.out⟩
  case rest =>
    obtain ⟨g, ⟨⟨vd, vn, vy, vs, vt⟩, vA, vc⟩, rfl, rfl, hv, hq⟩ := hcut
    obtain ⟨w2, rfl⟩ : ∃ w2 : World, w2 = wc := ⟨_, rfl⟩
    simp only at hv
    have HS2 := Lib.hid hq
    have HSP := Lib.hid ((hq.drop.r3.seesTurn (ψ := SeenAt es) fun W h => h.1).l3)
    have HEV := Lib.hid hq.r4.sees.2
    clear hq HNX HSS HS
    by_cases her : er = 0
    case neg =>
      have hr := HR.out
      rw [if_pos her] at hr
      subst hr
      have hb : (er == 0) = false := by rw [beq_eq_false_iff_ne]; exact her
      have hn : (er != 0) = true := by rw [bne_iff_ne]; exact her
      clear her
      go_wp2_with (fail)
      go_ret
      exact ⟨rfl, HSP.out.devPack rfl⟩
    subst her
    have hrt : RightE NV := nextF_right HNE.out
    have henc : encodeF NV = (encE NV, true) := by unfold encodeF; rw [if_pos (rightB_true.2 hrt)]
    have hr := HR.out
    rw [if_neg (fun h => h rfl), henc] at hr
    simp only at hr
    have HEN := Lib.hid (Encode_any w2 (HE.out w2 HS2.out.base) HS2.out.base.size ⟨⟨vd, vn, vy, vs, vt⟩, vA, vc⟩ HEV.out (by have h1 := hrt.len; have h2 := hrt.txt; rw [← hv] at h1 h2; simp only at h1 h2 ⊢; exact ⟨by omega, by omega⟩) (encE NV, true) (by rw [← henc]; exact congrArg encodeF hv))
    have HEL : Hid ((encE NV).length ≤ 1099511627776) := Lib.hid (by have h1 := encE_short hrt; have h2 := hrt.txt; omega)
    have HV := Lib.hid hv
    have HRT := Lib.hid hrt
    obtain ⟨⟨d2, j2, e2⟩, hap⟩ : ∃ q, appendJ d j (encE NV) = q := ⟨_, rfl⟩
    rw [hap] at hr
    simp only at hr
    simp only [EntC.cells] at HEN
    have HSA := Lib.hid HS2.out.r6.r6
    obtain ⟨zg, kg, fg⟩ := HS2.out.loc
    simp only [EntC.cells] at kg
    obtain ⟨zX, kX, fX⟩ := HS2.out.sw.loc
    clear HR hv hrt henc HSP
    go_wp2_with (fail)
    ((with_reducible refine HEN.out.mono ?_); rintro _ w3 ⟨rfl, hb3⟩)
    have HS3 := Lib.hid (HSA.out.below hb3)
    clear hb3 HSA HS2 HEN zg kg fg zX kX fX HEV
    obtain ⟨zX, kX, fX⟩ := HS3.out.r4.loc
    go_wp2_with (fail)
    ((with_reducible refine (Append_sep HS3.out (HE.out w0 (Below.refl _ _)) HOK.out.bytes (by have h := HOK.out.recs; simp only at h; omega) (encE NV) HEL.out _ hap).mono ?_); rintro _ w4 ⟨rfl, h4⟩)
    simp only at h4
    have HS4 := Lib.hid h4.r6.r6.r6.r6
    clear h4 hap HS3 zX kX fX
    by_cases he2 : e2 = 0
    case neg =>
      rw [if_pos he2] at hr
      subst hr
      have hb : (e2 == 0) = false := by rw [beq_eq_false_iff_ne]; exact he2
      have hn : (e2 != 0) = true := by rw [bne_iff_ne]; exact he2
      have HSP := Lib.hid ((HS4.out.drop.r3.seesTurn (ψ := SeenAt es) fun W h => h.1).l3)
      clear he2
      go_wp2_with (fail)
      go_ret
      exact ⟨rfl, HSP.out.devPack rfl⟩
    subst he2
    rw [if_neg (fun h => h rfl)] at hr
    subst hr
    obtain ⟨i0, hi0, hi1, hi2, hi3⟩ := info_parts infoEnt
    have HO := Lib.hid HS4.out.r3.own
    have HNB := Lib.hid HS4.out.drop.own_ne
    have hfw : es.length ≤ 1000 := by have h := HOK.out.few; simp only [vsOf_len] at h; exact h
    obtain ⟨zg, kg, fg⟩ := HS4.out.loc
    simp only [EntC.cells] at kg
    obtain ⟨zX, kX, fX⟩ := HS4.out.sw.loc
    go_upto_region 8 with (fail)
    go_cut [] (fun wx => ∃ A8 c8, Sep w0 wx (boxR X (devX J number A8 (es.length + 1) c8 loan) :: ownR 32 5 (.slice A8 (es.length + 1) c8) (es.length + 1) ((es ++ [(⟨⟨vd, vn, vy, vs, vt⟩, vA, vc⟩ : EntC)]).map EntC.cells) :: seesR (SeenAt (es ++ [(⟨⟨vd, vn, vy, vs, vt⟩, vA, vc⟩ : EntC)])) :: jourR B J j2 :: diskR B d2 :: Rs))
    case first =>
      go_region_law (first
        | (refine step_append_sl _ (by rfl) (.tmp 50) (.tmp 52) _ (by rfl) w0.heap.size 32 i0 _ 5 64 Tryz.underlying22 hi0 hi1 hi2 hi3 rfl (by omega) (.slice A es.length c) es.length (es.map EntC.cells) (by rfl) (by first | exact HO.out | exact HO.out.alloc _ | exact (HO.out.alloc _).drew | exact HO.out.drew.alloc _) (some ⟨w4.heap.size, 0, none⟩) 1 1 ([(⟨⟨vd, vn, vy, vs, vt⟩, vA, vc⟩ : EntC)].map EntC.cells) (by rfl) (by first | exact Sl.new_ _ _ _ | exact Sl.drew (Sl.new_ _ _ _)) (ents_len _) (ents_one _) (by simp only [maxLen]; omega) (by omega) (by have := HS4.out.base.size; simp; omega) ?_
           intro A8 c8 w8 hown hg hat
           obtain ⟨z8, k8, f8⟩ := (((HS4.out.sw.loc.drew).alloc (.cells #[.int .i64 vd, .int .i64 vn, .int .i64 vy, .slice vA vs.length vc, .string ⟨vt.toArray⟩] 32)).grown hg HNB.out)
           have hs8 := (((HS4.out.drop.drew).alloc (.cells #[.int .i64 vd, .int .i64 vn, .int .i64 vy, .slice vA vs.length vc, .string ⟨vt.toArray⟩] 32)).sw.grown hown hg hat).sw))
      all_goals
        go_wp2_with (fail)
        go_meet
        have hq8 := (((hs8.set_ 2 (.slice A8 (es.length + 1) c8)).r3.seesTurn (ψ := SeenAt (es ++ [(⟨⟨vd, vn, vy, vs, vt⟩, vA, vc⟩ : EntC)])) fun W h u hu => by
          rcases List.mem_append.1 hu with h1 | h1
          · exact h.1 u h1
          · rw [List.mem_singleton.1 h1]; exact h.2).l3)
        rw [List.map_append]
        exact ⟨A8, c8, hq8⟩
    case rest =>
      obtain ⟨A8, c8, h8⟩ := hcut
      obtain ⟨w8, rfl⟩ : ∃ w8 : World, w8 = wc := ⟨_, rfl⟩
      have HS8 := Lib.hid h8
      obtain ⟨⟨⟨sd, su, ss, sb⟩, so⟩, hst⟩ : ∃ q, stepL text loan = q := ⟨_, rfl⟩
      have HST := Lib.hid (step_any w8 (HE.out w8 h8.base) h8.base.size text (by omega) loan _ hst)
      simp only [loanX] at HST
      clear h8 zX kX fX zg kg fg HS4 HO HNB hfw
      obtain ⟨zX, kX, fX⟩ := HS8.out.loc
      go_wp2_with (fail)
      ((with_reducible refine HST.out.mono ?_); rintro _ w9 ⟨rfl, hb9⟩)
      have HS9 := Lib.hid (HS8.out.below hb9)
      clear hb9 HS8 HST zX kX fX
      obtain ⟨zX, kX, fX⟩ := HS9.out.loc
      go_wp2_with (fail)
      go_ret
      have hq9 := ((((HS9.out.set_ 3 (.int .i64 sd)).set_ 4 (.int .i64 su)).set_ 5 (.int .i64 ss)).set_ 6 (.bool sb))
      refine ⟨rfl, Sep.devPack (x := ⟨number, vsOf es ++ [NV], ⟨sd, su, ss, sb⟩, j2⟩) (J := J) (A := A8) (c := c8) (es := es ++ [(⟨⟨vd, vn, vy, vs, vt⟩, vA, vc⟩ : EntC)]) ?_ (by simp [vsOf, HV.out])⟩
      rw [List.length_append]
      exact hq9
end
end Go.Proofs.YtjncmlglhegnaaaGreatDoor
