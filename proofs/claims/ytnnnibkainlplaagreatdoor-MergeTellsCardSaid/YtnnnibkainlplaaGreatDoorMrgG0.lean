/- merge: the law's examples (entry, small), walked. -/
/- Two operations of a region that draws its order, of which neither waits for the other: the orders meet. -/
/- merge: plain words that the laws use. -/
/- kerbsidelaw47: the examples of small, reckoned. -/
import Derived.Test.YtnnnibkainlplaaGreatDoorMrgE
import Derived.Test.YtnnnibkainlplaaGreatDoorOrdL
import Derived.Test.YtnnnibkainlplaaGreatDoorMrgC
import Derived.Test.YtnnnibkainlplaaGreatDoorMtP
import Derived.Test.YtnnnibkainlplaaGreatDoorMrgK
namespace Go.Proofs.YtnnnibkainlplaaGreatDoor
open Go.RowKit Go.Sort Go.Lib

def exE (device no day seen : Int) : EntV := ⟨device, no, day, ((List.replicate 8 (0 : Int)).set 0 seen).set device.toNat no, []⟩
set_option maxRecDepth 100000 in
set_option maxHeartbeats 1000000 in
theorem entry47_any (w : World) (d : Nat) (hd : d < 8) (no day seen : Int) :
    Calls Tryz.prog 21 #[.int .i64 (d : Int), .int .i64 no, .int .i64 day, .int .i64 seen] w fun e w' => ∃ x : EntC, e = .returned (.agg x.cells.toArray) ∧ x.v = exE (d : Int) no day seen ∧ EntAt w' x ∧ Below w.heap.size w w' := by
  have hd0 : (0 : Int) ≤ (d : Int) := by omega
  have hd8 : (d : Int) < 8 := by omega
  have HMK : ∀ W, Sem.run Tryz.prog (Instr.makeSlice 28 (.int .i64 8) (.int .i64 8)) W = .ok (.slice (some ⟨W.heap.size, 0, none⟩) 8 8) (W.alloc (.cells row8 3)) := run_make8
  have hd := Lib.hid hd
  go_enter Tryz.func21, Tryz.ntmps21
  have S0 := (((Sep.start w).box #[.int .i64 0, .int .i64 0, .int .i64 0, .slice none 0 0, .string ⟨#[]⟩] 37).ownNew (below_alloc _ _) (own8i _)).box #[.int .i64 (d : Int), .int .i64 no, .int .i64 day, .slice (some ⟨w.heap.size + 1, 0, none⟩) 8 8, .string ⟨#[]⟩] 37
  simp only [World.size_alloc] at S0
  have HS0 := Lib.hid S0
  clear S0
  go_upto_region 2 with (fail)
  generalize hWW : ((w.alloc (.cells #[.int .i64 0, .int .i64 0, .int .i64 0, .slice none 0 0, .string ⟨#[]⟩] 37)).alloc (.cells row8 3)).alloc (.cells #[.int .i64 (d : Int), .int .i64 no, .int .i64 day, .slice (some ⟨w.heap.size + 1, 0, none⟩) 8 8, .string ⟨#[]⟩] 37) = W at *
  clear hWW
  obtain ⟨zX, kX, fX⟩ := HS0.out.loc
  obtain ⟨zR, kR, fR⟩ := HS0.out.drop.cellI (e := 0) (te := 0) rfl
  go_upto_region 3 with (fail)
  have HS1 := Lib.hid (HS0.out.sw.setI (e := 0) (te := 0) rfl seen)
  clear HS0 zX kX fX zR kR fR
  generalize hWW : W.setCell ⟨w.heap.size + 1, 0, none⟩ (.int .i64 seen) = W1 at *
  clear hWW
  obtain ⟨te, hte⟩ : ∃ te, ((List.replicate 8 (0 : Int)).set 0 seen)[d]? = some te := ⟨_, List.getElem?_eq_getElem (by simpa using hd.out)⟩
  obtain ⟨zX, kX, fX⟩ := HS1.out.sw.loc
  obtain ⟨zR, kR, fR⟩ := HS1.out.cellI hte
  have HTE := Lib.hid hte
  clear hte
  go_upto_region 4 with (fail)
  have HS2 := Lib.hid (HS1.out.setI HTE.out no)
  clear HS1 zX kX fX zR kR fR
  generalize hWW : W1.setCell ⟨w.heap.size + 1, d, none⟩ (.int .i64 no) = W2 at *
  clear hWW
  obtain ⟨zX, kX, fX⟩ := HS2.out.sw.loc
  obtain ⟨zR, kR, fR⟩ := HS2.out.drop.drop.loc
  go_wp2_with (fail)
  clear zX kX fX zR kR fR
  have hWX : ∃ W3, ((((W2.setCell ⟨w.heap.size, 0, none⟩ (.int .i64 (d : Int))).setCell ⟨w.heap.size, 1, none⟩ (.int .i64 no)).setCell ⟨w.heap.size, 2, none⟩ (.int .i64 day)).setCell ⟨w.heap.size, 3, none⟩ (.slice (some ⟨w.heap.size + 1, 0, none⟩) 8 8)).setCell ⟨w.heap.size, 4, none⟩ (.string ⟨#[]⟩) = W3 := ⟨_, rfl⟩
  obtain ⟨W3, hWW⟩ := hWX
  rw [hWW]
  have HS4 : Hid (Sep w W3 (boxR w.heap.size #[.int .i64 (d : Int), .int .i64 no, .int .i64 day, .slice (some ⟨w.heap.size + 1, 0, none⟩) 8 8, .string ⟨#[]⟩] :: boxR (w.heap.size + 1 + 1) #[.int .i64 (d : Int), .int .i64 no, .int .i64 day, .slice (some ⟨w.heap.size + 1, 0, none⟩) 8 8, .string ⟨#[]⟩] :: ownR 3 1 (.slice (some ⟨w.heap.size + 1, 0, none⟩) 8 8) 8 ((((List.replicate 8 (0 : Int)).set 0 seen).set d no).map intC) :: [])) := Lib.hid (by
    have h := HS2.out.r3.setEnt ⟨⟨(d : Int), no, day, List.replicate 8 0, []⟩, some ⟨w.heap.size + 1, 0, none⟩, 8⟩
    simp only [List.length_replicate] at h
    rw [hWW] at h
    exact h.l3.sw.r3)
  clear HS2 hWW
  obtain ⟨zR, kR, fR⟩ := HS4.out.loc
  have hd := hd.out
  have hx : (List.replicate 8 (0 : Int)).length = 8 := rfl
  have c0 := kR 0
  have c1 := kR 1
  have c2 := kR 2
  have c3 := kR 3
  have c4 := kR 4
  simp at c0 c1 c2 c3 c4
  refine bodyPost_ret (v := .agg #[.int .i64 (d : Int), .int .i64 no, .int .i64 day, .slice (some ⟨w.heap.size + 1, 0, none⟩) 8 8, .string ⟨#[]⟩]) (by simp [results, Tryz.results21, go_sem, c0, c1, c2, c3, c4]) rfl ?_
  refine ⟨⟨exE (d : Int) no day seen, some ⟨w.heap.size + 1, 0, none⟩, 8⟩, ?_, rfl, ?_, HS4.out.base⟩
  · simp [EntC.cells, exE]
  · have h := HS4.out.drop.drop.own.sl'
    unfold EntAt exE
    rw [Int.toNat_natCast]
    simp only [List.length_set, List.length_replicate]
    exact h
end Go.Proofs.YtnnnibkainlplaaGreatDoor
namespace Go.Proofs.YtnnnibkainlplaaGreatDoor
section
variable {P : Program} {ops : Array Oper} {Q : Exit → Act → World → Prop} {md : Region.Mode} {S T : World → Prop} {m : Nat}
/-- two operations may come up, and neither waits for the other: the two orders meet -/
theorem wpTill.two {i j : Nat} {oi oj : Oper} {n : Nat} {done : Array Bool} {a : Act} {w : World} (R : Value → Value → World → Prop) (hr : Region.ready md ops done = [i, j]) (hri : Region.ready md ops (done.setIfInBounds i true) = [j]) (hrj : Region.ready md ops (done.setIfInBounds j true) = [i])
    (hij : (i == j) = false) (hoi : ops[i]? = some oi) (hoj : ops[j]? = some oj)
    (hi : ∀ K' K'' : Act → World → Prop, (∀ a1 w1, S w1 → ((done.setIfInBounds i true).getD m false = false → T w1) → (if Region.wanted oj (yielded ops a1.tmps) = true then Oper.wp P oj a1 w1 K'' Q else K'' (a1.put oj.dst undef) w1) → K' a1 w1) →
      (∀ a2 w2, S w2 → (((done.setIfInBounds i true).setIfInBounds j true).getD m false = false → T w2) → (∃ x y, a2 = (a.put oi.dst x).put oj.dst y ∧ R x y w2) → K'' a2 w2) →
      if Region.wanted oi (yielded ops a.tmps) = true then Oper.wp P oi a w K' Q else K' (a.put oi.dst undef) w)
    (hj : ∀ K' K'' : Act → World → Prop, (∀ a1 w1, S w1 → ((done.setIfInBounds j true).getD m false = false → T w1) → (if Region.wanted oi (yielded ops a1.tmps) = true then Oper.wp P oi a1 w1 K'' Q else K'' (a1.put oi.dst undef) w1) → K' a1 w1) →
      (∀ a2 w2, S w2 → (((done.setIfInBounds i true).setIfInBounds j true).getD m false = false → T w2) → (∃ x y, a2 = (a.put oi.dst x).put oj.dst y ∧ R x y w2) → K'' a2 w2) →
      if Region.wanted oj (yielded ops a.tmps) = true then Oper.wp P oj a w K' Q else K' (a.put oj.dst undef) w)
    (h : ∀ x y w', S w' → (((done.setIfInBounds i true).setIfInBounds j true).getD m false = false → T w') → R x y w' → wpTill P md ops Q S T m n ((done.setIfInBounds i true).setIfInBounds j true) ((a.put oi.dst x).put oj.dst y) w') : wpTill P md ops Q S T m (n + 2) done a w := by
  have hne : i ≠ j := by simpa using hij
  refine wpTill.step2 hr hoi hoj (fun K' hK => ?_) (fun K' hK => ?_)
  · refine hi K' (fun a2 w2 => ((S w2 ∧ (((done.setIfInBounds i true).setIfInBounds j true).getD m false = false → T w2)) ∧ wpTill P md ops Q S T m n ((done.setIfInBounds i true).setIfInBounds j true) a2 w2)) (fun a1 w1 s1 t1 g => hK a1 w1 s1 t1 ?_) (fun a2 w2 s2 t2 ⟨x, y, e, hR⟩ => ⟨⟨s2, t2⟩, by rw [e]; exact h x y w2 s2 t2 hR⟩)
    refine wpTill.step hri hoj fun K2 hK2 => ?_
    split
    · rename_i hw
      rw [if_pos hw] at g
      exact Oper.wp_mono (fun a2 w2 q => hK2 a2 w2 q.1.1 q.1.2 q.2) g
    · rename_i hw
      rw [if_neg hw] at g
      exact hK2 _ _ g.1.1 g.1.2 g.2
  · have hc : (done.setIfInBounds j true).setIfInBounds i true = (done.setIfInBounds i true).setIfInBounds j true := Array.setIfInBounds_comm _ _ (Ne.symm hne)
    refine hj K' (fun a2 w2 => ((S w2 ∧ (((done.setIfInBounds i true).setIfInBounds j true).getD m false = false → T w2)) ∧ wpTill P md ops Q S T m n ((done.setIfInBounds i true).setIfInBounds j true) a2 w2)) (fun a1 w1 s1 t1 g => hK a1 w1 s1 t1 ?_) (fun a2 w2 s2 t2 ⟨x, y, e, hR⟩ => ⟨⟨s2, t2⟩, by rw [e]; exact h x y w2 s2 t2 hR⟩)
    refine wpTill.step hrj hoi fun K2 hK2 => ?_
    rw [hc] at hK2
    split
    · rename_i hw
      rw [if_pos hw] at g
      exact Oper.wp_mono (fun a2 w2 q => hK2 a2 w2 q.1.1 q.1.2 q.2) g
    · rename_i hw
      rw [if_neg hw] at g
      exact hK2 _ _ g.1.1 g.1.2 g.2
end
end Go.Proofs.YtnnnibkainlplaaGreatDoor
namespace Go.Proofs.YtnnnibkainlplaaGreatDoor
open Go.RowKit

theorem joinF_join (l : List EntV) : joinF (joinF l) = joinF l := joinF_self (joinF_asc l) (joinF_right l)
theorem ordF_join (l : List EntV) : ordF (joinF l) = ordF l := by unfold ordF; rw [joinF_join]
theorem forkO_join (l : List EntV) : forkO (joinF l) = forkO l := by unfold forkO; rw [joinF_join]
theorem forkB_dev {l : List EntV} {d : Int} (h : forkB (joinF l) d = true) : 0 ≤ d ∧ d ≤ 7 := by
  obtain ⟨x, y, hx, _, _, rfl⟩ := (forkB_iff (joinF_asc l) (joinF_right l)).1 h
  exact ⟨(joinF_right l x hx).d0, (joinF_right l x hx).d1⟩
theorem mem_forkO {l : List EntV} {d : Int} : d ∈ forkO l ↔ forkB (joinF l) d = true := by
  unfold forkO forkI
  rw [List.mem_map]
  constructor
  · rintro ⟨a, ha, rfl⟩
    obtain ⟨h1, h2⟩ := List.mem_filter.1 ha
    have h1 := List.mem_range.1 h1
    rw [List.getD_eq_getElem?_getD, forksL_at _ h1] at h2
    exact h2
  · intro h
    obtain ⟨h0, h7⟩ := forkB_dev h
    refine ⟨d.toNat, List.mem_filter.2 ⟨List.mem_range.2 (by omega), ?_⟩, by omega⟩
    rw [List.getD_eq_getElem?_getD, forksL_at _ (by omega), show ((d.toNat : Nat) : Int) = d by omega]
    exact h
theorem forkO_congr {l m : List EntV} (h : ∀ d, forkB (joinF l) d = forkB (joinF m) d) : forkO l = forkO m := by
  have e : forksL (joinF l) = forksL (joinF m) := by
    unfold forksL
    exact List.map_congr_left fun d _ => h (d : Int)
  unfold forkO
  rw [e]
theorem heads_len (l : List EntV) : (ordF l).1.length = 8 := (run_ends l).1.len
theorem forkO_len (l : List EntV) : (forkO l).length ≤ 8 := forkI_len _ 8
theorem ord_len (l : List EntV) : (ordF l).2.length ≤ 3200 := by
  have h := (run_ends l).1
  have hs : ∀ (out : List EntV), (∀ x ∈ out, 0 ≤ x.dev ∧ x.dev ≤ 7) → out.length = (List.range 8).foldl (fun n d => n + countF out d) 0 := by
    intro out ho
    induction out with
    | nil => rfl
    | cons x r ih =>
      have hx := ho x (by simp)
      have ih := ih (fun y hy => ho y (by simp [hy]))
      obtain ⟨e, he⟩ : ∃ e : Nat, x.dev = (e : Int) := ⟨x.dev.toNat, by omega⟩
      have hc : ∀ d : Nat, countF (x :: r) d = if e = d then countF r d + 1 else countF r d := fun d => by
        unfold countF ownF
        by_cases hed : e = d
        · rw [if_pos hed, List.filter_cons_of_pos (by rw [he, hed]; simp)]; rfl
        · rw [if_neg hed, List.filter_cons_of_neg (by rw [he]; simp only [decide_eq_true_eq]; omega)]
      simp only [List.range, List.range.loop, List.foldl, hc] at ih ⊢
      rw [List.length_cons, ih]
      have : e = 0 ∨ e = 1 ∨ e = 2 ∨ e = 3 ∨ e = 4 ∨ e = 5 ∨ e = 6 ∨ e = 7 := by omega
      rcases this with rfl | rfl | rfl | rfl | rfl | rfl | rfl | rfl <;> simp <;> omega
  have hb : ∀ d : Nat, d < 8 → countF (ordF l).2 d ≤ 400 := fun d hd => by
    unfold countF
    rw [h.own d hd]
    exact Nat.le_trans (List.length_take_le _ _) (Nat.le_trans (h.le d hd) ((pasts_ok _).len d hd))
  rw [hs _ h.dev]
  have h0 := hb 0 (by omega)
  have h1 := hb 1 (by omega)
  have h2 := hb 2 (by omega)
  have h3 := hb 3 (by omega)
  have h4 := hb 4 (by omega)
  have h5 := hb 5 (by omega)
  have h6 := hb 6 (by omega)
  have h7 := hb 7 (by omega)
  simp only [List.range, List.range.loop, List.foldl]
  omega
theorem few47_40 (w : World) (A : Option Addr) (n c : Nat) (l : List EntC) (hs : Sl w 5 A n (l.map EntC.cells)) : Calls Tryz.prog 5 #[.slice A n c, .int .i64 40] w (FewM w l 40) := FewM_any w A n c l hs 40 (by omega)
theorem few47_30 (w : World) (A : Option Addr) (n c : Nat) (l : List EntC) (hs : Sl w 5 A n (l.map EntC.cells)) : Calls Tryz.prog 5 #[.slice A n c, .int .i64 30] w (FewM w l 30) := FewM_any w A n c l hs 30 (by omega)
theorem few47_25 (w : World) (A : Option Addr) (n c : Nat) (l : List EntC) (hs : Sl w 5 A n (l.map EntC.cells)) : Calls Tryz.prog 5 #[.slice A n c, .int .i64 25] w (FewM w l 25) := FewM_any w A n c l hs 25 (by omega)
theorem ChAt.lenEq {w : World} {A : Option Addr} {n : Nat} {l : List EntC} (h : ChAt w A n l) : l.length = n := by simpa using h.sl.1
end Go.Proofs.YtnnnibkainlplaaGreatDoor
namespace Go.Proofs.YtnnnibkainlplaaGreatDoor
open Go.RowKit

def xA : EntV := ⟨0, 0, 5, [0, 0, 0, 0, 0, 0, 0, 0], []⟩
def xB : EntV := ⟨0, 1, 5, [1, 0, 0, 0, 0, 0, 0, 0], []⟩
def xC : EntV := ⟨1, 0, 4, [0, 0, 0, 0, 0, 0, 0, 0], []⟩
def xD : EntV := ⟨1, 1, 4, [1, 1, 0, 0, 0, 0, 0, 0], []⟩
def xE : EntV := ⟨0, 0, 9, [0, 0, 0, 0, 0, 0, 0, 0], []⟩
theorem xA_is : exE 0 0 5 0 = xA := by rfl
theorem xB_is : exE 0 1 5 0 = xB := by rfl
theorem xC_is : exE 1 0 4 0 = xC := by rfl
theorem xD_is : exE 1 1 4 1 = xD := by rfl
theorem xE_is : exE 0 0 9 0 = xE := by rfl
theorem j5 : joinF [xD, xB, xA, xC, xA] = [xA, xB, xC, xD] := by decide
theorem j6 : joinF [xB, xC, xD] = [xB, xC, xD] := by decide
theorem j56 : joinF ([xD, xB, xA, xC, xA] ++ [xB, xC, xD]) = [xA, xB, xC, xD] := by decide
theorem lt_AE : ltE xA xE := by
  refine .inr ⟨rfl, .inr ⟨rfl, ?_⟩⟩
  have e0 : encN 0 = [48, 59] := by simp [encN, encI, Lib.itoa, Lib.decDigits]
  have e5 : encN 5 = [53, 59] := by simp [encN, encI, Lib.itoa, Lib.decDigits]
  have e9 : encN 9 = [57, 59] := by simp [encN, encI, Lib.itoa, Lib.decDigits]
  unfold encE xA xE
  simp only [e0, e5, e9, List.cons_append, List.nil_append, List.cons_lt_cons_iff]
  simp
theorem j7 : joinF [xA, xB, xC, xD, xE] = [xA, xE, xB, xC, xD] := by
  have h1 : joinF [xB, xC, xD, xE] = [xE, xB, xC, xD] := by decide
  unfold joinF
  rw [if_pos (by rfl), h1]
  unfold putE
  rw [if_neg (by decide), if_pos lt_AE]
theorem o5 : ordF [xD, xB, xA, xC, xA] = ([2, 2, 0, 0, 0, 0, 0, 0], [xC, xA, xD, xB]) := by unfold ordF; rw [j5]; decide
theorem f5 : forkO [xD, xB, xA, xC, xA] = [] := by unfold forkO; rw [j5]; decide
theorem m5 : missF (joinF [xD, xB, xA, xC, xA]) = [] := by rw [j5]; decide
theorem p5 : pastF (joinF [xD, xB, xA, xC, xA]) 0 = [xA, xB] := by rw [j5]; decide
theorem o6 : ordF [xB, xC, xD] = ([0, 1, 0, 0, 0, 0, 0, 0], [xC]) := by unfold ordF; rw [j6]; decide
theorem m6 : missF (joinF [xB, xC, xD]) = [(0, 0)] := by rw [j6]; decide
theorem o7 : ordF [xA, xB, xC, xD, xE] = ([0, 2, 0, 0, 0, 0, 0, 0], [xC, xD]) := by unfold ordF; rw [j7]; decide
theorem f7 : forkO [xA, xB, xC, xD, xE] = [0] := by unfold forkO; rw [j7]; decide
theorem p7 : pastF (joinF [xA, xB, xC, xD, xE]) 0 = [] := by rw [j7]; decide
end Go.Proofs.YtnnnibkainlplaaGreatDoor
