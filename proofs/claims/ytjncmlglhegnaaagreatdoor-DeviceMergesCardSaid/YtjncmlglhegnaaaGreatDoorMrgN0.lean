/- merge: run, walked. -/
/- merge: Order, Heads, Missing, walked. -/
/- merge: the law's examples (entry, small), walked. -/
/- Two operations of a region that draws its order, of which neither waits for the other: the orders meet. -/
/- merge: plain words that the laws use. -/
/- kerbsidelaw47: the examples of small, reckoned. -/
/- merge: the plain law of MergeOrders. -/
import Derived.Test.YtjncmlglhegnaaaGreatDoorMrgC2
import Derived.Test.YtjncmlglhegnaaaGreatDoorSep
import Derived.Deep.LoopGhost
import Derived.Deep.DeepCutAuto
import Derived.Deep.CutBlock
import Derived.Test.YtjncmlglhegnaaaGreatDoorMrgK
import Derived.Test.YtjncmlglhegnaaaGreatDoorMrgA
import Derived.Test.YtjncmlglhegnaaaGreatDoorOrdL
namespace Go.Proofs.YtjncmlglhegnaaaGreatDoor
open Go.RowKit Go.Sort Go.Lib

theorem infoEnts : (Tryz.prog.info? 22).map (fun i => (i.zero, i.size, i.bytes)) = some (some (.slice none 0 0), 1, 24) := by kernel_rfl
theorem SepIn.mem {w : World} {R : Res} : ∀ {Rs : List Res} {G : Nat → Prop}, SepIn w Rs G → R ∈ Rs → ∃ F, R.P w F
  | [], _, _, h => by cases h
  | S :: Rs, G, ⟨F, h1, _, h3⟩, h => by
    rcases List.mem_cons.1 h with e | e
    · rw [e]; exact ⟨F, h1⟩
    · exact SepIn.mem h3 e
/-- a row of a past -/
def pastR (p : PastC) : Res := ownR 32 5 (.slice p.A p.l.length p.c) p.l.length (p.l.map EntC.cells)
theorem pasts_sl {w0 w : World} {Rs : List Res} {ps : List PastC} {p : PastC} (h : Sep w0 w Rs) (hR : ∀ q ∈ ps, pastR q ∈ Rs) (hp : p ∈ ps) : Sl w 5 p.A p.l.length (p.l.map EntC.cells) := by
  obtain ⟨F, hF⟩ := SepIn.mem h.1 (hR p hp)
  exact hF.1.sl'
theorem Sep.ordAt {w0 w : World} {B gP cP gF gT : Nat} {ps : List PastC} {fs : List Bool} {t : List Nat} {Rs : List Res} {A0 : Option Addr} {n0 : Nat} {l0 : List EntC}
    (h : Sep w0 w (boxR B #[.slice (some ⟨gP, 0, none⟩) 8 cP, .slice (some ⟨gF, 0, none⟩) 8 8, .slice (some ⟨gT, 0, none⟩) 8 8] :: ownR 3 1 (.slice (some ⟨gT, 0, none⟩) 8 8) 8 (t.map natC) :: ownR 22 1 (.slice (some ⟨gP, 0, none⟩) 8 cP) 8 (ps.map PastC.cells) :: ownR 4 1 (.slice (some ⟨gF, 0, none⟩) 8 8) 8 (fs.map boolC) :: Rs))
    (hR : ∀ q ∈ ps, pastR q ∈ Rs) (hl : ChAt w0 A0 n0 l0) (hsub : ∀ q ∈ ps, ∀ u ∈ q.l, u ∈ l0) : OrdAt w B gP cP gF gT ps fs t :=
  ⟨h.loc, h.drop.drop.own.sl', fun p hp => ⟨pasts_sl h.drop.drop.drop.drop hR hp, fun u hu => (hl.at_ u (hsub p hp u hu)).below h.base, fun u hu => hl.len u (hsub p hp u hu)⟩, h.drop.drop.drop.own.sl', h.drop.own.sl'⟩
def row8 : Array Value := #[.int .i64 0, .int .i64 0, .int .i64 0, .int .i64 0, .int .i64 0, .int .i64 0, .int .i64 0, .int .i64 0]
theorem row8_is : madeCells (Value.int .i64 0).cells (8 * 1) = row8 := by kernel_rfl
theorem run_make8 (W : World) : Sem.run Tryz.prog (Instr.makeSlice 30 (.int .i64 8) (.int .i64 8)) W = .ok (.slice (some ⟨W.heap.size, 0, none⟩) 8 8) (W.alloc (.cells row8 3)) := by
  obtain ⟨i, h0, h1, h2, h3⟩ := info_parts infoInt
  have hr := run_make (P := Tryz.prog) W 30 3 i _ Tryz.underlying30 h0 h1 .i64 .i64 8 8 (by omega) (Int.le_refl _) (by rw [h3]; decide) (by decide)
  rw [h2] at hr
  rw [← row8_is]
  exact hr
theorem own8 (W : World) : Own (W.alloc (.cells row8 3)) W.heap.size 3 1 (.slice (some ⟨W.heap.size, 0, none⟩) 8 8) 8 (zero8.map natC) := by
  have h := World.ownsRow_lit (base := W.heap.size) (e := 3) (size := 1) W row8 8 (Nat.le_refl _) (by simp [maxLen]) rfl
  exact ⟨h, by simp [zero8, natC], rfl⟩
theorem Sep.setEnt {w0 w : World} {n : Nat} {a b c d e : Value} {Rs : List Res} (h : Sep w0 w (boxR n #[a, b, c, d, e] :: Rs)) (x : EntC) : Sep w0 (((((w.setCell ⟨n, 0, none⟩ (.int .i64 x.v.dev)).setCell ⟨n, 1, none⟩ (.int .i64 x.v.no)).setCell ⟨n, 2, none⟩ (.int .i64 x.v.day)).setCell ⟨n, 3, none⟩ (.slice x.A x.v.seen.length x.c)).setCell ⟨n, 4, none⟩ (.string ⟨x.v.text.toArray⟩)) (boxR n x.cells.toArray :: Rs) := by
  have := ((((h.set_ 0 (.int .i64 x.v.dev)).set_ 1 (.int .i64 x.v.no)).set_ 2 (.int .i64 x.v.day)).set_ 3 (.slice x.A x.v.seen.length x.c)).set_ 4 (.string ⟨x.v.text.toArray⟩)
  simpa [EntC.cells] using this
theorem Sep.stored {w0 w : World} {e : TypeId} {g c n i size : Nat} {xs : List (List Value)} {x : List Value} {Rs : List Res} (h : Sep w0 w (ownR e size (.slice (some ⟨g, 0, none⟩) n c) n xs :: Rs)) (hx : xs[i]? = some x) (j : Nat) (hj : j < size) (u : Value) :
    Sep w0 (w.setCell ⟨g, i * size + j, none⟩ u) (ownR e size (.slice (some ⟨g, 0, none⟩) n c) n (xs.set i (x.set j u)) :: Rs) :=
  h.step fun F hF => ⟨F, ⟨hF.1.stored hx hj u, hF.2⟩, fun _ hk => .inl hk, Keeps.setCell ((hF.2 g).2 rfl) u⟩
theorem Sep.cellN {w0 w : World} {g c n e te : Nat} {t : List Nat} {Rs : List Res} (h : Sep w0 w (ownR 3 1 (.slice (some ⟨g, 0, none⟩) n c) n (t.map natC) :: Rs)) (ht : t[e]? = some te) :
    g < w.heap.size ∧ w.cell? ⟨g, e, none⟩ = some (.int .i64 (te : Int)) ∧ ∀ j, w.frozen? ⟨g, j, none⟩ = false := by
  obtain ⟨g', c', hv, _, h1, h2, h3⟩ := h.own.at_ (i := e) (x := natC te) (by rw [List.getElem?_map, ht]; rfl)
  injection hv with hA
  injection hA with hA
  injection hA with hA
  subst hA
  have := h2 0 _ rfl
  rw [Nat.mul_one, Nat.add_zero] at this
  exact ⟨h1, this, h3⟩
theorem Sep.bumpN {w0 w : World} {g c n e te : Nat} {t : List Nat} {Rs : List Res} (h : Sep w0 w (ownR 3 1 (.slice (some ⟨g, 0, none⟩) n c) n (t.map natC) :: Rs)) (ht : t[e]? = some te) :
    Sep w0 (w.setCell ⟨g, e, none⟩ (.int .i64 ((te : Int) + 1))) (ownR 3 1 (.slice (some ⟨g, 0, none⟩) n c) n ((bump t e).map natC) :: Rs) := by
  have := h.stored (i := e) (x := natC te) (by rw [List.getElem?_map, ht]; rfl) 0 (by omega) (.int .i64 ((te : Int) + 1))
  rw [Nat.mul_one, Nat.add_zero] at this
  have e1 : (bump t e).map natC = (t.map natC).set e ((natC te).set 0 (.int .i64 ((te : Int) + 1))) := by
    unfold bump
    rw [List.map_set, List.getD_eq_getElem?_getD, ht]
    rfl
  rw [e1]
  exact this
/-- what run hands back -/
def RunP (w : World) (tv : List Nat) (ov : List EntV) (e : Ending) (w' : World) : Prop := ∃ (B gP cP gF gT : Nat) (A : Option Addr) (c : Nat) (os : List EntC),
  e = .returned (.tuple #[.pointer (some ⟨B, 0, none⟩), .slice A ov.length c]) ∧ Loc w' B #[.slice (some ⟨gP, 0, none⟩) 8 cP, .slice (some ⟨gF, 0, none⟩) 8 8, .slice (some ⟨gT, 0, none⟩) 8 8] ∧
  Own w' w.heap.size 3 1 (.slice (some ⟨gT, 0, none⟩) 8 8) 8 (tv.map natC) ∧ Own w' w.heap.size 32 5 (.slice A ov.length c) ov.length (os.map EntC.cells) ∧
  (∀ u ∈ os, EntAt w' u ∧ u.v.seen.length ≤ 1099511627776 ∧ u.v.text.length ≤ 140737488351232) ∧ vsOf os = ov ∧ Below w.heap.size w w'
theorem pick_step {P : List (List EntV)} {F : List Bool} {t : List Nat} {k : Nat} {b r : Option EntV} (hk : k < 8) (hr : readyF P F t k = r) (h : pickGo P F t (8 - k) k b = pickF P F t) : pickGo P F t (8 - (k + 1)) (k + 1) (betterF b r) = pickF P F t := by
  rw [← h, show 8 - k = (8 - (k + 1)) + 1 by omega, ← hr]
  rfl
def bestC (ob : Option EntC) : EntC := ob.getD noEnt
set_option maxRecDepth 100000 in
set_option maxHeartbeats 16000000 in
theorem run_any {B0 : Nat} (w : World) (hE : Env B0 w) (hB0 : B0 ≤ w.heap.size) (A : Option Addr) (n c : Nat) (l : List EntC) (hs : ChAt w A n l) (hn : n ≤ 1000) (tv : List Nat) (ov : List EntV) (hv : ordF (vsOf l) = (tv, ov)) :
    Calls Tryz.prog 97 #[.slice A n c] w (RunP w tv ov) := by
  obtain ⟨ib, hb0, hb1, hb2, hb3⟩ := info_parts infoBool
  obtain ⟨ii, hi0, hi1, hi2, hi3⟩ := info_parts infoInt
  obtain ⟨ie, he0, he1, he2, he3⟩ := info_parts infoEnt
  have HJ := Lib.hid (Join_any w hE hB0 A none n 0 c 0 l [] hs (chAt_nil w) hn (by omega))
  have HLL : Hid (l.length = n) := Lib.hid (by simpa using hs.sl.1)
  have HV := Lib.hid hv
  clear hE hB0 hs hv
  go_enter Tryz.func97, Tryz.ntmps97
  go_wp2_with (fail)
  ((with_reducible refine HJ.out.mono ?_); rintro e w1 ⟨A1, c1, l1, rfl, h1, hv1, hb1⟩)
  have e0 : vsOf l ++ vsOf [] = vsOf l := by simp [vsOf]
  rw [e0] at hv1 h1 ⊢
  obtain ⟨J, hJ⟩ : ∃ J, joinF (vsOf l) = J := ⟨_, rfl⟩
  rw [hJ] at hv1 h1 ⊢
  have hjl : J.length ≤ 1000 := by rw [← hJ]; exact Nat.le_trans (joinF_len _) (by rw [vsOf_len, HLL.out]; exact hn)
  have hJR : AllR J := by rw [← hJ]; exact joinF_right _
  obtain ⟨N, hN⟩ : ∃ N, J.length = N := ⟨_, rfl⟩
  rw [hN] at h1 hjl ⊢
  have HF := Lib.hid (fun W hb => forks_any W A1 N c1 l1 (h1.below hb) (by rw [hv1]; exact hJR) (by omega) (forksF J) (by rw [hv1]; rfl))
  have HPA := Lib.hid (fun W hb d => past_any W A1 N c1 l1 (h1.below hb) (by omega) d)
  rw [hv1] at HPA
  have HB1 := Lib.hid hb1
  have HCH := Lib.hid h1
  have HJJ := Lib.hid hJ
  clear h1 hb1 HJ hJ hN hv1 e0 hJR
  go_wp2_with (fail)
  have HMK : ∀ W, Sem.run Tryz.prog (Instr.makeSlice 30 (.int .i64 8) (.int .i64 8)) W = .ok (.slice (some ⟨W.heap.size, 0, none⟩) 8 8) (W.alloc (.cells row8 3)) := run_make8
  go_cut [5] (fun sv wy => ∃ B gF gT, sv = .pointer (some ⟨B, 0, none⟩) ∧ Sep w1 wy (boxR B #[.slice none 0 0, .slice (some ⟨gF, 0, none⟩) 8 8, .slice (some ⟨gT, 0, none⟩) 8 8] :: ownR 3 1 (.slice (some ⟨gT, 0, none⟩) 8 8) 8 (zero8.map natC) :: ownR 4 1 (.slice (some ⟨gF, 0, none⟩) 8 8) 8 ((forksF J).map boolC) :: []))
  case first =>
    go_region_law (first
      | (go_simp; go_at_call 91
         ((with_reducible refine (HF.out _ ?hs1).mono ?_)
          (case hs1 => first | exact Below.refl _ _ | exact (Below.refl _ _).drew | exact below_alloc _ _ | exact (below_alloc _ _).drew | exact (Below.drew (Below.refl _ _)).alloc (Nat.le_refl _) _ | exact ((Below.drew (Below.refl _ _)).alloc (Nat.le_refl _) _).drew)
          rintro e wF ⟨gF, rfl, hoF, hbF⟩)))
    · go_wp2_with (fail)
      go_meet
      have s3 := ((((Sep.start w1).drew.ownNew hbF hoF).ownNew (below_alloc _ _) (own8 wF)).box #[.slice none 0 0, .slice (some ⟨gF, 0, none⟩) 8 8, .slice (some ⟨wF.heap.size, 0, none⟩) 8 8] 151)
      rw [World.size_alloc] at s3
      exact ⟨_, gF, _, rfl, s3⟩
    · go_wp2_with (fail)
      go_meet
      have s3 := ((((Sep.start w1).ownNew (below_alloc _ _) (own8 w1)).drew.ownNew hbF hoF).sw.box #[.slice none 0 0, .slice (some ⟨gF, 0, none⟩) 8 8, .slice (some ⟨w1.heap.size, 0, none⟩) 8 8] 151)
      exact ⟨_, gF, _, rfl, s3⟩
  case rest =>
    obtain ⟨B, gF, gT, rfl, hS⟩ := hcut
    obtain ⟨w2, rfl⟩ : ∃ w2 : World, w2 = wc := ⟨_, rfl⟩
    have HS := Lib.hid hS
    clear hS
    go_wp2_with (fail)
    obtain ⟨ip, hp0, hp1, hp2, hp3⟩ := info_parts infoEnts
    go_loopw [20] (fun i wr => ∃ (k : Nat) (P : Option Addr) (c : Nat) (ps : List PastC) (Rs : List Res), k ≤ 8 ∧ i = .int .i64 (k : Int) ∧ Sep w1 wr (boxR B #[.slice P k c, .slice (some ⟨gF, 0, none⟩) 8 8, .slice (some ⟨gT, 0, none⟩) 8 8] :: ownR 3 1 (.slice (some ⟨gT, 0, none⟩) 8 8) 8 (zero8.map natC) :: ownR 22 1 (.slice P k c) k (ps.map PastC.cells) :: ownR 4 1 (.slice (some ⟨gF, 0, none⟩) 8 8) 8 ((forksF J).map boolC) :: Rs) ∧ (∀ q ∈ ps, pastR q ∈ Rs) ∧ (∀ q ∈ ps, ∀ u ∈ q.l, u ∈ l1) ∧ psV ps = (List.range k).map (fun d : Nat => pastF J (d : Int))) (fun i _ => 8 - (intOf i).toNat)
    case atStart => exact ⟨0, none, 0, [], [], by omega, rfl, (HS.out.ownNil 22 1).l3, by simp, by simp, rfl⟩
    case round =>
      obtain ⟨k, P, c, ps, Rs, hk, rfl, hS, hR, hsub, hps⟩ := hrel
      obtain ⟨wo, rfl⟩ : ∃ wo : World, wo = wr := ⟨_, rfl⟩
      have HSO := Lib.hid hS
      have HR := Lib.hid hR
      have HSUB := Lib.hid hsub
      have HPS := Lib.hid hps
      clear hS hR hsub hps
      by_cases hlt : k < 8
      · have hki : (k : Int) < 8 := by omega
        have hk0 : (0 : Int) ≤ (k : Int) := by omega
        have hw1 : IntKind.i64.wrap ((k : Int) + 1) = (k : Int) + 1 := IntWalk.i64_in _ (by omega)
        have HPC := Lib.hid (fun W hb => HPA.out W (HSO.out.base.trans (Below.mono hb HSO.out.base.size)) (k : Int))
        go_wp2_with (fail)
        refine wpTill.startN 13 (S := fun _ => True) (T := fun w' => w'.cell? ⟨B, 0, none⟩ = some (.slice P k c)) (m := 12) rfl (by kernel_rfl) ?_
        have HSW := Lib.hid HSO.out.drew
        have HBW : Hid (Below wo.heap.size wo wo.drew) := Lib.hid (Below.refl _ _).drew
        generalize wo.drew = W at *
        have HT1 : Hid (W.cell? ⟨B, 0, none⟩ = some (.slice P k c)) := Lib.hid (HSW.out.loc.cell 0)
        refine wpTill.take (i := 0) (v := ?_) (by rfl) rfl (by kernel_rfl) (by kernel_rfl) (by kernel_rfl) (by exact fun _ _ _ h => h) trivial (fun _ => HT1.out) (Or.inl ⟨by rfl, ?_⟩) ?_
        rotate_left
        · (intro w' hSw; (try dsimp only at hSw); go_simp; (try with_reducible rfl))
        (try simp only [Act.put, List.setIfInBounds_toArray, List.set_cons_zero, List.set_cons_succ, List.getElem_toArray, List.getElem_cons_zero, List.getElem_cons_succ])
        refine wpTill.take (i := 1) (v := ?_) (by rfl) rfl (by kernel_rfl) (by kernel_rfl) (by kernel_rfl) (by exact fun _ _ _ h => h) trivial (fun _ => HT1.out) (Or.inl ⟨by rfl, ?_⟩) ?_
        rotate_left
        · (intro w' hSw; (try dsimp only at hSw); go_simp; (try with_reducible rfl))
        (try simp only [Act.put, List.setIfInBounds_toArray, List.set_cons_zero, List.set_cons_succ, List.getElem_toArray, List.getElem_cons_zero, List.getElem_cons_succ])
        refine wpTill.take (i := 2) (v := ?_) (by rfl) rfl (by kernel_rfl) (by kernel_rfl) (by kernel_rfl) (by exact fun _ _ _ h => h) trivial (fun _ => HT1.out) (Or.inl ⟨by rfl, ?_⟩) ?_
        rotate_left
        · (intro w' hSw; (try dsimp only at hSw); go_simp; (try with_reducible rfl))
        (try simp only [Act.put, List.setIfInBounds_toArray, List.set_cons_zero, List.set_cons_succ, List.getElem_toArray, List.getElem_cons_zero, List.getElem_cons_succ])
        refine wpTill.take (i := 3) (v := ?_) (by rfl) rfl (by kernel_rfl) (by kernel_rfl) (by kernel_rfl) (by exact fun _ _ _ h => h) trivial (fun _ => HT1.out) (Or.inl ⟨by rfl, ?_⟩) ?_
        rotate_left
        · (intro w' hSw; (try dsimp only at hSw); go_simp; (try with_reducible rfl))
        (try simp only [Act.put, List.setIfInBounds_toArray, List.set_cons_zero, List.set_cons_succ, List.getElem_toArray, List.getElem_cons_zero, List.getElem_cons_succ])
        refine wpTill.takeT (i := 4) (v := ?_) (by rfl) rfl (by kernel_rfl) (by kernel_rfl) (by kernel_rfl) (by exact fun _ _ _ h => h) trivial HT1.out rfl (by kernel_rfl) (Or.inl ⟨by rfl, ?_⟩) ?_
        rotate_left
        · (intro w' hSw; (try dsimp only at hSw); go_simp; (try with_reducible rfl))
        (try simp only [Act.put, List.setIfInBounds_toArray, List.set_cons_zero, List.set_cons_succ, List.getElem_toArray, List.getElem_cons_zero, List.getElem_cons_succ])
        refine wpTill.take (i := 5) (v := ?_) (by rfl) rfl (by kernel_rfl) (by kernel_rfl) (by kernel_rfl) (by exact fun _ _ _ h => h) trivial (fun _ => HT1.out) (Or.inl ⟨by rfl, ?_⟩) ?_
        rotate_left
        · (intro w' hSw; (try dsimp only at hSw); go_simp; (try with_reducible rfl))
        (try simp only [Act.put, List.setIfInBounds_toArray, List.set_cons_zero, List.set_cons_succ, List.getElem_toArray, List.getElem_cons_zero, List.getElem_cons_succ])
        refine wpTill.take (i := 6) (v := ?_) (by rfl) rfl (by kernel_rfl) (by kernel_rfl) (by kernel_rfl) (by exact fun _ _ _ h => h) trivial (fun _ => HT1.out) (Or.inl ⟨by rfl, ?_⟩) ?_
        rotate_left
        · (intro w' hSw; (try dsimp only at hSw); go_simp; (try with_reducible rfl))
        (try simp only [Act.put, List.setIfInBounds_toArray, List.set_cons_zero, List.set_cons_succ, List.getElem_toArray, List.getElem_cons_zero, List.getElem_cons_succ])
        refine wpTill.step (i := 7) (by kernel_rfl) (by rfl) (fun K' hK => ?_)
        replace hK := Lib.hid hK
        go_simp
        go_at_call 146
        ((with_reducible refine (HPC.out _ HBW.out).mono ?_); rintro e wP hpp; obtain ⟨Ap, cp, lp, rfl, hop, hsubp, hvp, hbP⟩ := hpp)
        have hlen : (pastF J (k : Int)).length = lp.length := by rw [← hvp, vsOf_len]
        rw [hlen] at hop ⊢
        have HS2 : Hid (Sep w1 wP (pastR ⟨Ap, cp, lp⟩ :: boxR B #[.slice P k c, .slice (some ⟨gF, 0, none⟩) 8 8, .slice (some ⟨gT, 0, none⟩) 8 8] :: ownR 3 1 (.slice (some ⟨gT, 0, none⟩) 8 8) 8 (zero8.map natC) :: ownR 22 1 (.slice P k c) k (ps.map PastC.cells) :: ownR 4 1 (.slice (some ⟨gF, 0, none⟩) 8 8) 8 ((forksF J).map boolC) :: Rs)) := Lib.hid (HSW.out.ownNew hbP hop)
        have HT2 : Hid (wP.cell? ⟨B, 0, none⟩ = some (.slice P k c)) := Lib.hid (HS2.out.drop.loc.cell 0)
        have HVP := Lib.hid hvp
        have HSP := Lib.hid hsubp
        clear hlen hop hsubp hvp hbP
        refine hK.out _ _ trivial (fun _ => HT2.out) ?_
        clear hK K'
        (try simp only [Act.put, List.setIfInBounds_toArray, List.set_cons_zero, List.set_cons_succ, List.getElem_toArray, List.getElem_cons_zero, List.getElem_cons_succ])
        refine wpTill.step (i := 8) (by kernel_rfl) (by rfl) (fun K' hK => ?_)
        replace hK := Lib.hid hK
        go_simp
        have HS3 := Lib.hid (HS2.out.alloc (.cells #[.slice Ap lp.length cp] 22))
        have HT3 := Lib.hid (HS3.out.drop.loc.cell 0)
        have HN3 := Lib.hid (Sl.new_ wP 22 (PastC.cells ⟨Ap, cp, lp⟩))
        refine hK.out _ _ trivial (fun _ => HT3.out) ?_
        clear hK K'
        (try simp only [Act.put, List.setIfInBounds_toArray, List.set_cons_zero, List.set_cons_succ, List.getElem_toArray, List.getElem_cons_zero, List.getElem_cons_succ])
        refine wpTill.step (i := 9) (by kernel_rfl) (by rfl) (fun K' hK => ?_)
        replace hK := Lib.hid hK
        refine step_append_sl _ (by rfl) (.tmp 27) (.tmp 31) _ (by rfl) w1.heap.size 22 ip _ 1 24 Tryz.underlying149 hp0 hp1 hp2 hp3 rfl (by omega) (.slice P k c) k (ps.map PastC.cells) (by rfl) HS3.out.drop.drop.drop.own (some ⟨wP.heap.size, 0, none⟩) 1 1 ([(⟨Ap, cp, lp⟩ : PastC)].map PastC.cells) (by rfl) HN3.out (by simp [PastC.cells]) (by simp [PastC.cells, Value.oneCell']) (by simp only [maxLen]; omega) (by omega) HS3.out.base.size ?_
        intro A9 c9 w9 hown9 hg9 hat9
        have HS4 := Lib.hid (HS3.out.r4.grown hown9 hg9 hat9).r3
        have HT4 : Hid (w9.cell? ⟨B, 0, none⟩ = some (.slice P k c)) := Lib.hid (HS4.out.loc.cell 0)
        clear hown9 hg9 hat9
        refine hK.out _ _ trivial (fun _ => HT4.out) ?_
        clear hK K'
        (try simp only [Act.put, List.setIfInBounds_toArray, List.set_cons_zero, List.set_cons_succ, List.getElem_toArray, List.getElem_cons_zero, List.getElem_cons_succ])
        refine wpTill.take (i := 10) (v := ?_) (by rfl) rfl (by kernel_rfl) (by kernel_rfl) (by kernel_rfl) (by exact fun _ _ _ h => h) trivial (fun _ => HT4.out) (Or.inl ⟨by rfl, ?_⟩) ?_
        rotate_left
        · (intro w' hSw; (try dsimp only at hSw); go_simp; (try with_reducible rfl))
        (try simp only [Act.put, List.setIfInBounds_toArray, List.set_cons_zero, List.set_cons_succ, List.getElem_toArray, List.getElem_cons_zero, List.getElem_cons_succ])
        refine wpTill.take (i := 11) (v := ?_) (by rfl) rfl (by kernel_rfl) (by kernel_rfl) (by kernel_rfl) (by exact fun _ _ _ h => h) trivial (fun _ => HT4.out) (Or.inl ⟨by rfl, ?_⟩) ?_
        rotate_left
        · (intro w' hSw; (try dsimp only at hSw); go_simp; (try with_reducible rfl))
        (try simp only [Act.put, List.setIfInBounds_toArray, List.set_cons_zero, List.set_cons_succ, List.getElem_toArray, List.getElem_cons_zero, List.getElem_cons_succ])
        obtain ⟨zB, kB, fB⟩ := HS4.out.loc
        refine wpTill.step (i := 12) (by kernel_rfl) (by rfl) (fun K' hK => ?_)
        replace hK := Lib.hid hK
        go_simp
        have HS5 := Lib.hid (HS4.out.set_ 0 (.slice A9 (k + 1) c9))
        refine hK.out _ _ trivial (fun h => nomatch (show true = false from h)) ?_
        clear hK K'
        (try simp only [Act.put, List.setIfInBounds_toArray, List.set_cons_zero, List.set_cons_succ, List.getElem_toArray, List.getElem_cons_zero, List.getElem_cons_succ])
        refine wpTill.stop (by kernel_rfl) ?_ _
        clear zB kB fB
        go_wp2_with (fail)
        go_roundw
        case rel =>
          refine ⟨k + 1, A9, c9, ps ++ [⟨Ap, cp, lp⟩], pastR ⟨Ap, cp, lp⟩ :: Rs, by omega, by go_num, ?_, ?_, ?_, ?_⟩
          · have h := HS5.out
            rw [List.map_append]
            refine h.perm ?_
            refine List.Perm.cons _ ?_
            exact ((List.Perm.cons _ (List.Perm.swap _ _ _)).trans (List.Perm.swap _ _ _)).trans (List.Perm.cons _ (List.Perm.cons _ (List.Perm.swap _ _ _)))
          · intro q hq
            rcases List.mem_append.1 hq with h | h
            · exact List.mem_cons_of_mem _ (HR.out q h)
            · rw [List.mem_singleton.1 h]; simp
          · intro q hq
            rcases List.mem_append.1 hq with h | h
            · exact HSUB.out q h
            · rw [List.mem_singleton.1 h]; exact HSP.out
          · rw [List.range_succ, List.map_append, ← HPS.out]
            simp [psV, HVP.out]
        case measure => simp [intOf]; omega
      · obtain rfl : k = 8 := by omega
        have HPS2 : Hid (psV ps = pastsF J) := Lib.hid HPS.out
        have hki : ¬ ((8 : Nat) : Int) < 8 := by omega
        have hpk : PastsOk (psV ps) := by rw [HPS2.out]; exact pasts_ok J
        have HPK := Lib.hid hpk
        have HV2 : Hid (ordGo (psV ps) (forksF J) 3201 zero8 [] = (tv, ov)) := Lib.hid (by rw [HPS2.out, ← HJJ.out]; exact HV.out)
        have HL8 : Hid (left8 (psV ps) zero8 8 < 3201) := Lib.hid (Nat.lt_of_le_of_lt (left8_le _ hpk _ 8 (by omega)) (by omega))
        have HRI : Hid (RunI (psV ps) (forksF J) zero8 []) := Lib.hid (runI_start _ _)
        have HSN := Lib.hid (HSO.out.ownNil 32 5)
        obtain ⟨gP, rfl⟩ : ∃ gP, P = some ⟨gP, 0, none⟩ := by
          rcases HSO.out.drop.drop.own.shape with ⟨_, h, _⟩ | ⟨g, h, _⟩
          · omega
          · exact ⟨g, h⟩
        clear hpk
        go_wp2_with (fail)
        go_loopg [7] 3201 (fun gk s wr => ∃ (m : Nat) (A : Option Addr) (cA : Nat) (t : List Nat) (os : List EntC), s = .slice A m cA ∧ m + gk = 3201 ∧ os.length = m ∧ Sep w1 wr (ownR 32 5 (.slice A m cA) m (os.map EntC.cells) :: boxR B #[.slice (some ⟨gP, 0, none⟩) 8 c, .slice (some ⟨gF, 0, none⟩) 8 8, .slice (some ⟨gT, 0, none⟩) 8 8] :: ownR 3 1 (.slice (some ⟨gT, 0, none⟩) 8 8) 8 (t.map natC) :: ownR 22 1 (.slice (some ⟨gP, 0, none⟩) 8 c) 8 (ps.map PastC.cells) :: ownR 4 1 (.slice (some ⟨gF, 0, none⟩) 8 8) 8 ((forksF J).map boolC) :: Rs) ∧ (∀ u ∈ os, u ∈ l1) ∧ RunI (psV ps) (forksF J) t (vsOf os) ∧ left8 (psV ps) t 8 < gk ∧ ordGo (psV ps) (forksF J) gk t (vsOf os) = (tv, ov))
        case atStart => exact ⟨0, none, 0, zero8, [], rfl, rfl, rfl, HSN.out, by simp, HRI.out, HL8.out, HV2.out⟩
        case round =>
          obtain ⟨m, Ao, cA, t, os, rfl, hmk, hol, hS, hos, hri, hl8, hgo⟩ := hrel
          obtain ⟨wq, rfl⟩ : ∃ wq : World, wq = wr := ⟨_, rfl⟩
          have HQ := Lib.hid hS
          have HOS := Lib.hid hos
          have HRI2 := Lib.hid hri
          have HL2 := Lib.hid hl8
          have HGO := Lib.hid hgo
          have HMK := Lib.hid hmk
          have HOL := Lib.hid hol
          clear hS hos hri hl8 hgo hmk hol HSN HRI HL8 HV2 HSO
          go_wp2_with (fail)
          have HQB := Lib.hid (HQ.out.box #[.int .i64 0, .int .i64 0, .int .i64 0, .slice none 0 0, .string ⟨#[]⟩] 32)
          have HCB := Lib.hid (HCH.out.below HQ.out.base)
          go_loopw [9, 36] (fun fv dv wr => ∃ (k : Nat) (ob : Option EntC), k ≤ 8 ∧ dv = .int .i64 (k : Int) ∧ fv = .bool ob.isSome ∧ Sep w1 wr (boxR wq.heap.size (bestC ob).cells.toArray :: ownR 32 5 (.slice Ao m cA) m (os.map EntC.cells) :: boxR B #[.slice (some ⟨gP, 0, none⟩) 8 c, .slice (some ⟨gF, 0, none⟩) 8 8, .slice (some ⟨gT, 0, none⟩) 8 8] :: ownR 3 1 (.slice (some ⟨gT, 0, none⟩) 8 8) 8 (t.map natC) :: ownR 22 1 (.slice (some ⟨gP, 0, none⟩) 8 c) 8 (ps.map PastC.cells) :: ownR 4 1 (.slice (some ⟨gF, 0, none⟩) 8 8) 8 ((forksF J).map boolC) :: Rs) ∧ (∀ x, ob = some x → ∃ p ∈ ps, x ∈ p.l) ∧ pickGo (psV ps) (forksF J) t (8 - k) k (ob.map (·.v)) = pickF (psV ps) (forksF J) t) (fun _ dv _ => 8 - (intOf dv).toNat)
          case atStart => exact ⟨0, none, by omega, rfl, rfl, HQB.out, by simp, rfl⟩
          case round =>
            obtain ⟨k, ob, hk8, rfl, rfl, hS, hob, hpk⟩ := hrel
            obtain ⟨wi, rfl⟩ : ∃ wi : World, wi = wr := ⟨_, rfl⟩
            have HSI := Lib.hid hS
            have HOB := Lib.hid hob
            have HPK3 := Lib.hid hpk
            clear hS hob hpk HQB
            by_cases hlt : k < 8
            · have hki : (k : Int) < 8 := by omega
              have hk0 : (0 : Int) ≤ (k : Int) := by omega
              have hw1 : IntKind.i64.wrap ((k : Int) + 1) = (k : Int) + 1 := IntWalk.i64_in _ (by omega)
              obtain ⟨r, hr⟩ : ∃ r, readyF (psV ps) (forksF J) t k = r := ⟨_, rfl⟩
              have HRD := Lib.hid (ready_any (HSI.out.drop.drop.ordAt HR.out HCH.out HSUB.out) HPK.out k hlt (HRI2.out.le k hlt) r hr)
              have HST := Lib.hid (pick_step hlt hr HPK3.out)
              have HLT := Lib.hid hlt
              clear hr hlt hk8
              rcases r with _ | y
              · go_wp2_with (fail)
                ((with_reducible refine HRD.out.mono ?_); rintro e w5 ⟨x, rfl, hxa, hxl, hxv, hb5⟩)
                have HS5 := Lib.hid (HSI.out.below hb5)
                have LX := Lib.hid (Loc.new_ w5 x.cells.toArray 32)
                have HS6 := Lib.hid (HS5.out.alloc (.cells x.cells.toArray 32))
                have HXV := Lib.hid hxv
                simp only [EntC.cells] at LX HS6
                simp only [EntC.cells]
                obtain ⟨zX, kX, fX⟩ := LX.out
                clear hxa hxl hxv hb5 HRD HSI
                go_wp2_with (fail)
                go_roundw
                case rel => exact ⟨k + 1, ob, HLT.out, by go_num, by first | trivial | rfl, HS6.out, HOB.out, HST.out⟩
                case measure => have := HLT.out; simp [intOf]; omega
              rcases ob with _ | z
              · go_wp2_with (fail)
                ((with_reducible refine HRD.out.mono ?_); rintro e w5 ⟨x, rfl, hxa, hxl, hxv, hb5⟩)
                have HS5 := Lib.hid (HSI.out.below hb5)
                have LX := Lib.hid (Loc.new_ w5 x.cells.toArray 32)
                have HS6 := Lib.hid (HS5.out.alloc (.cells x.cells.toArray 32))
                have HXV := Lib.hid hxv
                simp only [EntC.cells] at LX HS6
                simp only [EntC.cells]
                obtain ⟨zX, kX, fX⟩ := LX.out
                clear hxa hxl hxv hb5 HRD HSI
                have LB : Hid (Loc w5 wq.heap.size #[.int .i64 0, .int .i64 0, .int .i64 0, .slice none 0 0, .string ⟨#[]⟩]) := Lib.hid HS5.out.loc
                obtain ⟨zB, kB, fB⟩ := LB.out
                go_wp2_with (fail)
                go_roundw
                case rel =>
                  refine ⟨k + 1, some x, HLT.out, by go_num, by first | trivial | rfl, (HS5.out.setEnt x).alloc _, fun x' hx' => ?_, ?_⟩
                  · injection hx' with hx'; subst hx'; exact (HXV.out y rfl).2
                  · have h := HST.out
                    rw [← (HXV.out y rfl).1] at h
                    exact h
                case measure => have := HLT.out; simp [intOf]; omega
              by_cases hday : y.day < z.v.day
              · go_wp2_with (fail)
                ((with_reducible refine HRD.out.mono ?_); rintro e w5 ⟨x, rfl, hxa, hxl, hxv, hb5⟩)
                have HS5 := Lib.hid (HSI.out.below hb5)
                have LX := Lib.hid (Loc.new_ w5 x.cells.toArray 32)
                have HS6 := Lib.hid (HS5.out.alloc (.cells x.cells.toArray 32))
                have HXV := Lib.hid hxv
                simp only [EntC.cells] at LX HS6
                simp only [EntC.cells]
                obtain ⟨zX, kX, fX⟩ := LX.out
                clear hxa hxl hxv hb5 HRD HSI
                have LB : Hid (Loc w5 wq.heap.size #[.int .i64 z.v.dev, .int .i64 z.v.no, .int .i64 z.v.day, .slice z.A z.v.seen.length z.c, .string ⟨z.v.text.toArray⟩]) := Lib.hid HS5.out.loc
                obtain ⟨zB, kB, fB⟩ := LB.out
                have hday2 : x.v.day < z.v.day := by rw [(HXV.out y rfl).1]; exact hday
                have HDAY := Lib.hid hday
                clear hday
                go_wp2_with (fail)
                go_roundw
                case rel =>
                  refine ⟨k + 1, some x, HLT.out, by go_num, by first | trivial | rfl, (HS5.out.setEnt x).alloc _, fun x' hx' => ?_, ?_⟩
                  · injection hx' with hx'; subst hx'; exact (HXV.out y rfl).2
                  · have h := HST.out
                    simp only [betterF, Option.map_some, if_pos HDAY.out] at h
                    rw [← (HXV.out y rfl).1] at h
                    exact h
                case measure => have := HLT.out; simp [intOf]; omega
              · go_wp2_with (fail)
                ((with_reducible refine HRD.out.mono ?_); rintro e w5 ⟨x, rfl, hxa, hxl, hxv, hb5⟩)
                have HS5 := Lib.hid (HSI.out.below hb5)
                have LX := Lib.hid (Loc.new_ w5 x.cells.toArray 32)
                have HS6 := Lib.hid (HS5.out.alloc (.cells x.cells.toArray 32))
                have HXV := Lib.hid hxv
                simp only [EntC.cells] at LX HS6
                simp only [EntC.cells]
                obtain ⟨zX, kX, fX⟩ := LX.out
                clear hxa hxl hxv hb5 HRD HSI
                have LB : Hid (Loc w5 wq.heap.size #[.int .i64 z.v.dev, .int .i64 z.v.no, .int .i64 z.v.day, .slice z.A z.v.seen.length z.c, .string ⟨z.v.text.toArray⟩]) := Lib.hid HS5.out.loc
                obtain ⟨zB, kB, fB⟩ := LB.out
                have hday2 : ¬ (x.v.day < z.v.day) := by rw [(HXV.out y rfl).1]; exact Int.not_lt.2 (by first | exact Int.not_lt.1 hday | exact hday)
                have HDAY : Hid (¬ (y.day < z.v.day)) := Lib.hid (by first | exact hday | exact Int.not_lt.2 hday)
                clear hday
                go_wp2_with (fail)
                go_roundw
                case rel =>
                  refine ⟨k + 1, some z, HLT.out, by go_num, by first | trivial | rfl, HS6.out, HOB.out, ?_⟩
                  have h := HST.out
                  simp only [betterF, Option.map_some, if_neg HDAY.out] at h
                  exact h
                case measure => have := HLT.out; simp [intOf]; omega
            · obtain rfl : k = 8 := by omega
              have hki : ¬ ((8 : Nat) : Int) < 8 := by omega
              have HPI : Hid (pickF (psV ps) (forksF J) t = ob.map (·.v)) := Lib.hid HPK3.out.symm
              rcases ob with _ | x
              · have hgo := HGO.out
                obtain ⟨g', hg'⟩ : ∃ g', gk = g' + 1 := ⟨gk - 1, by have := HL2.out; omega⟩
                rw [hg'] at hgo
                simp only [ordGo, HPI.out, Option.map_none] at hgo
                have HE2 := Lib.hid hgo
                clear hgo hg'
                go_wp2_with (fail)
                go_ret2
                have e1 : t = tv := congrArg Prod.fst HE2.out
                have e2 : vsOf os = ov := congrArg Prod.snd HE2.out
                have hm : ov.length = m := by rw [← e2, vsOf_len, HOL.out]
                have hsep := HSI.out.drop
                have hb := HB1.out.size
                refine ⟨B, gP, c, gF, gT, Ao, cA, os, by rw [hm]; rfl, hsep.drop.loc, ?_, ?_, fun u hu => ⟨(HCH.out.at_ u (HOS.out u hu)).below hsep.base, HCH.out.len u (HOS.out u hu)⟩, e2, HB1.out.trans (hsep.base.mono hb)⟩
                · rw [← e1]; exact hsep.drop.drop.own.mono hb
                · rw [hm]; exact hsep.own.mono hb
              · obtain ⟨p, hp, hxp⟩ := HOB.out x rfl
                have hxl1 : x ∈ l1 := HSUB.out p hp x hxp
                have hpi : pickF (psV ps) (forksF J) t = some x.v := HPI.out
                obtain ⟨e, he, hre⟩ := pick_some hpi
                obtain ⟨hdev, hri'⟩ := runI_step HPK.out HRI2.out he hre
                have hat := (ready_iff.1 hre).1
                have hlt' : t.getD e 0 < ((psV ps).getD e []).length := (List.getElem?_eq_some_iff.1 hat).1
                have HL8P : Hid (1 ≤ left8 (psV ps) t 8) := Lib.hid (left8_pos hlt' 8 he)
                have hple := HPK.out.len e he
                obtain ⟨te, hte⟩ : ∃ te, t[e]? = some te := ⟨_, List.getElem?_eq_getElem (by rw [HRI2.out.len]; exact he)⟩
                have htd : t.getD e 0 = te := by rw [List.getD_eq_getElem?_getD, hte]; rfl
                have hte4 : te < 400 := by omega
                have hei0 : (0 : Int) ≤ (e : Int) := by omega
                have hei8 : (e : Int) < 8 := by omega
                have hw1 : IntKind.i64.wrap ((te : Int) + 1) = (te : Int) + 1 := IntWalk.i64_in _ (by omega)
                have HNX := Lib.hid hri'
                have HLB := Lib.hid (left8_bump HRI2.out.len hlt' 8 (by omega))
                have hgo := HGO.out
                obtain ⟨g', hg'⟩ : ∃ g', gk = g' + 1 := ⟨gk - 1, by have := HL2.out; omega⟩
                rw [hg'] at hgo
                simp only [ordGo, hpi] at hgo
                have HGN := Lib.hid hgo
                have HXL := Lib.hid hxl1
                have HTE := Lib.hid hte
                have HTD := Lib.hid htd
                have HGE := Lib.hid hg'
                clear hgo hg' hri' hat hlt' hple hte htd hre hpi hp hxp hxl1
                obtain ⟨⟨dv, xno, xday, xseen, xtext⟩, xA, xc⟩ := x
                have hdv : dv = (e : Int) := hdev
                subst hdv
                have LB : Hid (Loc wi wq.heap.size #[.int .i64 (e : Int), .int .i64 xno, .int .i64 xday, .slice xA xseen.length xc, .string ⟨xtext.toArray⟩]) := Lib.hid HSI.out.loc
                obtain ⟨zB, kB, fB⟩ := LB.out
                have HSO1 := Lib.hid (HSI.out.sw.alloc (.cells (EntC.cells ⟨⟨(e : Int), xno, xday, xseen, xtext⟩, xA, xc⟩).toArray 32))
                have HS1 := Lib.hid (Sl.new_ wi 32 (EntC.cells ⟨⟨(e : Int), xno, xday, xseen, xtext⟩, xA, xc⟩))
                simp only [bestC, Option.getD_some, EntC.cells] at HSO1 HS1
                have hm1 : m ≤ 3201 := by have := HMK.out; omega
                have hdev : True := trivial
                go_wp2_with (at_builtin; (refine wpList_append_sl _ rfl (.tmp 63) (.tmp 65) _ rfl w1.heap.size 32 ie _ 5 64 Tryz.underlying22 he0 he1 he2 he3 rfl (by omega) _ m (os.map EntC.cells) rfl HSO1.out.own (some ⟨wi.heap.size, 0, none⟩) 1 1 ([(⟨⟨(e : Int), xno, xday, xseen, xtext⟩, xA, xc⟩ : EntC)].map EntC.cells) rfl HS1.out (ents_len _) (ents_one _) (by simp only [maxLen]; omega) (by omega) HSO1.out.base.size ?_); intro A9 c9 w9 hown9 hg9 hat9
                             have HS9 := Lib.hid (HSO1.out.grown hown9 hg9 hat9)
                             clear hown9 hg9 hat9
                             obtain ⟨z2, k2, f2⟩ := HS9.out.drop.loc
                             obtain ⟨z3, k3, f3⟩ := HS9.out.drop.drop.loc
                             obtain ⟨z4, k4, f4⟩ := HS9.out.drop.drop.drop.cellN HTE.out)
                have HBP := Lib.hid ((HS9.out.r4.bumpN HTE.out).l4.sw.drop)
                have HREL : Hid (∃ (m' : Nat) (A' : Option Addr) (cA' : Nat) (t' : List Nat) (os' : List EntC), Value.slice A9 (m + 1) c9 = .slice A' m' cA' ∧ m' + g' = 3201 ∧ os'.length = m' ∧ Sep w1 (w9.setCell ⟨gT, e, none⟩ (.int .i64 ((te : Int) + 1))).drew (ownR 32 5 (.slice A' m' cA') m' (os'.map EntC.cells) :: boxR B #[.slice (some ⟨gP, 0, none⟩) 8 c, .slice (some ⟨gF, 0, none⟩) 8 8, .slice (some ⟨gT, 0, none⟩) 8 8] :: ownR 3 1 (.slice (some ⟨gT, 0, none⟩) 8 8) 8 (t'.map natC) :: ownR 22 1 (.slice (some ⟨gP, 0, none⟩) 8 c) 8 (ps.map PastC.cells) :: ownR 4 1 (.slice (some ⟨gF, 0, none⟩) 8 8) 8 ((forksF J).map boolC) :: Rs) ∧ (∀ u ∈ os', u ∈ l1) ∧ RunI (psV ps) (forksF J) t' (vsOf os') ∧ left8 (psV ps) t' 8 < g' ∧ ordGo (psV ps) (forksF J) g' t' (vsOf os') = (tv, ov)) := Lib.hid (by
                  have hge := HGE.out
                  have hmk := HMK.out
                  have hl2 := HL2.out
                  have hnx := HNX.out
                  have hgn := HGN.out
                  rw [Int.toNat_natCast] at hnx hgn
                  refine ⟨m + 1, A9, c9, bump t e, os ++ [⟨⟨(e : Int), xno, xday, xseen, xtext⟩, xA, xc⟩], rfl, by omega, by rw [List.length_append, HOL.out]; rfl, ?_, ?_, ?_, ?_, ?_⟩
                  · rw [List.map_append]; exact HBP.out.drew
                  · intro u hu
                    rcases List.mem_append.1 hu with h | h
                    · exact HOS.out u h
                    · rw [List.mem_singleton.1 h]; exact HXL.out
                  · have ev : ∀ x : EntC, vsOf (os ++ [x]) = vsOf os ++ [x.v] := fun x => by simp [vsOf]
                    rw [ev]; exact hnx
                  · rw [HLB.out, if_pos he]; have := HL8P.out; omega
                  · have ev : ∀ x : EntC, vsOf (os ++ [x]) = vsOf os ++ [x.v] := fun x => by simp [vsOf]
                    rw [ev]; exact hgn)
                clear HBP HS9 HNX HLB HGN HXL HTE HTD
                go_region_law (fail)
                all_goals go_wp2_with (fail)
                all_goals go_roundg g'
                all_goals first
                  | exact HREL.out
                  | (have := HGE.out; omega)
end Go.Proofs.YtjncmlglhegnaaaGreatDoor
namespace Go.Proofs.YtjncmlglhegnaaaGreatDoor
open Go.RowKit Go.Sort Go.Lib

set_option maxRecDepth 100000 in
set_option maxHeartbeats 1000000 in
theorem Order_any {B0 : Nat} (w : World) (hE : Env B0 w) (hB0 : B0 ≤ w.heap.size) (A : Option Addr) (n c : Nat) (l : List EntC) (hs : ChAt w A n l) (hn : n ≤ 1000) :
    Calls Tryz.prog 51 #[.slice A n c] w (GivesE w (ordF (vsOf l)).2) := by
  have HR := Lib.hid (run_any w hE hB0 A n c l hs hn (ordF (vsOf l)).1 (ordF (vsOf l)).2 rfl)
  clear hE hB0 hs
  go_enter Tryz.func51, Tryz.ntmps51
  go_wp2_with ((with_reducible refine HR.out.mono ?_); rintro e w1 ⟨B, gP, cP, gF, gT, A1, c1, os, rfl, h1, h2, h3, h4, h5, h6⟩)
  go_ret
  exact ⟨A1, c1, os, rfl, ⟨h3.sl', fun u hu => (h4 u hu).1, fun u hu => (h4 u hu).2⟩, h5, h6⟩
set_option maxRecDepth 100000 in
set_option maxHeartbeats 1000000 in
theorem Heads_any {B0 : Nat} (w : World) (hE : Env B0 w) (hB0 : B0 ≤ w.heap.size) (A : Option Addr) (n c : Nat) (l : List EntC) (hs : ChAt w A n l) (hn : n ≤ 1000) :
    Calls Tryz.prog 52 #[.slice A n c] w fun e w' => ∃ g, e = .returned (.slice (some ⟨g, 0, none⟩) 8 8) ∧ Own w' w.heap.size 3 1 (.slice (some ⟨g, 0, none⟩) 8 8) 8 ((ordF (vsOf l)).1.map natC) ∧ Below w.heap.size w w' := by
  have HR := Lib.hid (run_any w hE hB0 A n c l hs hn (ordF (vsOf l)).1 (ordF (vsOf l)).2 rfl)
  clear hE hB0 hs
  go_enter Tryz.func52, Tryz.ntmps52
  go_wp2_with ((with_reducible refine HR.out.mono ?_); rintro e w1 ⟨B, gP, cP, gF, gT, A1, c1, os, rfl, ⟨zB, kB, fB⟩, h2, h3, h4, h5, h6⟩)
  go_ret
  exact ⟨gT, rfl, h2, h6⟩
theorem nextGo_snoc (d : Int) (x : EntV) : ∀ (L : List EntV) (n : Nat), nextGo d (L ++ [x]) n = if x.dev = d ∧ x.no = ((nextGo d L n : Nat) : Int) then nextGo d L n + 1 else nextGo d L n
  | [], _ => rfl
  | y :: L, n => nextGo_snoc d x L _
theorem needGo_snoc (d : Nat) (x : EntV) : ∀ (L : List EntV) (m : Int), needGo d (L ++ [x]) m = max (if x.dev = (d : Int) then max (needGo d L m) x.no else needGo d L m) (x.seen.getD d 0)
  | [], _ => rfl
  | y :: L, m => needGo_snoc d x L _
theorem nextGo_len (d : Int) : ∀ (L : List EntV) (n : Nat), nextGo d L n ≤ n + L.length
  | [], n => Nat.le_refl _
  | y :: L, n => by
    have := nextGo_len d L (if y.dev = d ∧ y.no = (n : Int) then n + 1 else n)
    simp only [nextGo, List.length_cons]
    split at this <;> rename_i h
    · rw [if_pos h]; omega
    · rw [if_neg h]; omega
theorem set_at {α : Type} {l : List α} {n : Nat} (hl : l.length = n) {e d : Nat} (hd : d < n) (v z : α) : (l.set e v).getD d z = if e = d then v else l.getD d z := by
  rw [List.getD_eq_getElem?_getD, List.getD_eq_getElem?_getD, List.getElem?_set]
  by_cases h : e = d
  · subst h; rw [if_pos rfl, if_pos rfl, if_pos (by omega)]; rfl
  · rw [if_neg h, if_neg h]
theorem Sep.cellI {w0 w : World} {g c n e : Nat} {te : Int} {t : List Int} {Rs : List Res} (h : Sep w0 w (ownR 3 1 (.slice (some ⟨g, 0, none⟩) n c) n (t.map intC) :: Rs)) (ht : t[e]? = some te) :
    g < w.heap.size ∧ w.cell? ⟨g, e, none⟩ = some (.int .i64 te) ∧ ∀ j, w.frozen? ⟨g, j, none⟩ = false := by
  obtain ⟨g', c', hv, _, h1, h2, h3⟩ := h.own.at_ (i := e) (x := intC te) (by rw [List.getElem?_map, ht]; rfl)
  injection hv with hA
  injection hA with hA
  injection hA with hA
  subst hA
  have := h2 0 _ rfl
  rw [Nat.mul_one, Nat.add_zero] at this
  exact ⟨h1, this, h3⟩
theorem Sep.setI {w0 w : World} {g c n e : Nat} {te : Int} {t : List Int} {Rs : List Res} (h : Sep w0 w (ownR 3 1 (.slice (some ⟨g, 0, none⟩) n c) n (t.map intC) :: Rs)) (ht : t[e]? = some te) (v : Int) :
    Sep w0 (w.setCell ⟨g, e, none⟩ (.int .i64 v)) (ownR 3 1 (.slice (some ⟨g, 0, none⟩) n c) n ((t.set e v).map intC) :: Rs) := by
  have := h.stored (i := e) (x := intC te) (by rw [List.getElem?_map, ht]; rfl) 0 (by omega) (.int .i64 v)
  rw [Nat.mul_one, Nat.add_zero] at this
  rw [List.map_set]
  exact this
def missTo (J : List EntV) (i : Nat) : List (Nat × Nat) := (List.range i).filterMap fun d : Nat => if ((nextGo (d : Int) J 0 : Nat) : Int) < needGo d J 0 then some (d, nextGo (d : Int) J 0) else none
theorem missTo_all (J : List EntV) : missTo J 8 = missF J := rfl
theorem missTo_succ (J : List EntV) (i : Nat) : missTo J (i + 1) = missTo J i ++ (if ((nextGo (i : Int) J 0 : Nat) : Int) < needGo i J 0 then [(i, nextGo (i : Int) J 0)] else []) := by
  unfold missTo
  rw [List.range_succ, List.filterMap_append]
  congr 1
  by_cases h : ((nextGo (i : Int) J 0 : Nat) : Int) < needGo i J 0
  · simp [List.filterMap, h]
  · simp [List.filterMap, h]
theorem infoRef : (Tryz.prog.info? 153).map (fun i => (i.zero, i.size, i.bytes)) = some (some (.agg #[.int .i64 0, .int .i64 0]), 2, 16) := by kernel_rfl
theorem row8_int : (zero8.map natC) = ((List.replicate 8 (0 : Int)).map intC) := by simp [zero8, natC, intC]
theorem own8i (W : World) : Own (W.alloc (.cells row8 3)) W.heap.size 3 1 (.slice (some ⟨W.heap.size, 0, none⟩) 8 8) 8 ((List.replicate 8 (0 : Int)).map intC) := by rw [← row8_int]; exact own8 W
set_option maxRecDepth 100000 in
set_option maxHeartbeats 4000000 in
theorem Missing_any {B0 : Nat} (w : World) (hE : Env B0 w) (hB0 : B0 ≤ w.heap.size) (A : Option Addr) (n c : Nat) (l : List EntC) (hs : ChAt w A n l) (hn : n ≤ 1000) (v : List (Nat × Nat)) (hv : missF (joinF (vsOf l)) = v) :
    Calls Tryz.prog 53 #[.slice A n c] w fun e w' => ∃ A' c', e = .returned (.slice A' v.length c') ∧ Sl w' 2 A' v.length (v.map refC) ∧ Below w.heap.size w w' := by
  have HJ := Lib.hid (Join_any w hE hB0 A none n 0 c 0 l [] hs (chAt_nil w) hn (by omega))
  have HLL : Hid (l.length = n) := Lib.hid (by simpa using hs.sl.1)
  have HV := Lib.hid hv
  clear hE hB0 hs hv
  go_enter Tryz.func53, Tryz.ntmps53
  go_wp2_with (fail)
  ((with_reducible refine HJ.out.mono ?_); rintro e w1 ⟨A1, c1, l1, rfl, h1, hv1, hb1⟩)
  have e0 : vsOf l ++ vsOf [] = vsOf l := by simp [vsOf]
  rw [e0] at hv1 h1 ⊢
  obtain ⟨J, hJ⟩ : ∃ J, joinF (vsOf l) = J := ⟨_, rfl⟩
  have HV2 : Hid (missF J = v) := Lib.hid (by rw [← hJ]; exact HV.out)
  have hjl : J.length ≤ 1000 := by rw [← hJ]; exact Nat.le_trans (joinF_len _) (by rw [vsOf_len, HLL.out]; exact hn)
  have hJR : AllR J := by rw [← hJ]; exact joinF_right _
  rw [hJ] at hv1 h1 ⊢
  obtain ⟨N, hN⟩ : ∃ N, J.length = N := ⟨_, rfl⟩
  rw [hN] at h1 hjl ⊢
  have HB1 := Lib.hid hb1
  have HCH := Lib.hid h1
  have HVJ := Lib.hid hv1
  have HJN := Lib.hid hN
  clear h1 hb1 HJ hJ hN hv1 e0 HV
  go_wp2_with (fail)
  have HMK : ∀ W, Sem.run Tryz.prog (Instr.makeSlice 30 (.int .i64 8) (.int .i64 8)) W = .ok (.slice (some ⟨W.heap.size, 0, none⟩) 8 8) (W.alloc (.cells row8 3)) := run_make8
  go_cut [4, 5] (fun sv tv wy => ∃ gN gD, sv = .slice (some ⟨gN, 0, none⟩) 8 8 ∧ tv = .slice (some ⟨gD, 0, none⟩) 8 8 ∧ Sep w1 wy (ownR 3 1 (.slice (some ⟨gD, 0, none⟩) 8 8) 8 ((List.replicate 8 (0 : Int)).map intC) :: ownR 3 1 (.slice (some ⟨gN, 0, none⟩) 8 8) 8 (zero8.map natC) :: []))
  case first =>
    have s3 := Lib.hid (((Sep.start w1).ownNew (below_alloc _ _) (own8 w1)).ownNew (below_alloc _ _) (own8i _))
    have s4 := Lib.hid (((Sep.start w1).ownNew (below_alloc _ _) (own8i w1)).ownNew (below_alloc _ _) (own8 _))
    rw [World.size_alloc] at s3 s4
    go_region_law (fail)
    · go_wp2_with (fail)
      go_meet
      exact ⟨_, _, rfl, rfl, s3.out.drew⟩
    · go_wp2_with (fail)
      go_meet
      exact ⟨_, _, rfl, rfl, s4.out.sw.drew⟩
  case rest =>
    obtain ⟨gN, gD, rfl, rfl, hS⟩ := hcut
    obtain ⟨w2, rfl⟩ : ∃ w2 : World, w2 = wc := ⟨_, rfl⟩
    have HS := Lib.hid hS
    clear hS
    go_wp2_with (fail)
    go_loopw [19] (fun iv wr => ∃ (k : Nat) (t : List Nat) (m : List Int), k ≤ N ∧ iv = .int .i64 (k : Int) ∧ Sep w1 wr (ownR 3 1 (.slice (some ⟨gD, 0, none⟩) 8 8) 8 (m.map intC) :: ownR 3 1 (.slice (some ⟨gN, 0, none⟩) 8 8) 8 (t.map natC) :: []) ∧ t.length = 8 ∧ m.length = 8 ∧ (∀ d : Nat, d < 8 → t.getD d 0 = nextGo (d : Int) (J.take k) 0) ∧ (∀ d : Nat, d < 8 → m.getD d 0 = needGo d (J.take k) 0)) (fun i _ => N - (intOf i).toNat)
    case atStart => exact ⟨0, zero8, List.replicate 8 0, Nat.zero_le _, rfl, HS.out, rfl, rfl, by simp only [List.take_zero, nextGo]; decide, by simp only [List.take_zero, needGo]; decide⟩
    case round =>
      obtain ⟨k, t, m, hk, rfl, hS, htl, hml, ht, hm⟩ := hrel
      obtain ⟨wo, rfl⟩ : ∃ wo : World, wo = wr := ⟨_, rfl⟩
      have HSO := Lib.hid hS
      have HT := Lib.hid ht
      have HM := Lib.hid hm
      have HTL := Lib.hid htl
      have HML := Lib.hid hml
      clear hS ht hm htl hml HS
      by_cases hlt : k < N
      · obtain ⟨x, hx⟩ : ∃ v, l1[k]? = some v := ⟨_, List.getElem?_eq_getElem (by rw [← vsOf_len, HVJ.out, HJN.out]; exact hlt)⟩
        have hxj : J[k]? = some x.v := by rw [← HVJ.out]; exact vsOf_at hx
        have hxr : RightE x.v := hJR x.v (List.mem_of_getElem? hxj)
        have hxa := (HCH.out.at_ x (List.mem_of_getElem? hx))
        obtain ⟨b, o, rfl, hbl, c0, c1, c2, c3, c4⟩ := ent_at (HCH.out.sl.below HSO.out.base) hx
        obtain ⟨⟨dv, xno, xday, xseen, xtext⟩, xA, xc⟩ := x
        obtain ⟨e, rfl⟩ : ∃ e : Nat, dv = (e : Int) := ⟨dv.toNat, by have := hxr.d0; simp only at this; omega⟩
        have he : e < 8 := by have := hxr.d1; simp only at this; omega
        have hki : (k : Int) < (N : Int) := by omega
        have hk0 : (0 : Int) ≤ (k : Int) := by omega
        have hei0 : (0 : Int) ≤ (e : Int) := by omega
        have hei8 : (e : Int) < 8 := by omega
        have hwk : IntKind.i64.wrap ((k : Int) + 1) = (k : Int) + 1 := IntWalk.i64_in _ (by omega)
        obtain ⟨te, hte⟩ : ∃ te, t[e]? = some te := ⟨_, List.getElem?_eq_getElem (by rw [HTL.out]; exact he)⟩
        obtain ⟨me, hme⟩ : ∃ me, m[e]? = some me := ⟨_, List.getElem?_eq_getElem (by rw [HML.out]; exact he)⟩
        have HTE := Lib.hid hte
        have HME := Lib.hid hme
        have HX := Lib.hid hxj
        have HXR := Lib.hid hxr
        have HXA := Lib.hid hxa
        have HE := Lib.hid he
        have HLT := Lib.hid hlt
        have HS1 := Lib.hid (HSO.out.box #[.int .i64 (e : Int), .int .i64 xno, .int .i64 xday, .slice xA xseen.length xc, .string ⟨xtext.toArray⟩] 32)
        obtain ⟨zX, kX, fX⟩ := HS1.out.loc
        obtain ⟨zD, kD, fD⟩ := HS1.out.drop.cellI HME.out
        obtain ⟨zN, kN, fN⟩ := HS1.out.drop.drop.cellN HTE.out
        clear hx hxj hxr hxa hte hme he hlt hk hbl
        have hte2 : te = nextGo (e : Int) (J.take k) 0 := by
          have := HT.out e HE.out
          rw [List.getD_eq_getElem?_getD, HTE.out] at this
          exact this
        have hwt : IntKind.i64.wrap ((te : Int) + 1) = (te : Int) + 1 := IntWalk.i64_in _ (by
          have := nextGo_len (e : Int) (J.take k) 0
          rw [List.length_take] at this
          omega)
        have HTK := Lib.hid (take_succ' HX.out)
        have HTE2 := Lib.hid hte2
        clear hte2
        go_upto_region 6 with (fail)
        go_quiet (fail)
        go_upto_if 30 with (fail)
        go_cut [] (fun wy => ∃ t' : List Nat, Sep w1 wy (boxR wo.heap.size #[.int .i64 (e : Int), .int .i64 xno, .int .i64 xday, .slice xA xseen.length xc, .string ⟨xtext.toArray⟩] :: ownR 3 1 (.slice (some ⟨gD, 0, none⟩) 8 8) 8 (m.map intC) :: ownR 3 1 (.slice (some ⟨gN, 0, none⟩) 8 8) 8 (t'.map natC) :: []) ∧ t'.length = 8 ∧ (∀ d : Nat, d < 8 → t'.getD d 0 = nextGo (d : Int) (J.take (k + 1)) 0))
        case first =>
          by_cases hno : xno = (te : Int)
          · subst hno
            go_wp2_with (fail)
            go_meet
            refine ⟨bump t e, (HS1.out.drewN nq).r3.bumpN HTE.out |>.l3, by unfold bump; rw [List.length_set]; exact HTL.out, fun d hd => ?_⟩
            rw [HTK.out, nextGo_snoc, bump_at HTL.out hd, HT.out d hd]
            by_cases hed : e = d
            · subst hed
              rw [if_pos rfl, if_pos ⟨rfl, by rw [← HTE2.out]⟩]
            · rw [if_neg hed, if_neg (fun h => hed (by have := h.1; simp only at this; omega))]
          · have hnb : (xno == (te : Int)) = false := beq_eq_false_iff_ne.2 hno
            go_wp2_with (fail)
            go_meet
            refine ⟨t, HS1.out.drewN nq, HTL.out, fun d hd => ?_⟩
            rw [HTK.out, nextGo_snoc, if_neg (fun h => hno (by
              have h1 := h.1
              have h2 := h.2
              simp only at h1 h2
              obtain rfl : e = d := by omega
              rw [h2, HTE2.out])), HT.out d hd]
        case rest =>
          obtain ⟨t', hS, htl, ht⟩ := hcut
          obtain ⟨w3, rfl⟩ : ∃ w3 : World, w3 = wc := ⟨_, rfl⟩
          have HS2 := Lib.hid hS
          have HT2 := Lib.hid ht
          have HTL2 := Lib.hid htl
          obtain ⟨zX, kX, fX⟩ := HS2.out.loc
          obtain ⟨zD, kD, fD⟩ := HS2.out.drop.cellI HME.out
          have HME2 : Hid (me = needGo e (J.take k) 0) := Lib.hid (by
            have := HM.out e HE.out
            rw [List.getD_eq_getElem?_getD, HME.out] at this
            exact this)
          have HS3 := Lib.hid ((HS2.out.sw.setI HME.out (max me xno)).drew)
          have HML3 : Hid ((m.set e (max me xno)).length = 8) := Lib.hid (by rw [List.length_set]; exact HML.out)
          have HM3 : Hid (∀ d : Nat, d < 8 → (m.set e (max me xno)).getD d 0 = if (e : Int) = (d : Int) then max (needGo d (J.take k) 0) xno else needGo d (J.take k) 0) := Lib.hid (fun d hd => by
            rw [set_at HML.out hd]
            by_cases hed : e = d
            · subst hed
              rw [if_pos rfl, if_pos rfl, HME2.out]
            · rw [if_neg hed, if_neg (by omega), HM.out d hd])
          obtain ⟨m3, hm3⟩ : ∃ m3, m.set e (max me xno) = m3 := ⟨_, rfl⟩
          rw [hm3] at HS3 HML3 HM3
          clear hS ht htl hm3 HSO HS1 HME2
          go_upto_region 8 with (fail)
          go_cut [] (fun wy => Sep w1 wy (ownR 3 1 (.slice (some ⟨gD, 0, none⟩) 8 8) 8 (m3.map intC) :: boxR wo.heap.size #[.int .i64 (e : Int), .int .i64 xno, .int .i64 xday, .slice xA xseen.length xc, .string ⟨xtext.toArray⟩] :: ownR 3 1 (.slice (some ⟨gN, 0, none⟩) 8 8) 8 (t'.map natC) :: []))
          case first =>
            go_region_law (fail)
            all_goals go_wp2_with (fail)
            all_goals go_meet
            all_goals exact HS3.out
          case rest =>
            obtain ⟨w4, rfl⟩ : ∃ w4 : World, w4 = wc := ⟨_, rfl⟩
            have HS4 := Lib.hid hcut
            obtain ⟨zX, kX, fX⟩ := HS4.out.sw.loc
            have hsl : (xseen.length : Int) = 8 := by have := HXR.out.len; simp only at this; rw [this]; rfl
            clear hcut HS3 HS2
            go_wp2_with (fail)
            go_loopw [53] (fun jv wr => ∃ (i : Nat) (m' : List Int), i ≤ 8 ∧ jv = .int .i64 (i : Int) ∧ Sep w1 wr (ownR 3 1 (.slice (some ⟨gD, 0, none⟩) 8 8) 8 (m'.map intC) :: boxR wo.heap.size #[.int .i64 (e : Int), .int .i64 xno, .int .i64 xday, .slice xA xseen.length xc, .string ⟨xtext.toArray⟩] :: ownR 3 1 (.slice (some ⟨gN, 0, none⟩) 8 8) 8 (t'.map natC) :: []) ∧ m'.length = 8 ∧ (∀ d : Nat, d < 8 → m'.getD d 0 = if d < i then max (m3.getD d 0) (xseen.getD d 0) else m3.getD d 0)) (fun jv _ => 8 - (intOf jv).toNat)
            case atStart => exact ⟨0, m3, by omega, rfl, HS4.out, HML3.out, fun d hd => by rw [if_neg (by omega)]⟩
            case round =>
              obtain ⟨i, m', hi, rfl, hS, hml, hm⟩ := hrel
              obtain ⟨wi, rfl⟩ : ∃ wi : World, wi = wr := ⟨_, rfl⟩
              have HSI := Lib.hid hS
              have HMI := Lib.hid hm
              have HMLI := Lib.hid hml
              clear hS hm hml HS4
              by_cases hlti : i < 8
              · obtain ⟨q, hq⟩ : ∃ v, xseen[i]? = some v := ⟨_, List.getElem?_eq_getElem (by omega)⟩
                obtain ⟨mi, hmi⟩ : ∃ v, m'[i]? = some v := ⟨_, List.getElem?_eq_getElem (by rw [HMLI.out]; exact hlti)⟩
                obtain ⟨bx, ox, hxA, hbx, d0⟩ := (Sl.below HXA.out HSI.out.base).at1 (k := i) (v := .int .i64 q) (by rw [List.getElem?_map, hq]; rfl)
                obtain ⟨zD, kD, fD⟩ := HSI.out.cellI hmi
                have hii : (i : Int) < 8 := by omega
                have hi0 : (0 : Int) ≤ (i : Int) := by omega
                have hwi : IntKind.i64.wrap ((i : Int) + 1) = (i : Int) + 1 := IntWalk.i64_in _ (by omega)
                have HS5 := Lib.hid (HSI.out.setI hmi (max mi q))
                have HQ := Lib.hid hq
                have HMI2 := Lib.hid hmi
                have HLI := Lib.hid hlti
                simp only at hxA
                rw [hxA]
                rw [hxA] at HS5
                clear hq hmi hlti hi
                go_wp2_with (fail)
                go_roundw
                case rel =>
                  refine ⟨i + 1, m'.set i (max mi q), HLI.out, by go_num, HS5.out, by rw [List.length_set]; exact HMLI.out, fun d hd => ?_⟩
                  rw [set_at HMLI.out hd, HMI.out d hd]
                  by_cases hid : i = d
                  · subst hid
                    have e1 := HMI.out i hd
                    rw [List.getD_eq_getElem?_getD, HMI2.out, if_neg (by omega)] at e1
                    simp only [Option.getD_some] at e1
                    rw [if_pos rfl, if_pos (by omega), e1, List.getD_eq_getElem?_getD (l := xseen), HQ.out]
                    rfl
                  · rw [if_neg hid]
                    by_cases hlt2 : d < i
                    · rw [if_pos hlt2, if_pos (by omega)]
                    · rw [if_neg hlt2, if_neg (by omega)]
                case measure => have := HLI.out; simp [intOf]; omega
              · obtain rfl : i = 8 := by omega
                have hii : ¬ ((8 : Nat) : Int) < 8 := by omega
                go_wp2_with (fail)
                go_roundw
                case rel =>
                  refine ⟨k + 1, t', m', HLT.out, by go_num, HSI.out.sw.drop, HTL2.out, HMLI.out, HT2.out, fun d hd => ?_⟩
                  rw [HTK.out, needGo_snoc, HMI.out d hd, if_pos hd, HM3.out d hd]
                case measure => have := HLT.out; simp [intOf]; omega
      · obtain rfl : k = N := by omega
        have hki : ¬ ((k : Nat) : Int) < (k : Int) := by omega
        have htk : J.take k = J := List.take_of_length_le (by rw [HJN.out]; exact Nat.le_refl _)
        have HT3 : Hid (∀ d : Nat, d < 8 → t.getD d 0 = nextGo (d : Int) J 0) := Lib.hid (by have := HT.out; rwa [htk] at this)
        have HM3 : Hid (∀ d : Nat, d < 8 → m.getD d 0 = needGo d J 0) := Lib.hid (by have := HM.out; rwa [htk] at this)
        have HTN : Hid (∀ d : Nat, nextGo (d : Int) J 0 ≤ k) := Lib.hid (fun d => by have := nextGo_len (d : Int) J 0; rw [HJN.out] at this; omega)
        clear HT HM htk hlt hk
        obtain ⟨ir, hr0, hr1, hr2, hr3⟩ := info_parts infoRef
        have HSN := Lib.hid (HSO.out.ownNil 153 2)
        clear HSO
        go_wp2_with (fail)
        go_loopw [10, 71] (fun sv jv wr => ∃ (i q : Nat) (Ao : Option Addr) (co : Nat), i ≤ 8 ∧ q ≤ i ∧ jv = .int .i64 (i : Int) ∧ sv = .slice Ao q co ∧ q = (missTo J i).length ∧ Sep w1 wr (ownR 153 2 (.slice Ao q co) q ((missTo J i).map refC) :: ownR 3 1 (.slice (some ⟨gD, 0, none⟩) 8 8) 8 (m.map intC) :: ownR 3 1 (.slice (some ⟨gN, 0, none⟩) 8 8) 8 (t.map natC) :: [])) (fun _ jv _ => 8 - (intOf jv).toNat)
        case atStart => exact ⟨0, 0, none, 0, by omega, by omega, rfl, rfl, rfl, HSN.out⟩
        case round =>
          obtain ⟨i, q, Ao, co, hi, hqi, rfl, rfl, hq, hS⟩ := hrel
          obtain ⟨wi, rfl⟩ : ∃ wi : World, wi = wr := ⟨_, rfl⟩
          have HSI := Lib.hid hS
          have HQ := Lib.hid hq
          clear hS hq HSN
          by_cases hlti : i < 8
          · obtain ⟨te, hte⟩ : ∃ te, t[i]? = some te := ⟨_, List.getElem?_eq_getElem (by rw [HTL.out]; exact hlti)⟩
            obtain ⟨me, hme⟩ : ∃ me, m[i]? = some me := ⟨_, List.getElem?_eq_getElem (by rw [HML.out]; exact hlti)⟩
            have e1 : te = nextGo (i : Int) J 0 := by have := HT3.out i hlti; rwa [List.getD_eq_getElem?_getD, hte] at this
            have e2 : me = needGo i J 0 := by have := HM3.out i hlti; rwa [List.getD_eq_getElem?_getD, hme] at this
            obtain ⟨zD, kD, fD⟩ := HSI.out.drop.cellI hme
            obtain ⟨zN, kN, fN⟩ := HSI.out.drop.drop.cellN hte
            have hii : (i : Int) < 8 := by omega
            have hi0 : (0 : Int) ≤ (i : Int) := by omega
            have hwi : IntKind.i64.wrap ((i : Int) + 1) = (i : Int) + 1 := IntWalk.i64_in _ (by omega)
            have HLI := Lib.hid hlti
            have HMS := Lib.hid (missTo_succ J i)
            rw [← e1, ← e2] at HMS
            clear hte hme e1 e2 hlti hi
            by_cases hlt2 : (te : Int) < me
            · have HSA := Lib.hid (HSI.out.alloc (.cells (refC (i, te)).toArray 153))
              have HN1 := Lib.hid (Sl.new_ wi 153 (refC (i, te)))
              simp only [refC] at HSA HN1
              have HL2 := Lib.hid hlt2
              go_wp2_with (at_builtin; (refine wpList_append_sl _ rfl (.tmp 82) (.tmp 86) _ rfl w1.heap.size 153 ir _ 2 16 Tryz.underlying81 hr0 hr1 hr2 hr3 rfl (by omega) _ q ((missTo J i).map refC) rfl HSA.out.own (some ⟨wi.heap.size, 0, none⟩) 1 1 ([(i, te)].map refC) rfl HN1.out (by simp [refC]) (by simp [refC, Value.oneCell']) (by simp only [maxLen]; omega) (by omega) HSA.out.base.size ?_); intro A9 c9 w9 hown9 hg9 hat9
                           have HS9 := Lib.hid (HSA.out.grown hown9 hg9 hat9)
                           clear hown9 hg9 hat9)
              go_roundw
              case rel =>
                have hms := HMS.out
                rw [if_pos HL2.out] at hms
                refine ⟨i + 1, q + 1, A9, c9, HLI.out, by omega, by go_num, rfl, by rw [hms, List.length_append, ← HQ.out]; rfl, ?_⟩
                rw [hms, List.map_append]
                exact HS9.out
              case measure => have := HLI.out; simp [intOf]; omega
            · have HL2 := Lib.hid hlt2
              go_wp2_with (fail)
              go_roundw
              case rel =>
                have hms := HMS.out
                rw [if_neg HL2.out, List.append_nil] at hms
                exact ⟨i + 1, q, Ao, co, HLI.out, by omega, by go_num, rfl, by rw [hms]; exact HQ.out, by rw [hms]; exact HSI.out⟩
              case measure => have := HLI.out; simp [intOf]; omega
          · obtain rfl : i = 8 := by omega
            have hii : ¬ ((8 : Nat) : Int) < 8 := by omega
            have HQ2 : Hid (q = v.length) := Lib.hid (by rw [HQ.out, ← HV2.out, missTo_all])
            have HSL : Hid (Sl wi 2 Ao q (v.map refC)) := Lib.hid (by rw [← HV2.out, ← missTo_all]; exact HSI.out.own.sl')
            go_wp2_with (fail)
            go_ret
            exact ⟨Ao, ⟨co, by rw [← HQ2.out]; rfl⟩, HQ2.out ▸ HSL.out, HB1.out.trans (HSI.out.base.mono HB1.out.size)⟩
end Go.Proofs.YtjncmlglhegnaaaGreatDoor
namespace Go.Proofs.YtjncmlglhegnaaaGreatDoor
open Go.RowKit Go.Sort Go.Lib

end Go.Proofs.YtjncmlglhegnaaaGreatDoor
namespace Go.Proofs.YtjncmlglhegnaaaGreatDoor
section
variable {P : Program} {ops : Array Oper} {Q : Exit → Act → World → Prop} {md : Region.Mode} {S T : World → Prop} {m : Nat}
/-- two operations may come up, and neither waits for the other: the two orders meet -/
theorem wpTill.two {i j : Nat} {oi oj : Oper} {n : Nat} {done : Array Bool} {a : Act} {w : World} (R : Value → Value → World → Prop) (hr : Region.ready md ops done = [i, j]) (hri : Region.ready md ops (done.setIfInBounds i true) = [j]) (hrj : Region.ready md ops (done.setIfInBounds j true) = [i])
    (hij : (i == j) = false) (hoi : ops[i]? = some oi) (hoj : ops[j]? = some oj)
    (hi : ∀ K' K'' : Act → World → Prop, (∀ a1 w1, S w1 → ((done.setIfInBounds i true).getD m false = false → T w1) → (if Region.wanted oj (yielded ops a1.tmps) = true then Oper.wp P oj a1 w1 K'' Q else K'' (a1.put oj.dst undef) w1) → K' a1 w1) →
      (∀ a2 w2, S w2 → (((done.setIfInBounds i true).setIfInBounds j true).getD m false = false → T w2) → (∃ x y, a2 = (a.put oi.dst x).put oj.dst y ∧ R x y w2) → K'' a2 w2) →
      if Region.wanted oi (yielded ops a.tmps) = true then Oper.wp P oi a w K' Q else K' (a.put oi.dst undef) w)
    (hj : ∀ K' K'' : Act → World → Prop, (∀ a1 w1, S w1 → ((done.setIfInBounds j true).getD m false = false → T w1) → (if Region.wanted oi (yielded ops a1.tmps) = true then Oper.wp P oi a1 w1 K'' Q else K'' (a1.put oi.dst undef) w1) → K' a1 w1) →
      (∀ a2 w2, S w2 → (((done.setIfInBounds i true).setIfInBounds j true).getD m false = false → T w2) → (∃ x y, a2 = (a.put oi.dst x).put oj.dst y ∧ R x y w2) → K'' a2 w2) →
      if Region.wanted oj (yielded ops a.tmps) = true then Oper.wp P oj a w K' Q else K' (a.put oj.dst undef) w)
    (h : ∀ x y w', S w' → (((done.setIfInBounds i true).setIfInBounds j true).getD m false = false → T w') → R x y w' → wpTill P md ops Q S T m n ((done.setIfInBounds i true).setIfInBounds j true) ((a.put oi.dst x).put oj.dst y) w') : wpTill P md ops Q S T m (n + 2) done a w := by
  have hne : i ≠ j := by simpa using hij
  refine wpTill.step2 hr hoi hoj (fun K' hK => ?_) (fun K' hK => ?_)
  · refine hi K' (fun a2 w2 => ((S w2 ∧ (((done.setIfInBounds i true).setIfInBounds j true).getD m false = false → T w2)) ∧ wpTill P md ops Q S T m n ((done.setIfInBounds i true).setIfInBounds j true) a2 w2)) (fun a1 w1 s1 t1 g => hK a1 w1 s1 t1 ?_) (fun a2 w2 s2 t2 ⟨x, y, e, hR⟩ => ⟨⟨s2, t2⟩, by rw [e]; exact h x y w2 s2 t2 hR⟩)
    refine wpTill.step hri hoj fun K2 hK2 => ?_
    split
    · rename_i hw
      rw [if_pos hw] at g
      exact Oper.wp_mono (fun a2 w2 q => hK2 a2 w2 q.1.1 q.1.2 q.2) g
    · rename_i hw
      rw [if_neg hw] at g
      exact hK2 _ _ g.1.1 g.1.2 g.2
  · have hc : (done.setIfInBounds j true).setIfInBounds i true = (done.setIfInBounds i true).setIfInBounds j true := Array.setIfInBounds_comm _ _ (Ne.symm hne)
    refine hj K' (fun a2 w2 => ((S w2 ∧ (((done.setIfInBounds i true).setIfInBounds j true).getD m false = false → T w2)) ∧ wpTill P md ops Q S T m n ((done.setIfInBounds i true).setIfInBounds j true) a2 w2)) (fun a1 w1 s1 t1 g => hK a1 w1 s1 t1 ?_) (fun a2 w2 s2 t2 ⟨x, y, e, hR⟩ => ⟨⟨s2, t2⟩, by rw [e]; exact h x y w2 s2 t2 hR⟩)
    refine wpTill.step hrj hoi fun K2 hK2 => ?_
    rw [hc] at hK2
    split
    · rename_i hw
      rw [if_pos hw] at g
      exact Oper.wp_mono (fun a2 w2 q => hK2 a2 w2 q.1.1 q.1.2 q.2) g
    · rename_i hw
      rw [if_neg hw] at g
      exact hK2 _ _ g.1.1 g.1.2 g.2
end
end Go.Proofs.YtjncmlglhegnaaaGreatDoor
namespace Go.Proofs.YtjncmlglhegnaaaGreatDoor
open Go.RowKit

theorem joinF_join (l : List EntV) : joinF (joinF l) = joinF l := joinF_self (joinF_asc l) (joinF_right l)
theorem ordF_join (l : List EntV) : ordF (joinF l) = ordF l := by unfold ordF; rw [joinF_join]
theorem heads_len (l : List EntV) : (ordF l).1.length = 8 := (run_ends l).1.len
end Go.Proofs.YtjncmlglhegnaaaGreatDoor
namespace Go.Proofs.YtjncmlglhegnaaaGreatDoor
open Go.RowKit

def xA : EntV := ⟨0, 0, 5, [0, 0, 0, 0, 0, 0, 0, 0], []⟩
def xB : EntV := ⟨0, 1, 5, [1, 0, 0, 0, 0, 0, 0, 0], []⟩
def xC : EntV := ⟨1, 0, 4, [0, 0, 0, 0, 0, 0, 0, 0], []⟩
def xD : EntV := ⟨1, 1, 4, [1, 1, 0, 0, 0, 0, 0, 0], []⟩
def xE : EntV := ⟨0, 0, 9, [0, 0, 0, 0, 0, 0, 0, 0], []⟩
theorem j5 : joinF [xD, xB, xA, xC, xA] = [xA, xB, xC, xD] := by decide
theorem j6 : joinF [xB, xC, xD] = [xB, xC, xD] := by decide
theorem lt_AE : ltE xA xE := by
  refine .inr ⟨rfl, .inr ⟨rfl, ?_⟩⟩
  have e0 : encN 0 = [48, 59] := by simp [encN, encI, Lib.itoa, Lib.decDigits]
  have e5 : encN 5 = [53, 59] := by simp [encN, encI, Lib.itoa, Lib.decDigits]
  have e9 : encN 9 = [57, 59] := by simp [encN, encI, Lib.itoa, Lib.decDigits]
  unfold encE xA xE
  simp only [e0, e5, e9, List.cons_append, List.nil_append, List.cons_lt_cons_iff]
  simp
theorem j7 : joinF [xA, xB, xC, xD, xE] = [xA, xE, xB, xC, xD] := by
  have h1 : joinF [xB, xC, xD, xE] = [xE, xB, xC, xD] := by decide
  unfold joinF
  rw [if_pos (by rfl), h1]
  unfold putE
  rw [if_neg (by decide), if_pos lt_AE]
theorem o5 : ordF [xD, xB, xA, xC, xA] = ([2, 2, 0, 0, 0, 0, 0, 0], [xC, xA, xD, xB]) := by unfold ordF; rw [j5]; decide
theorem f5 : forkO [xD, xB, xA, xC, xA] = [] := by unfold forkO; rw [j5]; decide
theorem o6 : ordF [xB, xC, xD] = ([0, 1, 0, 0, 0, 0, 0, 0], [xC]) := by unfold ordF; rw [j6]; decide
theorem o7 : ordF [xA, xB, xC, xD, xE] = ([0, 2, 0, 0, 0, 0, 0, 0], [xC, xD]) := by unfold ordF; rw [j7]; decide
theorem f7 : forkO [xA, xB, xC, xD, xE] = [0] := by unfold forkO; rw [j7]; decide
end Go.Proofs.YtjncmlglhegnaaaGreatDoor
namespace Go.Proofs.YtjncmlglhegnaaaGreatDoor
open Go.RowKit

theorem ord_heads {V : List EntV} {d : Nat} (hd : d < 8) : (ordF V).1.getD d 0 = countF (ordF V).2 d := by
  have h := (run_ends V).1
  unfold countF
  rw [h.own d hd, List.length_take, Nat.min_eq_left (h.le d hd)]
end Go.Proofs.YtjncmlglhegnaaaGreatDoor
