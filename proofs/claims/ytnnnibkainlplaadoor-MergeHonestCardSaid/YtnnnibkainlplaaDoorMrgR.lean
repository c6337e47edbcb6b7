/- merge: the law MergeHonest, walked. -/
import Derived.Test.YtnnnibkainlplaaDoorMrgG
import Derived.Test.YtnnnibkainlplaaDoorMrgI
import Derived.Test.YtnnnibkainlplaaDoorMrgR1
import Derived.Deep.RegionHeld3
namespace Go.Proofs.YtnnnibkainlplaaDoor
open Go.RowKit Go.Sort Go.Lib

def stC (s : Int × Int × Int) : List Value := [.int .i64 s.1, .int .i64 s.2.1, .int .i64 s.2.2]
def row8S : Array Value := #[.slice none 0 0, .slice none 0 0, .slice none 0 0, .slice none 0 0, .slice none 0 0, .slice none 0 0, .slice none 0 0, .slice none 0 0]
theorem row8S_is : madeCells (Value.slice none 0 0).cells (8 * 1) = row8S := by kernel_rfl
theorem run_make8S (W : World) : Sem.run Tryd.prog (Instr.makeSlice 29 (.int .i64 8) (.int .i64 8)) W = .ok (.slice (some ⟨W.heap.size, 0, none⟩) 8 8) (W.alloc (.cells row8S 22)) := by
  obtain ⟨i, h0, h1, h2, h3⟩ := info_parts infoEnts
  have hr := run_make (P := Tryd.prog) W 29 22 i _ Tryd.underlying29 h0 h1 .i64 .i64 8 8 (by omega) (Int.le_refl _) (by rw [h3]; decide) (by decide)
  rw [h2] at hr
  rw [← row8S_is]
  exact hr
def noPast : PastC := ⟨none, 0, []⟩
theorem own8S (W : World) : Own (W.alloc (.cells row8S 22)) W.heap.size 22 1 (.slice (some ⟨W.heap.size, 0, none⟩) 8 8) 8 ((List.replicate 8 noPast).map PastC.cells) := by
  have h := World.ownsRow_lit (base := W.heap.size) (e := 22) (size := 1) W row8S 8 (Nat.le_refl _) (by simp [maxLen]) rfl
  exact ⟨h, by simp [noPast, PastC.cells], rfl⟩
theorem Sep.cellP {w0 w : World} {g c n d : Nat} {p : PastC} {ps : List PastC} {Rs : List Res} (h : Sep w0 w (ownR 22 1 (.slice (some ⟨g, 0, none⟩) n c) n (ps.map PastC.cells) :: Rs)) (hp : ps[d]? = some p) :
    g < w.heap.size ∧ w.cell? ⟨g, d, none⟩ = some (.slice p.A p.l.length p.c) ∧ ∀ j, w.frozen? ⟨g, j, none⟩ = false := by
  obtain ⟨g', c', hv, _, h1, h2, h3⟩ := h.own.at_ (i := d) (x := p.cells) (by rw [List.getElem?_map, hp]; rfl)
  injection hv with hA
  injection hA with hA
  injection hA with hA
  subst hA
  have := h2 0 _ rfl
  rw [Nat.mul_one, Nat.add_zero] at this
  exact ⟨h1, this, h3⟩
theorem Sep.setP {w0 w : World} {g c n d : Nat} {p : PastC} {ps : List PastC} {Rs : List Res} (h : Sep w0 w (ownR 22 1 (.slice (some ⟨g, 0, none⟩) n c) n (ps.map PastC.cells) :: Rs)) (hp : ps[d]? = some p) (q : PastC) :
    Sep w0 (w.setCell ⟨g, d, none⟩ (.slice q.A q.l.length q.c)) (ownR 22 1 (.slice (some ⟨g, 0, none⟩) n c) n ((ps.set d q).map PastC.cells) :: Rs) := by
  have := h.stored (i := d) (x := p.cells) (by rw [List.getElem?_map, hp]; rfl) 0 (by omega) (.slice q.A q.l.length q.c)
  rw [Nat.mul_one, Nat.add_zero] at this
  have e1 : (ps.set d q).map PastC.cells = (ps.map PastC.cells).set d (p.cells.set 0 (.slice q.A q.l.length q.c)) := by
    rw [List.map_set]
    rfl
  rw [e1]
  exact this
theorem psV_set (ps : List PastC) (d : Nat) (q : PastC) : psV (ps.set d q) = (psV ps).set d (vsOf q.l) := by unfold psV; rw [List.map_set]
theorem KnowAt.set {ps : List PastC} {es : List EntC} {W : World} {d : Nat} {q : PastC} (h : KnowAt ps es W) (hq : ChAt W q.A q.l.length q.l) : KnowAt (ps.set d q) es W :=
  ⟨fun p hp => by
    rcases List.mem_or_eq_of_mem_set hp with h1 | h1
    · exact h.1 p h1
    · rw [h1]; exact hq, h.2⟩
theorem KnowAt.snoc {ps : List PastC} {es : List EntC} {W : World} {x : EntC} (h : KnowAt ps es W) (hx : EntAt W x) : KnowAt ps (es ++ [x]) W :=
  ⟨h.1, fun u hu => by
    rcases List.mem_append.1 hu with h1 | h1
    · exact h.2 u h1
    · rw [List.mem_singleton.1 h1]; exact hx⟩
theorem tmod9 (x : Int) : -8 ≤ x.tmod 9 ∧ x.tmod 9 ≤ 8 := by
  rcases Int.le_total 0 x with h | h
  · rw [Int.tmod_eq_emod_of_nonneg h]; omega
  · have e : x.tmod 9 = -((-x).tmod 9) := by rw [Int.neg_tmod, Int.neg_neg]
    rw [e, Int.tmod_eq_emod_of_nonneg (by omega)]; omega
set_option pp.maxSteps 20000 in
set_option maxRecDepth 100000 in
set_option maxHeartbeats 16000000 in
theorem mergeHonest_any {B0 : Nat} (w : World) (hE : Env B0 w) (hB0 : B0 ≤ w.heap.size) (A1 : Option Addr) (n1 c1 : Nat) (sts : List (Int × Int × Int)) (hs1 : Sl w 3 A1 n1 (sts.map stC))
    (Pb : Option Addr) (nb cb : Nat) (bs : List Int) (hb : Sl w 1 Pb nb (bs.map fun o => [.int .u8 o])) (hbs : ∀ o ∈ bs, 0 ≤ o ∧ o ≤ 255) :
    Calls Tryd.prog 7 #[.slice A1 n1 c1, .slice Pb nb cb] w fun e w' => e = .returned (.bool true) ∧ Below w.heap.size w w' := by
  obtain ⟨ie, he0, he1, he2, he3⟩ := info_parts infoEnt
  have HEV := Lib.hid (fun W (hb : Below w.heap.size w W) => (⟨hE.below (hb.mono hB0), Nat.le_trans hB0 hb.size⟩ : Env B0 W ∧ B0 ≤ W.heap.size))
  have HSM := Lib.hid (small47_any w hE hB0)
  have HS1 := Lib.hid hs1
  have HPB := Lib.hid hb
  have HBS := Lib.hid hbs
  have HLS : Hid (sts.length = n1) := Lib.hid (by simpa using hs1.1)
  have HB : Hid (Below w.heap.size w w) := Lib.hid (Below.refl _ _)
  clear hE hB0 hs1 hb hbs
  go_enter Tryd.func7, Tryd.ntmps7
  go_wp2_with (fail)
  ((with_reducible refine (HSM.out).mono ?_); rintro _ w3 ⟨rfl, hb1⟩)
  have hbT := hb1
  replace HB := Lib.hid (HB.out.trans (hbT.mono HB.out.size))
  replace HS1 := Lib.hid (HS1.out.below hbT)
  replace HPB := Lib.hid (HPB.out.below hbT)
  clear hbT hb1 
  by_cases hn1 : n1 ≤ 30
  case neg =>
    have hni : (30 : Int) < (n1 : Int) := by omega
    clear hn1
    go_wp2_with (fail)
    go_ret
    exact ⟨rfl, HB.out⟩
  have hni : ¬ ((30 : Int) < (n1 : Int)) := by omega
  by_cases hnb : nb ≤ 40
  case neg =>
    have hni2 : (40 : Int) < (nb : Int) := by omega
    clear hnb
    go_wp2_with (fail)
    go_ret
    exact ⟨rfl, HB.out⟩
  have hni2 : ¬ ((40 : Int) < (nb : Int)) := by omega
  have HMK : ∀ W, Sem.run Tryd.prog (Instr.makeSlice 31 (.int .i64 8) (.int .i64 8)) W = .ok (.slice (some ⟨W.heap.size, 0, none⟩) 8 8) (W.alloc (.cells row8 3)) := run_make8
  have HMS : ∀ W, Sem.run Tryd.prog (Instr.makeSlice 29 (.int .i64 8) (.int .i64 8)) W = .ok (.slice (some ⟨W.heap.size, 0, none⟩) 8 8) (W.alloc (.cells row8S 22)) := run_make8S
  have HSA := Lib.hid ((((Sep.start w3).ownNil 40 5).ownNew (below_alloc _ _) (own8S w3)).ownNew (below_alloc _ _) (own8 _))
  go_wp2_with (fail)
  clear HMK HMS
  have hsa := HSA.out
  rw [World.size_alloc] at hsa
  generalize hgD : w3.heap.size + 1 = gD at hsa ⊢
  generalize hgK : w3.heap.size = gK at hsa ⊢
  generalize hgS : (w3.alloc (.cells row8S 22)).alloc (.cells row8 3) = wS at hsa ⊢
  replace HSA := Lib.hid hsa
  clear hsa hgD hgK hgS
  go_loopw [8, 9] (fun s iv wr => ∃ (i m : Nat) (A' : Option Addr) (c' : Nat) (es : List EntC) (ps : List PastC) (ds : List Int), s = .slice A' m c' ∧ iv = .int .i64 (i : Int) ∧ i ≤ n1 ∧ es.length = m ∧ HonI i (vsOf es) (psV ps) ds ∧ Sep w3 wr (seesR (KnowAt ps es) :: ownR 22 1 (.slice (some ⟨gK, 0, none⟩) 8 8) 8 (ps.map PastC.cells) :: ownR 3 1 (.slice (some ⟨gD, 0, none⟩) 8 8) 8 (ds.map intC) :: ownR 40 5 (.slice A' m c') m (es.map EntC.cells) :: [])) (fun _ iv _ => n1 - (intOf iv).toNat)
  case atStart => exact ⟨0, 0, none, 0, [], List.replicate 8 noPast, List.replicate 8 0, rfl, rfl, Nat.zero_le _, rfl, honI_start, HSA.out.sw.seesNew fun w' => ⟨fun p hp => by rw [List.eq_of_mem_replicate hp]; exact chAt_nil w', fun u hu => by simp at hu⟩⟩
  case round =>
    obtain ⟨i, m, A', c', es, ps, ds, rfl, rfl, hi, hel, hI, hS⟩ := hrel
    obtain ⟨wo, rfl⟩ : ∃ wo : World, wo = wr := ⟨_, rfl⟩
    have HI := Lib.hid hI
    have HSO := Lib.hid hS
    have HEL := Lib.hid hel
    clear hI hS hel HSA
    by_cases hlt : i < n1
    · obtain ⟨⟨dv, fr, dy⟩, hx⟩ : ∃ v, sts[i]? = some v := ⟨_, List.getElem?_eq_getElem (by rw [HLS.out]; exact hlt)⟩
      obtain ⟨b, o, rfl, hbl, hc⟩ := (HS1.out.below HSO.out.base).2 i (stC (dv, fr, dy)) (by rw [List.getElem?_map, hx]; rfl)
      have q0 : wo.cell? ⟨b, o + i * 3, none⟩ = some (.int .i64 dv) := hc 0 _ rfl
      have q1 : wo.cell? ⟨b, o + i * 3 + 1, none⟩ = some (.int .i64 fr) := hc 1 _ rfl
      have q2 : wo.cell? ⟨b, o + i * 3 + 2, none⟩ = some (.int .i64 dy) := hc 2 _ rfl
      have hii : (i : Int) < (n1 : Int) := by omega
      have hi0 : (0 : Int) ≤ (i : Int) := by omega
      have hwi : IntKind.i64.wrap ((i : Int) + 1) = (i : Int) + 1 := IntWalk.i64_in _ (by omega)
      have HS2 := Lib.hid (HSO.out.box #[.int .i64 dv, .int .i64 fr, .int .i64 dy] 53)
      have HLI := Lib.hid hlt
      clear hx hc hlt
      go_upto_region 11 with (fail)
      generalize hWW : wo.alloc (.cells #[.int .i64 dv, .int .i64 fr, .int .i64 dy] 53) = W at *
      generalize hbx : wo.heap.size = bx at *
      clear hWW hbx q0 q1 q2 HSO
      obtain ⟨zX, kX, fX⟩ := HS2.out.loc
      by_cases hd0 : dv < 0
      · go_wp2_with (fail)
        go_roundw
        case rel => exact ⟨i + 1, m, A', c', es, ps, ds, rfl, by go_num, HLI.out, HEL.out, HI.out.mono, HS2.out.drop⟩
        case measure => have := HLI.out; simp [intOf]; omega
      by_cases hd8 : dv < 8
      case neg =>
        have hd8' : (8 : Int) ≤ dv := by omega
        go_wp2_with (fail)
        go_roundw
        case rel => exact ⟨i + 1, m, A', c', es, ps, ds, rfl, by go_num, HLI.out, HEL.out, HI.out.mono, HS2.out.drop⟩
        case measure => have := HLI.out; simp [intOf]; omega
      obtain ⟨d, rfl⟩ : ∃ d : Nat, dv = (d : Int) := ⟨dv.toNat, by omega⟩
      have hdd : d < 8 := by omega
      have hdp : (0 : Int) ≤ (d : Int) := by omega
      have hd8' : ¬ (8 : Int) ≤ (d : Int) := by omega
      have HDD := Lib.hid hdd
      have hK8 : ps.length = 8 := by have := HI.out.k8; unfold psV at this; simpa using this
      have HK8 := Lib.hid hK8
      clear hdd hK8
      go_upto_region 12 with (fail)
      go_cut [55] (fun s wx => s = .bool (decide (0 ≤ fr) && decide (fr < 8)) ∧ W = wx)
      case first =>
        by_cases hf0 : 0 ≤ fr
        · by_cases hf8 : fr < 8
          · go_wp2_with (fail)
            go_meet
            exact ⟨by simp [hf0, hf8], rfl⟩
          · have hf8' : (8 : Int) ≤ fr := by omega
            go_wp2_with (fail)
            go_meet
            exact ⟨by simp [hf0, hf8], rfl⟩
        · have hf0' : fr < 0 := by omega
          go_wp2_with (fail)
          go_meet
          exact ⟨by rw [decide_eq_false (show ¬ 0 ≤ fr by omega)]; rfl, rfl⟩
      case rest =>
      obtain ⟨rfl, rfl⟩ := hcut
      obtain ⟨fb, hfb⟩ : ∃ fb, (decide (0 ≤ fr) && decide (fr < 8)) = fb := ⟨_, rfl⟩
      rw [hfb]
      have HFB := Lib.hid hfb
      clear hfb zX kX fX
      go_upto_if 55 with (fail)
      go_cut [] (fun wy => ∃ ps' : List PastC, ps'.length = 8 ∧ HonI i (vsOf es) (psV ps') ds ∧ Sep w3 wy (boxR bx #[.int .i64 (d : Int), .int .i64 fr, .int .i64 dy] :: seesR (KnowAt ps' es) :: ownR 22 1 (.slice (some ⟨gK, 0, none⟩) 8 8) 8 (ps'.map PastC.cells) :: ownR 3 1 (.slice (some ⟨gD, 0, none⟩) 8 8) 8 (ds.map intC) :: ownR 40 5 (.slice A' m c') m (es.map EntC.cells) :: []))
      case first =>
        cases fb
        case false =>
          go_wp2_with (fail)
          go_meet
          exact ⟨ps, HK8.out, HI.out, HS2.out⟩
        have hfr : 0 ≤ fr ∧ fr < 8 := by simpa using HFB.out
        clear HFB
        obtain ⟨zX, kX, fX⟩ := HS2.out.loc
        obtain ⟨f, rfl⟩ : ∃ f : Nat, fr = (f : Int) := ⟨fr.toNat, by omega⟩
        have hff : f < 8 := by omega
        have HFF := Lib.hid hff
        obtain ⟨p, hp⟩ : ∃ p, ps[d]? = some p := ⟨_, List.getElem?_eq_getElem (by rw [HK8.out]; exact HDD.out)⟩
        obtain ⟨q, hq⟩ : ∃ q, ps[f]? = some q := ⟨_, List.getElem?_eq_getElem (by rw [HK8.out]; exact HFF.out)⟩
        have HPD := Lib.hid hp
        have HQF := Lib.hid hq
        have hpv : (psV ps).getD d [] = vsOf p.l := psV_at hp
        have hqv : (psV ps).getD f [] = vsOf q.l := psV_at hq
        have hpl : p.l.length ≤ 1000 := by
          have h1 := (HI.out.closed d HDD.out).len_le
          have h2 := HI.out.len
          rw [hpv, vsOf_len] at h1
          omega
        have hql : q.l.length ≤ 1000 := by
          have h1 := (HI.out.closed f HFF.out).len_le
          have h2 := HI.out.len
          rw [hqv, vsOf_len] at h1
          omega
        have HLRN := Lib.hid (HI.out.learn HDD.out HFF.out)
        rw [hpv, hqv] at HLRN
        obtain ⟨zK, kP, fK⟩ := HS2.out.r3.cellP hp
        obtain ⟨_, kQ, _⟩ := HS2.out.r3.cellP hq
        have HBW := Lib.hid (HB.out.trans (HS2.out.base.mono HB.out.size))
        have HKA := Lib.hid HS2.out.sw.sees
        have HJN : Hid (∀ W', Below W.heap.size W W' → Calls Tryd.prog 10 #[.slice p.A p.l.length p.c, .slice q.A q.l.length q.c] W' (GivesF W' (joinF (vsOf p.l ++ vsOf q.l)))) := Lib.hid fun W' hbw => Join_anyF W' (HEV.out _ (HBW.out.trans (hbw.mono HBW.out.size))).1 (HEV.out _ (HBW.out.trans (hbw.mono HBW.out.size))).2 p.A q.A p.l.length q.l.length p.c q.c p.l q.l ((HKA.out.1 p (List.mem_of_getElem? HPD.out)).below hbw) ((HKA.out.1 q (List.mem_of_getElem? HQF.out)).below hbw) hpl hql
        have c0 := kX 0
        have c1 := kX 1
        simp only [List.getElem?_toArray, List.getElem?_cons_succ, List.getElem?_cons_zero] at c0 c1
        have hS : ∀ w', Below W.heap.size W w' → (w'.cell? ⟨bx, 0, none⟩ = some (.int .i64 (d : Int)) ∧ w'.cell? ⟨bx, 1, none⟩ = some (.int .i64 (f : Int))) := fun w' hbw => ⟨(hbw.cell (p := ⟨bx, 0, none⟩) zX).trans c0, (hbw.cell (p := ⟨bx, 1, none⟩) zX).trans c1⟩
        have HSS := Lib.hid hS
        have hT : ∀ w', Below W.heap.size W w' → (w'.cell? ⟨gK, d, none⟩ = some (.slice p.A p.l.length p.c) ∧ w'.cell? ⟨gK, f, none⟩ = some (.slice q.A q.l.length q.c)) := fun w' hbw => ⟨(hbw.cell (p := ⟨gK, d, none⟩) zK).trans kP, (hbw.cell (p := ⟨gK, f, none⟩) zK).trans kQ⟩
        have HTT := Lib.hid hT
        clear hS hT hp hq hpv hqv hff hpl hql zK kP fK kQ c0 c1
        go_upto_region 13 with (fail)
        clear zX kX fX
        refine wpTill.startN 16 (S := fun w' => w'.cell? ⟨bx, 0, none⟩ = some (.int .i64 (d : Int)) ∧ w'.cell? ⟨bx, 1, none⟩ = some (.int .i64 (f : Int))) (T := fun w' => w'.cell? ⟨gK, d, none⟩ = some (.slice p.A p.l.length p.c) ∧ w'.cell? ⟨gK, f, none⟩ = some (.slice q.A q.l.length q.c)) (m := 15) rfl (by kernel_rfl) ?_
        have HBZ := Lib.hid (Below.drew (Below.refl W.heap.size W))
        generalize W.drew = wz at *
        refine wpTill.take (i := 0) (v := ?_) (by rfl) rfl (by kernel_rfl) (by kernel_rfl) (by kernel_rfl) (by exact fun _ _ _ h => h) (HSS.out _ HBZ.out) (fun _ => HTT.out _ HBZ.out) (Or.inl ⟨by rfl, ?_⟩) ?_
        rotate_left
        · (intro w' hSw; (try dsimp only at hSw); go_simp; (try with_reducible rfl))
        (try simp only [Act.put, List.setIfInBounds_toArray, List.set_cons_zero, List.set_cons_succ, List.getElem_toArray, List.getElem_cons_zero, List.getElem_cons_succ])
        refine wpTill.take (i := 1) (v := ?_) (by rfl) rfl (by kernel_rfl) (by kernel_rfl) (by kernel_rfl) (by exact fun _ _ _ h => h) (HSS.out _ HBZ.out) (fun _ => HTT.out _ HBZ.out) (Or.inl ⟨by rfl, ?_⟩) ?_
        rotate_left
        · (intro w' hSw; (try dsimp only at hSw); go_simp; (try with_reducible rfl))
        (try simp only [Act.put, List.setIfInBounds_toArray, List.set_cons_zero, List.set_cons_succ, List.getElem_toArray, List.getElem_cons_zero, List.getElem_cons_succ])
        refine wpTill.take (i := 2) (v := ?_) (by rfl) rfl (by kernel_rfl) (by kernel_rfl) (by kernel_rfl) (by exact fun _ _ _ h => h) (HSS.out _ HBZ.out) (fun _ => HTT.out _ HBZ.out) (Or.inl ⟨by rfl, ?_⟩) ?_
        rotate_left
        · (intro w' hSw; (try dsimp only at hSw); go_simp; (try with_reducible rfl))
        (try simp only [Act.put, List.setIfInBounds_toArray, List.set_cons_zero, List.set_cons_succ, List.getElem_toArray, List.getElem_cons_zero, List.getElem_cons_succ])
        refine wpTill.take (i := 3) (v := ?_) (by rfl) rfl (by kernel_rfl) (by kernel_rfl) (by kernel_rfl) (by exact fun _ _ _ h => h) (HSS.out _ HBZ.out) (fun _ => HTT.out _ HBZ.out) (Or.inl ⟨by rfl, ?_⟩) ?_
        rotate_left
        · (intro w' hSw; (try dsimp only at hSw); go_simp; (try with_reducible rfl))
        (try simp only [Act.put, List.setIfInBounds_toArray, List.set_cons_zero, List.set_cons_succ, List.getElem_toArray, List.getElem_cons_zero, List.getElem_cons_succ])
        refine wpTill.take (i := 4) (v := ?_) (by rfl) rfl (by kernel_rfl) (by kernel_rfl) (by kernel_rfl) (by exact fun _ _ _ h => h) (HSS.out _ HBZ.out) (fun _ => HTT.out _ HBZ.out) (Or.inl ⟨by rfl, ?_⟩) ?_
        rotate_left
        · (intro w' hSw; (try dsimp only at hSw); go_simp; (try with_reducible rfl))
        (try simp only [Act.put, List.setIfInBounds_toArray, List.set_cons_zero, List.set_cons_succ, List.getElem_toArray, List.getElem_cons_zero, List.getElem_cons_succ])
        refine wpTill.take (i := 5) (v := ?_) (by rfl) rfl (by kernel_rfl) (by kernel_rfl) (by kernel_rfl) (by exact fun _ _ _ h => h) (HSS.out _ HBZ.out) (fun _ => HTT.out _ HBZ.out) (Or.inl ⟨by rfl, ?_⟩) ?_
        rotate_left
        · (intro w' hSw; (try dsimp only at hSw); go_simp; (try with_reducible rfl))
        (try simp only [Act.put, List.setIfInBounds_toArray, List.set_cons_zero, List.set_cons_succ, List.getElem_toArray, List.getElem_cons_zero, List.getElem_cons_succ])
        refine wpTill.take (i := 6) (v := ?_) (by rfl) rfl (by kernel_rfl) (by kernel_rfl) (by kernel_rfl) (by exact fun _ _ _ h => h) (HSS.out _ HBZ.out) (fun _ => HTT.out _ HBZ.out) (Or.inl ⟨by rfl, ?_⟩) ?_
        rotate_left
        · (intro w' hSw; (try dsimp only at hSw); go_simp; (try with_reducible rfl))
        (try simp only [Act.put, List.setIfInBounds_toArray, List.set_cons_zero, List.set_cons_succ, List.getElem_toArray, List.getElem_cons_zero, List.getElem_cons_succ])
        refine wpTill.takeT (i := 7) (v := ?_) (by rfl) rfl (by kernel_rfl) (by kernel_rfl) (by kernel_rfl) (by exact fun _ _ _ h => h) (HSS.out _ HBZ.out) (HTT.out _ HBZ.out) rfl (by kernel_rfl) (Or.inl ⟨by rfl, ?_⟩) ?_
        rotate_left
        · (intro w' hSw; (try dsimp only at hSw); go_simp; (try with_reducible rfl))
        (try simp only [Act.put, List.setIfInBounds_toArray, List.set_cons_zero, List.set_cons_succ, List.getElem_toArray, List.getElem_cons_zero, List.getElem_cons_succ])
        refine wpTill.take (i := 8) (v := ?_) (by rfl) rfl (by kernel_rfl) (by kernel_rfl) (by kernel_rfl) (by exact fun _ _ _ h => h) (HSS.out _ HBZ.out) (fun _ => HTT.out _ HBZ.out) (Or.inl ⟨by rfl, ?_⟩) ?_
        rotate_left
        · (intro w' hSw; (try dsimp only at hSw); go_simp; (try with_reducible rfl))
        (try simp only [Act.put, List.setIfInBounds_toArray, List.set_cons_zero, List.set_cons_succ, List.getElem_toArray, List.getElem_cons_zero, List.getElem_cons_succ])
        refine wpTill.take (i := 9) (v := ?_) (by rfl) rfl (by kernel_rfl) (by kernel_rfl) (by kernel_rfl) (by exact fun _ _ _ h => h) (HSS.out _ HBZ.out) (fun _ => HTT.out _ HBZ.out) (Or.inl ⟨by rfl, ?_⟩) ?_
        rotate_left
        · (intro w' hSw; (try dsimp only at hSw); go_simp; (try with_reducible rfl))
        (try simp only [Act.put, List.setIfInBounds_toArray, List.set_cons_zero, List.set_cons_succ, List.getElem_toArray, List.getElem_cons_zero, List.getElem_cons_succ])
        refine wpTill.take (i := 10) (v := ?_) (by rfl) rfl (by kernel_rfl) (by kernel_rfl) (by kernel_rfl) (by exact fun _ _ _ h => h) (HSS.out _ HBZ.out) (fun _ => HTT.out _ HBZ.out) (Or.inl ⟨by rfl, ?_⟩) ?_
        rotate_left
        · (intro w' hSw; (try dsimp only at hSw); go_simp; (try with_reducible rfl))
        (try simp only [Act.put, List.setIfInBounds_toArray, List.set_cons_zero, List.set_cons_succ, List.getElem_toArray, List.getElem_cons_zero, List.getElem_cons_succ])
        refine wpTill.take (i := 11) (v := ?_) (by rfl) rfl (by kernel_rfl) (by kernel_rfl) (by kernel_rfl) (by exact fun _ _ _ h => h) (HSS.out _ HBZ.out) (fun _ => HTT.out _ HBZ.out) (Or.inl ⟨by rfl, ?_⟩) ?_
        rotate_left
        · (intro w' hSw; (try dsimp only at hSw); go_simp; (try with_reducible rfl))
        (try simp only [Act.put, List.setIfInBounds_toArray, List.set_cons_zero, List.set_cons_succ, List.getElem_toArray, List.getElem_cons_zero, List.getElem_cons_succ])
        refine wpTill.takeT (i := 12) (v := ?_) (by rfl) rfl (by kernel_rfl) (by kernel_rfl) (by kernel_rfl) (by exact fun _ _ _ h => h) (HSS.out _ HBZ.out) (HTT.out _ HBZ.out) rfl (by kernel_rfl) (Or.inl ⟨by rfl, ?_⟩) ?_
        rotate_left
        · (intro w' hSw; (try dsimp only at hSw); go_simp; (try with_reducible rfl))
        (try simp only [Act.put, List.setIfInBounds_toArray, List.set_cons_zero, List.set_cons_succ, List.getElem_toArray, List.getElem_cons_zero, List.getElem_cons_succ])
        refine wpTill.step (i := 13) (by kernel_rfl) (by rfl) (fun K' hK => ?_)
        replace hK := Lib.hid hK
        go_simp
        go_at_call 10
        ((with_reducible refine (HJN.out _ HBZ.out).mono ?_); rintro _ wy ⟨A2, c2, l2, rfl, hch, hv, hby⟩)
        have hln : l2.length = (joinF (vsOf p.l ++ vsOf q.l)).length := by rw [← hv, vsOf_len]
        rw [← hln] at hch ⊢
        have HS3 := Lib.hid (((HS2.out.below HBZ.out).sw.seesAdd hby hch.rests).seesTurn (ψ := KnowAt (ps.set d ⟨A2, c2, l2⟩) es) fun W' h => h.1.set h.2)
        have HV2 := Lib.hid hv
        have HBY := Lib.hid (HBZ.out.trans (hby.mono HBZ.out.size))
        clear hch hv hln hby
        refine hK.out _ _ (HSS.out _ HBY.out) (fun _ => HTT.out _ HBY.out) ?_
        clear hK K'
        (try simp only [Act.put, List.setIfInBounds_toArray, List.set_cons_zero, List.set_cons_succ, List.getElem_toArray, List.getElem_cons_zero, List.getElem_cons_succ])
        refine wpTill.take (i := 14) (v := ?_) (by rfl) rfl (by kernel_rfl) (by kernel_rfl) (by kernel_rfl) (by exact fun _ _ _ h => h) (HSS.out _ HBY.out) (fun _ => HTT.out _ HBY.out) (Or.inl ⟨by rfl, ?_⟩) ?_
        rotate_left
        · (intro w' hSw; (try dsimp only at hSw); go_simp; (try with_reducible rfl))
        (try simp only [Act.put, List.setIfInBounds_toArray, List.set_cons_zero, List.set_cons_succ, List.getElem_toArray, List.getElem_cons_zero, List.getElem_cons_succ])
        obtain ⟨zK, kP, fK⟩ := HS3.out.r3.cellP HPD.out
        have HS4 := Lib.hid ((HS3.out.r3.setP HPD.out ⟨A2, c2, l2⟩).l3.sw)
        simp only at HS4
        refine wpTill.step (i := 15) (by kernel_rfl) (by rfl) (fun K' hK => ?_)
        replace hK := Lib.hid hK
        go_simp
        refine hK.out _ _ ⟨HS4.out.loc.cell 0, HS4.out.loc.cell 1⟩ (fun h => nomatch (show true = false from h)) ?_
        clear hK K'
        (try simp only [Act.put, List.setIfInBounds_toArray, List.set_cons_zero, List.set_cons_succ, List.getElem_toArray, List.getElem_cons_zero, List.getElem_cons_succ])
        refine wpTill.stop (by kernel_rfl) ?_ _
        go_wp2_with (fail)
        go_meet
        exact ⟨ps.set d ⟨A2, c2, l2⟩, by rw [List.length_set]; exact HK8.out, by rw [psV_set]; simp only; rw [HV2.out]; exact HLRN.out, HS4.out⟩
      case rest =>
      obtain ⟨ps', hk8, hI2, hS2⟩ := hcut
      obtain ⟨w4, rfl⟩ : ∃ w4 : World, w4 = wc := ⟨_, rfl⟩
      have HK8b := Lib.hid hk8
      have HIb := Lib.hid hI2
      have HS3 := Lib.hid hS2
      clear hk8 hI2 hS2 HS2 HK8 HI HFB
      obtain ⟨td, htd⟩ : ∃ te, ds[d]? = some te := ⟨_, List.getElem?_eq_getElem (by rw [HIb.out.d8]; exact HDD.out)⟩
      have hdb := HIb.out.days d HDD.out
      rw [List.getD_eq_getElem?_getD, htd, Option.getD_some] at hdb
      obtain ⟨r1, hr1⟩ : ∃ r, dy.tmod 9 = r := ⟨_, rfl⟩
      have hr1b : -8 ≤ r1 ∧ r1 ≤ 8 := by rw [← hr1]; exact tmod9 dy
      obtain ⟨r2, hr2⟩ : ∃ r, (r1 + 9).tmod 9 = r := ⟨_, rfl⟩
      have hr2b : 0 ≤ r2 ∧ r2 ≤ 8 := by rw [← hr2, Int.tmod_eq_emod_of_nonneg (by omega)]; omega
      have hr2e : (r1 + 9) % 9 = r2 := by rw [← hr2, Int.tmod_eq_emod_of_nonneg (by omega)]
      have hw1 : IntKind.i64.wrap r1 = r1 := IntWalk.i64_in _ (by omega)
      have hw2 : IntKind.i64.wrap (r1 + 9) = r1 + 9 := IntWalk.i64_in _ (by omega)
      have hw3 : IntKind.i64.wrap r2 = r2 := IntWalk.i64_in _ (by omega)
      have hw4 : IntKind.i64.wrap (td + r2) = td + r2 := IntWalk.i64_in _ (by omega)
      obtain ⟨zD, kD, fD⟩ := HS3.out.r4.cellI htd
      obtain ⟨zX, kX, fX⟩ := HS3.out.loc
      have HS4 := Lib.hid ((HS3.out.r4.setI htd (td + r2)).l4)
      have HTD := Lib.hid htd
      have HR2 := Lib.hid hr2b
      clear htd hdb hr1b hr2b
      go_upto_region 14 with (fail)
      go_cut [] (fun wy => Sep w3 wy (boxR bx #[.int .i64 (d : Int), .int .i64 fr, .int .i64 dy] :: seesR (KnowAt ps' es) :: ownR 22 1 (.slice (some ⟨gK, 0, none⟩) 8 8) 8 (ps'.map PastC.cells) :: ownR 3 1 (.slice (some ⟨gD, 0, none⟩) 8 8) 8 ((ds.set d (td + r2)).map intC) :: ownR 40 5 (.slice A' m c') m (es.map EntC.cells) :: []))
      case first =>
        go_region_law (fail)
        all_goals go_wp2_with (fail)
        all_goals go_meet
        all_goals exact HS4.out.drew
      case rest =>
      obtain ⟨w5, rfl⟩ : ∃ w5 : World, w5 = wc := ⟨_, rfl⟩
      have HS5 := Lib.hid hcut
      clear hcut HS3 HS4 zX kX fX zD kD fD
      obtain ⟨p, hp⟩ : ∃ p, ps'[d]? = some p := ⟨_, List.getElem?_eq_getElem (by rw [HK8b.out]; exact HDD.out)⟩
      have HPD2 := Lib.hid hp
      have hpv : (psV ps').getD d [] = vsOf p.l := psV_at hp
      have hpl : p.l.length ≤ 1000 := by
        have h1 := (HIb.out.closed d HDD.out).len_le
        have h2 := HIb.out.len
        rw [hpv, vsOf_len] at h1
        omega
      have hpast := HIb.out.past HDD.out
      have hheads := HIb.out.hd HDD.out
      have hstep := HIb.out.step (by have := HLI.out; omega) HDD.out HR2.out.1 HR2.out.2
      have hdt : ds.getD d 0 = td := by rw [List.getD_eq_getElem?_getD, HTD.out]; rfl
      rw [hpv] at hpast hheads hstep
      rw [hdt] at hstep
      obtain ⟨NV, hNV⟩ : ∃ v, newV (vsOf p.l) d (td + r2) = v := ⟨_, rfl⟩
      rw [hNV] at hstep
      obtain ⟨V, hV⟩ : ∃ v, ownF (vsOf p.l) (d : Int) = v := ⟨_, rfl⟩
      rw [hV] at hpast hstep
      obtain ⟨nP, hnP⟩ : ∃ n, V.length = n := ⟨_, rfl⟩
      have hnP1 : nP ≤ 1000 := by
        have h1 : V.length ≤ (vsOf p.l).length := by rw [← hV]; unfold ownF; exact List.length_filter_le ..
        rw [vsOf_len] at h1
        omega
      have HSTEP := Lib.hid hstep
      have HTD2 : Hid ((ds.set d (td + r2))[d]? = some (td + r2)) := Lib.hid (by rw [List.getElem?_set, if_pos rfl, if_pos (by rw [HIb.out.d8]; exact HDD.out)])
      have HBW := Lib.hid (HB.out.trans (HS5.out.base.mono HB.out.size))
      have HKA := Lib.hid HS5.out.sw.sees
      have hKW : ∀ W', Below w5.heap.size w5 W' → Env B0 W' ∧ B0 ≤ W'.heap.size := fun W' hbw => HEV.out _ (HBW.out.trans (hbw.mono HBW.out.size))
      have HKW := Lib.hid hKW
      have HPA : Hid (∀ W', Below w5.heap.size w5 W' → Calls Tryd.prog 15 #[.slice p.A p.l.length p.c, .int .i64 (d : Int)] W' fun e w' => ∃ A c l, e = .returned (.slice A nP c) ∧ ChAt w' A nP l ∧ vsOf l = V ∧ Below W'.heap.size W' w') := Lib.hid fun W' hbw => by
        have h := Past_any W' (HKW.out _ hbw).1 (HKW.out _ hbw).2 p.A p.l.length p.c p.l ((HKA.out.1 p (List.mem_of_getElem? HPD2.out)).below hbw) hpl (d : Int)
        rw [hpast] at h
        rw [← hnP]
        exact h
      have HHE : Hid (∀ W', Below w5.heap.size w5 W' → Calls Tryd.prog 17 #[.slice p.A p.l.length p.c] W' fun e w' => ∃ g, e = .returned (.slice (some ⟨g, 0, none⟩) 8 8) ∧ Sl w' 1 (some ⟨g, 0, none⟩) 8 ((hdI (vsOf p.l)).map intC) ∧ Below W'.heap.size W' w') := Lib.hid fun W' hbw => by
        refine (Heads_any W' (HKW.out _ hbw).1 (HKW.out _ hbw).2 p.A p.l.length p.c p.l ((HKA.out.1 p (List.mem_of_getElem? HPD2.out)).below hbw) hpl).mono ?_
        rintro e w' ⟨g, he, ho, hb⟩
        refine ⟨g, he, ?_, hb⟩
        have := ho.sl'
        rw [show (ordF (vsOf p.l)).1.map natC = (hdI (vsOf p.l)).map intC by simp [natC, intC]] at this
        exact this
      have HNX : Hid (∀ (W' : World) (A : Option Addr) (c : Nat) (l : List EntC) (g : Nat), ChAt W' A nP l → vsOf l = V → Sl W' 1 (some ⟨g, 0, none⟩) 8 ((hdI (vsOf p.l)).map intC) → Calls Tryd.prog 25 #[.slice A nP c, .int .i64 (d : Int), .int .i64 (td + r2), .slice (some ⟨g, 0, none⟩) 8 8, .string ⟨#[116]⟩] W' fun e w' => ∃ x : EntC, x.v = NV ∧ e = .returned (.tuple #[.agg #[.int .i64 x.v.dev, .int .i64 x.v.no, .int .i64 x.v.day, .slice x.A x.v.seen.length x.c, .string ⟨x.v.text.toArray⟩], .int .i64 0]) ∧ SlF W' w' 1 x.A x.v.seen.length (x.v.seen.map intC) ∧ Below W'.heap.size W' w') := Lib.hid fun W' A c l g h1 h2 h3 => by
        exact Next_any W' A nP c l h1 hnP1 (d : Int) (td + r2) (some ⟨g, 0, none⟩) 8 8 (hdI (vsOf p.l)) h3 tB (by simp) (NV, 0) (by rw [h2]; exact HSTEP.out.1)
      obtain ⟨zK, kP, fK⟩ := HS5.out.r3.cellP hp
      obtain ⟨zD, kD, fD⟩ := HS5.out.r4.cellI HTD2.out
      obtain ⟨zX, kX, fX⟩ := HS5.out.loc
      have c0 := kX 0
      simp only [List.getElem?_toArray, List.getElem?_cons_zero] at c0
      have hS : ∀ w', Below w5.heap.size w5 w' → (w'.cell? ⟨bx, 0, none⟩ = some (.int .i64 (d : Int)) ∧ w'.cell? ⟨gK, d, none⟩ = some (.slice p.A p.l.length p.c) ∧ w'.cell? ⟨gD, d, none⟩ = some (.int .i64 (td + r2))) := fun w' hbw => ⟨(hbw.cell (p := ⟨bx, 0, none⟩) zX).trans c0, (hbw.cell (p := ⟨gK, d, none⟩) zK).trans kP, (hbw.cell (p := ⟨gD, d, none⟩) zD).trans kD⟩
      have HSS := Lib.hid hS
      clear hS hp hpv hpl hpast hheads hstep hdt hV hnP hnP1 hKW zK kP fK zD kD fD zX kX fX c0 hr1 hr2 hr2e hw1 hw2 hw3 hw4
      go_upto_region 15 with (fail)
      go_cut [11, 12] (fun s11 s12 wy => ∃ (gX : Nat) (x : EntC), s11 = .pointer (some ⟨gX, 0, none⟩) ∧ s12 = .int .i64 0 ∧ x.v = NV ∧ Sep w3 wy (boxR gX x.cells.toArray :: boxR bx #[.int .i64 (d : Int), .int .i64 fr, .int .i64 dy] :: seesR (fun W' => KnowAt ps' es W' ∧ EntAt W' x) :: ownR 22 1 (.slice (some ⟨gK, 0, none⟩) 8 8) 8 (ps'.map PastC.cells) :: ownR 3 1 (.slice (some ⟨gD, 0, none⟩) 8 8) 8 ((ds.set d (td + r2)).map intC) :: ownR 40 5 (.slice A' m c') m (es.map EntC.cells) :: []))
      case first =>
        refine wpTill.startN 28 (S := fun w' => w'.cell? ⟨bx, 0, none⟩ = some (.int .i64 (d : Int)) ∧ w'.cell? ⟨gK, d, none⟩ = some (.slice p.A p.l.length p.c) ∧ w'.cell? ⟨gD, d, none⟩ = some (.int .i64 (td + r2))) (T := fun _ => True) (m := 300) rfl (by kernel_rfl) ?_
        have HBZ := Lib.hid (Below.drew (Below.refl w5.heap.size w5))
        have HQ := Lib.hid HS5.out.drew
        generalize w5.drew = wz at *
        refine wpTill.take (i := 0) (v := ?_) (by rfl) rfl (by kernel_rfl) (by kernel_rfl) (by kernel_rfl) (by exact fun _ _ _ h => h) (HSS.out _ HBZ.out) (fun _ => trivial) (Or.inl ⟨by rfl, ?_⟩) ?_
        rotate_left
        · (intro w' hSw; (try dsimp only at hSw); go_simp; (try with_reducible rfl))
        (try simp only [Act.put, List.setIfInBounds_toArray, List.set_cons_zero, List.set_cons_succ, List.getElem_toArray, List.getElem_cons_zero, List.getElem_cons_succ])
        refine wpTill.take (i := 1) (v := ?_) (by rfl) rfl (by kernel_rfl) (by kernel_rfl) (by kernel_rfl) (by exact fun _ _ _ h => h) (HSS.out _ HBZ.out) (fun _ => trivial) (Or.inl ⟨by rfl, ?_⟩) ?_
        rotate_left
        · (intro w' hSw; (try dsimp only at hSw); go_simp; (try with_reducible rfl))
        (try simp only [Act.put, List.setIfInBounds_toArray, List.set_cons_zero, List.set_cons_succ, List.getElem_toArray, List.getElem_cons_zero, List.getElem_cons_succ])
        refine wpTill.take (i := 2) (v := ?_) (by rfl) rfl (by kernel_rfl) (by kernel_rfl) (by kernel_rfl) (by exact fun _ _ _ h => h) (HSS.out _ HBZ.out) (fun _ => trivial) (Or.inl ⟨by rfl, ?_⟩) ?_
        rotate_left
        · (intro w' hSw; (try dsimp only at hSw); go_simp; (try with_reducible rfl))
        (try simp only [Act.put, List.setIfInBounds_toArray, List.set_cons_zero, List.set_cons_succ, List.getElem_toArray, List.getElem_cons_zero, List.getElem_cons_succ])
        refine wpTill.take (i := 3) (v := ?_) (by rfl) rfl (by kernel_rfl) (by kernel_rfl) (by kernel_rfl) (by exact fun _ _ _ h => h) (HSS.out _ HBZ.out) (fun _ => trivial) (Or.inl ⟨by rfl, ?_⟩) ?_
        rotate_left
        · (intro w' hSw; (try dsimp only at hSw); go_simp; (try with_reducible rfl))
        (try simp only [Act.put, List.setIfInBounds_toArray, List.set_cons_zero, List.set_cons_succ, List.getElem_toArray, List.getElem_cons_zero, List.getElem_cons_succ])
        refine wpTill.take (i := 4) (v := ?_) (by rfl) rfl (by kernel_rfl) (by kernel_rfl) (by kernel_rfl) (by exact fun _ _ _ h => h) (HSS.out _ HBZ.out) (fun _ => trivial) (Or.inl ⟨by rfl, ?_⟩) ?_
        rotate_left
        · (intro w' hSw; (try dsimp only at hSw); go_simp; (try with_reducible rfl))
        (try simp only [Act.put, List.setIfInBounds_toArray, List.set_cons_zero, List.set_cons_succ, List.getElem_toArray, List.getElem_cons_zero, List.getElem_cons_succ])
        refine wpTill.take (i := 5) (v := ?_) (by rfl) rfl (by kernel_rfl) (by kernel_rfl) (by kernel_rfl) (by exact fun _ _ _ h => h) (HSS.out _ HBZ.out) (fun _ => trivial) (Or.inl ⟨by rfl, ?_⟩) ?_
        rotate_left
        · (intro w' hSw; (try dsimp only at hSw); go_simp; (try with_reducible rfl))
        (try simp only [Act.put, List.setIfInBounds_toArray, List.set_cons_zero, List.set_cons_succ, List.getElem_toArray, List.getElem_cons_zero, List.getElem_cons_succ])
        refine wpTill.take (i := 6) (v := ?_) (by rfl) rfl (by kernel_rfl) (by kernel_rfl) (by kernel_rfl) (by exact fun _ _ _ h => h) (HSS.out _ HBZ.out) (fun _ => trivial) (Or.inl ⟨by rfl, ?_⟩) ?_
        rotate_left
        · (intro w' hSw; (try dsimp only at hSw); go_simp; (try with_reducible rfl))
        (try simp only [Act.put, List.setIfInBounds_toArray, List.set_cons_zero, List.set_cons_succ, List.getElem_toArray, List.getElem_cons_zero, List.getElem_cons_succ])
        refine wpTill.take (i := 8) (v := ?_) (by rfl) rfl (by kernel_rfl) (by kernel_rfl) (by kernel_rfl) (by exact fun _ _ _ h => h) (HSS.out _ HBZ.out) (fun _ => trivial) (Or.inl ⟨by rfl, ?_⟩) ?_
        rotate_left
        · (intro w' hSw; (try dsimp only at hSw); go_simp; (try with_reducible rfl))
        (try simp only [Act.put, List.setIfInBounds_toArray, List.set_cons_zero, List.set_cons_succ, List.getElem_toArray, List.getElem_cons_zero, List.getElem_cons_succ])
        refine wpTill.take (i := 9) (v := ?_) (by rfl) rfl (by kernel_rfl) (by kernel_rfl) (by kernel_rfl) (by exact fun _ _ _ h => h) (HSS.out _ HBZ.out) (fun _ => trivial) (Or.inl ⟨by rfl, ?_⟩) ?_
        rotate_left
        · (intro w' hSw; (try dsimp only at hSw); go_simp; (try with_reducible rfl))
        (try simp only [Act.put, List.setIfInBounds_toArray, List.set_cons_zero, List.set_cons_succ, List.getElem_toArray, List.getElem_cons_zero, List.getElem_cons_succ])
        refine wpTill.take (i := 10) (v := ?_) (by rfl) rfl (by kernel_rfl) (by kernel_rfl) (by kernel_rfl) (by exact fun _ _ _ h => h) (HSS.out _ HBZ.out) (fun _ => trivial) (Or.inl ⟨by rfl, ?_⟩) ?_
        rotate_left
        · (intro w' hSw; (try dsimp only at hSw); go_simp; (try with_reducible rfl))
        (try simp only [Act.put, List.setIfInBounds_toArray, List.set_cons_zero, List.set_cons_succ, List.getElem_toArray, List.getElem_cons_zero, List.getElem_cons_succ])
        refine wpTill.take (i := 11) (v := ?_) (by rfl) rfl (by kernel_rfl) (by kernel_rfl) (by kernel_rfl) (by exact fun _ _ _ h => h) (HSS.out _ HBZ.out) (fun _ => trivial) (Or.inl ⟨by rfl, ?_⟩) ?_
        rotate_left
        · (intro w' hSw; (try dsimp only at hSw); go_simp; (try with_reducible rfl))
        (try simp only [Act.put, List.setIfInBounds_toArray, List.set_cons_zero, List.set_cons_succ, List.getElem_toArray, List.getElem_cons_zero, List.getElem_cons_succ])
        refine wpTill.take (i := 12) (v := ?_) (by rfl) rfl (by kernel_rfl) (by kernel_rfl) (by kernel_rfl) (by exact fun _ _ _ h => h) (HSS.out _ HBZ.out) (fun _ => trivial) (Or.inl ⟨by rfl, ?_⟩) ?_
        rotate_left
        · (intro w' hSw; (try dsimp only at hSw); go_simp; (try with_reducible rfl))
        (try simp only [Act.put, List.setIfInBounds_toArray, List.set_cons_zero, List.set_cons_succ, List.getElem_toArray, List.getElem_cons_zero, List.getElem_cons_succ])
        refine wpTill.take (i := 13) (v := ?_) (by rfl) rfl (by kernel_rfl) (by kernel_rfl) (by kernel_rfl) (by exact fun _ _ _ h => h) (HSS.out _ HBZ.out) (fun _ => trivial) (Or.inl ⟨by rfl, ?_⟩) ?_
        rotate_left
        · (intro w' hSw; (try dsimp only at hSw); go_simp; (try with_reducible rfl))
        (try simp only [Act.put, List.setIfInBounds_toArray, List.set_cons_zero, List.set_cons_succ, List.getElem_toArray, List.getElem_cons_zero, List.getElem_cons_succ])
        refine wpTill.take (i := 14) (v := ?_) (by rfl) rfl (by kernel_rfl) (by kernel_rfl) (by kernel_rfl) (by exact fun _ _ _ h => h) (HSS.out _ HBZ.out) (fun _ => trivial) (Or.inl ⟨by rfl, ?_⟩) ?_
        rotate_left
        · (intro w' hSw; (try dsimp only at hSw); go_simp; (try with_reducible rfl))
        (try simp only [Act.put, List.setIfInBounds_toArray, List.set_cons_zero, List.set_cons_succ, List.getElem_toArray, List.getElem_cons_zero, List.getElem_cons_succ])
        refine wpTill.take (i := 15) (v := ?_) (by rfl) rfl (by kernel_rfl) (by kernel_rfl) (by kernel_rfl) (by exact fun _ _ _ h => h) (HSS.out _ HBZ.out) (fun _ => trivial) (Or.inl ⟨by rfl, ?_⟩) ?_
        rotate_left
        · (intro w' hSw; (try dsimp only at hSw); go_simp; (try with_reducible rfl))
        (try simp only [Act.put, List.setIfInBounds_toArray, List.set_cons_zero, List.set_cons_succ, List.getElem_toArray, List.getElem_cons_zero, List.getElem_cons_succ])
        refine wpTill.take (i := 16) (v := ?_) (by rfl) rfl (by kernel_rfl) (by kernel_rfl) (by kernel_rfl) (by exact fun _ _ _ h => h) (HSS.out _ HBZ.out) (fun _ => trivial) (Or.inl ⟨by rfl, ?_⟩) ?_
        rotate_left
        · (intro w' hSw; (try dsimp only at hSw); go_simp; (try with_reducible rfl))
        (try simp only [Act.put, List.setIfInBounds_toArray, List.set_cons_zero, List.set_cons_succ, List.getElem_toArray, List.getElem_cons_zero, List.getElem_cons_succ])
        refine wpTill.take (i := 17) (v := ?_) (by rfl) rfl (by kernel_rfl) (by kernel_rfl) (by kernel_rfl) (by exact fun _ _ _ h => h) (HSS.out _ HBZ.out) (fun _ => trivial) (Or.inl ⟨by rfl, ?_⟩) ?_
        rotate_left
        · (intro w' hSw; (try dsimp only at hSw); go_simp; (try with_reducible rfl))
        (try simp only [Act.put, List.setIfInBounds_toArray, List.set_cons_zero, List.set_cons_succ, List.getElem_toArray, List.getElem_cons_zero, List.getElem_cons_succ])
        refine wpTill.take (i := 18) (v := ?_) (by rfl) rfl (by kernel_rfl) (by kernel_rfl) (by kernel_rfl) (by exact fun _ _ _ h => h) (HSS.out _ HBZ.out) (fun _ => trivial) (Or.inl ⟨by rfl, ?_⟩) ?_
        rotate_left
        · (intro w' hSw; (try dsimp only at hSw); go_simp; (try with_reducible rfl))
        (try simp only [Act.put, List.setIfInBounds_toArray, List.set_cons_zero, List.set_cons_succ, List.getElem_toArray, List.getElem_cons_zero, List.getElem_cons_succ])
        refine wpTill.take (i := 19) (v := ?_) (by rfl) rfl (by kernel_rfl) (by kernel_rfl) (by kernel_rfl) (by exact fun _ _ _ h => h) (HSS.out _ HBZ.out) (fun _ => trivial) (Or.inl ⟨by rfl, ?_⟩) ?_
        rotate_left
        · (intro w' hSw; (try dsimp only at hSw); go_simp; (try with_reducible rfl))
        (try simp only [Act.put, List.setIfInBounds_toArray, List.set_cons_zero, List.set_cons_succ, List.getElem_toArray, List.getElem_cons_zero, List.getElem_cons_succ])
        refine wpTill.step2 (i := 7) (j := 25) (by kernel_rfl) (by rfl) (by rfl) (fun K' hK => ?_) (fun K' hK => ?_)
        rotate_left
        · as_aux_lemma =>
          replace hK := Lib.hid hK
          go_simp
          replace HQ := Lib.hid (HQ.out.box #[.int .i64 0, .int .i64 0, .int .i64 0, .slice none 0 0, .string ⟨#[]⟩] 40)
          replace HBZ := Lib.hid (HBZ.out.alloc HBZ.out.size (.cells #[.int .i64 0, .int .i64 0, .int .i64 0, .slice none 0 0, .string ⟨#[]⟩] 40))
          refine hK.out _ _ (HSS.out _ HBZ.out) (fun _ => trivial) ?_
          clear hK K'
          (try simp only [Act.put, List.setIfInBounds_toArray, List.set_cons_zero, List.set_cons_succ, List.getElem_toArray, List.getElem_cons_zero, List.getElem_cons_succ])
          generalize wz.alloc (.cells #[.int .i64 0, .int .i64 0, .int .i64 0, .slice none 0 0, .string ⟨#[]⟩] 40) = wX at *
          generalize wz.heap.size = gX at *
          refine wpTill.step (i := 7) (by kernel_rfl) (by rfl) (fun K' hK => ?_)
          replace hK := Lib.hid hK
          go_simp
          go_at_call 15
          ((with_reducible refine (HPA.out _ HBZ.out).mono ?_); rintro _ wP ⟨AP, cP, lP, rfl, hP, hvP, hbP⟩)
          have HP := Lib.hid hP
          have HVP := Lib.hid hvP
          replace HQ := Lib.hid (HQ.out.below hbP)
          replace HBZ := Lib.hid (HBZ.out.trans (hbP.mono HBZ.out.size))
          clear hP hvP hbP
          refine hK.out _ _ (HSS.out _ HBZ.out) (fun _ => trivial) ?_
          clear hK K'
          (try simp only [Act.put, List.setIfInBounds_toArray, List.set_cons_zero, List.set_cons_succ, List.getElem_toArray, List.getElem_cons_zero, List.getElem_cons_succ])
          refine wpTill.step (i := 20) (by kernel_rfl) (by rfl) (fun K' hK => ?_)
          replace hK := Lib.hid hK
          go_simp
          go_at_call 17
          ((with_reducible refine (HHE.out _ HBZ.out).mono ?_); rintro _ wH ⟨gH, rfl, hH, hbH⟩)
          have HH := Lib.hid hH
          replace HP := Lib.hid (HP.out.below hbH)
          replace HQ := Lib.hid (HQ.out.below hbH)
          replace HBZ := Lib.hid (HBZ.out.trans (hbH.mono HBZ.out.size))
          clear hH hbH
          refine hK.out _ _ (HSS.out _ HBZ.out) (fun _ => trivial) ?_
          clear hK K'
          (try simp only [Act.put, List.setIfInBounds_toArray, List.set_cons_zero, List.set_cons_succ, List.getElem_toArray, List.getElem_cons_zero, List.getElem_cons_succ])
          refine wpTill.step (i := 21) (by kernel_rfl) (by rfl) (fun K' hK => ?_)
          replace hK := Lib.hid hK
          go_simp
          go_at_call 25
          ((with_reducible refine (HNX.out _ _ _ _ _ HP.out HVP.out HH.out).mono ?_); rintro _ wN ⟨⟨⟨xd, xn, xy, xs, xt⟩, xA, xc⟩, hxv, rfl, hxf, hbN⟩)
          simp only at hxf hxv ⊢
          have HXV := Lib.hid hxv
          replace HQ := Lib.hid ((HQ.out.r3.seesAdd hbN (Sl.rests hxf)).l3)
          replace HBZ := Lib.hid (HBZ.out.trans (hbN.mono HBZ.out.size))
          clear hxv hxf hbN
          refine hK.out _ _ (HSS.out _ HBZ.out) (fun _ => trivial) ?_
          clear hK K'
          (try simp only [Act.put, List.setIfInBounds_toArray, List.set_cons_zero, List.set_cons_succ, List.getElem_toArray, List.getElem_cons_zero, List.getElem_cons_succ])
          refine wpTill.take (i := 22) (v := ?_) (by rfl) rfl (by kernel_rfl) (by kernel_rfl) (by kernel_rfl) (by exact fun _ _ _ h => h) (HSS.out _ HBZ.out) (fun _ => trivial) (Or.inl ⟨by rfl, ?_⟩) ?_
          rotate_left
          · (intro w' hSw; (try dsimp only at hSw); go_simp; (try with_reducible rfl))
          (try simp only [Act.put, List.setIfInBounds_toArray, List.set_cons_zero, List.set_cons_succ, List.getElem_toArray, List.getElem_cons_zero, List.getElem_cons_succ])
          refine wpTill.take (i := 23) (v := ?_) (by rfl) rfl (by kernel_rfl) (by kernel_rfl) (by kernel_rfl) (by exact fun _ _ _ h => h) (HSS.out _ HBZ.out) (fun _ => trivial) (Or.inl ⟨by rfl, ?_⟩) ?_
          rotate_left
          · (intro w' hSw; (try dsimp only at hSw); go_simp; (try with_reducible rfl))
          (try simp only [Act.put, List.setIfInBounds_toArray, List.set_cons_zero, List.set_cons_succ, List.getElem_toArray, List.getElem_cons_zero, List.getElem_cons_succ])
          refine wpTill.take (i := 24) (v := ?_) (by rfl) rfl (by kernel_rfl) (by kernel_rfl) (by kernel_rfl) (by exact fun _ _ _ h => h) (HSS.out _ HBZ.out) (fun _ => trivial) (Or.inl ⟨by rfl, ?_⟩) ?_
          rotate_left
          · (intro w' hSw; (try dsimp only at hSw); go_simp; (try with_reducible rfl))
          (try simp only [Act.put, List.setIfInBounds_toArray, List.set_cons_zero, List.set_cons_succ, List.getElem_toArray, List.getElem_cons_zero, List.getElem_cons_succ])
          obtain ⟨zE, kE, fE⟩ := HQ.out.loc
          refine wpTill.step (i := 26) (by kernel_rfl) (by rfl) (fun K' hK => ?_)
          replace hK := Lib.hid hK
          go_simp
          have HQ2 := Lib.hid (HQ.out.setEnt ⟨⟨xd, xn, xy, xs, xt⟩, xA, xc⟩)
          simp only [EntC.cells] at HQ2
          refine hK.out _ _ ⟨HQ2.out.sw.loc.cell 0, (HQ2.out.r4.cellP HPD2.out).2.1, (HQ2.out.r5.cellI HTD2.out).2.1⟩ (fun _ => trivial) ?_
          clear hK K'
          (try simp only [Act.put, List.setIfInBounds_toArray, List.set_cons_zero, List.set_cons_succ, List.getElem_toArray, List.getElem_cons_zero, List.getElem_cons_succ])
          refine wpTill.take (i := 27) (v := ?_) (by rfl) rfl (by kernel_rfl) (by kernel_rfl) (by kernel_rfl) (by exact fun _ _ _ h => h) ⟨HQ2.out.sw.loc.cell 0, (HQ2.out.r4.cellP HPD2.out).2.1, (HQ2.out.r5.cellI HTD2.out).2.1⟩ (fun _ => trivial) (Or.inl ⟨by rfl, ?_⟩) ?_
          rotate_left
          · (intro w' hSw; (try dsimp only at hSw); go_simp; (try with_reducible rfl))
          (try simp only [Act.put, List.setIfInBounds_toArray, List.set_cons_zero, List.set_cons_succ, List.getElem_toArray, List.getElem_cons_zero, List.getElem_cons_succ])
          refine wpTill.stop (by kernel_rfl) ?_ _
          go_wp2_with (fail)
          go_meet
          exact ⟨_, ⟨⟨xd, xn, xy, xs, xt⟩, xA, xc⟩, rfl, rfl, HXV.out, HQ2.out⟩
        replace hK := Lib.hid hK
        go_simp
        go_at_call 15
        ((with_reducible refine (HPA.out _ HBZ.out).mono ?_); rintro _ wP ⟨AP, cP, lP, rfl, hP, hvP, hbP⟩)
        have HP := Lib.hid hP
        have HVP := Lib.hid hvP
        replace HQ := Lib.hid (HQ.out.below hbP)
        replace HBZ := Lib.hid (HBZ.out.trans (hbP.mono HBZ.out.size))
        clear hP hvP hbP
        refine hK.out _ _ (HSS.out _ HBZ.out) (fun _ => trivial) ?_
        clear hK K'
        (try simp only [Act.put, List.setIfInBounds_toArray, List.set_cons_zero, List.set_cons_succ, List.getElem_toArray, List.getElem_cons_zero, List.getElem_cons_succ])
        refine wpTill.step2 (i := 20) (j := 25) (by kernel_rfl) (by rfl) (by rfl) (fun K' hK => ?_) (fun K' hK => ?_)
        rotate_left
        · as_aux_lemma =>
          replace hK := Lib.hid hK
          go_simp
          replace HQ := Lib.hid (HQ.out.box #[.int .i64 0, .int .i64 0, .int .i64 0, .slice none 0 0, .string ⟨#[]⟩] 40)
          replace HBZ := Lib.hid (HBZ.out.alloc HBZ.out.size (.cells #[.int .i64 0, .int .i64 0, .int .i64 0, .slice none 0 0, .string ⟨#[]⟩] 40))
          replace HP := Lib.hid (HP.out.below (below_alloc _ (.cells #[.int .i64 0, .int .i64 0, .int .i64 0, .slice none 0 0, .string ⟨#[]⟩] 40)))
          refine hK.out _ _ (HSS.out _ HBZ.out) (fun _ => trivial) ?_
          clear hK K'
          (try simp only [Act.put, List.setIfInBounds_toArray, List.set_cons_zero, List.set_cons_succ, List.getElem_toArray, List.getElem_cons_zero, List.getElem_cons_succ])
          generalize wP.alloc (.cells #[.int .i64 0, .int .i64 0, .int .i64 0, .slice none 0 0, .string ⟨#[]⟩] 40) = wX at *
          generalize wP.heap.size = gX at *
          refine wpTill.step (i := 20) (by kernel_rfl) (by rfl) (fun K' hK => ?_)
          replace hK := Lib.hid hK
          go_simp
          go_at_call 17
          ((with_reducible refine (HHE.out _ HBZ.out).mono ?_); rintro _ wH ⟨gH, rfl, hH, hbH⟩)
          have HH := Lib.hid hH
          replace HP := Lib.hid (HP.out.below hbH)
          replace HQ := Lib.hid (HQ.out.below hbH)
          replace HBZ := Lib.hid (HBZ.out.trans (hbH.mono HBZ.out.size))
          clear hH hbH
          refine hK.out _ _ (HSS.out _ HBZ.out) (fun _ => trivial) ?_
          clear hK K'
          (try simp only [Act.put, List.setIfInBounds_toArray, List.set_cons_zero, List.set_cons_succ, List.getElem_toArray, List.getElem_cons_zero, List.getElem_cons_succ])
          refine wpTill.step (i := 21) (by kernel_rfl) (by rfl) (fun K' hK => ?_)
          replace hK := Lib.hid hK
          go_simp
          go_at_call 25
          ((with_reducible refine (HNX.out _ _ _ _ _ HP.out HVP.out HH.out).mono ?_); rintro _ wN ⟨⟨⟨xd, xn, xy, xs, xt⟩, xA, xc⟩, hxv, rfl, hxf, hbN⟩)
          simp only at hxf hxv ⊢
          have HXV := Lib.hid hxv
          replace HQ := Lib.hid ((HQ.out.r3.seesAdd hbN (Sl.rests hxf)).l3)
          replace HBZ := Lib.hid (HBZ.out.trans (hbN.mono HBZ.out.size))
          clear hxv hxf hbN
          refine hK.out _ _ (HSS.out _ HBZ.out) (fun _ => trivial) ?_
          clear hK K'
          (try simp only [Act.put, List.setIfInBounds_toArray, List.set_cons_zero, List.set_cons_succ, List.getElem_toArray, List.getElem_cons_zero, List.getElem_cons_succ])
          refine wpTill.take (i := 22) (v := ?_) (by rfl) rfl (by kernel_rfl) (by kernel_rfl) (by kernel_rfl) (by exact fun _ _ _ h => h) (HSS.out _ HBZ.out) (fun _ => trivial) (Or.inl ⟨by rfl, ?_⟩) ?_
          rotate_left
          · (intro w' hSw; (try dsimp only at hSw); go_simp; (try with_reducible rfl))
          (try simp only [Act.put, List.setIfInBounds_toArray, List.set_cons_zero, List.set_cons_succ, List.getElem_toArray, List.getElem_cons_zero, List.getElem_cons_succ])
          refine wpTill.take (i := 23) (v := ?_) (by rfl) rfl (by kernel_rfl) (by kernel_rfl) (by kernel_rfl) (by exact fun _ _ _ h => h) (HSS.out _ HBZ.out) (fun _ => trivial) (Or.inl ⟨by rfl, ?_⟩) ?_
          rotate_left
          · (intro w' hSw; (try dsimp only at hSw); go_simp; (try with_reducible rfl))
          (try simp only [Act.put, List.setIfInBounds_toArray, List.set_cons_zero, List.set_cons_succ, List.getElem_toArray, List.getElem_cons_zero, List.getElem_cons_succ])
          refine wpTill.take (i := 24) (v := ?_) (by rfl) rfl (by kernel_rfl) (by kernel_rfl) (by kernel_rfl) (by exact fun _ _ _ h => h) (HSS.out _ HBZ.out) (fun _ => trivial) (Or.inl ⟨by rfl, ?_⟩) ?_
          rotate_left
          · (intro w' hSw; (try dsimp only at hSw); go_simp; (try with_reducible rfl))
          (try simp only [Act.put, List.setIfInBounds_toArray, List.set_cons_zero, List.set_cons_succ, List.getElem_toArray, List.getElem_cons_zero, List.getElem_cons_succ])
          obtain ⟨zE, kE, fE⟩ := HQ.out.loc
          refine wpTill.step (i := 26) (by kernel_rfl) (by rfl) (fun K' hK => ?_)
          replace hK := Lib.hid hK
          go_simp
          have HQ2 := Lib.hid (HQ.out.setEnt ⟨⟨xd, xn, xy, xs, xt⟩, xA, xc⟩)
          simp only [EntC.cells] at HQ2
          refine hK.out _ _ ⟨HQ2.out.sw.loc.cell 0, (HQ2.out.r4.cellP HPD2.out).2.1, (HQ2.out.r5.cellI HTD2.out).2.1⟩ (fun _ => trivial) ?_
          clear hK K'
          (try simp only [Act.put, List.setIfInBounds_toArray, List.set_cons_zero, List.set_cons_succ, List.getElem_toArray, List.getElem_cons_zero, List.getElem_cons_succ])
          refine wpTill.take (i := 27) (v := ?_) (by rfl) rfl (by kernel_rfl) (by kernel_rfl) (by kernel_rfl) (by exact fun _ _ _ h => h) ⟨HQ2.out.sw.loc.cell 0, (HQ2.out.r4.cellP HPD2.out).2.1, (HQ2.out.r5.cellI HTD2.out).2.1⟩ (fun _ => trivial) (Or.inl ⟨by rfl, ?_⟩) ?_
          rotate_left
          · (intro w' hSw; (try dsimp only at hSw); go_simp; (try with_reducible rfl))
          (try simp only [Act.put, List.setIfInBounds_toArray, List.set_cons_zero, List.set_cons_succ, List.getElem_toArray, List.getElem_cons_zero, List.getElem_cons_succ])
          refine wpTill.stop (by kernel_rfl) ?_ _
          go_wp2_with (fail)
          go_meet
          exact ⟨_, ⟨⟨xd, xn, xy, xs, xt⟩, xA, xc⟩, rfl, rfl, HXV.out, HQ2.out⟩
        replace hK := Lib.hid hK
        go_simp
        go_at_call 17
        ((with_reducible refine (HHE.out _ HBZ.out).mono ?_); rintro _ wH ⟨gH, rfl, hH, hbH⟩)
        have HH := Lib.hid hH
        replace HP := Lib.hid (HP.out.below hbH)
        replace HQ := Lib.hid (HQ.out.below hbH)
        replace HBZ := Lib.hid (HBZ.out.trans (hbH.mono HBZ.out.size))
        clear hH hbH
        refine hK.out _ _ (HSS.out _ HBZ.out) (fun _ => trivial) ?_
        clear hK K'
        (try simp only [Act.put, List.setIfInBounds_toArray, List.set_cons_zero, List.set_cons_succ, List.getElem_toArray, List.getElem_cons_zero, List.getElem_cons_succ])
        refine wpTill.step2 (i := 21) (j := 25) (by kernel_rfl) (by rfl) (by rfl) (fun K' hK => ?_) (fun K' hK => ?_)
        rotate_left
        · as_aux_lemma =>
          replace hK := Lib.hid hK
          go_simp
          replace HQ := Lib.hid (HQ.out.box #[.int .i64 0, .int .i64 0, .int .i64 0, .slice none 0 0, .string ⟨#[]⟩] 40)
          replace HBZ := Lib.hid (HBZ.out.alloc HBZ.out.size (.cells #[.int .i64 0, .int .i64 0, .int .i64 0, .slice none 0 0, .string ⟨#[]⟩] 40))
          replace HP := Lib.hid (HP.out.below (below_alloc _ (.cells #[.int .i64 0, .int .i64 0, .int .i64 0, .slice none 0 0, .string ⟨#[]⟩] 40)))
          replace HH := Lib.hid (HH.out.below (below_alloc _ (.cells #[.int .i64 0, .int .i64 0, .int .i64 0, .slice none 0 0, .string ⟨#[]⟩] 40)))
          refine hK.out _ _ (HSS.out _ HBZ.out) (fun _ => trivial) ?_
          clear hK K'
          (try simp only [Act.put, List.setIfInBounds_toArray, List.set_cons_zero, List.set_cons_succ, List.getElem_toArray, List.getElem_cons_zero, List.getElem_cons_succ])
          generalize wH.alloc (.cells #[.int .i64 0, .int .i64 0, .int .i64 0, .slice none 0 0, .string ⟨#[]⟩] 40) = wX at *
          generalize wH.heap.size = gX at *
          refine wpTill.step (i := 21) (by kernel_rfl) (by rfl) (fun K' hK => ?_)
          replace hK := Lib.hid hK
          go_simp
          go_at_call 25
          ((with_reducible refine (HNX.out _ _ _ _ _ HP.out HVP.out HH.out).mono ?_); rintro _ wN ⟨⟨⟨xd, xn, xy, xs, xt⟩, xA, xc⟩, hxv, rfl, hxf, hbN⟩)
          simp only at hxf hxv ⊢
          have HXV := Lib.hid hxv
          replace HQ := Lib.hid ((HQ.out.r3.seesAdd hbN (Sl.rests hxf)).l3)
          replace HBZ := Lib.hid (HBZ.out.trans (hbN.mono HBZ.out.size))
          clear hxv hxf hbN
          refine hK.out _ _ (HSS.out _ HBZ.out) (fun _ => trivial) ?_
          clear hK K'
          (try simp only [Act.put, List.setIfInBounds_toArray, List.set_cons_zero, List.set_cons_succ, List.getElem_toArray, List.getElem_cons_zero, List.getElem_cons_succ])
          refine wpTill.take (i := 22) (v := ?_) (by rfl) rfl (by kernel_rfl) (by kernel_rfl) (by kernel_rfl) (by exact fun _ _ _ h => h) (HSS.out _ HBZ.out) (fun _ => trivial) (Or.inl ⟨by rfl, ?_⟩) ?_
          rotate_left
          · (intro w' hSw; (try dsimp only at hSw); go_simp; (try with_reducible rfl))
          (try simp only [Act.put, List.setIfInBounds_toArray, List.set_cons_zero, List.set_cons_succ, List.getElem_toArray, List.getElem_cons_zero, List.getElem_cons_succ])
          refine wpTill.take (i := 23) (v := ?_) (by rfl) rfl (by kernel_rfl) (by kernel_rfl) (by kernel_rfl) (by exact fun _ _ _ h => h) (HSS.out _ HBZ.out) (fun _ => trivial) (Or.inl ⟨by rfl, ?_⟩) ?_
          rotate_left
          · (intro w' hSw; (try dsimp only at hSw); go_simp; (try with_reducible rfl))
          (try simp only [Act.put, List.setIfInBounds_toArray, List.set_cons_zero, List.set_cons_succ, List.getElem_toArray, List.getElem_cons_zero, List.getElem_cons_succ])
          refine wpTill.take (i := 24) (v := ?_) (by rfl) rfl (by kernel_rfl) (by kernel_rfl) (by kernel_rfl) (by exact fun _ _ _ h => h) (HSS.out _ HBZ.out) (fun _ => trivial) (Or.inl ⟨by rfl, ?_⟩) ?_
          rotate_left
          · (intro w' hSw; (try dsimp only at hSw); go_simp; (try with_reducible rfl))
          (try simp only [Act.put, List.setIfInBounds_toArray, List.set_cons_zero, List.set_cons_succ, List.getElem_toArray, List.getElem_cons_zero, List.getElem_cons_succ])
          obtain ⟨zE, kE, fE⟩ := HQ.out.loc
          refine wpTill.step (i := 26) (by kernel_rfl) (by rfl) (fun K' hK => ?_)
          replace hK := Lib.hid hK
          go_simp
          have HQ2 := Lib.hid (HQ.out.setEnt ⟨⟨xd, xn, xy, xs, xt⟩, xA, xc⟩)
          simp only [EntC.cells] at HQ2
          refine hK.out _ _ ⟨HQ2.out.sw.loc.cell 0, (HQ2.out.r4.cellP HPD2.out).2.1, (HQ2.out.r5.cellI HTD2.out).2.1⟩ (fun _ => trivial) ?_
          clear hK K'
          (try simp only [Act.put, List.setIfInBounds_toArray, List.set_cons_zero, List.set_cons_succ, List.getElem_toArray, List.getElem_cons_zero, List.getElem_cons_succ])
          refine wpTill.take (i := 27) (v := ?_) (by rfl) rfl (by kernel_rfl) (by kernel_rfl) (by kernel_rfl) (by exact fun _ _ _ h => h) ⟨HQ2.out.sw.loc.cell 0, (HQ2.out.r4.cellP HPD2.out).2.1, (HQ2.out.r5.cellI HTD2.out).2.1⟩ (fun _ => trivial) (Or.inl ⟨by rfl, ?_⟩) ?_
          rotate_left
          · (intro w' hSw; (try dsimp only at hSw); go_simp; (try with_reducible rfl))
          (try simp only [Act.put, List.setIfInBounds_toArray, List.set_cons_zero, List.set_cons_succ, List.getElem_toArray, List.getElem_cons_zero, List.getElem_cons_succ])
          refine wpTill.stop (by kernel_rfl) ?_ _
          go_wp2_with (fail)
          go_meet
          exact ⟨_, ⟨⟨xd, xn, xy, xs, xt⟩, xA, xc⟩, rfl, rfl, HXV.out, HQ2.out⟩
        replace hK := Lib.hid hK
        go_simp
        go_at_call 25
        ((with_reducible refine (HNX.out _ _ _ _ _ HP.out HVP.out HH.out).mono ?_); rintro _ wN ⟨⟨⟨xd, xn, xy, xs, xt⟩, xA, xc⟩, hxv, rfl, hxf, hbN⟩)
        simp only at hxf hxv ⊢
        have HXV := Lib.hid hxv
        replace HQ := Lib.hid ((HQ.out.sw.seesAdd hbN (Sl.rests hxf)).sw)
        replace HBZ := Lib.hid (HBZ.out.trans (hbN.mono HBZ.out.size))
        clear hxv hxf hbN
        refine hK.out _ _ (HSS.out _ HBZ.out) (fun _ => trivial) ?_
        clear hK K'
        (try simp only [Act.put, List.setIfInBounds_toArray, List.set_cons_zero, List.set_cons_succ, List.getElem_toArray, List.getElem_cons_zero, List.getElem_cons_succ])
        refine wpTill.take (i := 22) (v := ?_) (by rfl) rfl (by kernel_rfl) (by kernel_rfl) (by kernel_rfl) (by exact fun _ _ _ h => h) (HSS.out _ HBZ.out) (fun _ => trivial) (Or.inl ⟨by rfl, ?_⟩) ?_
        rotate_left
        · (intro w' hSw; (try dsimp only at hSw); go_simp; (try with_reducible rfl))
        (try simp only [Act.put, List.setIfInBounds_toArray, List.set_cons_zero, List.set_cons_succ, List.getElem_toArray, List.getElem_cons_zero, List.getElem_cons_succ])
        refine wpTill.take (i := 23) (v := ?_) (by rfl) rfl (by kernel_rfl) (by kernel_rfl) (by kernel_rfl) (by exact fun _ _ _ h => h) (HSS.out _ HBZ.out) (fun _ => trivial) (Or.inl ⟨by rfl, ?_⟩) ?_
        rotate_left
        · (intro w' hSw; (try dsimp only at hSw); go_simp; (try with_reducible rfl))
        (try simp only [Act.put, List.setIfInBounds_toArray, List.set_cons_zero, List.set_cons_succ, List.getElem_toArray, List.getElem_cons_zero, List.getElem_cons_succ])
        refine wpTill.take (i := 24) (v := ?_) (by rfl) rfl (by kernel_rfl) (by kernel_rfl) (by kernel_rfl) (by exact fun _ _ _ h => h) (HSS.out _ HBZ.out) (fun _ => trivial) (Or.inl ⟨by rfl, ?_⟩) ?_
        rotate_left
        · (intro w' hSw; (try dsimp only at hSw); go_simp; (try with_reducible rfl))
        (try simp only [Act.put, List.setIfInBounds_toArray, List.set_cons_zero, List.set_cons_succ, List.getElem_toArray, List.getElem_cons_zero, List.getElem_cons_succ])
        refine wpTill.step (i := 25) (by kernel_rfl) (by rfl) (fun K' hK => ?_)
        replace hK := Lib.hid hK
        go_simp
        replace HQ := Lib.hid (HQ.out.box #[.int .i64 0, .int .i64 0, .int .i64 0, .slice none 0 0, .string ⟨#[]⟩] 40)
        replace HBZ := Lib.hid (HBZ.out.alloc HBZ.out.size (.cells #[.int .i64 0, .int .i64 0, .int .i64 0, .slice none 0 0, .string ⟨#[]⟩] 40))
        refine hK.out _ _ (HSS.out _ HBZ.out) (fun _ => trivial) ?_
        clear hK K'
        (try simp only [Act.put, List.setIfInBounds_toArray, List.set_cons_zero, List.set_cons_succ, List.getElem_toArray, List.getElem_cons_zero, List.getElem_cons_succ])
        generalize wN.alloc (.cells #[.int .i64 0, .int .i64 0, .int .i64 0, .slice none 0 0, .string ⟨#[]⟩] 40) = wX at *
        generalize wN.heap.size = gX at *
        obtain ⟨zE, kE, fE⟩ := HQ.out.loc
        refine wpTill.step (i := 26) (by kernel_rfl) (by rfl) (fun K' hK => ?_)
        replace hK := Lib.hid hK
        go_simp
        have HQ2 := Lib.hid (HQ.out.setEnt ⟨⟨xd, xn, xy, xs, xt⟩, xA, xc⟩)
        simp only [EntC.cells] at HQ2
        refine hK.out _ _ ⟨HQ2.out.sw.loc.cell 0, (HQ2.out.r4.cellP HPD2.out).2.1, (HQ2.out.r5.cellI HTD2.out).2.1⟩ (fun _ => trivial) ?_
        clear hK K'
        (try simp only [Act.put, List.setIfInBounds_toArray, List.set_cons_zero, List.set_cons_succ, List.getElem_toArray, List.getElem_cons_zero, List.getElem_cons_succ])
        refine wpTill.take (i := 27) (v := ?_) (by rfl) rfl (by kernel_rfl) (by kernel_rfl) (by kernel_rfl) (by exact fun _ _ _ h => h) ⟨HQ2.out.sw.loc.cell 0, (HQ2.out.r4.cellP HPD2.out).2.1, (HQ2.out.r5.cellI HTD2.out).2.1⟩ (fun _ => trivial) (Or.inl ⟨by rfl, ?_⟩) ?_
        rotate_left
        · (intro w' hSw; (try dsimp only at hSw); go_simp; (try with_reducible rfl))
        (try simp only [Act.put, List.setIfInBounds_toArray, List.set_cons_zero, List.set_cons_succ, List.getElem_toArray, List.getElem_cons_zero, List.getElem_cons_succ])
        refine wpTill.stop (by kernel_rfl) ?_ _
        go_wp2_with (fail)
        go_meet
        exact ⟨_, ⟨⟨xd, xn, xy, xs, xt⟩, xA, xc⟩, rfl, rfl, HXV.out, HQ2.out⟩
      case rest =>
      obtain ⟨gX, x, rfl, rfl, hxv, hS6⟩ := hcut
      obtain ⟨w6, rfl⟩ : ∃ w6 : World, w6 = wc := ⟨_, rfl⟩
      have HXV := Lib.hid hxv
      have HS6 := Lib.hid hS6
      clear hxv hS6 HS5 HSS HPA HHE HNX
      have HBW6 := Lib.hid (HB.out.trans (HS6.out.base.mono HB.out.size))
      obtain ⟨⟨xd, xn, xy, xs, xt⟩, xA, xc⟩ := x
      simp only [EntC.cells] at HS6 HXV
      have hxlen : xs.length ≤ 1099511627776 ∧ xt.length ≤ 140737488351232 := by
        have h := HSTEP.out.2.hon.right NV (List.mem_append_right _ (by simp))
        rw [← HXV.out] at h
        have h1 := h.len
        have h2 := h.txt
        simp only at h1 h2
        omega
      have HXL := Lib.hid hxlen
      have HKX := Lib.hid HS6.out.r3.sees
      have HJ2 : Hid (∀ (W' : World) (g : Nat), Below w6.heap.size w6 W' → Sl W' 5 (some ⟨g, 0, none⟩) 1 [[.int .i64 xd, .int .i64 xn, .int .i64 xy, .slice xA xs.length xc, .string ⟨xt.toArray⟩]] → Calls Tryd.prog 10 #[.slice p.A p.l.length p.c, .slice (some ⟨g, 0, none⟩) 1 1] W' (GivesF W' (joinF (vsOf p.l ++ [NV])))) := Lib.hid fun W' g hbw hsl => by
        have hpl : p.l.length ≤ 1000 := by
          have h1 := (HIb.out.closed d HDD.out).len_le
          have h2 := HIb.out.len
          rw [show (psV ps').getD d [] = vsOf p.l from psV_at HPD2.out, vsOf_len] at h1
          omega
        have hbb := HBW6.out.trans (hbw.mono HBW6.out.size)
        have h := Join_anyF W' (HEV.out _ hbb).1 (HEV.out _ hbb).2 p.A (some ⟨g, 0, none⟩) p.l.length 1 p.c 1 p.l [⟨⟨xd, xn, xy, xs, xt⟩, xA, xc⟩] ((HKX.out.1.1 p (List.mem_of_getElem? HPD2.out)).below hbw) ⟨by exact hsl, fun u hu => by rw [List.mem_singleton.1 hu]; exact Sl.below HKX.out.2 hbw, fun u hu => by rw [List.mem_singleton.1 hu]; exact HXL.out⟩ hpl (by omega)
        rw [show vsOf [(⟨⟨xd, xn, xy, xs, xt⟩, xA, xc⟩ : EntC)] = [NV] by rw [← HXV.out]; rfl] at h
        exact h
      obtain ⟨zK, kP, fK⟩ := HS6.out.r4.cellP HPD2.out
      obtain ⟨zX, kX, fX⟩ := HS6.out.sw.loc
      obtain ⟨zE, kE, fE⟩ := HS6.out.loc
      have c0 := kX 0
      have k0 := kE 0
      have k1 := kE 1
      have k2 := kE 2
      have k3 := kE 3
      have k4 := kE 4
      simp only [List.getElem?_toArray, List.getElem?_cons_succ, List.getElem?_cons_zero] at c0 k0 k1 k2 k3 k4
      have hS : ∀ w', Below w6.heap.size w6 w' → (w'.cell? ⟨bx, 0, none⟩ = some (.int .i64 (d : Int)) ∧ w'.cell? ⟨gX, 0, none⟩ = some (.int .i64 xd) ∧ w'.cell? ⟨gX, 1, none⟩ = some (.int .i64 xn) ∧ w'.cell? ⟨gX, 2, none⟩ = some (.int .i64 xy) ∧ w'.cell? ⟨gX, 3, none⟩ = some (.slice xA xs.length xc) ∧ w'.cell? ⟨gX, 4, none⟩ = some (.string ⟨xt.toArray⟩)) := fun w' hbw => ⟨(hbw.cell (p := ⟨bx, 0, none⟩) zX).trans c0, (hbw.cell (p := ⟨gX, 0, none⟩) zE).trans k0, (hbw.cell (p := ⟨gX, 1, none⟩) zE).trans k1, (hbw.cell (p := ⟨gX, 2, none⟩) zE).trans k2, (hbw.cell (p := ⟨gX, 3, none⟩) zE).trans k3, (hbw.cell (p := ⟨gX, 4, none⟩) zE).trans k4⟩
      have HSS := Lib.hid hS
      have hT : ∀ w', Below w6.heap.size w6 w' → w'.cell? ⟨gK, d, none⟩ = some (.slice p.A p.l.length p.c) := fun w' hbw => (hbw.cell (p := ⟨gK, d, none⟩) zK).trans kP
      have HTT := Lib.hid hT
      clear hS hT zK kP fK c0 k0 k1 k2 k3 k4 zX kX fX zE kE fE hxlen
      go_upto_region 18 with (fail)
      go_cut [] (fun wy => ∃ (A2 : Option Addr) (c2 : Nat) (l2 : List EntC), vsOf l2 = joinF (vsOf p.l ++ [NV]) ∧ Sep w3 wy (seesR (KnowAt (ps'.set d ⟨A2, c2, l2⟩) (es ++ [⟨⟨xd, xn, xy, xs, xt⟩, xA, xc⟩])) :: boxR gX #[.int .i64 xd, .int .i64 xn, .int .i64 xy, .slice xA xs.length xc, .string ⟨xt.toArray⟩] :: boxR bx #[.int .i64 (d : Int), .int .i64 fr, .int .i64 dy] :: ownR 22 1 (.slice (some ⟨gK, 0, none⟩) 8 8) 8 ((ps'.set d ⟨A2, c2, l2⟩).map PastC.cells) :: ownR 3 1 (.slice (some ⟨gD, 0, none⟩) 8 8) 8 ((ds.set d (td + r2)).map intC) :: ownR 40 5 (.slice A' m c') m (es.map EntC.cells) :: []))
      case first =>
        refine wpTill.startN 13 (S := fun w' => w'.cell? ⟨bx, 0, none⟩ = some (.int .i64 (d : Int)) ∧ w'.cell? ⟨gX, 0, none⟩ = some (.int .i64 xd) ∧ w'.cell? ⟨gX, 1, none⟩ = some (.int .i64 xn) ∧ w'.cell? ⟨gX, 2, none⟩ = some (.int .i64 xy) ∧ w'.cell? ⟨gX, 3, none⟩ = some (.slice xA xs.length xc) ∧ w'.cell? ⟨gX, 4, none⟩ = some (.string ⟨xt.toArray⟩)) (T := fun w' => w'.cell? ⟨gK, d, none⟩ = some (.slice p.A p.l.length p.c)) (m := 12) rfl (by kernel_rfl) ?_
        have HBZ := Lib.hid (Below.drew (Below.refl w6.heap.size w6))
        have HQ := Lib.hid HS6.out.drew
        generalize w6.drew = wz at *
        refine wpTill.take (i := 0) (v := ?_) (by rfl) rfl (by kernel_rfl) (by kernel_rfl) (by kernel_rfl) (by exact fun _ _ _ h => h) (HSS.out _ HBZ.out) (fun _ => HTT.out _ HBZ.out) (Or.inl ⟨by rfl, ?_⟩) ?_
        rotate_left
        · (intro w' hSw; (try dsimp only at hSw); go_simp; (try with_reducible rfl))
        (try simp only [Act.put, List.setIfInBounds_toArray, List.set_cons_zero, List.set_cons_succ, List.getElem_toArray, List.getElem_cons_zero, List.getElem_cons_succ])
        refine wpTill.take (i := 1) (v := ?_) (by rfl) rfl (by kernel_rfl) (by kernel_rfl) (by kernel_rfl) (by exact fun _ _ _ h => h) (HSS.out _ HBZ.out) (fun _ => HTT.out _ HBZ.out) (Or.inl ⟨by rfl, ?_⟩) ?_
        rotate_left
        · (intro w' hSw; (try dsimp only at hSw); go_simp; (try with_reducible rfl))
        (try simp only [Act.put, List.setIfInBounds_toArray, List.set_cons_zero, List.set_cons_succ, List.getElem_toArray, List.getElem_cons_zero, List.getElem_cons_succ])
        refine wpTill.take (i := 2) (v := ?_) (by rfl) rfl (by kernel_rfl) (by kernel_rfl) (by kernel_rfl) (by exact fun _ _ _ h => h) (HSS.out _ HBZ.out) (fun _ => HTT.out _ HBZ.out) (Or.inl ⟨by rfl, ?_⟩) ?_
        rotate_left
        · (intro w' hSw; (try dsimp only at hSw); go_simp; (try with_reducible rfl))
        (try simp only [Act.put, List.setIfInBounds_toArray, List.set_cons_zero, List.set_cons_succ, List.getElem_toArray, List.getElem_cons_zero, List.getElem_cons_succ])
        refine wpTill.take (i := 3) (v := ?_) (by rfl) rfl (by kernel_rfl) (by kernel_rfl) (by kernel_rfl) (by exact fun _ _ _ h => h) (HSS.out _ HBZ.out) (fun _ => HTT.out _ HBZ.out) (Or.inl ⟨by rfl, ?_⟩) ?_
        rotate_left
        · (intro w' hSw; (try dsimp only at hSw); go_simp; (try with_reducible rfl))
        (try simp only [Act.put, List.setIfInBounds_toArray, List.set_cons_zero, List.set_cons_succ, List.getElem_toArray, List.getElem_cons_zero, List.getElem_cons_succ])
        refine wpTill.take (i := 4) (v := ?_) (by rfl) rfl (by kernel_rfl) (by kernel_rfl) (by kernel_rfl) (by exact fun _ _ _ h => h) (HSS.out _ HBZ.out) (fun _ => HTT.out _ HBZ.out) (Or.inl ⟨by rfl, ?_⟩) ?_
        rotate_left
        · (intro w' hSw; (try dsimp only at hSw); go_simp; (try with_reducible rfl))
        (try simp only [Act.put, List.setIfInBounds_toArray, List.set_cons_zero, List.set_cons_succ, List.getElem_toArray, List.getElem_cons_zero, List.getElem_cons_succ])
        refine wpTill.take (i := 5) (v := ?_) (by rfl) rfl (by kernel_rfl) (by kernel_rfl) (by kernel_rfl) (by exact fun _ _ _ h => h) (HSS.out _ HBZ.out) (fun _ => HTT.out _ HBZ.out) (Or.inl ⟨by rfl, ?_⟩) ?_
        rotate_left
        · (intro w' hSw; (try dsimp only at hSw); go_simp; (try with_reducible rfl))
        (try simp only [Act.put, List.setIfInBounds_toArray, List.set_cons_zero, List.set_cons_succ, List.getElem_toArray, List.getElem_cons_zero, List.getElem_cons_succ])
        refine wpTill.take (i := 6) (v := ?_) (by rfl) rfl (by kernel_rfl) (by kernel_rfl) (by kernel_rfl) (by exact fun _ _ _ h => h) (HSS.out _ HBZ.out) (fun _ => HTT.out _ HBZ.out) (Or.inl ⟨by rfl, ?_⟩) ?_
        rotate_left
        · (intro w' hSw; (try dsimp only at hSw); go_simp; (try with_reducible rfl))
        (try simp only [Act.put, List.setIfInBounds_toArray, List.set_cons_zero, List.set_cons_succ, List.getElem_toArray, List.getElem_cons_zero, List.getElem_cons_succ])
        refine wpTill.takeT (i := 7) (v := ?_) (by rfl) rfl (by kernel_rfl) (by kernel_rfl) (by kernel_rfl) (by exact fun _ _ _ h => h) (HSS.out _ HBZ.out) (HTT.out _ HBZ.out) rfl (by kernel_rfl) (Or.inl ⟨by rfl, ?_⟩) ?_
        rotate_left
        · (intro w' hSw; (try dsimp only at hSw); go_simp; (try with_reducible rfl))
        (try simp only [Act.put, List.setIfInBounds_toArray, List.set_cons_zero, List.set_cons_succ, List.getElem_toArray, List.getElem_cons_zero, List.getElem_cons_succ])
        refine wpTill.take (i := 8) (v := ?_) (by rfl) rfl (by kernel_rfl) (by kernel_rfl) (by kernel_rfl) (by exact fun _ _ _ h => h) (HSS.out _ HBZ.out) (fun _ => HTT.out _ HBZ.out) (Or.inl ⟨by rfl, ?_⟩) ?_
        rotate_left
        · (intro w' hSw; (try dsimp only at hSw); go_simp; (try with_reducible rfl))
        (try simp only [Act.put, List.setIfInBounds_toArray, List.set_cons_zero, List.set_cons_succ, List.getElem_toArray, List.getElem_cons_zero, List.getElem_cons_succ])
        refine wpTill.step (i := 9) (by kernel_rfl) (by rfl) (fun K' hK => ?_)
        replace hK := Lib.hid hK
        go_simp
        have HN1 := Lib.hid (Sl.new_ wz 40 (EntC.cells ⟨⟨xd, xn, xy, xs, xt⟩, xA, xc⟩))
        simp only [EntC.cells] at HN1
        replace HQ := Lib.hid (HQ.out.alloc (.cells #[.int .i64 xd, .int .i64 xn, .int .i64 xy, .slice xA xs.length xc, .string ⟨xt.toArray⟩] 40))
        replace HBZ := Lib.hid (HBZ.out.alloc HBZ.out.size (.cells #[.int .i64 xd, .int .i64 xn, .int .i64 xy, .slice xA xs.length xc, .string ⟨xt.toArray⟩] 40))
        refine hK.out _ _ (HSS.out _ HBZ.out) (fun _ => HTT.out _ HBZ.out) ?_
        clear hK K'
        (try simp only [Act.put, List.setIfInBounds_toArray, List.set_cons_zero, List.set_cons_succ, List.getElem_toArray, List.getElem_cons_zero, List.getElem_cons_succ])
        generalize hWW : wz.alloc (.cells #[.int .i64 xd, .int .i64 xn, .int .i64 xy, .slice xA xs.length xc, .string ⟨xt.toArray⟩] 40) = wa at *
        generalize wz.heap.size = gR at *
        have HN2 : Hid (Sl wa 5 (some ⟨gR, 0, none⟩) 1 [[.int .i64 xd, .int .i64 xn, .int .i64 xy, .slice xA xs.length xc, .string ⟨xt.toArray⟩]]) := HN1
        clear hWW
        refine wpTill.step (i := 10) (by kernel_rfl) (by rfl) (fun K' hK => ?_)
        replace hK := Lib.hid hK
        go_simp
        go_at_call 10
        ((with_reducible refine (HJ2.out _ _ HBZ.out HN2.out).mono ?_); rintro _ wy ⟨A2, c2, l2, rfl, hch, hv, hby⟩)
        have hln : l2.length = (joinF (vsOf p.l ++ [NV])).length := by rw [← hv, vsOf_len]
        rw [← hln] at hch ⊢
        have HS3 := Lib.hid ((HQ.out.r3.seesAdd hby hch.rests).seesTurn (ψ := KnowAt (ps'.set d ⟨A2, c2, l2⟩) (es ++ [⟨⟨xd, xn, xy, xs, xt⟩, xA, xc⟩])) fun W' h => (h.1.1.snoc h.1.2).set h.2)
        have HV2 := Lib.hid hv
        replace HBZ := Lib.hid (HBZ.out.trans (hby.mono HBZ.out.size))
        clear hch hv hln hby
        refine hK.out _ _ (HSS.out _ HBZ.out) (fun _ => HTT.out _ HBZ.out) ?_
        clear hK K'
        (try simp only [Act.put, List.setIfInBounds_toArray, List.set_cons_zero, List.set_cons_succ, List.getElem_toArray, List.getElem_cons_zero, List.getElem_cons_succ])
        refine wpTill.take (i := 11) (v := ?_) (by rfl) rfl (by kernel_rfl) (by kernel_rfl) (by kernel_rfl) (by exact fun _ _ _ h => h) (HSS.out _ HBZ.out) (fun _ => HTT.out _ HBZ.out) (Or.inl ⟨by rfl, ?_⟩) ?_
        rotate_left
        · (intro w' hSw; (try dsimp only at hSw); go_simp; (try with_reducible rfl))
        (try simp only [Act.put, List.setIfInBounds_toArray, List.set_cons_zero, List.set_cons_succ, List.getElem_toArray, List.getElem_cons_zero, List.getElem_cons_succ])
        obtain ⟨zK, kP, fK⟩ := HS3.out.r4.cellP HPD2.out
        have HS4 := Lib.hid ((HS3.out.r4.setP HPD2.out ⟨A2, c2, l2⟩).l4)
        simp only at HS4
        refine wpTill.step (i := 12) (by kernel_rfl) (by rfl) (fun K' hK => ?_)
        replace hK := Lib.hid hK
        go_simp
        refine hK.out _ _ ⟨HS4.out.r3.loc.cell 0, HS4.out.sw.loc.cell 0, HS4.out.sw.loc.cell 1, HS4.out.sw.loc.cell 2, HS4.out.sw.loc.cell 3, HS4.out.sw.loc.cell 4⟩ (fun h => nomatch (show true = false from h)) ?_
        clear hK K'
        (try simp only [Act.put, List.setIfInBounds_toArray, List.set_cons_zero, List.set_cons_succ, List.getElem_toArray, List.getElem_cons_zero, List.getElem_cons_succ])
        refine wpTill.stop (by kernel_rfl) ?_ _
        go_wp2_with (fail)
        go_meet
        exact ⟨A2, c2, l2, HV2.out, HS4.out⟩
      case rest =>
      obtain ⟨A2, c2, l2, hv2, hS7⟩ := hcut
      obtain ⟨w7, rfl⟩ : ∃ w7 : World, w7 = wc := ⟨_, rfl⟩
      have HV7 := Lib.hid hv2
      have HS7 := Lib.hid hS7
      obtain ⟨zE, kE, fE⟩ := HS7.out.sw.loc
      have HSA2 := Lib.hid (HS7.out.drop2.drop2.r4.alloc (.cells #[.int .i64 xd, .int .i64 xn, .int .i64 xy, .slice xA xs.length xc, .string ⟨xt.toArray⟩] 40))
      have HN1 := Lib.hid (Sl.new_ w7 40 (EntC.cells ⟨⟨xd, xn, xy, xs, xt⟩, xA, xc⟩))
      simp only [EntC.cells] at HN1
      have hm30 : m ≤ 30 := by
        have h1 := HIb.out.len
        have h2 := HEL.out
        rw [vsOf_len] at h1
        omega
      clear hv2 hS7 HSS HTT HJ2 HS6
      go_wp2_with (at_builtin; (refine wpList_append_sl _ rfl (.tmp 125) (.tmp 127) _ rfl w3.heap.size 40 ie _ 5 64 Tryd.underlying22 he0 he1 he2 he3 rfl (by omega) _ m (es.map EntC.cells) rfl HSA2.out.own (some ⟨w7.heap.size, 0, none⟩) 1 1 ([(⟨⟨xd, xn, xy, xs, xt⟩, xA, xc⟩ : EntC)].map EntC.cells) rfl HN1.out (ents_len _) (ents_one _) (by simp only [maxLen]; omega) (by omega) HSA2.out.base.size ?_); intro A9 c9 w9 hown9 hg9 hat9
                   have HS9 := Lib.hid (HSA2.out.grown hown9 hg9 hat9)
                   clear hown9 hg9 hat9)
      go_roundw
      case rel =>
        refine ⟨i + 1, m + 1, A9, c9, es ++ [⟨⟨xd, xn, xy, xs, xt⟩, xA, xc⟩], ps'.set d ⟨A2, c2, l2⟩, ds.set d (td + r2), rfl, by go_num, HLI.out, by rw [List.length_append, HEL.out]; rfl, ?_, ?_⟩
        · have h := HSTEP.out.2
          rw [psV_set, show vsOf (es ++ [⟨⟨xd, xn, xy, xs, xt⟩, xA, xc⟩]) = vsOf es ++ [NV] by rw [← HXV.out]; simp [vsOf]]
          simp only
          rw [HV7.out]
          exact h
        · have h := HS9.out.l4
          rw [List.map_append]
          simp only [List.map_cons, List.map_nil, EntC.cells]
          exact h
      case measure => have := HLI.out; simp [intOf]; omega
    · obtain rfl : i = n1 := by omega
      have hii : ¬ ((i : Nat) : Int) < (i : Int) := by omega
      have hm30 : m ≤ 30 := by
        have h1 := HI.out.len
        have h2 := HEL.out
        rw [vsOf_len] at h1
        omega
      have HHON := Lib.hid HI.out.hon
      have HAL : Hid (ChAt wo A' m es) := Lib.hid ⟨HSO.out.r4.own.sl', HSO.out.sees.2, fun u hu => by
        have h := HHON.out.right u.v (List.mem_map.2 ⟨u, hu, rfl⟩)
        have h1 := h.len
        have h2 := h.txt
        omega⟩
      have HBO := Lib.hid (HB.out.trans (HSO.out.base.mono HB.out.size))
      have HSH := Lib.hid (shuffled_any wo A' m c' es HAL.out (by omega) Pb nb cb bs (HPB.out.below HSO.out.base) HBS.out (by omega))
      clear hlt hi HSO HI
      go_wp2_with (fail)
      ((with_reducible refine HSH.out.mono ?_); rintro _ w4 ⟨AS, cS, os, rfl, hcS, hmS, hlS, hb4⟩)
      have HCS := Lib.hid hcS
      have hmV : ∀ x, x ∈ vsOf os ↔ x ∈ vsOf es := fun x => by
        constructor <;> intro h <;> obtain ⟨u, hu, rfl⟩ := List.mem_map.1 h
        · exact List.mem_map.2 ⟨u, (hmS u).1 hu, rfl⟩
        · exact List.mem_map.2 ⟨u, (hmS u).2 hu, rfl⟩
      have HMV := Lib.hid hmV
      have HB4 := Lib.hid (HBO.out.trans (hb4.mono HBO.out.size))
      replace HAL := Lib.hid (HAL.out.below hb4)
      obtain ⟨nS, hnS⟩ : ∃ n, os.length = n := ⟨_, rfl⟩
      rw [hnS] at HCS hlS ⊢
      have hlS2 : nS ≤ 1000 := by omega
      clear hcS hmS hb4 hmV hlS hnS HSH
      have HOR := Lib.hid (Order_any w4 (HEV.out _ HB4.out).1 (HEV.out _ HB4.out).2 AS nS cS os HCS.out hlS2)
      go_wp2_with (fail)
      ((with_reducible refine HOR.out.mono ?_); rintro _ w5 ⟨AO, cO, lO, rfl, hO, hvO, hb5⟩)
      obtain ⟨V, hV⟩ : ∃ V, vsOf os = V := ⟨_, rfl⟩
      rw [hV] at hO hvO HMV ⊢
      have hOm : (ordF V).2.length = m := by rw [HHON.out.order_len HMV.out, vsOf_len]; exact HEL.out
      rw [hOm] at hO ⊢
      have HLO := Lib.hid hO
      have HVO := Lib.hid hvO
      have HVS := Lib.hid hV
      have HB5 := Lib.hid (HB4.out.trans (hb5.mono HB4.out.size))
      replace HAL := Lib.hid (HAL.out.below hb5)
      replace HCS := Lib.hid (HCS.out.below hb5)
      clear hO hvO hb5 hOm HOR hV
      have HFO := Lib.hid (Forks_any w5 (HEV.out _ HB5.out).1 (HEV.out _ HB5.out).2 AS nS cS os HCS.out hlS2 [] (by rw [HVS.out]; exact HHON.out.forks HMV.out))
      go_wp2_with (fail)
      ((with_reducible refine HFO.out.mono ?_); rintro _ w6 ⟨AF, cF, rfl, _, hb6⟩)
      have HB6 := Lib.hid (HB5.out.trans (hb6.mono HB5.out.size))
      replace HAL := Lib.hid (HAL.out.below hb6)
      replace HCS := Lib.hid (HCS.out.below hb6)
      replace HLO := Lib.hid (HLO.out.below hb6)
      clear hb6 HFO
      have HMI := Lib.hid (Missing_any w6 (HEV.out _ HB6.out).1 (HEV.out _ HB6.out).2 AS nS cS os HCS.out hlS2 [] (by rw [HVS.out]; exact HHON.out.miss HMV.out))
      simp only [List.length_nil] at HMI ⊢
      go_wp2_with (fail)
      ((with_reducible refine HMI.out.mono ?_); rintro _ w7 ⟨AM, cM, rfl, _, hb7⟩)
      have HB7 := Lib.hid (HB6.out.trans (hb7.mono HB6.out.size))
      replace HAL := Lib.hid (HAL.out.below hb7)
      replace HLO := Lib.hid (HLO.out.below hb7)
      clear hb7 HMI HCS
      have HMK : ∀ W, Sem.run Tryd.prog (Instr.makeSlice 31 (.int .i64 8) (.int .i64 8)) W = .ok (.slice (some ⟨W.heap.size, 0, none⟩) 8 8) (W.alloc (.cells row8 3)) := run_make8
      have HSA := Lib.hid ((Sep.start w7).ownNew (below_alloc _ _) (own8 w7))
      go_wp2_with (fail)
      clear HMK
      generalize hgT : w7.heap.size = gT at HSA ⊢
      clear hgT
      go_loopw [16] (fun iv wr => ∃ (i2 : Nat) (t : List Nat), i2 ≤ m ∧ iv = .int .i64 (i2 : Int) ∧ t.length = 8 ∧ (∀ d : Nat, d < 8 → t.getD d 0 = countF ((ordF V).2.take i2) d) ∧ Sep w7 wr (ownR 3 1 (.slice (some ⟨gT, 0, none⟩) 8 8) 8 (t.map natC) :: [])) (fun iv _ => m - (intOf iv).toNat)
      case atStart => exact ⟨0, zero8, Nat.zero_le _, rfl, rfl, by simp only [List.take_zero]; decide, HSA.out⟩
      case round =>
        obtain ⟨i2, t, hi2, rfl, htl, ht, hS⟩ := hrel
        obtain ⟨wl, rfl⟩ : ∃ wl : World, wl = wr := ⟨_, rfl⟩
        have HSL := Lib.hid hS
        have HT := Lib.hid ht
        have HTL := Lib.hid htl
        clear hS ht htl HSA
        by_cases hlt : i2 < m
        case neg =>
          obtain rfl : i2 = m := by omega
          have hii2 : ¬ ((i2 : Nat) : Int) < (i2 : Int) := by omega
          go_wp2_with (fail)
          go_ret
          exact ⟨rfl, HB7.out.trans (HSL.out.base.mono HB7.out.size)⟩
        obtain ⟨x, hx⟩ : ∃ v, lO[i2]? = some v := ⟨_, List.getElem?_eq_getElem (by rw [HLO.out.lenEq]; exact hlt)⟩
        have hxv : (ordF V).2[i2]? = some x.v := by rw [← HVO.out]; exact vsOf_at hx
        have hxr := (joinF_right V) x.v (ord_in (List.mem_of_getElem? hxv))
        have hxe : x.v ∈ vsOf es := Hon.order_in HMV.out (List.mem_of_getElem? hxv)
        obtain ⟨b2, o2, rfl, hbl2, d0, d1, d2, d3, d4⟩ := ent_at (HLO.out.sl.below HSL.out.base) hx
        have hxa := Sl.below (HLO.out.at_ x (List.mem_of_getElem? hx)) HSL.out.base
        have HXA := Lib.hid hxa
        have HXR := Lib.hid hxr
        have HXE := Lib.hid hxe
        have HXV := Lib.hid hxv
        have HXI := Lib.hid hx
        have hii2 : (i2 : Int) < (m : Int) := by omega
        have hi20 : (0 : Int) ≤ (i2 : Int) := by omega
        have hwi2 : IntKind.i64.wrap ((i2 : Int) + 1) = (i2 : Int) + 1 := IntWalk.i64_in _ (by omega)
        have hsl : (x.v.seen.length : Int) = 8 := by rw [hxr.len]; rfl
        have HLI := Lib.hid hlt
        clear hx hxv hxr hxe hxa hlt hi2
        go_wp2_with (fail)
        go_loopw [17] (fun jv wr => ∃ d2 : Nat, d2 ≤ 8 ∧ jv = .int .i64 (d2 : Int) ∧ Below wl.heap.size wl wr) (fun jv _ => 8 - (intOf jv).toNat)
        case atStart => exact ⟨0, by omega, rfl, Below.refl _ _⟩
        case round =>
          obtain ⟨e, he, rfl, hb⟩ := hrel
          obtain ⟨wi, rfl⟩ : ∃ wi : World, wi = wr := ⟨_, rfl⟩
          have HBI := Lib.hid hb
          clear d0 d1 d2 d3 d4 hbl2
          obtain ⟨b3, o3, eb, hbl3, d0, d1, d2, d3, d4⟩ := ent_at (HLO.out.sl.below (HSL.out.below hb).base) HXI.out
          injection eb with eb
          injection eb with eb1 eb2
          subst eb1 eb2
          have hwe : IntKind.i64.wrap ((e : Int) + 1) = (e : Int) + 1 := IntWalk.i64_in _ (by omega)
          by_cases hlte : e < 8
          · obtain ⟨s, hs⟩ : ∃ s, x.v.seen[e]? = some s := ⟨_, List.getElem?_eq_getElem (by rw [HXR.out.len]; exact hlte)⟩
            obtain ⟨te, hte⟩ : ∃ te, t[e]? = some te := ⟨_, List.getElem?_eq_getElem (by rw [HTL.out]; exact hlte)⟩
            obtain ⟨bs2, os2, hsA, hbs2, cs⟩ := (Sl.below HXA.out hb).at1 (k := e) (v := .int .i64 s) (by rw [List.getElem?_map, hs]; rfl)
            have hdi : (e : Int) < 8 := by omega
            have hd0 : (0 : Int) ≤ (e : Int) := by omega
            have hle := HHON.out.order_seen HMV.out HXV.out hlte hs
            rw [← HT.out e hlte, List.getD_eq_getElem?_getD, hte, Option.getD_some] at hle
            have hgt : ¬ ((te : Int) < s) := by omega
            obtain ⟨zT, kT, fT⟩ := (HSL.out.below hb).cellN hte
            have HLE := Lib.hid hlte
            rw [hsA] at d3
            clear hs hte hle hlte he hb hsA
            go_upto_region 31 with (fail)
            go_quiet (fail)
            go_wp2_with (fail)
            go_roundw
            case rel => exact ⟨e + 1, HLE.out, by go_num, bdrewN HBI.out _⟩
            case measure => have := HLE.out; simp [intOf]; omega
          · obtain rfl : e = 8 := by omega
            have hdi : ¬ ((8 : Nat) : Int) < 8 := by omega
            have HSI := Lib.hid (HSL.out.below hb)
            have HAI := Lib.hid (HAL.out.below HSI.out.base)
            have hha := Has_any wi A' m c' es HAI.out (by omega) x (Sl.below HXA.out hb) true (decide_eq_true HXE.out)
            simp only [EntC.cells] at hha
            have HHA := Lib.hid hha
            obtain ⟨⟨dv, xno, xday, xseen, xtext⟩, xA, xc⟩ := x
            obtain ⟨f, rfl⟩ : ∃ f : Nat, dv = (f : Int) := ⟨dv.toNat, by have := HXR.out.d0; simp only at this; omega⟩
            have hf8 : f < 8 := by have := HXR.out.d1; simp only at this; omega
            have hfi0 : (0 : Int) ≤ (f : Int) := by omega
            have hfi8 : (f : Int) < 8 := by omega
            obtain ⟨tf, htf⟩ : ∃ tf, t[f]? = some tf := ⟨_, List.getElem?_eq_getElem (by rw [HTL.out]; exact hf8)⟩
            have HTF := Lib.hid htf
            have hcf := HT.out f hf8
            rw [List.getD_eq_getElem?_getD, htf, Option.getD_some] at hcf
            have hno := ord_no HXV.out
            simp only [Int.toNat_natCast] at hno
            have hn1 := HXR.out.n1
            simp only at hn1
            have hwf : IntKind.i64.wrap ((tf : Int) + 1) = (tf : Int) + 1 := IntWalk.i64_in _ (by rw [hcf, hno]; have := HXR.out.n0; simp only at this; omega)
            simp only at d0 d1 d2 d3 d4 HHA
            clear hb he hlte hha htf hcf hno hn1
            go_wp2_with (fail)
            ((with_reducible refine HHA.out.mono ?_); rintro _ w9 ⟨rfl, hb9⟩)
            have HS9 := Lib.hid (HSI.out.below hb9)
            clear d0 d1 d2 d3 d4
            obtain ⟨b4, o4, eb, hbl4, d0, d1, d2, d3, d4⟩ := ent_at (HLO.out.sl.below HS9.out.base) HXI.out
            injection eb with eb
            injection eb with eb1 eb2
            subst eb1 eb2
            simp only at d0 d1 d2 d3 d4
            obtain ⟨zT, kT, fT⟩ := HS9.out.cellN HTF.out
            have HSB := Lib.hid (HS9.out.bumpN HTF.out)
            have HF8 := Lib.hid hf8
            clear hb9 HHA hf8
            go_wp2_with (fail)
            go_roundw
            case rel =>
              refine ⟨i2 + 1, bump t f, HLI.out, by go_num, by unfold bump; rw [List.length_set]; exact HTL.out, fun d hd => ?_, HSB.out⟩
              rw [bump_at HTL.out hd, countF_snoc HXV.out, HT.out d hd]
              by_cases hed : f = d
              · rw [if_pos hed, if_pos (by simp only; omega)]
              · rw [if_neg hed, if_neg (by simp only; omega)]
            case measure => have := HLI.out; simp [intOf]; omega
end Go.Proofs.YtnnnibkainlplaaDoor
