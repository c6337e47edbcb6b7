/- merge: the reference's Order, walked. -/
import Derived.Test.YtnnnibkainlplaaGreatDoorMtE
import Derived.Test.YtnnnibkainlplaaGreatDoorOrdL
import Derived.Deep.LoopGhost
namespace Go.Proofs.YtnnnibkainlplaaGreatDoor
open Go.RowKit Go.Sort Go.Lib

/-- the rows of the pasts lie in memory -/
def RowsAt (ps : List PastC) (W : World) : Prop := ∀ p ∈ ps, Sl W 5 p.A p.l.length (p.l.map EntC.cells)
def PastsOf (l : List EntC) (ps : List PastC) : Prop := ∀ p ∈ ps, ∀ u ∈ p.l, u ∈ l
theorem Sep.cellQ {w0 w : World} {g c n d : Nat} {p : PastC} {ps : List PastC} {Rs : List Res} (h : Sep w0 w (ownR 22 1 (.slice (some ⟨g, 0, none⟩) n c) n (ps.map PastC.cells) :: Rs)) (hp : ps[d]? = some p) :
    g < w.heap.size ∧ w.cell? ⟨g, d, none⟩ = some (.slice p.A p.l.length p.c) := by
  obtain ⟨g', c', hv, _, h1, h2, _⟩ := h.own.at_ (i := d) (x := p.cells) (by rw [List.getElem?_map, hp]; rfl)
  injection hv with hA
  injection hA with hA
  injection hA with hA
  subst hA
  have := h2 0 _ rfl
  rw [Nat.mul_one, Nat.add_zero] at this
  exact ⟨h1, this⟩
/-- the reference's best: a device, or none -/
def bestI : Option Nat → Int
  | none => -1
  | some e => (e : Int)
theorem bestI_none : bestI none = -1 := rfl
def ReadyO (P : List (List EntV)) (F : List Bool) (t : List Nat) (ob : Option Nat) : Prop := ∀ e, ob = some e → e < 8 ∧ ∃ y, readyF P F t e = some y
theorem forks_take {J : List EntV} {k : Nat} (hk : k < 8) : (forksF J).take (k + 1) = (forksF J).take k ++ [forkB J (k : Int)] := by
  have : (forksF J)[k]? = some (forkB J (k : Int)) := by unfold forksF; simp [hk]
  rw [List.take_add_one, this]
  rfl
theorem row_at {W : World} {p : PastC} {j : Nat} {x : EntC} (h : Sl W 5 p.A p.l.length (p.l.map EntC.cells)) (hx : p.l[j]? = some x) : ∃ b o, p.A = some ⟨b, o, none⟩ ∧ b < W.heap.size ∧ W.cell? ⟨b, o + j * 5, none⟩ = some (.int .i64 x.v.dev) ∧ W.cell? ⟨b, o + j * 5 + 1, none⟩ = some (.int .i64 x.v.no) ∧ W.cell? ⟨b, o + j * 5 + 2, none⟩ = some (.int .i64 x.v.day) ∧ W.cell? ⟨b, o + j * 5 + 3, none⟩ = some (.slice x.A x.v.seen.length x.c) ∧ W.cell? ⟨b, o + j * 5 + 4, none⟩ = some (.string ⟨x.v.text.toArray⟩) := by
  obtain ⟨b, o, hA, hb, hc⟩ := h.2 j x.cells (by rw [List.getElem?_map, hx]; rfl)
  exact ⟨b, o, hA, hb, hc 0 _ rfl, hc 1 _ rfl, hc 2 _ rfl, hc 3 _ rfl, hc 4 _ rfl⟩
set_option maxRecDepth 100000 in
set_option maxHeartbeats 16000000 in
theorem ROrder_any (w : World) (A : Option Addr) (n c : Nat) (l : List EntC) (hs : ChAt w A n l) (hn : n ≤ 400) :
    Calls Tryz.prog 15 #[.slice A n c] w (GivesP w l (ordF (vsOf l)).2) := by
  obtain ⟨ib, hb0, hb1, hb2, hb3⟩ := info_parts infoBool
  obtain ⟨ie, he0, he1, he2, he3⟩ := info_parts infoEnt
  obtain ⟨ip, hp0, hp1, hp2, hp3⟩ := info_parts infoEnts
  have HCH := Lib.hid hs
  have HPA := Lib.hid (fun W (hb : Below w.heap.size w W) d => RPast_any W A n c l (hs.below hb) hn d)
  have HFK := Lib.hid (fun W (hb : Below w.heap.size w W) (d : Int) r hr => forked_any W A n c l (hs.below hb) (by omega) d r hr)
  obtain ⟨J, hJ⟩ : ∃ J, joinF (vsOf l) = J := ⟨_, rfl⟩
  rw [hJ] at HPA HFK
  have HJ := Lib.hid hJ
  have HS0 := Lib.hid ((((Sep.start w).ownNil 4 1).ownNil 22 1).seesNew (φ := RowsAt []) fun _ p hp => by simp at hp)
  clear hs hJ
  go_enter Tryz.func15, Tryz.ntmps15
  go_wp2_with (fail)
  go_loopw [3, 4, 5] (fun pv fv dv wr => ∃ (k : Nat) (P0 : Option Addr) (cP : Nat) (F0 : Option Addr) (cF : Nat) (ps : List PastC), pv = .slice P0 k cP ∧ fv = .slice F0 k cF ∧ dv = .int .i64 (k : Int) ∧ k ≤ 8 ∧ Sep w wr (seesR (RowsAt ps) :: ownR 22 1 (.slice P0 k cP) k (ps.map PastC.cells) :: ownR 4 1 (.slice F0 k cF) k (((forksF J).take k).map boolC) :: []) ∧ psV ps = (List.range k).map (fun d : Nat => pastF J (d : Int)) ∧ PastsOf l ps) (fun _ _ dv _ => 8 - (intOf dv).toNat)
  case atStart => exact ⟨0, none, 0, none, 0, [], rfl, rfl, rfl, by omega, HS0.out, rfl, fun p hp => by simp at hp⟩
  case round =>
    obtain ⟨k, P0, cP, F0, cF, ps, rfl, rfl, rfl, hk, hS, hpv, hof⟩ := hrel
    obtain ⟨wo, rfl⟩ : ∃ wo : World, wo = wr := ⟨_, rfl⟩
    have HSO := Lib.hid hS
    have HPV := Lib.hid hpv
    have HOF := Lib.hid hof
    clear hS hpv hof HS0
    by_cases hlt : k < 8
    · have hki : (k : Int) < 8 := by omega
      have hk0 : (0 : Int) ≤ (k : Int) := by omega
      have hwk : IntKind.i64.wrap ((k : Int) + 1) = (k : Int) + 1 := IntWalk.i64_in _ (by omega)
      have HP1 := Lib.hid (HPA.out wo HSO.out.base (k : Int))
      have HLT := Lib.hid hlt
      clear hlt
      go_upto_region 6 with (fail)
      go_wp2_with (first
        | ((with_reducible refine HP1.out.mono ?_); rintro _ w2 ⟨Ap, cp, lp, mp, rfl, hcp, hvp, hbp, hfp⟩
           obtain rfl : lp.length = mp := hcp.lenEq
           have HS2 := Lib.hid ((((HSO.out.seesAdd hbp (Sl.rests (A := Ap) ⟨hcp.sl, hfp.2⟩)).seesTurn (ψ := RowsAt (ps ++ [⟨Ap, cp, lp⟩])) fun W h p hp => by
             rcases List.mem_append.1 hp with h1 | h1
             · exact h.1 p h1
             · rw [List.mem_singleton.1 h1]; exact h.2).sw).alloc (.cells #[.slice Ap lp.length cp] 22))
           have HN2 := Lib.hid (Sl.new_ w2 22 (PastC.cells ⟨Ap, cp, lp⟩))
           have HVP := Lib.hid hvp
           have HSRC := Lib.hid hfp.1
           clear hcp hvp hbp hfp)
        | (at_builtin; (refine wpList_append_sl _ rfl (.tmp 15) (.tmp 19) _ rfl w.heap.size 22 ip _ 1 24 Tryz.underlying58 hp0 hp1 hp2 hp3 rfl (by omega) _ k (ps.map PastC.cells) rfl HS2.out.own (some ⟨w2.heap.size, 0, none⟩) 1 1 ([(⟨Ap, cp, lp⟩ : PastC)].map PastC.cells) rfl HN2.out (by simp [PastC.cells]) (by simp [PastC.cells, Value.oneCell']) (by simp only [maxLen]; omega) (by omega) HS2.out.base.size ?_); intro A9 c9 w9 hown9 hg9 hat9
           have HS9 := Lib.hid (HS2.out.grown hown9 hg9 hat9).sw
           clear hown9 hg9 hat9
           obtain ⟨r, hr⟩ : ∃ r, forkB J (k : Int) = r := ⟨_, rfl⟩
           have HFC := Lib.hid (HFK.out w9 HS9.out.base (k : Int) r hr)
           have HFR := Lib.hid hr
           clear hr)
        | ((with_reducible refine HFC.out.mono ?_); rintro _ w3 ⟨rfl, hb3⟩
           have HS3 := Lib.hid ((HS9.out.below hb3).r3.alloc (.cells #[.bool r] 4))
           have HN3 := Lib.hid (Sl.new_ w3 4 (boolC r))
           clear hb3)
        | (at_builtin; (refine wpList_append_sl _ rfl (.tmp 21) (.tmp 25) _ rfl w.heap.size 4 ib _ 1 1 Tryz.underlying51 hb0 hb1 hb2 hb3 rfl (by omega) _ k (((forksF J).take k).map boolC) rfl HS3.out.own (some ⟨w3.heap.size, 0, none⟩) 1 1 ([r].map boolC) rfl HN3.out (by simp [boolC]) (by simp [boolC, Value.oneCell']) (by simp only [maxLen]; omega) (by omega) HS3.out.base.size ?_); intro A8 c8 w8 hown8 hg8 hat8
           have HS8 := Lib.hid (HS3.out.grown hown8 hg8 hat8).l3
           clear hown8 hg8 hat8))
      go_roundw
      case rel =>
        refine ⟨k + 1, A9, c9, A8, c8, ps ++ [⟨Ap, cp, lp⟩], rfl, rfl, by go_num, by omega, ?_, ?_, ?_⟩
        · rw [forks_take HLT.out, HFR.out, List.map_append, List.map_append]
          exact HS8.out
        · rw [List.range_succ, List.map_append, ← HPV.out]
          simp [psV, HVP.out]
        · intro p hp
          rcases List.mem_append.1 hp with h | h
          · exact HOF.out p h
          · rw [List.mem_singleton.1 h]; exact HSRC.out
      case measure => simp [intOf]; omega
    · obtain rfl : k = 8 := by omega
      have hki : ¬ ((8 : Nat) : Int) < 8 := by omega
      have HPS2 : Hid (psV ps = pastsF J) := Lib.hid HPV.out
      have HPL : Hid (ps.length = 8) := Lib.hid (by have := congrArg List.length HPV.out; simpa [psV] using this)
      have hpk : PastsOk (psV ps) := by rw [HPS2.out]; exact pasts_ok J
      have HPK := Lib.hid hpk
      have HV2 : Hid (ordGo (psV ps) (forksF J) 3201 zero8 [] = ordF (vsOf l)) := Lib.hid (by rw [HPS2.out, ← HJ.out]; rfl)
      have HL8 : Hid (left8 (psV ps) zero8 8 < 3201) := Lib.hid (Nat.lt_of_le_of_lt (left8_le _ hpk _ 8 (by omega)) (by omega))
      have HRI : Hid (RunI (psV ps) (forksF J) zero8 []) := Lib.hid (runI_start _ _)
      obtain ⟨gP, rfl⟩ : ∃ gP, P0 = some ⟨gP, 0, none⟩ := by
        rcases HSO.out.drop.own.shape with ⟨_, h, _⟩ | ⟨g, h, _⟩
        · omega
        · exact ⟨g, h⟩
      obtain ⟨gF, rfl⟩ : ∃ gF, F0 = some ⟨gF, 0, none⟩ := by
        rcases HSO.out.drop.drop.own.shape with ⟨_, h, _⟩ | ⟨g, h, _⟩
        · omega
        · exact ⟨g, h⟩
      have hsa := (((HSO.out.ownNil 37 5).ownNew (below_alloc _ _) (own8 wo)).r5.r5.r5)
      rw [show (forksF J).take 8 = forksF J from List.take_of_length_le (by simp [forksF])] at hsa
      have HMK : ∀ W, Sem.run Tryz.prog (Instr.makeSlice 28 (.int .i64 8) (.int .i64 8)) W = .ok (.slice (some ⟨W.heap.size, 0, none⟩) 8 8) (W.alloc (.cells row8 3)) := run_make8
      have HSA := Lib.hid hsa
      clear hpk hsa hlt hk HPA HFK
      go_wp2_with (fail)
      clear HMK
      generalize hgT : wo.heap.size = gT at HSA ⊢
      clear hgT
      go_loopg [7] 3201 (fun gk s wr => ∃ (m : Nat) (Ao : Option Addr) (cA : Nat) (t : List Nat) (os : List EntC), s = .slice Ao m cA ∧ m + gk = 3201 ∧ os.length = m ∧ Sep w wr (seesR (RowsAt ps) :: ownR 22 1 (.slice (some ⟨gP, 0, none⟩) 8 cP) 8 (ps.map PastC.cells) :: ownR 4 1 (.slice (some ⟨gF, 0, none⟩) 8 cF) 8 ((forksF J).map boolC) :: ownR 3 1 (.slice (some ⟨gT, 0, none⟩) 8 8) 8 (t.map natC) :: ownR 37 5 (.slice Ao m cA) m (os.map EntC.cells) :: []) ∧ (∀ u ∈ os, u ∈ l) ∧ RunI (psV ps) (forksF J) t (vsOf os) ∧ left8 (psV ps) t 8 < gk ∧ ordGo (psV ps) (forksF J) gk t (vsOf os) = ordF (vsOf l))
      case atStart => exact ⟨0, none, 0, zero8, [], rfl, rfl, rfl, HSA.out, by simp, HRI.out, HL8.out, HV2.out⟩
      case round =>
        obtain ⟨m, Ao, cA, t, os, rfl, hmk, hol, hS, hos, hri, hl8, hgo⟩ := hrel
        obtain ⟨wq, rfl⟩ : ∃ wq : World, wq = wr := ⟨_, rfl⟩
        have HQ := Lib.hid hS
        have HOS := Lib.hid hos
        have HRI2 := Lib.hid hri
        have HL2 := Lib.hid hl8
        have HGO := Lib.hid hgo
        have HMK := Lib.hid hmk
        have HOL := Lib.hid hol
        have HTL := Lib.hid hri.len
        clear hS hos hri hl8 hgo hmk hol HRI HL8 HV2 HSO HSA
        go_wp2_with (fail)
        go_loopw [8, 9] (fun bv dv wr => ∃ (k : Nat) (ob : Option Nat), k ≤ 8 ∧ bv = .int .i64 (bestI ob) ∧ dv = .int .i64 (k : Int) ∧ Sep w wr (seesR (RowsAt ps) :: ownR 22 1 (.slice (some ⟨gP, 0, none⟩) 8 cP) 8 (ps.map PastC.cells) :: ownR 4 1 (.slice (some ⟨gF, 0, none⟩) 8 cF) 8 ((forksF J).map boolC) :: ownR 3 1 (.slice (some ⟨gT, 0, none⟩) 8 8) 8 (t.map natC) :: ownR 37 5 (.slice Ao m cA) m (os.map EntC.cells) :: []) ∧ ReadyO (psV ps) (forksF J) t ob ∧ pickGo (psV ps) (forksF J) t (8 - k) k (ob.bind (readyF (psV ps) (forksF J) t)) = pickF (psV ps) (forksF J) t) (fun _ dv _ => 8 - (intOf dv).toNat)
        case atStart => exact ⟨0, none, by omega, rfl, rfl, HQ.out, (by intro e h; cases h), rfl⟩
        case round =>
          obtain ⟨k, ob, hk8, rfl, rfl, hS, hob, hpk⟩ := hrel
          obtain ⟨wi, rfl⟩ : ∃ wi : World, wi = wr := ⟨_, rfl⟩
          have HSI := Lib.hid hS
          have HOB := Lib.hid hob
          have HPK3 := Lib.hid hpk
          clear hS hob hpk HQ
          by_cases hlt : k < 8
          · obtain ⟨p, hp⟩ : ∃ p, ps[k]? = some p := ⟨_, List.getElem?_eq_getElem (by rw [HPL.out]; exact hlt)⟩
            obtain ⟨tk, htk⟩ : ∃ b, t[k]? = some b := ⟨_, List.getElem?_eq_getElem (by rw [HTL.out]; exact hlt)⟩
            have hpv : (psV ps).getD k [] = vsOf p.l := psV_at hp
            have htg : t.getD k 0 = tk := by rw [List.getD_eq_getElem?_getD, htk]; rfl
            have hle := HRI2.out.le k hlt
            rw [hpv, htg, vsOf_len] at hle
            have hpl := HPK.out.len k hlt
            rw [hpv, vsOf_len] at hpl
            obtain ⟨zP, kP⟩ := HSI.out.sw.cellQ hp
            obtain ⟨zT, kT, fT⟩ := HSI.out.r4.cellN htk
            have hki : (k : Int) < 8 := by omega
            have hk0 : (0 : Int) ≤ (k : Int) := by omega
            have hwk : IntKind.i64.wrap ((k : Int) + 1) = (k : Int) + 1 := IntWalk.i64_in _ (by omega)
            have HP := Lib.hid hp
            have HTK := Lib.hid htk
            have HPV2 := Lib.hid hpv
            have HTG := Lib.hid htg
            have HLT := Lib.hid hlt
            clear hp htk hpv htg hlt hk8
            by_cases htl : tk < p.l.length
            case neg =>
              have hge : (p.l.length : Int) ≤ (tk : Int) := by omega
              have hrn : readyF (psV ps) (forksF J) t k = none := by
                unfold readyF
                rw [HPV2.out, HTG.out, List.getElem?_eq_none (by rw [vsOf_len]; omega)]
              have HST := Lib.hid (pick_step HLT.out hrn HPK3.out)
              clear htl hrn
              go_upto_region 14 with (fail)
              go_quiet (fail)
              go_wp2_with (fail)
              go_roundw
              case rel => exact ⟨k + 1, ob, HLT.out, rfl, by go_num, HSI.out.drewN _, HOB.out, HST.out⟩
              case measure => have := HLT.out; simp [intOf]; omega
            have hge : ¬ ((p.l.length : Int) ≤ (tk : Int)) := by omega
            obtain ⟨x, hx⟩ : ∃ v, p.l[tk]? = some v := ⟨_, List.getElem?_eq_getElem htl⟩
            have hxat : ((psV ps).getD k [])[t.getD k 0]? = some x.v := by rw [HPV2.out, HTG.out]; exact vsOf_at hx
            obtain ⟨hxno, hxdev, hxr⟩ := HPK.out.at_ k HLT.out _ _ hxat
            have hxl : x ∈ l := HOF.out p (List.mem_of_getElem? HP.out) x (List.mem_of_getElem? hx)
            have HXAT := Lib.hid hxat
            have HXD := Lib.hid hxdev
            have HXR := Lib.hid hxr
            have HXI := Lib.hid hx
            have HXA := Lib.hid (HCH.out.at_ x hxl)
            have htli : (tk : Int) < (p.l.length : Int) := by omega
            have htk0 : (0 : Int) ≤ (tk : Int) := by omega
            clear hx hxat hxno hxdev hxr hxl hle htl
            go_upto_region 14 with (fail)
            go_quiet (fail)
            have HS1 := Lib.hid (HSI.out.drewN nq)
            generalize wi.drewN nq = wj at *
            clear zP kP zT kT fT HSI
            obtain ⟨zP, kP⟩ := HS1.out.sw.cellQ HP.out
            obtain ⟨zT, kT, fT⟩ := HS1.out.r4.cellN HTK.out
            obtain ⟨b7, o7, hpa, hb7, d0, d1, d2, d3, d4⟩ := row_at (HS1.out.sees p (List.mem_of_getElem? HP.out)) HXI.out
            rw [hpa] at kP
            have hS : ∀ w', Below wj.heap.size wj w' → (w'.cell? ⟨gP, k, none⟩ = some (.slice (some ⟨b7, o7, none⟩) p.l.length p.c) ∧ w'.cell? ⟨gT, k, none⟩ = some (.int .i64 (tk : Int)) ∧ w'.cell? ⟨b7, o7 + tk * 5, none⟩ = some (.int .i64 x.v.dev) ∧ w'.cell? ⟨b7, o7 + tk * 5 + 1, none⟩ = some (.int .i64 x.v.no) ∧ w'.cell? ⟨b7, o7 + tk * 5 + 2, none⟩ = some (.int .i64 x.v.day) ∧ w'.cell? ⟨b7, o7 + tk * 5 + 3, none⟩ = some (.slice x.A x.v.seen.length x.c) ∧ w'.cell? ⟨b7, o7 + tk * 5 + 4, none⟩ = some (.string ⟨x.v.text.toArray⟩)) := fun w' hbw => ⟨(hbw.cell (p := ⟨gP, k, none⟩) zP).trans kP, (hbw.cell (p := ⟨gT, k, none⟩) zT).trans kT, (hbw.cell (p := ⟨b7, o7 + tk * 5, none⟩) hb7).trans d0, (hbw.cell (p := ⟨b7, o7 + tk * 5 + 1, none⟩) hb7).trans d1, (hbw.cell (p := ⟨b7, o7 + tk * 5 + 2, none⟩) hb7).trans d2, (hbw.cell (p := ⟨b7, o7 + tk * 5 + 3, none⟩) hb7).trans d3, (hbw.cell (p := ⟨b7, o7 + tk * 5 + 4, none⟩) hb7).trans d4⟩
            have HSS := Lib.hid hS
            clear hS zP kP zT kT fT d0 d1 d2 d3 d4 hb7
            go_upto_region 15 with (fail)
            go_cut [10] (fun s10 wy => ∃ gX : Nat, s10 = .pointer (some ⟨gX, 0, none⟩) ∧ Sep w wy (boxR gX #[.int .i64 x.v.dev, .int .i64 x.v.no, .int .i64 x.v.day, .slice x.A x.v.seen.length x.c, .string ⟨x.v.text.toArray⟩] :: seesR (RowsAt ps) :: ownR 22 1 (.slice (some ⟨gP, 0, none⟩) 8 cP) 8 (ps.map PastC.cells) :: ownR 4 1 (.slice (some ⟨gF, 0, none⟩) 8 cF) 8 ((forksF J).map boolC) :: ownR 3 1 (.slice (some ⟨gT, 0, none⟩) 8 8) 8 (t.map natC) :: ownR 37 5 (.slice Ao m cA) m (os.map EntC.cells) :: []))
            case first =>
              refine wpTill.startN 12 (S := fun w' => w'.cell? ⟨gP, k, none⟩ = some (.slice (some ⟨b7, o7, none⟩) p.l.length p.c) ∧ w'.cell? ⟨gT, k, none⟩ = some (.int .i64 (tk : Int)) ∧ w'.cell? ⟨b7, o7 + tk * 5, none⟩ = some (.int .i64 x.v.dev) ∧ w'.cell? ⟨b7, o7 + tk * 5 + 1, none⟩ = some (.int .i64 x.v.no) ∧ w'.cell? ⟨b7, o7 + tk * 5 + 2, none⟩ = some (.int .i64 x.v.day) ∧ w'.cell? ⟨b7, o7 + tk * 5 + 3, none⟩ = some (.slice x.A x.v.seen.length x.c) ∧ w'.cell? ⟨b7, o7 + tk * 5 + 4, none⟩ = some (.string ⟨x.v.text.toArray⟩)) (T := fun _ => True) (m := 300) rfl (by kernel_rfl) ?_
              have HBZ := Lib.hid (Below.drew (Below.refl wj.heap.size wj))
              have HZ := Lib.hid HS1.out.drew
              generalize wj.drew = wz at *
              refine wpTill.take (i := 0) (v := ?_) (by rfl) rfl (by kernel_rfl) (by kernel_rfl) (by kernel_rfl) (by exact fun _ _ _ h => h) (HSS.out _ HBZ.out) (fun _ => trivial) (Or.inl ⟨by rfl, ?_⟩) ?_
              rotate_left
              · (intro w' hSw; (try dsimp only at hSw); go_simp; (try with_reducible rfl))
              (try simp only [Act.put, List.setIfInBounds_toArray, List.set_cons_zero, List.set_cons_succ, List.getElem_toArray, List.getElem_cons_zero, List.getElem_cons_succ])
              refine wpTill.take (i := 1) (v := ?_) (by rfl) rfl (by kernel_rfl) (by kernel_rfl) (by kernel_rfl) (by exact fun _ _ _ h => h) (HSS.out _ HBZ.out) (fun _ => trivial) (Or.inl ⟨by rfl, ?_⟩) ?_
              rotate_left
              · (intro w' hSw; (try dsimp only at hSw); go_simp; (try with_reducible rfl))
              (try simp only [Act.put, List.setIfInBounds_toArray, List.set_cons_zero, List.set_cons_succ, List.getElem_toArray, List.getElem_cons_zero, List.getElem_cons_succ])
              refine wpTill.take (i := 2) (v := ?_) (by rfl) rfl (by kernel_rfl) (by kernel_rfl) (by kernel_rfl) (by exact fun _ _ _ h => h) (HSS.out _ HBZ.out) (fun _ => trivial) (Or.inl ⟨by rfl, ?_⟩) ?_
              rotate_left
              · (intro w' hSw; (try dsimp only at hSw); go_simp; (try with_reducible rfl))
              (try simp only [Act.put, List.setIfInBounds_toArray, List.set_cons_zero, List.set_cons_succ, List.getElem_toArray, List.getElem_cons_zero, List.getElem_cons_succ])
              refine wpTill.take (i := 3) (v := ?_) (by rfl) rfl (by kernel_rfl) (by kernel_rfl) (by kernel_rfl) (by exact fun _ _ _ h => h) (HSS.out _ HBZ.out) (fun _ => trivial) (Or.inl ⟨by rfl, ?_⟩) ?_
              rotate_left
              · (intro w' hSw; (try dsimp only at hSw); go_simp; (try with_reducible rfl))
              (try simp only [Act.put, List.setIfInBounds_toArray, List.set_cons_zero, List.set_cons_succ, List.getElem_toArray, List.getElem_cons_zero, List.getElem_cons_succ])
              refine wpTill.take (i := 4) (v := ?_) (by rfl) rfl (by kernel_rfl) (by kernel_rfl) (by kernel_rfl) (by exact fun _ _ _ h => h) (HSS.out _ HBZ.out) (fun _ => trivial) (Or.inl ⟨by rfl, ?_⟩) ?_
              rotate_left
              · (intro w' hSw; (try dsimp only at hSw); go_simp; (try with_reducible rfl))
              (try simp only [Act.put, List.setIfInBounds_toArray, List.set_cons_zero, List.set_cons_succ, List.getElem_toArray, List.getElem_cons_zero, List.getElem_cons_succ])
              refine wpTill.take (i := 5) (v := ?_) (by rfl) rfl (by kernel_rfl) (by kernel_rfl) (by kernel_rfl) (by exact fun _ _ _ h => h) (HSS.out _ HBZ.out) (fun _ => trivial) (Or.inl ⟨by rfl, ?_⟩) ?_
              rotate_left
              · (intro w' hSw; (try dsimp only at hSw); go_simp; (try with_reducible rfl))
              (try simp only [Act.put, List.setIfInBounds_toArray, List.set_cons_zero, List.set_cons_succ, List.getElem_toArray, List.getElem_cons_zero, List.getElem_cons_succ])
              refine wpTill.take (i := 6) (v := ?_) (by rfl) rfl (by kernel_rfl) (by kernel_rfl) (by kernel_rfl) (by exact fun _ _ _ h => h) (HSS.out _ HBZ.out) (fun _ => trivial) (Or.inl ⟨by rfl, ?_⟩) ?_
              rotate_left
              · (intro w' hSw; (try dsimp only at hSw); go_simp; (try with_reducible rfl))
              (try simp only [Act.put, List.setIfInBounds_toArray, List.set_cons_zero, List.set_cons_succ, List.getElem_toArray, List.getElem_cons_zero, List.getElem_cons_succ])
              refine wpTill.take (i := 7) (v := ?_) (by rfl) rfl (by kernel_rfl) (by kernel_rfl) (by kernel_rfl) (by exact fun _ _ _ h => h) (HSS.out _ HBZ.out) (fun _ => trivial) (Or.inl ⟨by rfl, ?_⟩) ?_
              rotate_left
              · (intro w' hSw; (try dsimp only at hSw); go_simp; (try with_reducible rfl))
              (try simp only [Act.put, List.setIfInBounds_toArray, List.set_cons_zero, List.set_cons_succ, List.getElem_toArray, List.getElem_cons_zero, List.getElem_cons_succ])
              refine wpTill.take (i := 8) (v := ?_) (by rfl) rfl (by kernel_rfl) (by kernel_rfl) (by kernel_rfl) (by exact fun _ _ _ h => h) (HSS.out _ HBZ.out) (fun _ => trivial) (Or.inl ⟨by rfl, ?_⟩) ?_
              rotate_left
              · (intro w' hSw; (try dsimp only at hSw); go_simp; (try with_reducible rfl))
              (try simp only [Act.put, List.setIfInBounds_toArray, List.set_cons_zero, List.set_cons_succ, List.getElem_toArray, List.getElem_cons_zero, List.getElem_cons_succ])
              refine wpTill.take (i := 9) (v := ?_) (by rfl) rfl (by kernel_rfl) (by kernel_rfl) (by kernel_rfl) (by exact fun _ _ _ h => h) (HSS.out _ HBZ.out) (fun _ => trivial) (Or.inl ⟨by rfl, ?_⟩) ?_
              rotate_left
              · (intro w' hSw; (try dsimp only at hSw); go_simp; (try with_reducible rfl))
              (try simp only [Act.put, List.setIfInBounds_toArray, List.set_cons_zero, List.set_cons_succ, List.getElem_toArray, List.getElem_cons_zero, List.getElem_cons_succ])
              have HGX := Lib.hid HBZ.out.size
              refine wpTill.step (i := 10) (by kernel_rfl) (by rfl) (fun K' hK => ?_)
              replace hK := Lib.hid hK
              go_simp
              replace HZ := Lib.hid (HZ.out.box #[.int .i64 0, .int .i64 0, .int .i64 0, .slice none 0 0, .string ⟨#[]⟩] 37)
              replace HBZ := Lib.hid (HBZ.out.alloc HBZ.out.size (.cells #[.int .i64 0, .int .i64 0, .int .i64 0, .slice none 0 0, .string ⟨#[]⟩] 37))
              refine hK.out _ _ (HSS.out _ HBZ.out) (fun _ => trivial) ?_
              clear hK K'
              (try simp only [Act.put, List.setIfInBounds_toArray, List.set_cons_zero, List.set_cons_succ, List.getElem_toArray, List.getElem_cons_zero, List.getElem_cons_succ])
              generalize wz.alloc (.cells #[.int .i64 0, .int .i64 0, .int .i64 0, .slice none 0 0, .string ⟨#[]⟩] 37) = wx at *
              generalize wz.heap.size = gX at *
              obtain ⟨zE, kE, fE⟩ := HZ.out.loc
              refine wpTill.step (i := 11) (by kernel_rfl) (by rfl) (fun K' hK => ?_)
              replace hK := Lib.hid hK
              go_simp
              have HZ2 := Lib.hid (HZ.out.setEnt x)
              simp only [EntC.cells] at HZ2
              have HBZ2 := Lib.hid (Below.setEnt HBZ.out HGX.out (.int .i64 x.v.dev) (.int .i64 x.v.no) (.int .i64 x.v.day) (.slice x.A x.v.seen.length x.c) (.string ⟨x.v.text.toArray⟩))
              refine hK.out _ _ (HSS.out _ HBZ2.out) (fun _ => trivial) ?_
              clear hK K'
              (try simp only [Act.put, List.setIfInBounds_toArray, List.set_cons_zero, List.set_cons_succ, List.getElem_toArray, List.getElem_cons_zero, List.getElem_cons_succ])
              refine wpTill.stop (by kernel_rfl) ?_ _
              go_wp2_with (fail)
              go_meet
              exact ⟨gX, rfl, HZ2.out⟩
            case rest =>
            obtain ⟨gX, rfl, hS2⟩ := hcut
            obtain ⟨wk, rfl⟩ : ∃ wk : World, wk = wc := ⟨_, rfl⟩
            have HS2 := Lib.hid hS2
            clear hS2 HS1 HSS
            obtain ⟨r, hr⟩ : ∃ r, blockedB (psV ps) (forksF J) t k x.v = r := ⟨_, rfl⟩
            have HBR := Lib.hid hr
            have HRD := Lib.hid (Rready_any wk x (Sl.below HXA.out HS2.out.base) HXR.out.len k HXD.out (some ⟨gP, 0, none⟩) cP ps HS2.out.drop.drop.own.sl' (some ⟨gF, 0, none⟩) cF (forksF J) HS2.out.drop.drop.drop.own.sl' (some ⟨gT, 0, none⟩) 8 t HS2.out.drop.drop.drop.drop.own.sl' r hr)
            simp only [EntC.cells] at HRD
            obtain ⟨zX, kX, fX⟩ := HS2.out.loc
            clear hr
            go_wp2_with (fail)
            ((with_reducible refine HRD.out.mono ?_); rintro _ w5 ⟨rfl, hb5⟩)
            have HS5 := Lib.hid (HS2.out.below hb5)
            clear hb5 HRD HS2 zX kX fX
            cases r
            case true =>
              have hrn : readyF (psV ps) (forksF J) t k = none := by
                unfold readyF
                rw [HXAT.out]
                simp only
                rw [HBR.out, if_pos rfl]
              have HST := Lib.hid (pick_step HLT.out hrn HPK3.out)
              clear hrn
              go_wp2_with (fail)
              go_roundw
              case rel => exact ⟨k + 1, ob, HLT.out, rfl, by go_num, HS5.out.drop, HOB.out, HST.out⟩
              case measure => have := HLT.out; simp [intOf]; omega
            have hrs : readyF (psV ps) (forksF J) t k = some x.v := ready_iff.2 ⟨HXAT.out, HBR.out⟩
            have HRS := Lib.hid hrs
            have HST := Lib.hid (pick_step HLT.out hrs HPK3.out)
            clear hrs
            rcases ob with _ | e
            · have hb0 : bestI none < 0 := by decide
              go_wp2_with (fail)
              go_roundw
              case rel => exact ⟨k + 1, some k, HLT.out, rfl, by go_num, HS5.out.drop, fun e h => by injection h with h; subst h; exact ⟨HLT.out, _, HRS.out⟩, by
                have h := HST.out
                simp only [Option.bind_none, Option.bind_some, HRS.out] at h ⊢
                exact h⟩
              case measure => have := HLT.out; simp [intOf]; omega
            · obtain ⟨he8, y, hy⟩ := HOB.out e rfl
              obtain ⟨pe, hpe⟩ : ∃ p, ps[e]? = some p := ⟨_, List.getElem?_eq_getElem (by rw [HPL.out]; exact he8)⟩
              obtain ⟨te, hte⟩ : ∃ b, t[e]? = some b := ⟨_, List.getElem?_eq_getElem (by rw [HTL.out]; exact he8)⟩
              have hpev : (psV ps).getD e [] = vsOf pe.l := psV_at hpe
              have hteg : t.getD e 0 = te := by rw [List.getD_eq_getElem?_getD, hte]; rfl
              have hyat := (ready_iff.1 hy).1
              rw [hpev, hteg] at hyat
              have htel : te < pe.l.length := by have := (List.getElem?_eq_some_iff.1 hyat).1; rwa [vsOf_len] at this
              obtain ⟨z, hz⟩ : ∃ v, pe.l[te]? = some v := ⟨_, List.getElem?_eq_getElem htel⟩
              have hyz : y = z.v := by rw [vsOf_at hz] at hyat; exact (Option.some.inj hyat).symm
              subst hyz
              obtain ⟨zP, kP⟩ := HS5.out.drop.sw.cellQ hpe
              obtain ⟨zT, kT, fT⟩ := HS5.out.drop.r4.cellN hte
              obtain ⟨b7, o7, hpa, hb7, d0, d1, d2, d3, d4⟩ := row_at (HS5.out.drop.sees pe (List.mem_of_getElem? hpe)) hz
              rw [hpa] at kP
              obtain ⟨zX, kX, fX⟩ := HS5.out.loc
              have hbe : bestI (some e) = (e : Int) := rfl
              have hb0 : ¬ ((e : Int) < 0) := by omega
              have hei0 : (0 : Int) ≤ (e : Int) := by omega
              have hei8 : (e : Int) < 8 := by omega
              have htei : (te : Int) < (pe.l.length : Int) := by omega
              have hte0 : (0 : Int) ≤ (te : Int) := by omega
              have HYR := Lib.hid hy
              clear hpe hte hpev hteg hyat htel hz hpa hy d0 d1 d3 d4
              go_upto_region 19 with (fail)
              go_quiet (fail)
              clear zP kP zT kT fT zX kX fX d2
              by_cases hday : x.v.day < z.v.day
              · have HDAY := Lib.hid hday
                go_wp2_with (fail)
                go_roundw
                case rel => exact ⟨k + 1, some k, HLT.out, rfl, by go_num, HS5.out.drop.drewN _, fun e h => by injection h with h; subst h; exact ⟨HLT.out, _, HRS.out⟩, by
                  have h := HST.out
                  simp only [Option.bind_some, HRS.out, HYR.out, betterF, if_pos HDAY.out] at h ⊢
                  exact h⟩
                case measure => have := HLT.out; simp [intOf]; omega
              · have HDAY := Lib.hid hday
                go_wp2_with (fail)
                go_roundw
                case rel => exact ⟨k + 1, some e, HLT.out, by first | rfl | (rw [hbe]), by go_num, HS5.out.drop.drewN _, HOB.out, by
                  have h := HST.out
                  simp only [Option.bind_some, HYR.out, betterF, if_neg HDAY.out] at h ⊢
                  exact h⟩
                case measure => have := HLT.out; simp [intOf]; omega
          · obtain rfl : k = 8 := by omega
            have hki : ¬ ((8 : Nat) : Int) < 8 := by omega
            have HPI : Hid (pickF (psV ps) (forksF J) t = ob.bind (readyF (psV ps) (forksF J) t)) := Lib.hid HPK3.out.symm
            rcases ob with _ | e
            · have hb0 : bestI none < 0 := by decide
              have hgo := HGO.out
              obtain ⟨g', hg'⟩ : ∃ g', gk = g' + 1 := ⟨gk - 1, by have := HL2.out; omega⟩
              rw [hg'] at hgo
              simp only [ordGo, HPI.out, Option.bind_none] at hgo
              have HE2 := Lib.hid hgo
              clear hgo hg'
              go_wp2_with (fail)
              go_ret
              exact ⟨Ao, cA, os, m, rfl, ⟨HSI.out.r5.own.sl', fun u hu => (HCH.out.at_ u (HOS.out u hu)).below HSI.out.base, fun u hu => HCH.out.len u (HOS.out u hu)⟩, congrArg Prod.snd HE2.out, HSI.out.base, HOS.out, fun ad h => (HSI.out.r5.own.lt ad.block (by rw [h]; rfl)).1⟩
            · obtain ⟨he, y, hre⟩ := HOB.out e rfl
              have hpi : pickF (psV ps) (forksF J) t = some y := by rw [HPI.out, Option.bind_some]; exact hre
              obtain ⟨hdev, hri'⟩ := runI_step HPK.out HRI2.out he hre
              have hat := (ready_iff.1 hre).1
              have hlt' : t.getD e 0 < ((psV ps).getD e []).length := (List.getElem?_eq_some_iff.1 hat).1
              have HL8P : Hid (1 ≤ left8 (psV ps) t 8) := Lib.hid (left8_pos hlt' 8 he)
              have hple := HPK.out.len e he
              obtain ⟨p, hp⟩ : ∃ p, ps[e]? = some p := ⟨_, List.getElem?_eq_getElem (by rw [HPL.out]; exact he)⟩
              obtain ⟨te, hte⟩ : ∃ te, t[e]? = some te := ⟨_, List.getElem?_eq_getElem (by rw [HTL.out]; exact he)⟩
              have hpv : (psV ps).getD e [] = vsOf p.l := psV_at hp
              have htd : t.getD e 0 = te := by rw [List.getD_eq_getElem?_getD, hte]; rfl
              rw [hpv] at hple hat hlt'
              rw [htd] at hat hlt'
              rw [vsOf_len] at hple hlt'
              obtain ⟨x, hx⟩ : ∃ v, p.l[te]? = some v := ⟨_, List.getElem?_eq_getElem hlt'⟩
              have hyx : y = x.v := by rw [vsOf_at hx] at hat; exact (Option.some.inj hat).symm
              subst hyx
              have hxl : x ∈ l := HOF.out p (List.mem_of_getElem? hp) x (List.mem_of_getElem? hx)
              have hte4 : te < 400 := by omega
              have hei0 : (0 : Int) ≤ (e : Int) := by omega
              have hei8 : (e : Int) < 8 := by omega
              have htei : (te : Int) < (p.l.length : Int) := by omega
              have hte0 : (0 : Int) ≤ (te : Int) := by omega
              have hw1 : IntKind.i64.wrap ((te : Int) + 1) = (te : Int) + 1 := IntWalk.i64_in _ (by omega)
              have hbe : bestI (some e) = (e : Int) := rfl
              have hb0 : ¬ ((e : Int) < 0) := by omega
              have HNX := Lib.hid hri'
              have HLB := Lib.hid (left8_bump HRI2.out.len (e := e) (by rw [hpv, htd, vsOf_len]; exact hlt') 8 (by omega))
              have hgo := HGO.out
              obtain ⟨g', hg'⟩ : ∃ g', gk = g' + 1 := ⟨gk - 1, by have := HL2.out; omega⟩
              rw [hg'] at hgo
              simp only [ordGo, hpi] at hgo
              have HGN := Lib.hid hgo
              have HXL := Lib.hid hxl
              have HTE := Lib.hid hte
              have HP := Lib.hid hp
              have HXI := Lib.hid hx
              have HGE := Lib.hid hg'
              have HDV := Lib.hid hdev
              have HE8 := Lib.hid he
              have hm1 : m ≤ 3201 := by have := HMK.out; omega
              obtain ⟨b7, o7, hpa, _⟩ := row_at (HSI.out.sees p (List.mem_of_getElem? hp)) hx
              have HSX : ∀ (w' : World) (Rs : List Res), Sep w w' (seesR (RowsAt ps) :: ownR 22 1 (.slice (some ⟨gP, 0, none⟩) 8 cP) 8 (ps.map PastC.cells) :: ownR 4 1 (.slice (some ⟨gF, 0, none⟩) 8 cF) 8 ((forksF J).map boolC) :: ownR 3 1 (.slice (some ⟨gT, 0, none⟩) 8 8) 8 (t.map natC) :: Rs) → (w'.cell? ⟨gP, e, none⟩ = some (.slice (some ⟨b7, o7, none⟩) p.l.length p.c) ∧ w'.cell? ⟨gT, e, none⟩ = some (.int .i64 (te : Int)) ∧ w'.cell? ⟨b7, o7 + te * 5, none⟩ = some (.int .i64 x.v.dev) ∧ w'.cell? ⟨b7, o7 + te * 5 + 1, none⟩ = some (.int .i64 x.v.no) ∧ w'.cell? ⟨b7, o7 + te * 5 + 2, none⟩ = some (.int .i64 x.v.day) ∧ w'.cell? ⟨b7, o7 + te * 5 + 3, none⟩ = some (.slice x.A x.v.seen.length x.c) ∧ w'.cell? ⟨b7, o7 + te * 5 + 4, none⟩ = some (.string ⟨x.v.text.toArray⟩)) := fun w' Rs h => by
                obtain ⟨_, k1⟩ := h.sw.cellQ HP.out
                obtain ⟨_, k2, _⟩ := h.r4.cellN HTE.out
                obtain ⟨b8, o8, hpb, _, d0, d1, d2, d3, d4⟩ := row_at (h.sees p (List.mem_of_getElem? HP.out)) HXI.out
                rw [hpa] at hpb k1
                injection hpb with hpb
                injection hpb with h1 h2
                subst h1 h2
                exact ⟨k1, k2, d0, d1, d2, d3, d4⟩
              replace HSX := Lib.hid HSX
              clear hgo hg' hri' hat hlt' hple hte htd hre hpi hp hxl hx hdev he hpv hpa
              go_upto_region 23 with (fail)
              refine wpTill.startN 14 (S := fun w' => w'.cell? ⟨gP, e, none⟩ = some (.slice (some ⟨b7, o7, none⟩) p.l.length p.c) ∧ w'.cell? ⟨gT, e, none⟩ = some (.int .i64 (te : Int)) ∧ w'.cell? ⟨b7, o7 + te * 5, none⟩ = some (.int .i64 x.v.dev) ∧ w'.cell? ⟨b7, o7 + te * 5 + 1, none⟩ = some (.int .i64 x.v.no) ∧ w'.cell? ⟨b7, o7 + te * 5 + 2, none⟩ = some (.int .i64 x.v.day) ∧ w'.cell? ⟨b7, o7 + te * 5 + 3, none⟩ = some (.slice x.A x.v.seen.length x.c) ∧ w'.cell? ⟨b7, o7 + te * 5 + 4, none⟩ = some (.string ⟨x.v.text.toArray⟩)) (T := fun _ => True) (m := 300) rfl (by kernel_rfl) ?_
              have HZ := Lib.hid HSI.out.drew
              generalize wi.drew = wz at *
              refine wpTill.take (i := 0) (v := ?_) (by rfl) rfl (by kernel_rfl) (by kernel_rfl) (by kernel_rfl) (by exact fun _ _ _ h => h) (HSX.out _ _ HZ.out) (fun _ => trivial) (Or.inl ⟨by rfl, ?_⟩) ?_
              rotate_left
              · (intro w' hSw; (try dsimp only at hSw); go_simp; (try with_reducible rfl))
              (try simp only [Act.put, List.setIfInBounds_toArray, List.set_cons_zero, List.set_cons_succ, List.getElem_toArray, List.getElem_cons_zero, List.getElem_cons_succ])
              refine wpTill.take (i := 1) (v := ?_) (by rfl) rfl (by kernel_rfl) (by kernel_rfl) (by kernel_rfl) (by exact fun _ _ _ h => h) (HSX.out _ _ HZ.out) (fun _ => trivial) (Or.inl ⟨by rfl, ?_⟩) ?_
              rotate_left
              · (intro w' hSw; (try dsimp only at hSw); go_simp; (try with_reducible rfl))
              (try simp only [Act.put, List.setIfInBounds_toArray, List.set_cons_zero, List.set_cons_succ, List.getElem_toArray, List.getElem_cons_zero, List.getElem_cons_succ])
              refine wpTill.take (i := 2) (v := ?_) (by rfl) rfl (by kernel_rfl) (by kernel_rfl) (by kernel_rfl) (by exact fun _ _ _ h => h) (HSX.out _ _ HZ.out) (fun _ => trivial) (Or.inl ⟨by rfl, ?_⟩) ?_
              rotate_left
              · (intro w' hSw; (try dsimp only at hSw); go_simp; (try with_reducible rfl))
              (try simp only [Act.put, List.setIfInBounds_toArray, List.set_cons_zero, List.set_cons_succ, List.getElem_toArray, List.getElem_cons_zero, List.getElem_cons_succ])
              refine wpTill.take (i := 3) (v := ?_) (by rfl) rfl (by kernel_rfl) (by kernel_rfl) (by kernel_rfl) (by exact fun _ _ _ h => h) (HSX.out _ _ HZ.out) (fun _ => trivial) (Or.inl ⟨by rfl, ?_⟩) ?_
              rotate_left
              · (intro w' hSw; (try dsimp only at hSw); go_simp; (try with_reducible rfl))
              (try simp only [Act.put, List.setIfInBounds_toArray, List.set_cons_zero, List.set_cons_succ, List.getElem_toArray, List.getElem_cons_zero, List.getElem_cons_succ])
              refine wpTill.take (i := 4) (v := ?_) (by rfl) rfl (by kernel_rfl) (by kernel_rfl) (by kernel_rfl) (by exact fun _ _ _ h => h) (HSX.out _ _ HZ.out) (fun _ => trivial) (Or.inl ⟨by rfl, ?_⟩) ?_
              rotate_left
              · (intro w' hSw; (try dsimp only at hSw); go_simp; (try with_reducible rfl))
              (try simp only [Act.put, List.setIfInBounds_toArray, List.set_cons_zero, List.set_cons_succ, List.getElem_toArray, List.getElem_cons_zero, List.getElem_cons_succ])
              refine wpTill.take (i := 5) (v := ?_) (by rfl) rfl (by kernel_rfl) (by kernel_rfl) (by kernel_rfl) (by exact fun _ _ _ h => h) (HSX.out _ _ HZ.out) (fun _ => trivial) (Or.inl ⟨by rfl, ?_⟩) ?_
              rotate_left
              · (intro w' hSw; (try dsimp only at hSw); go_simp; (try with_reducible rfl))
              (try simp only [Act.put, List.setIfInBounds_toArray, List.set_cons_zero, List.set_cons_succ, List.getElem_toArray, List.getElem_cons_zero, List.getElem_cons_succ])
              refine wpTill.take (i := 6) (v := ?_) (by rfl) rfl (by kernel_rfl) (by kernel_rfl) (by kernel_rfl) (by exact fun _ _ _ h => h) (HSX.out _ _ HZ.out) (fun _ => trivial) (Or.inl ⟨by rfl, ?_⟩) ?_
              rotate_left
              · (intro w' hSw; (try dsimp only at hSw); go_simp; (try with_reducible rfl))
              (try simp only [Act.put, List.setIfInBounds_toArray, List.set_cons_zero, List.set_cons_succ, List.getElem_toArray, List.getElem_cons_zero, List.getElem_cons_succ])
              refine wpTill.take (i := 7) (v := ?_) (by rfl) rfl (by kernel_rfl) (by kernel_rfl) (by kernel_rfl) (by exact fun _ _ _ h => h) (HSX.out _ _ HZ.out) (fun _ => trivial) (Or.inl ⟨by rfl, ?_⟩) ?_
              rotate_left
              · (intro w' hSw; (try dsimp only at hSw); go_simp; (try with_reducible rfl))
              (try simp only [Act.put, List.setIfInBounds_toArray, List.set_cons_zero, List.set_cons_succ, List.getElem_toArray, List.getElem_cons_zero, List.getElem_cons_succ])
              refine wpTill.take (i := 8) (v := ?_) (by rfl) rfl (by kernel_rfl) (by kernel_rfl) (by kernel_rfl) (by exact fun _ _ _ h => h) (HSX.out _ _ HZ.out) (fun _ => trivial) (Or.inl ⟨by rfl, ?_⟩) ?_
              rotate_left
              · (intro w' hSw; (try dsimp only at hSw); go_simp; (try with_reducible rfl))
              (try simp only [Act.put, List.setIfInBounds_toArray, List.set_cons_zero, List.set_cons_succ, List.getElem_toArray, List.getElem_cons_zero, List.getElem_cons_succ])
              refine wpTill.take (i := 9) (v := ?_) (by rfl) rfl (by kernel_rfl) (by kernel_rfl) (by kernel_rfl) (by exact fun _ _ _ h => h) (HSX.out _ _ HZ.out) (fun _ => trivial) (Or.inl ⟨by rfl, ?_⟩) ?_
              rotate_left
              · (intro w' hSw; (try dsimp only at hSw); go_simp; (try with_reducible rfl))
              (try simp only [Act.put, List.setIfInBounds_toArray, List.set_cons_zero, List.set_cons_succ, List.getElem_toArray, List.getElem_cons_zero, List.getElem_cons_succ])
              refine wpTill.take (i := 10) (v := ?_) (by rfl) rfl (by kernel_rfl) (by kernel_rfl) (by kernel_rfl) (by exact fun _ _ _ h => h) (HSX.out _ _ HZ.out) (fun _ => trivial) (Or.inl ⟨by rfl, ?_⟩) ?_
              rotate_left
              · (intro w' hSw; (try dsimp only at hSw); go_simp; (try with_reducible rfl))
              (try simp only [Act.put, List.setIfInBounds_toArray, List.set_cons_zero, List.set_cons_succ, List.getElem_toArray, List.getElem_cons_zero, List.getElem_cons_succ])
              refine wpTill.step (i := 11) (by kernel_rfl) (by rfl) (fun K' hK => ?_)
              replace hK := Lib.hid hK
              go_simp
              have HN1 := Lib.hid (Sl.new_ wz 37 (EntC.cells x))
              replace HZ := Lib.hid (HZ.out.alloc (.cells (EntC.cells x).toArray 37))
              simp only [EntC.cells] at HN1 HZ
              refine hK.out _ _ (HSX.out _ _ HZ.out) (fun _ => trivial) ?_
              clear hK K'
              (try simp only [Act.put, List.setIfInBounds_toArray, List.set_cons_zero, List.set_cons_succ, List.getElem_toArray, List.getElem_cons_zero, List.getElem_cons_succ])
              generalize wz.alloc (.cells #[.int .i64 x.v.dev, .int .i64 x.v.no, .int .i64 x.v.day, .slice x.A x.v.seen.length x.c, .string ⟨x.v.text.toArray⟩] 37) = wa at *
              generalize wz.heap.size = gR at *
              refine wpTill.step (i := 12) (by kernel_rfl) (by rfl) (fun K' hK => ?_)
              replace hK := Lib.hid hK
              refine step_append_sl _ (by rfl) (.tmp 79) (.tmp 90) _ (by rfl) w.heap.size 37 ie _ 5 64 Tryz.underlying22 he0 he1 he2 he3 rfl (by omega) (.slice Ao m cA) m (os.map EntC.cells) (by rfl) HZ.out.r5.own (some ⟨gR, 0, none⟩) 1 1 ([x].map EntC.cells) (by rfl) HN1.out (ents_len _) (ents_one _) (by simp only [maxLen]; omega) (by omega) HZ.out.base.size ?_
              intro A9 c9 w9 hown9 hg9 hat9
              have HS9 := Lib.hid ((HZ.out.r5.grown hown9 hg9 hat9).r5.r5.r5.r5)
              clear hown9 hg9 hat9
              refine hK.out _ _ (HSX.out _ _ HS9.out) (fun _ => trivial) ?_
              clear hK K'
              (try simp only [Act.put, List.setIfInBounds_toArray, List.set_cons_zero, List.set_cons_succ, List.getElem_toArray, List.getElem_cons_zero, List.getElem_cons_succ])
              refine wpTill.take (i := 13) (v := ?_) (by rfl) rfl (by kernel_rfl) (by kernel_rfl) (by kernel_rfl) (by exact fun _ _ _ h => h) (HSX.out _ _ HS9.out) (fun _ => trivial) (Or.inl ⟨by rfl, ?_⟩) ?_
              rotate_left
              · (intro w' hSw; (try dsimp only at hSw); go_simp; (try with_reducible rfl))
              (try simp only [Act.put, List.setIfInBounds_toArray, List.set_cons_zero, List.set_cons_succ, List.getElem_toArray, List.getElem_cons_zero, List.getElem_cons_succ])
              refine wpTill.stop (by kernel_rfl) ?_ _
              obtain ⟨zT, kT, fT⟩ := HS9.out.r4.cellN HTE.out
              have HBP := Lib.hid ((HS9.out.r4.bumpN HTE.out).l4)
              clear HSX HN1 HZ
              go_wp2_with (fail)
              go_roundg g'
              · have hge := HGE.out
                have hmk := HMK.out
                have hl2 := HL2.out
                have hnx := HNX.out
                have hgn := HGN.out
                rw [HDV.out, Int.toNat_natCast] at hnx hgn
                refine ⟨m + 1, A9, c9, bump t e, os ++ [x], rfl, by omega, by rw [List.length_append, HOL.out]; rfl, ?_, ?_, ?_, ?_, ?_⟩
                · rw [List.map_append]; exact HBP.out
                · intro u hu
                  rcases List.mem_append.1 hu with h | h
                  · exact HOS.out u h
                  · rw [List.mem_singleton.1 h]; exact HXL.out
                · have ev : ∀ x : EntC, vsOf (os ++ [x]) = vsOf os ++ [x.v] := fun x => by simp [vsOf]
                  rw [ev]; exact hnx
                · rw [HLB.out, if_pos HE8.out]; have := HL8P.out; omega
                · have ev : ∀ x : EntC, vsOf (os ++ [x]) = vsOf os ++ [x.v] := fun x => by simp [vsOf]
                  rw [ev]; exact hgn
              · have := HGE.out; omega
end Go.Proofs.YtnnnibkainlplaaGreatDoor
