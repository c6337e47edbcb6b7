/- merge: the reference's ready, walked. -/
import Derived.Test.YtnnnibkainlplaaGreatDoorMtD
import Derived.Test.YtnnnibkainlplaaGreatDoorSees
namespace Go.Proofs.YtnnnibkainlplaaGreatDoor
open Go.RowKit Go.Sort Go.Lib

def FreeTo (P : List (List EntV)) (F : List Bool) (t : List Nat) (x : EntV) (d k : Nat) : Prop := ∀ e : Nat, e < k → e ≠ d → demandF P F x e ≤ ((t.getD e 0 : Nat) : Int)
set_option maxRecDepth 100000 in
set_option maxHeartbeats 8000000 in
theorem Rready_any (w : World) (x : EntC) (hx : EntAt w x) (h8 : x.v.seen.length = 8) (d : Nat) (hd : x.v.dev = (d : Int)) (P0 : Option Addr) (cP : Nat) (ps : List PastC) (hps : Sl w 1 P0 8 (ps.map PastC.cells)) (F0 : Option Addr) (cF : Nat) (fs : List Bool) (hfs : Sl w 1 F0 8 (fs.map boolC)) (T0 : Option Addr) (cT : Nat) (t : List Nat) (ht : Sl w 1 T0 8 (t.map natC)) (r : Bool) (hr : blockedB (psV ps) fs t d x.v = r) :
    Calls Tryz.prog 34 #[.agg x.cells.toArray, .slice P0 8 cP, .slice F0 8 cF, .slice T0 8 cT] w fun e w' => e = .returned (.bool (!r)) ∧ Below w.heap.size w w' := by
  obtain ⟨⟨dv, xno, xday, seen, text⟩, A, c⟩ := x
  simp only at h8 hd
  subst hd
  have HX := Lib.hid hx
  have HPS := Lib.hid hps
  have HFS := Lib.hid hfs
  have HTS := Lib.hid ht
  have HPL : Hid (ps.length = 8) := Lib.hid (by simpa using hps.1)
  have HFL : Hid (fs.length = 8) := Lib.hid (by simpa using hfs.1)
  have HTL : Hid (t.length = 8) := Lib.hid (by simpa using ht.1)
  have HR := Lib.hid hr
  have H8 := Lib.hid h8
  have HS0 := Lib.hid ((Sep.start w).box (EntC.cells ⟨⟨(d : Int), xno, xday, seen, text⟩, A, c⟩).toArray 37)
  simp only [EntC.cells] at HS0 ⊢
  have HNO : ∀ k : Nat, k < 8 → k ≠ d → ((t.getD k 0 : Nat) : Int) < demandF (psV ps) fs ⟨(d : Int), xno, xday, seen, text⟩ k → r = true := fun k hk hkd hlt => by
    rw [← HR.out]
    cases hb : blockedB (psV ps) fs t d ⟨(d : Int), xno, xday, seen, text⟩ with
    | true => rfl
    | false => have := blocked_iff.1 hb k (by show k < seen.length; rw [H8.out]; exact hk) hkd; omega
  replace HNO := Lib.hid HNO
  clear hx hps hfs ht hr h8
  go_enter Tryz.func34, Tryz.ntmps34
  go_wp2_with (fail)
  generalize hg : w.heap.size = gX at HS0 ⊢
  clear hg
  go_loopw [9] (fun iv wr => ∃ k : Nat, k ≤ 8 ∧ iv = .int .i64 (k : Int) ∧ Sep w wr (boxR gX #[.int .i64 (d : Int), .int .i64 xno, .int .i64 xday, .slice A seen.length c, .string ⟨text.toArray⟩] :: []) ∧ FreeTo (psV ps) fs t ⟨(d : Int), xno, xday, seen, text⟩ d k) (fun iv _ => 8 - (intOf iv).toNat)
  case atStart => exact ⟨0, by omega, rfl, HS0.out, fun e he => by omega⟩
  case round =>
    obtain ⟨k, hk, rfl, hS, hfr⟩ := hrel
    obtain ⟨wo, rfl⟩ : ∃ wo : World, wo = wr := ⟨_, rfl⟩
    have HSO := Lib.hid hS
    have HFR := Lib.hid hfr
    clear hS hfr HS0
    by_cases hlt : k < 8
    · obtain ⟨s, hs⟩ : ∃ s, seen[k]? = some s := ⟨_, List.getElem?_eq_getElem (by rw [H8.out]; exact hlt)⟩
      obtain ⟨p, hp⟩ : ∃ p, ps[k]? = some p := ⟨_, List.getElem?_eq_getElem (by rw [HPL.out]; exact hlt)⟩
      obtain ⟨fb, hfb⟩ : ∃ b, fs[k]? = some b := ⟨_, List.getElem?_eq_getElem (by rw [HFL.out]; exact hlt)⟩
      obtain ⟨tk, htk⟩ : ∃ b, t[k]? = some b := ⟨_, List.getElem?_eq_getElem (by rw [HTL.out]; exact hlt)⟩
      obtain ⟨b1, o1, rfl, hb1, k1⟩ := (Sl.below HX.out HSO.out.base).at1 (k := k) (v := .int .i64 s) (by rw [List.getElem?_map]; simp only; rw [hs]; rfl)
      obtain ⟨b2, o2, rfl, hb2, k2⟩ := (HPS.out.below HSO.out.base).at1 (k := k) (v := .slice p.A p.l.length p.c) (by rw [List.getElem?_map, hp]; rfl)
      obtain ⟨b3, o3, rfl, hb3, k3⟩ := (HFS.out.below HSO.out.base).at1 (k := k) (v := .bool fb) (by rw [List.getElem?_map, hfb]; rfl)
      obtain ⟨b4, o4, rfl, hb4, k4⟩ := (HTS.out.below HSO.out.base).at1 (k := k) (v := .int .i64 (tk : Int)) (by rw [List.getElem?_map, htk]; rfl)
      obtain ⟨zX, kX, fX⟩ := HSO.out.loc
      have hki : (k : Int) < 8 := by omega
      have hk0 : (0 : Int) ≤ (k : Int) := by omega
      have hsl : (seen.length : Int) = 8 := by rw [H8.out]; rfl
      have hwk : IntKind.i64.wrap ((k : Int) + 1) = (k : Int) + 1 := IntWalk.i64_in _ (by omega)
      have hdm : demandF (psV ps) fs ⟨(d : Int), xno, xday, seen, text⟩ k = if fb = true then min s (p.l.length : Int) else s := by
        unfold demandF
        rw [psV_at hp, vsOf_len, List.getD_eq_getElem?_getD, hfb, Option.getD_some]
        simp only
        rw [List.getD_eq_getElem?_getD, hs, Option.getD_some]
      have htg : t.getD k 0 = tk := by rw [List.getD_eq_getElem?_getD, htk]; rfl
      obtain ⟨dm, hdme⟩ : ∃ dm, demandF (psV ps) fs ⟨(d : Int), xno, xday, seen, text⟩ k = dm := ⟨_, rfl⟩
      have HDM := Lib.hid hdme
      have HTG := Lib.hid htg
      have HLT := Lib.hid hlt
      rw [hdme] at hdm
      have HREL : Hid (k = d ∨ ¬ ((tk : Int) < dm) → FreeTo (psV ps) fs t ⟨(d : Int), xno, xday, seen, text⟩ d (k + 1)) := Lib.hid fun h e he hed => by
        rcases Nat.lt_or_ge e k with h1 | h1
        · exact HFR.out e h1 hed
        · obtain rfl : e = k := by omega
          rcases h with h | h
          · exact absurd h hed
          · rw [HDM.out, HTG.out]; omega
      have HRT : Hid (k ≠ d → (tk : Int) < dm → r = true) := Lib.hid fun h1 h2 => HNO.out k HLT.out h1 (by rw [HDM.out, HTG.out]; exact h2)
      clear hs hp hfb htk htg hdme hlt hk HNO
      cases fb
      · rw [if_neg (by simp)] at hdm
        subst hdm
        by_cases hkd : k = d
        · subst hkd
          have hkb : ((k : Int) == (k : Int)) = true := by simp
          have hkn : ((k : Int) != (k : Int)) = false := by simp
          have HRL := Lib.hid (HREL.out (.inl rfl))
          go_wp2_with (fail)
          go_roundw
          case rel => exact ⟨k + 1, HLT.out, by go_num, HSO.out, HRL.out⟩
          case measure => have := HLT.out; simp [intOf]; omega
        · have hkb : ((k : Int) == (d : Int)) = false := beq_eq_false_iff_ne.2 (by omega)
          have hkn : ((k : Int) != (d : Int)) = true := by rw [bne_iff_ne]; omega
          have hkd2 : ¬ ((k : Int) = (d : Int)) := by omega
          by_cases hlt2 : (tk : Int) < dm
          · obtain rfl : r = true := HRT.out hkd hlt2
            go_wp2_with (fail)
            go_ret
            exact ⟨rfl, HSO.out.base⟩
          · have HRL := Lib.hid (HREL.out (.inr hlt2))
            go_wp2_with (fail)
            go_roundw
            case rel => exact ⟨k + 1, HLT.out, by go_num, HSO.out, HRL.out⟩
            case measure => have := HLT.out; simp [intOf]; omega
      · rw [if_pos rfl] at hdm
        have hmin : (if s < (p.l.length : Int) then s else (p.l.length : Int)) = dm := by rw [hdm]; split <;> omega
        clear hdm
        by_cases hkd : k = d
        · subst hkd
          have hkb : ((k : Int) == (k : Int)) = true := by simp
          have hkn : ((k : Int) != (k : Int)) = false := by simp
          have HRL := Lib.hid (HREL.out (.inl rfl))
          go_wp2_with (fail)
          go_roundw
          case rel => exact ⟨k + 1, HLT.out, by go_num, HSO.out, HRL.out⟩
          case measure => have := HLT.out; simp [intOf]; omega
        · have hkb : ((k : Int) == (d : Int)) = false := beq_eq_false_iff_ne.2 (by omega)
          have hkn : ((k : Int) != (d : Int)) = true := by rw [bne_iff_ne]; omega
          have hkd2 : ¬ ((k : Int) = (d : Int)) := by omega
          by_cases hlt2 : (tk : Int) < dm
          · obtain rfl : r = true := HRT.out hkd hlt2
            go_wp2_with (fail)
            go_ret
            exact ⟨rfl, HSO.out.base⟩
          · have HRL := Lib.hid (HREL.out (.inr hlt2))
            go_wp2_with (fail)
            go_roundw
            case rel => exact ⟨k + 1, HLT.out, by go_num, HSO.out, HRL.out⟩
            case measure => have := HLT.out; simp [intOf]; omega
    · obtain rfl : k = 8 := by omega
      have hki : ¬ ((8 : Nat) : Int) < 8 := by omega
      have hrf : false = r := by
        rw [← HR.out]
        refine (blocked_iff.2 fun e he hed => ?_).symm
        exact HFR.out e (by have := H8.out; simp only at he; omega) hed
      have HRF := Lib.hid hrf
      clear hrf hlt hk
      go_wp2_with (fail)
      go_ret
      exact ⟨by rw [← HRF.out]; rfl, HSO.out.base⟩
end Go.Proofs.YtnnnibkainlplaaGreatDoor
