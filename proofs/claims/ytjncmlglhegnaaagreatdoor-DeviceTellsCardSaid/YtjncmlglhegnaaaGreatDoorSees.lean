/- device: reserved, step, Replay, walked. -/
/- Facts that are read alone, as a thing of Sep: they rest on some blocks. -/
import Derived.Test.YtjncmlglhegnaaaGreatDoorDevP
import Derived.Test.YtjncmlglhegnaaaGreatDoorChainF
import Derived.Test.YtjncmlglhegnaaaGreatDoorWireS
import Derived.Test.YtjncmlglhegnaaaGreatDoorSep
import Derived.Deep.DeepCutAuto
namespace Go.Proofs.YtjncmlglhegnaaaGreatDoor
open Go.RowKit Go.Sort Go.Lib

theorem pre1 (t : List UInt8) : Lib.hasPrefix t [33] = resB t := by
  cases t with
  | nil => rfl
  | cons c r => simp [Lib.hasPrefix, resB, List.isPrefixOf, Bool.beq_comm]
theorem pre2 (t : List UInt8) : Lib.hasPrefix t [33, 115] = decide (t.take 2 = [33, 115]) := by
  rw [Bool.eq_iff_iff, decide_eq_true_eq]
  unfold Lib.hasPrefix
  rw [List.isPrefixOf_iff_prefix]
  constructor
  · rintro ⟨r, rfl⟩; rfl
  · intro h; exact ⟨t.drop 2, by rw [← h, List.take_append_drop]⟩
theorem trim2 (t : List UInt8) : Lib.trimPrefix t [33, 115] = if t.take 2 = [33, 115] then t.drop 2 else t := by
  unfold Lib.trimPrefix
  rw [pre2]
  by_cases h : t.take 2 = [33, 115]
  · rw [if_pos (by rw [decide_eq_true h]), if_pos h]; rfl
  · rw [if_neg (by rw [decide_eq_false h]; simp), if_neg h]
set_option maxRecDepth 100000 in
set_option maxHeartbeats 1000000 in
theorem reserved_any (w : World) (t : List UInt8) (r : Bool) (hr : resB t = r) :
    Calls Tryz.prog 75 #[.string ⟨t.toArray⟩] w fun e w' => e = .returned (.bool r) ∧ w = w' := by
  have H := Lib.hid (strings_HasPrefix ⟨t.toArray⟩ ⟨#[33]⟩ w)
  simp only [List.toList_toArray, pre1, hr] at H
  clear hr
  go_enter Tryz.func75, Tryz.ntmps75
  go_wp2_with ((with_reducible refine H.out.mono ?_); rintro _ w9 ⟨rfl, hw9⟩; obtain rfl := hw9.symm)
  go_ret
  exact ⟨rfl, rfl⟩
abbrev loanX (l : LoanV) : Array Value := #[.int .i64 l.device, .int .i64 l.units, .int .i64 l.spent, .bool l.back]
theorem Sep.setLoan {w0 w : World} {n : Nat} {a b c d : Value} {Rs : List Res} (h : Sep w0 w (boxR n #[a, b, c, d] :: Rs)) (l : LoanV) : Sep w0 ((((w.setCell ⟨n, 0, none⟩ (.int .i64 l.device)).setCell ⟨n, 1, none⟩ (.int .i64 l.units)).setCell ⟨n, 2, none⟩ (.int .i64 l.spent)).setCell ⟨n, 3, none⟩ (.bool l.back)) (boxR n (loanX l) :: Rs) := by
  have := (((h.set_ 0 (.int .i64 l.device)).set_ 1 (.int .i64 l.units)).set_ 2 (.int .i64 l.spent)).set_ 3 (.bool l.back)
  simpa using this
theorem loadVar_loan {W : World} {n : Nat} {l : LoanV} (h : Loc W n (loanX l)) : (loadVar 24 ⟨n, 0, none⟩).run Tryz.prog W = .ok (.agg (loanX l)) W := by
  obtain ⟨z, k, f⟩ := h
  have c0 := k 0
  have c1 := k 1
  have c2 := k 2
  have c3 := k 3
  simp only [List.getElem?_toArray, List.getElem?_cons_succ, List.getElem?_cons_zero] at c0 c1 c2 c3
  simp [loadVar, go_sem, c0, c1, c2, c3]
theorem results_step {W : World} {n : Nat} {l : LoanV} {b : Bool} {tmps : Array Value} (h : Loc W n (loanX l)) (ht : tmps.getD 4 undef = .pointer (some ⟨n, 0, none⟩)) (hb : tmps.getD 5 undef = .bool b) :
    (results Tryz.f57 tmps).run Tryz.prog W = .ok (.tuple #[.agg (loanX l), .bool b]) W := by
  have ht' : tmps[4]?.getD undef = .pointer (some ⟨n, 0, none⟩) := by simpa using ht
  have hb' : tmps[5]?.getD undef = .bool b := by simpa using hb
  simp only [results, show Tryz.f57.results = #[.cell 4 24, .tmp 5] from rfl]
  have hl := loadVar_loan h
  simp [ht', hb', asAddr, hl]
def StepP (w : World) (r : LoanV × Bool) (e : Ending) (w' : World) : Prop := e = .returned (.tuple #[.agg (loanX r.1), .bool r.2]) ∧ Below w.heap.size w w'
set_option maxRecDepth 100000 in
set_option maxHeartbeats 2000000 in
theorem step_any {B0 : Nat} (w : World) (hE : Env B0 w) (hB0 : B0 ≤ w.heap.size) (t : List UInt8) (ht : t.length ≤ 140737488351232) (l : LoanV) (r : LoanV × Bool) (hr : stepL t l = r) :
    Calls Tryz.prog 57 #[.string ⟨t.toArray⟩, .agg (loanX l)] w (StepP w r) := by
  obtain ⟨s2, hs2⟩ : ∃ s2, (if t.take 2 = [33, 115] then t.drop 2 else t) = s2 := ⟨_, rfl⟩
  obtain ⟨b2, hb2⟩ : ∃ b2, decide (t.take 2 = [33, 115]) = b2 := ⟨_, rfl⟩
  have H1 := Lib.hid (fun W => strings_CutPrefix ⟨t.toArray⟩ ⟨#[33, 115]⟩ W)
  simp only [List.toList_toArray, pre2, trim2, hs2, hb2] at H1
  have HRS := Lib.hid (fun W r hr => reserved_any W t r hr)
  have HEV := Lib.hid (fun W (hb : Below w.heap.size w W) => (⟨hE.below (hb.mono hB0), Nat.le_trans hB0 hb.size⟩ : Env B0 W ∧ B0 ≤ W.heap.size))
  clear hE hB0
  unfold stepL at hr
  by_cases h1 : resB t = false
  · rw [if_pos h1] at hr
    subst hr
    have HR := Lib.hid h1
    have HB := Lib.hid (fun o1 o2 => below2 w o1 o2)
    clear h1 hs2 hb2
    go_enter Tryz.func57, Tryz.ntmps57
    go_wp2_with (first
      | ((with_reducible refine (H1.out _).mono ?_); rintro _ w9 ⟨rfl, hw9⟩; obtain rfl := hw9.symm)
      | ((with_reducible refine (HRS.out _ false HR.out).mono ?_); rintro _ w9 ⟨rfl, hw9⟩; obtain rfl := hw9))
    refine bodyPost_ret (v := .tuple #[.agg (loanX l), .bool true]) (by simp [results, Tryz.results57, go_sem, World.cell?_alloc_at]) rfl ⟨rfl, HB.out _ _⟩
  rw [if_neg h1] at hr
  have HR : Hid (resB t = true) := Lib.hid (by cases h : resB t with | true => rfl | false => exact absurd h h1)
  by_cases h2 : t = backT
  · rw [if_pos h2] at hr
    subst h2
    obtain ⟨⟨⟨ld, lu, ls, lb⟩, le⟩, hrl⟩ : ∃ rl, returnF l = rl := ⟨_, rfl⟩
    rw [hrl] at hr
    have HRT := Lib.hid (fun W => Return_any l.device l.units l.spent l.back _ hrl W)
    have HCA : Hid (∀ W, Calls Tryz.prog 75 #[.string ⟨#[33, 98]⟩] W fun e w' => e = .returned (.bool true) ∧ W = w') := Lib.hid fun W => reserved_any W [33, 98] true rfl
    have hs : s2 = backT := by rw [← hs2]; rfl
    have hb : b2 = false := by rw [← hb2]; rfl
    subst hs hb
    obtain ⟨be, hbe⟩ : ∃ be, (le == 0) = be := ⟨_, rfl⟩
    have hrr : r = (⟨ld, lu, ls, lb⟩, be) := by
      rw [← hr, ← hbe]
      congr 1
    subst hrr
    have HS0 := Lib.hid (((Sep.start w).box (loanX l) 24).box #[.int .i64 0, .int .i64 0, .int .i64 0, .bool false] 24)
    rw [World.size_alloc] at HS0
    simp only [backT, loanX] at H1 HRT HS0 ⊢
    clear hs2 hb2 hrl h1 hr HRS
    go_enter Tryz.func57, Tryz.ntmps57
    go_wp2_with (first
      | ((with_reducible refine (H1.out _).mono ?_); rintro _ w9 ⟨rfl, hw9⟩; obtain rfl := hw9.symm)
      | ((with_reducible refine (HCA.out _).mono ?_); rintro _ w9 ⟨rfl, hw9⟩; obtain rfl := hw9)
      | ((with_reducible refine (HRT.out _).mono ?_); rintro _ w9 ⟨rfl, hb9⟩
         have HS9 := Lib.hid (HS0.out.below hb9)
         obtain ⟨z3, k3, f3⟩ := HS9.out.sw.loc
         obtain ⟨z4, k4, f4⟩ := HS9.out.loc))
    have HSE := Lib.hid ((HS9.out.sw.setLoan ⟨ld, lu, ls, lb⟩).sw.setLoan ⟨ld, lu, ls, lb⟩)
    exact bodyPost_ret (results_step HSE.out.loc rfl rfl) rfl ⟨rfl, HSE.out.base⟩
  · rw [if_neg h2] at hr
    have hnb : (t == [33, 98]) = false := beq_eq_false_iff_ne.2 h2
    have HS0 := Lib.hid (((Sep.start w).box (loanX l) 24).box #[.int .i64 0, .int .i64 0, .int .i64 0, .bool false] 24)
    rw [World.size_alloc] at HS0
    have HBB := Lib.hid (fun o1 o2 => below2 w o1 o2)
    by_cases h3 : t.take 2 = [33, 115]
    case neg =>
      rw [if_neg h3] at hr
      have hb : b2 = false := by rw [← hb2]; exact decide_eq_false h3
      subst hb hr
      clear hs2 hb2 h1 h2 h3
      go_enter Tryz.func57, Tryz.ntmps57
      go_wp2_with (first
        | ((with_reducible refine (H1.out _).mono ?_); rintro _ w9 ⟨rfl, hw9⟩; obtain rfl := hw9.symm)
        | ((with_reducible refine (HRS.out _ true HR.out).mono ?_); rintro _ w9 ⟨rfl, hw9⟩; obtain rfl := hw9))
      refine bodyPost_ret (v := .tuple #[.agg (loanX noLoan), .bool false]) (by simp [results, Tryz.results57, go_sem, World.cell?_alloc_at, noLoan]) rfl ⟨rfl, HBB.out _ _⟩
    rw [if_pos h3] at hr
    have hb : b2 = true := by rw [← hb2]; exact decide_eq_true h3
    have hs : s2 = t.drop 2 := by rw [← hs2, if_pos h3]
    subst hb hs
    obtain ⟨⟨n, r1⟩, hn⟩ : ∃ x, natF ⟨t.drop 2, false⟩ = x := ⟨_, rfl⟩
    obtain ⟨db, hdb⟩ : ∃ db, doneB r1 = db := ⟨_, rfl⟩
    rw [hn] at hr
    simp only [hdb] at hr
    have HNU := Lib.hid (fun (W : World) (b : Nat) (h : RdAt W b ⟨t.drop 2, false⟩) (g : Below w.heap.size w W) (hb : B0 ≤ b) => NumM_any h (HEV.out W g).1 hb (by show (t.drop 2).length ≤ _; rw [List.length_drop]; omega) _ hn)
    have HDO := Lib.hid (fun (W : World) (b : Nat) (h : RdAt W b r1) => Done_any h db hdb)
    have HOP := Lib.hid (fun W => Open_any W (t.drop 2))
    simp only at HNU
    have HR3 := Lib.hid hr
    obtain ⟨⟨⟨ld, lu, ls, lb⟩, le⟩, hrl⟩ : ∃ rl, spendF l n = rl := ⟨_, rfl⟩
    have HSP := Lib.hid (fun W => Spend_any l.device l.units l.spent l.back n _ hrl W)
    obtain ⟨be, hbe⟩ : ∃ be, (le == 0) = be := ⟨_, rfl⟩
    have HR4 : Hid (db = true → r = (⟨ld, lu, ls, lb⟩, be)) := Lib.hid fun e => by
      rw [← hr, if_pos e, hrl, ← hbe]
      congr 1
    have HR5 : Hid (db = false → r = (noLoan, false)) := Lib.hid fun e => by rw [← hr, if_neg (by rw [e]; simp)]
    simp only [loanX] at H1 HSP HS0 ⊢
    have hB00 : B0 ≤ w.heap.size := (HEV.out w (Below.refl _ _)).2
    have HB00 := Lib.hid hB00
    clear hs2 hb2 h1 h2 h3 hn hdb hr hrl hB00
    go_enter Tryz.func57, Tryz.ntmps57
    go_wp2_with (first
      | ((with_reducible refine (H1.out _).mono ?_); rintro _ w9 ⟨rfl, hw9⟩; obtain rfl := hw9.symm)
      | ((with_reducible refine (HRS.out _ true HR.out).mono ?_); rintro _ w9 ⟨rfl, hw9⟩; obtain rfl := hw9))
    generalize hWA : (w.alloc (.cells #[.int .i64 l.device, .int .i64 l.units, .int .i64 l.spent, .bool l.back] 24)).alloc (.cells #[.int .i64 0, .int .i64 0, .int .i64 0, .bool false] 24) = wA at *
    clear hWA
    ((with_reducible refine (HOP.out _).mono ?_); rintro _ wO ⟨rfl, hrd, hbO⟩)
    have HSA := Lib.hid (HS0.out.below hbO)
    have HRD := Lib.hid hrd
    have HBO := Lib.hid hbO
    have HWA := Lib.hid HS0.out.base
    have hge : B0 ≤ wA.heap.size := Nat.le_trans HB00.out HWA.out.size
    have HGE := Lib.hid hge
    clear hge hrd hbO
    go_wp2_with (fail)
    ((with_reducible refine (HNU.out wO _ HRD.out (HWA.out.trans (HBO.out.mono HWA.out.size)) HGE.out).mono ?_); rintro _ wN ⟨rfl, hrd2, hg2⟩)
    have HBN := Lib.hid (HBO.out.grown hg2 HBO.out.size (fun k hk => by injection hk with hk; omega))
    have HRD2 := Lib.hid hrd2
    clear hrd2 hg2
    go_wp2_with (fail)
    ((with_reducible refine (HDO.out wN _ HRD2.out).mono ?_); rintro _ w9 ⟨rfl, hw9⟩; obtain rfl := hw9)
    have HSN := Lib.hid (HS0.out.below HBN.out)
    obtain ⟨z3, k3, f3⟩ := HSN.out.sw.loc
    obtain ⟨z4, k4, f4⟩ := HSN.out.loc
    cases db
    · obtain rfl := HR5.out rfl
      go_wp2_with (fail)
      have HSE := Lib.hid (HSN.out.setLoan noLoan)
      exact bodyPost_ret (results_step HSE.out.loc rfl rfl) rfl ⟨rfl, HSE.out.base⟩
    · obtain rfl := HR4.out rfl
      clear HR3 HR4 HR5
      go_wp2_with (fail)
      ((with_reducible refine (HSP.out _).mono ?_); rintro _ w9 ⟨rfl, hb9⟩)
      have HS9 := Lib.hid (HSN.out.below hb9)
      clear z3 k3 f3 z4 k4 f4
      obtain ⟨z3, k3, f3⟩ := HS9.out.sw.loc
      obtain ⟨z4, k4, f4⟩ := HS9.out.loc
      go_wp2_with (fail)
      have HSE := Lib.hid ((HS9.out.sw.setLoan ⟨ld, lu, ls, lb⟩).sw.setLoan ⟨ld, lu, ls, lb⟩)
      exact bodyPost_ret (results_step HSE.out.loc rfl rfl) rfl ⟨rfl, HSE.out.base⟩
theorem replayGo_step {ts : List (List UInt8)} {k : Nat} {t : List UInt8} {l : LoanV} (ht : ts[k]? = some t) : replayGo (ts.drop k) l = if (stepL t l).2 = true then replayGo (ts.drop (k + 1)) (stepL t l).1 else (noLoan, false) := by
  obtain ⟨hi, he⟩ := List.getElem?_eq_some_iff.1 ht
  rw [List.drop_eq_getElem_cons hi, he]
  rfl
theorem results_replay {W : World} {n : Nat} {l : LoanV} {b : Bool} {tmps : Array Value} (h : Loc W n (loanX l)) (ht : tmps.getD 4 undef = .pointer (some ⟨n, 0, none⟩)) (hb : tmps.getD 5 undef = .bool b) :
    (results Tryz.f10 tmps).run Tryz.prog W = .ok (.tuple #[.agg (loanX l), .bool b]) W := by
  have ht' : tmps[4]?.getD undef = .pointer (some ⟨n, 0, none⟩) := by simpa using ht
  have hb' : tmps[5]?.getD undef = .bool b := by simpa using hb
  simp only [results, show Tryz.f10.results = #[.cell 4 24, .tmp 5] from rfl]
  have hl := loadVar_loan h
  simp [ht', hb', asAddr, hl]
set_option maxRecDepth 100000 in
set_option maxHeartbeats 2000000 in
theorem Replay_any {B0 : Nat} (w : World) (hE : Env B0 w) (hB0 : B0 ≤ w.heap.size) (A : Option Addr) (n c : Nat) (l : List EntC) (hs : ChAt w A n l) (hn : n ≤ 1099511627776) (loan : LoanV) (r : LoanV × Bool) (hr : replayF (textsOf (vsOf l)) loan = r) :
    Calls Tryz.prog 10 #[.slice A n c, .agg (loanX loan)] w (StepP w r) := by
  have HEV := Lib.hid (fun W (hb : Below w.heap.size w W) => (⟨hE.below (hb.mono hB0), Nat.le_trans hB0 hb.size⟩ : Env B0 W ∧ B0 ≤ W.heap.size))
  have HCH := Lib.hid hs
  have HLL : Hid (l.length = n) := Lib.hid (by simpa using hs.sl.1)
  obtain ⟨⟨⟨ld, lu, ls, lb⟩, le⟩, hrl⟩ : ∃ rl, returnF loan = rl := ⟨_, rfl⟩
  have HRT := Lib.hid (fun W => Return_any loan.device loan.units loan.spent loan.back _ hrl W)
  have HS0 := Lib.hid (((Sep.start w).box (loanX loan) 24).box #[.int .i64 0, .int .i64 0, .int .i64 0, .bool false] 24)
  rw [World.size_alloc] at HS0
  unfold replayF at hr
  rw [hrl] at hr
  simp only at hr
  have HR := Lib.hid hr
  simp only [loanX] at HRT HS0 ⊢
  clear hE hB0 hs hrl hr
  go_enter Tryz.func10, Tryz.ntmps10
  go_wp2_with (fail)
  generalize hg3 : w.heap.size = g3 at HS0 ⊢
  generalize hg4 : g3 + 1 = g4 at HS0 ⊢
  clear hg3 hg4
  generalize hWA : (w.alloc (.cells #[.int .i64 loan.device, .int .i64 loan.units, .int .i64 loan.spent, .bool loan.back] 24)).alloc (.cells #[.int .i64 0, .int .i64 0, .int .i64 0, .bool false] 24) = wA at HS0 ⊢
  clear hWA
  ((with_reducible refine (HRT.out _).mono ?_); rintro _ w1 ⟨rfl, hb1⟩)
  have HS1 := Lib.hid ((HS0.out.below hb1).alloc (.cells #[.int .i64 ld, .int .i64 lu, .int .i64 ls, .bool lb] 24))
  clear hb1 HS0 HRT
  by_cases hle : le = 1
  · subst hle
    have HR2 := HR.out
    rw [if_pos rfl] at HR2
    subst HR2
    obtain ⟨z4, k4, f4⟩ := HS1.out.loc
    go_wp2_with (fail)
    have HSE := Lib.hid (HS1.out.setLoan noLoan)
    exact bodyPost_ret (results_replay HSE.out.loc rfl rfl) rfl ⟨rfl, HSE.out.base⟩
  have hlb : (le == 1) = false := beq_eq_false_iff_ne.2 hle
  have HR2 : Hid (replayGo (textsOf (vsOf l)) loan = r) := Lib.hid (by have := HR.out; rwa [if_neg hle] at this)
  clear HR
  go_wp2_with (fail)
  generalize hWB : w1.alloc (.cells #[.int .i64 ld, .int .i64 lu, .int .i64 ls, .bool lb] 24) = wB at HS1 ⊢
  clear hWB
  go_loopw [22] (fun iv wr => ∃ (k : Nat) (l' : LoanV), k ≤ n ∧ iv = .int .i64 (k : Int) ∧ Sep w wr (boxR g4 #[.int .i64 0, .int .i64 0, .int .i64 0, .bool false] :: boxR g3 (loanX l') :: []) ∧ replayGo ((textsOf (vsOf l)).drop k) l' = r) (fun iv _ => n - (Go.RowKit.intOf iv).toNat)
  case atStart => exact ⟨0, loan, Nat.zero_le _, rfl, HS1.out, by rw [List.drop_zero]; exact HR2.out⟩
  case round =>
    obtain ⟨k, l', hk, rfl, hS, hgo⟩ := hrel
    obtain ⟨wo, rfl⟩ : ∃ wo : World, wo = wr := ⟨_, rfl⟩
    have HSO := Lib.hid hS
    have HGO := Lib.hid hgo
    clear hS hgo HS1 HR2
    by_cases hlt : k < n
    · obtain ⟨x, hx⟩ : ∃ v, l[k]? = some v := ⟨_, List.getElem?_eq_getElem (by rw [HLL.out]; exact hlt)⟩
      obtain ⟨b, o, rfl, hbl, d0, d1, d2, d3, d4⟩ := ent_at (HCH.out.below HSO.out.base).sl hx
      have hxt := (HCH.out.len x (List.mem_of_getElem? hx)).2
      have htk : (textsOf (vsOf l))[k]? = some x.v.text := by rw [List.getElem?_map, vsOf_at hx]; rfl
      obtain ⟨⟨⟨sd, su, ss, sb⟩, sk⟩, hst⟩ : ∃ q, stepL x.v.text l' = q := ⟨_, rfl⟩
      have hgo := HGO.out
      rw [replayGo_step htk, hst] at hgo
      simp only at hgo
      have HGN := Lib.hid hgo
      have HSX := Lib.hid (HSO.out.alloc (.cells #[.int .i64 x.v.dev, .int .i64 x.v.no, .int .i64 x.v.day, .slice x.A x.v.seen.length x.c, .string ⟨x.v.text.toArray⟩] 32))
      have HST := Lib.hid (fun W (hb : Below w.heap.size w W) => step_any W (HEV.out W hb).1 (HEV.out W hb).2 x.v.text hxt l' _ hst)
      have LX := Lib.hid (Loc.new_ wo #[.int .i64 x.v.dev, .int .i64 x.v.no, .int .i64 x.v.day, .slice x.A x.v.seen.length x.c, .string ⟨x.v.text.toArray⟩] 32)
      have hki : (k : Int) < (n : Int) := by omega
      have hk0 : (0 : Int) ≤ (k : Int) := by omega
      have hwk : IntKind.i64.wrap ((k : Int) + 1) = (k : Int) + 1 := IntWalk.i64_in _ (by omega)
      have HLT := Lib.hid hlt
      simp only [loanX] at HST HSX
      obtain ⟨z3, k3, f3⟩ := HSX.out.sw.loc
      obtain ⟨zX, kX, fX⟩ := LX.out
      clear hx htk hst hgo hlt hk hxt
      go_upto_region 7 with (fail)
      generalize hWX : wo.alloc (.cells #[.int .i64 x.v.dev, .int .i64 x.v.no, .int .i64 x.v.day, .slice x.A x.v.seen.length x.c, .string ⟨x.v.text.toArray⟩] 32) = W at *
      generalize hbX : wo.heap.size = bX at *
      clear hWX hbX
      go_wp2_with (fail)
      ((with_reducible refine (HST.out _ HSX.out.base).mono ?_); rintro _ w2 ⟨rfl, hb2⟩)
      have HS2 := Lib.hid ((HSX.out.below hb2).alloc (.cells #[.int .i64 sd, .int .i64 su, .int .i64 ss, .bool sb] 24))
      clear hb2 z3 k3 f3 zX kX fX d0 d1 d2 d3 d4 HSX HSO LX
      cases sk
      · have hgn := HGN.out
        simp only [Bool.false_eq_true, if_false] at hgn
        subst hgn
        obtain ⟨z4, k4, f4⟩ := HS2.out.loc
        go_wp2_with (fail)
        have HSE := Lib.hid (HS2.out.setLoan noLoan)
        exact bodyPost_ret (results_replay HSE.out.loc rfl rfl) rfl ⟨rfl, HSE.out.base⟩
      · have HG2 : Hid (replayGo ((textsOf (vsOf l)).drop (k + 1)) ⟨sd, su, ss, sb⟩ = r) := Lib.hid (by have := HGN.out; simpa using this)
        obtain ⟨z3, k3, f3⟩ := HS2.out.sw.loc
        go_wp2_with (fail)
        have HSE := Lib.hid (HS2.out.sw.setLoan ⟨sd, su, ss, sb⟩).sw
        go_roundw
        case rel => exact ⟨k + 1, ⟨sd, su, ss, sb⟩, HLT.out, by go_num, HSE.out, HG2.out⟩
        case measure => have := HLT.out; simp [Go.RowKit.intOf]; omega
    · obtain rfl : k = n := by omega
      have hki : ¬ ((k : Int) < (k : Int)) := by omega
      have hgo := HGO.out
      rw [List.drop_eq_nil_of_le (by rw [List.length_map, vsOf_len, HLL.out]; exact Nat.le_refl _)] at hgo
      have hr : (l', true) = r := hgo
      subst hr
      simp only [loanX] at HSO
      obtain ⟨z3, k3, f3⟩ := HSO.out.sw.loc
      obtain ⟨z4, k4, f4⟩ := HSO.out.loc
      clear hgo hlt hk
      go_wp2_with (fail)
      have HSE := Lib.hid (HSO.out.setLoan l')
      exact bodyPost_ret (results_replay HSE.out.loc rfl rfl) rfl ⟨rfl, HSE.out.base⟩
end Go.Proofs.YtjncmlglhegnaaaGreatDoor
namespace Go.Proofs.YtjncmlglhegnaaaGreatDoor
open Go.RowKit

/-- a fact of the world that rests on some blocks alone -/
def seesR (φ : World → Prop) : Res where
  P := fun w F => (∀ k, F k → k < w.heap.size) ∧ ∀ w', w.heap.size ≤ w'.heap.size → (∀ k, F k → w'.heap[k]? = w.heap[k]?) → φ w'
  lt := fun w F h => h.1
  keep := fun w w' F h hz hb => ⟨fun k hk => Nat.lt_of_lt_of_le (h.1 k hk) hz, fun w'' hz' hb' => h.2 w'' (Nat.le_trans hz hz') fun k hk => (hb' k hk).trans (hb k hk)⟩
/-- it rests on the blocks between lo and the end alone -/
def Rests (lo : Nat) (w : World) (φ : World → Prop) : Prop := ∀ w', w.heap.size ≤ w'.heap.size → (∀ k, lo ≤ k → k < w.heap.size → w'.heap[k]? = w.heap[k]?) → φ w'
theorem Rests.and {lo : Nat} {w : World} {φ ψ : World → Prop} (h1 : Rests lo w φ) (h2 : Rests lo w ψ) : Rests lo w fun W => φ W ∧ ψ W := fun w' hz hb => ⟨h1 w' hz hb, h2 w' hz hb⟩
theorem Rests.mono {lo lo' : Nat} {w : World} {φ : World → Prop} (h : Rests lo w φ) (hl : lo' ≤ lo) : Rests lo' w φ := fun w' hz hb => h w' hz fun k hk => hb k (Nat.le_trans hl hk)
theorem Rests.below {lo : Nat} {w w' : World} {φ : World → Prop} (h : Rests lo w φ) (hb : Below w.heap.size w w') : Rests lo w' φ := fun w'' hz hk => h w'' (Nat.le_trans hb.size hz) fun k h1 h2 => (hk k h1 (Nat.lt_of_lt_of_le h2 hb.size)).trans (hb.block k h2)
theorem Sep.sees {w0 w : World} {φ : World → Prop} {Rs : List Res} (h : Sep w0 w (seesR φ :: Rs)) : φ w := by
  obtain ⟨F, hF, _⟩ := h.get
  exact hF.2 w (Nat.le_refl _) fun _ _ => rfl
theorem Sep.seesAdd {w0 w w' : World} {φ ψ : World → Prop} {Rs : List Res} (h : Sep w0 w (seesR φ :: Rs)) (hb : Below w.heap.size w w') (hr : Rests w.heap.size w' ψ) : Sep w0 w' (seesR (fun W => φ W ∧ ψ W) :: Rs) :=
  h.step fun F hF => ⟨Plus F w w', ⟨fun k hk => by
      rcases hk with hk | hk
      · exact Nat.lt_of_lt_of_le (hF.1 k hk) hb.size
      · exact hk.2, fun w'' hz hk => ⟨hF.2 w'' (Nat.le_trans hb.size hz) fun k h1 => (hk k (.inl h1)).trans (hb.block k (hF.1 k h1)), hr w'' hz fun k h1 h2 => hk k (.inr ⟨h1, h2⟩)⟩⟩, fun _ hk => hk, Keeps.below hb⟩
theorem Sep.seesNew {w0 w : World} {φ : World → Prop} {Rs : List Res} (h : Sep w0 w Rs) (hφ : ∀ w', φ w') : Sep w0 w (seesR φ :: Rs) :=
  h.add (F := fun _ => False) (Below.refl _ _) ⟨fun _ hk => hk.elim, fun w' _ _ => hφ w'⟩ fun _ hk => hk.elim
theorem Sep.seesTurn {w0 w : World} {φ ψ : World → Prop} {Rs : List Res} (h : Sep w0 w (seesR φ :: Rs)) (hp : ∀ W, φ W → ψ W) : Sep w0 w (seesR ψ :: Rs) :=
  h.turn fun _ hF => ⟨hF.1, fun w' hz hb => hp _ (hF.2 w' hz hb)⟩
theorem Sl.rests {w w' : World} {size n : Nat} {A : Option Addr} {xs : List (List Value)} (h : SlF w w' size A n xs) : Rests w.heap.size w' (fun W => Sl W size A n xs) := fun w'' hz hk => by
  refine ⟨h.1.1, fun i x hx => ?_⟩
  obtain ⟨b, o, hA, hlb, hc⟩ := h.1.2 i x hx
  have hge : w.heap.size ≤ b := h.2 _ hA
  exact ⟨b, o, hA, Nat.lt_of_lt_of_le hlb hz, fun j v hv => (World.cell?_of_block (w := w') (a := ⟨b, _, none⟩) (hk b hge hlb)).trans (hc j v hv)⟩
end Go.Proofs.YtjncmlglhegnaaaGreatDoor
