/- chain: the reference's Decode, walked. -/
/- kerbsidelaw49: plain law of DeviceReplay. -/
import Derived.Test.YtjncmlglhegnaaaGreatDoorChainRC
import Derived.Test.YtjncmlglhegnaaaGreatDoorChainJ
import Derived.Test.YtjncmlglhegnaaaGreatDoorWireJ
import Derived.Test.YtjncmlglhegnaaaGreatDoorDevP
namespace Go.Proofs.YtjncmlglhegnaaaGreatDoor
open Go.RowKit Go.Sort Go.Lib

set_option maxRecDepth 100000 in
set_option maxHeartbeats 16000000 in
theorem RDecode_any (w : World) (s : List UInt8) (hsm : s.length ≤ 100000) (v : EntV × Bool) (hv : decodeF s = v) :
    Calls Tryz.prog 118 #[.string ⟨s.toArray⟩] w (EntPost w v.1 (.bool v.2)) := by
  obtain ⟨dev, r1, e1⟩ : ∃ a b, natF ⟨s, false⟩ = (a, b) := ⟨_, _, rfl⟩
  obtain ⟨no, r2, e2⟩ : ∃ a b, natF r1 = (a, b) := ⟨_, _, rfl⟩
  obtain ⟨day, r3, e3⟩ : ∃ a b, natF r2 = (a, b) := ⟨_, _, rfl⟩
  obtain ⟨seen, r4, e4⟩ : ∃ a b, intsF r3 = (a, b) := ⟨_, _, rfl⟩
  obtain ⟨text, r5, e5⟩ : ∃ a b, textF r4 = (a, b) := ⟨_, _, rfl⟩
  have hd : decE s = (⟨dev, no, day, seen, text⟩, r5) := by unfold decE; simp only [e1, e2, e3, e4, e5]
  have k0 : (⟨s, false⟩ : RdV).ok := ok_of rfl
  have k1 : r1.ok ∧ r1.rest.length ≤ s.length := by have h := numF_keeps (e := 59) (least := 0) k0; have h2 : numF 59 0 ⟨s, false⟩ = (dev, r1) := e1; rw [h2] at h; exact h
  have k2 : r2.ok ∧ r2.rest.length ≤ r1.rest.length := by have h := numF_keeps (e := 59) (least := 0) k1.1; have h2 : numF 59 0 r1 = (no, r2) := e2; rw [h2] at h; exact h
  have k3 : r3.ok ∧ r3.rest.length ≤ r2.rest.length := by have h := numF_keeps (e := 59) (least := 0) k2.1; have h2 : numF 59 0 r2 = (day, r3) := e3; rw [h2] at h; exact h
  have k4 : seen.length ≤ r3.rest.length + 1 ∧ r4.ok ∧ r4.rest.length ≤ r3.rest.length := by have h := itemsF_len intF_steps k3.1; have h2 : itemsF intF r3 = (seen, r4) := e4; rw [h2] at h; exact h
  have k5 : text.length ≤ r4.rest.length := by have h := textF_len k4.2.1; rw [e5] at h; exact h
  have l1 : r1.rest.length ≤ 100000 := by omega
  have l2 : r2.rest.length ≤ 100000 := by omega
  have l3 : r3.rest.length ≤ 100000 := by omega
  have l4 : r4.rest.length ≤ 100000 := by omega
  obtain ⟨d, hdn⟩ : ∃ d, doneB r5 = d := ⟨_, rfl⟩
  obtain ⟨q, hq⟩ : ∃ q, rightB ⟨dev, no, day, seen, text⟩ = q := ⟨_, rfl⟩
  have HV : Hid ((d && q) = true → v = (⟨dev, no, day, seen, text⟩, true)) := Lib.hid (fun h => by
    rw [← hv]; unfold decodeF goodD; rw [hd]; unfold doneB at hdn; rw [hdn, hq, if_pos h])
  have HV0 : Hid ((d && q) = false → v = (.zero, false)) := Lib.hid (fun h => by
    rw [← hv]; unfold decodeF goodD; rw [hd]; unfold doneB at hdn; rw [hdn, hq, if_neg (by rw [h]; simp)])
  have HN1 := Lib.hid (fun (W : World) (b : Nat) (h : RdAt W b ⟨s, false⟩) => RNumM_any h (by show s.length ≤ _; omega) _ e1)
  have HN2 := Lib.hid (fun (W : World) (b : Nat) (h : RdAt W b r1) => RNumM_any h (by omega) _ e2)
  have HN3 := Lib.hid (fun (W : World) (b : Nat) (h : RdAt W b r2) => RNumM_any h (by omega) _ e3)
  have HN4 := Lib.hid (fun (W : World) (b : Nat) (h : RdAt W b r3) => RNums_M h k3.1 (by omega) _ e4)
  have HN5 := Lib.hid (fun (W : World) (b : Nat) (h : RdAt W b r4) => RText_M h k4.2.1 (by omega) _ e5)
  have HD := Lib.hid (fun (W : World) (b : Nat) (h : RdAt W b r5) => RDone_any h d hdn)
  have HRT := Lib.hid (fun (W : World) (A : Option Addr) (c : Nat) (h : Sl W 1 A seen.length (seen.map intC)) => RRight_any W ⟨⟨dev, no, day, seen, text⟩, A, c⟩ h q hq)
  have HB := Lib.hid (Below.refl w.heap.size w)
  simp only [EntC.cells] at HRT
  clear e1 e2 e3 e4 e5 hd k0 k1 k2 k3 k4 k5 l1 l2 l3 l4 hsm hv hdn hq
  go_enter Tryz.func118, Tryz.ntmps118
  go_wp2_with (fail)
  ((with_reducible refine (ROpen_any _ s).mono ?_); rintro _ w1 ⟨rfl, h1, hb1⟩)
  obtain ⟨hX, hbT⟩ := locs1 hb1
  obtain ⟨b, hb⟩ : ∃ b, b = (w.alloc (.cells #[.int .i64 0, .int .i64 0, .int .i64 0, .slice none 0 0, .string ⟨#[]⟩] 32)).heap.size := ⟨_, rfl⟩
  have hbs : b = w.heap.size + 1 := by rw [hb]; simp
  rw [← hb] at h1 ⊢
  have HBB := Lib.hid hbs
  have HB1 := Lib.hid hbT
  have H1 := Lib.hid h1
  have X := Lib.hid hX
  have HWB : Hid (w.heap.size ≤ b) := Lib.hid (by omega)
  have NX : Hid ((some b : Option Nat) ≠ some w.heap.size) := Lib.hid (fun e => by injection e with e; omega)
  clear hX hbT hb1 h1 hb hbs
  go_wp2_with (fail)
  ((with_reducible refine (HN1.out _ b H1.out).mono ?_); rintro _ w2 ⟨rfl, h2, g2⟩)
  have HB2 := Lib.hid (row_below HWB.out HB1.out g2)
  have X2 := Lib.hid (X.out.grown g2 NX.out)
  have H2 := Lib.hid h2
  clear h2 g2 X H1 HB1
  go_wp2_with (fail)
  ((with_reducible refine (HN2.out _ b H2.out).mono ?_); rintro _ w3 ⟨rfl, h3, g3⟩)
  have HB3 := Lib.hid (row_below HWB.out HB2.out g3)
  have X3 := Lib.hid (X2.out.grown g3 NX.out)
  have H3 := Lib.hid h3
  clear h3 g3 X2 H2 HB2
  go_wp2_with (fail)
  ((with_reducible refine (HN3.out _ b H3.out).mono ?_); rintro _ w4 ⟨rfl, h4, g4⟩)
  have HB4 := Lib.hid (row_below HWB.out HB3.out g4)
  have X4 := Lib.hid (X3.out.grown g4 NX.out)
  have H4 := Lib.hid h4
  clear h4 g4 X3 H3 HB3
  go_wp2_with (fail)
  ((with_reducible refine (HN4.out _ b H4.out).mono ?_); rintro _ w6 ⟨A, c, rfl, h6, k6, g6⟩)
  simp only at h6 k6 g6 ⊢
  have hlb := Loc.lt H4.out
  have F6 : Hid (∀ ad, A = some ad → b < ad.block ∧ w.heap.size < ad.block) := Lib.hid (fun ad e => by have h := h6.2 ad e; have := Loc.lt X4.out; omega)
  have S6 := Lib.hid h6.1
  have HB6 := Lib.hid (row_below HWB.out HB4.out g6)
  have X6 := Lib.hid (X4.out.grown g6 NX.out)
  have H6 := Lib.hid k6
  clear h6 g6 k6 X4 H4 HB4 hlb
  go_wp2_with (fail)
  ((with_reducible refine (HN5.out _ b H6.out).mono ?_); rintro _ w7 ⟨rfl, h7, g7⟩)
  have HB7 := Lib.hid (row_below HWB.out HB6.out g7)
  have X7 := Lib.hid (X6.out.grown g7 NX.out)
  have S7 := Lib.hid (S6.out.grown g7 (.inr fun ad e h => absurd (Option.some.inj h) (Nat.ne_of_lt (F6.out ad e).1)))
  have H7 := Lib.hid h7
  clear h7 g7 X6 H6 HB6 S6 HN1 HN2 HN3 HN4 HN5
  go_wp2_with (fail)
  have Y8 := Lib.hid (Loc.new_ w7 #[.int .i64 dev, .int .i64 no, .int .i64 day, .slice A seen.length c, .string ⟨text.toArray⟩] 32)
  have X8 := Lib.hid (X7.out.alloc (.cells #[.int .i64 dev, .int .i64 no, .int .i64 day, .slice A seen.length c, .string ⟨text.toArray⟩] 32))
  have S8 := Lib.hid (S7.out.alloc (.cells #[.int .i64 dev, .int .i64 no, .int .i64 day, .slice A seen.length c, .string ⟨text.toArray⟩] 32))
  have HB8 := Lib.hid (HB7.out.alloc HB7.out.size (.cells #[.int .i64 dev, .int .i64 no, .int .i64 day, .slice A seen.length c, .string ⟨text.toArray⟩] 32))
  have HD8 := Lib.hid (HD.out _ b (H7.out.alloc (.cells #[.int .i64 dev, .int .i64 no, .int .i64 day, .slice A seen.length c, .string ⟨text.toArray⟩] 32)))
  have HR8 := Lib.hid (HRT.out _ A c S8.out)
  clear HD HRT H7 HB7 X7 S7
  generalize w7.heap.size = y at *
  generalize w7.alloc (.cells #[.int .i64 dev, .int .i64 no, .int .i64 day, .slice A seen.length c, .string ⟨text.toArray⟩] 32) = w8 at *
  cases d
  · have hv := HV0.out rfl
    subst hv
    ((with_reducible refine (HD8.out).mono ?_); rintro _ w9 ⟨rfl, hw9⟩; obtain rfl := hw9)
    obtain ⟨zX8, kX8, fX8⟩ := X8.out
    go_wp2_with (fail)
    refine bodyPost_ret (v := .tuple #[.agg #[.int .i64 0, .int .i64 0, .int .i64 0, .slice none 0 0, .string ⟨#[]⟩], .bool false]) (by simp [results, Tryz.results118, go_sem, *]) rfl ?_
    exact zeroC_post (((((HB8.out.setCell (p := ⟨w.heap.size, 0, none⟩) (Nat.le_refl _) (.int .i64 0)).setCell (p := ⟨w.heap.size, 1, none⟩) (Nat.le_refl _) (.int .i64 0)).setCell (p := ⟨w.heap.size, 2, none⟩) (Nat.le_refl _) (.int .i64 0)).setCell (p := ⟨w.heap.size, 3, none⟩) (Nat.le_refl _) (.slice none 0 0)).setCell (p := ⟨w.heap.size, 4, none⟩) (Nat.le_refl _) (.string ⟨#[]⟩)) _
  ((with_reducible refine (HD8.out).mono ?_); rintro _ w9 ⟨rfl, hw9⟩; obtain rfl := hw9)
  obtain ⟨zY8, kY8, fY8⟩ := Y8.out
  go_wp2_with (fail)
  clear zY8 kY8 fY8
  ((with_reducible refine (HR8.out).mono ?_); rintro _ w9 ⟨rfl, hb9⟩)
  have HB9 := Lib.hid (HB8.out.trans (hb9.mono HB8.out.size))
  have X9 := Lib.hid (X8.out.below hb9)
  have Y9 := Lib.hid (Y8.out.below hb9)
  have S9 := Lib.hid (S8.out.below hb9)
  clear hb9 X8 Y8 S8 HB8
  cases q
  · have hv := HV0.out rfl
    subst hv
    obtain ⟨zX9, kX9, fX9⟩ := X9.out
    obtain ⟨zY9, kY9, fY9⟩ := Y9.out
    go_wp2_with (fail)
    refine bodyPost_ret (v := .tuple #[.agg #[.int .i64 0, .int .i64 0, .int .i64 0, .slice none 0 0, .string ⟨#[]⟩], .bool false]) (by simp [results, Tryz.results118, go_sem, *]) rfl ?_
    exact zeroC_post (((((HB9.out.setCell (p := ⟨w.heap.size, 0, none⟩) (Nat.le_refl _) (.int .i64 0)).setCell (p := ⟨w.heap.size, 1, none⟩) (Nat.le_refl _) (.int .i64 0)).setCell (p := ⟨w.heap.size, 2, none⟩) (Nat.le_refl _) (.int .i64 0)).setCell (p := ⟨w.heap.size, 3, none⟩) (Nat.le_refl _) (.slice none 0 0)).setCell (p := ⟨w.heap.size, 4, none⟩) (Nat.le_refl _) (.string ⟨#[]⟩)) _
  · have hv := HV.out rfl
    subst hv
    obtain ⟨zX9, kX9, fX9⟩ := X9.out
    obtain ⟨zY9, kY9, fY9⟩ := Y9.out
    go_wp2_with (fail)
    refine bodyPost_ret (v := .tuple #[.agg #[.int .i64 dev, .int .i64 no, .int .i64 day, .slice A seen.length c, .string ⟨text.toArray⟩], .bool true]) (by simp [results, Tryz.results118, go_sem, *]) rfl ?_
    exact ⟨⟨⟨dev, no, day, seen, text⟩, A, c⟩, rfl, rfl, ⟨(((((S9.out.grown (grownBy_setCell w9 ⟨w.heap.size, 0, none⟩ (.int .i64 dev)) (.inr fun ad e h => absurd (Option.some.inj h) (Nat.ne_of_lt (F6.out ad e).2))).grown (grownBy_setCell _ ⟨w.heap.size, 1, none⟩ (.int .i64 no)) (.inr fun ad e h => absurd (Option.some.inj h) (Nat.ne_of_lt (F6.out ad e).2))).grown (grownBy_setCell _ ⟨w.heap.size, 2, none⟩ (.int .i64 day)) (.inr fun ad e h => absurd (Option.some.inj h) (Nat.ne_of_lt (F6.out ad e).2))).grown (grownBy_setCell _ ⟨w.heap.size, 3, none⟩ (.slice A seen.length c)) (.inr fun ad e h => absurd (Option.some.inj h) (Nat.ne_of_lt (F6.out ad e).2))).grown (grownBy_setCell _ ⟨w.heap.size, 4, none⟩ (.string ⟨text.toArray⟩)) (.inr fun ad e h => absurd (Option.some.inj h) (Nat.ne_of_lt (F6.out ad e).2))), fun ad e => Nat.le_of_lt (F6.out ad e).2⟩, (((((HB9.out.setCell (p := ⟨w.heap.size, 0, none⟩) (Nat.le_refl _) (.int .i64 dev)).setCell (p := ⟨w.heap.size, 1, none⟩) (Nat.le_refl _) (.int .i64 no)).setCell (p := ⟨w.heap.size, 2, none⟩) (Nat.le_refl _) (.int .i64 day)).setCell (p := ⟨w.heap.size, 3, none⟩) (Nat.le_refl _) (.slice A seen.length c)).setCell (p := ⟨w.heap.size, 4, none⟩) (Nat.le_refl _) (.string ⟨text.toArray⟩))⟩
end Go.Proofs.YtjncmlglhegnaaaGreatDoor
namespace Go.Proofs.YtjncmlglhegnaaaGreatDoor

theorem replayGo_app : ∀ (a b : List (List UInt8)) (l : LoanV), replayGo (a ++ b) l = if (replayGo a l).2 = true then replayGo b (replayGo a l).1 else (noLoan, false)
  | [], b, l => by simp [replayGo]
  | t :: a, b, l => by
    rw [List.cons_append]
    by_cases h : (stepL t l).2 = true
    · have e1 : replayGo (t :: (a ++ b)) l = replayGo (a ++ b) (stepL t l).1 := by simp only [replayGo]; rw [if_pos h]
      have e2 : replayGo (t :: a) l = replayGo a (stepL t l).1 := by simp only [replayGo]; rw [if_pos h]
      rw [e1, e2]; exact replayGo_app a b _
    · have e1 : replayGo (t :: (a ++ b)) l = (noLoan, false) := by simp only [replayGo]; rw [if_neg h]
      have e2 : replayGo (t :: a) l = (noLoan, false) := by simp only [replayGo]; rw [if_neg h]
      rw [e1, e2]; simp
/-- a loan that is right behind another one: the same one, later -/
structure Later (l l' : LoanV) : Prop where
  dev : l'.device = l.device
  units : l'.units = l.units
  spent : l.spent ≤ l'.spent
  most : l'.spent ≤ l'.units
  back : l.back = true → l'.back = true
  right : l'.right = true
theorem right_mk {l : LoanV} (h : l.right = true) : 0 ≤ l.device ∧ l.device < 8 ∧ 1 ≤ l.units ∧ l.units ≤ 1099511627776 ∧ 0 ≤ l.spent ∧ l.spent ≤ l.units := by
  obtain ⟨d, u, s, b⟩ := l
  exact right_facts h
theorem mk_right {l : LoanV} (h : 0 ≤ l.device ∧ l.device < 8 ∧ 1 ≤ l.units ∧ l.units ≤ 1099511627776 ∧ 0 ≤ l.spent ∧ l.spent ≤ l.units) : l.right = true := by
  obtain ⟨a, b, c, d, e, f⟩ := h
  unfold LoanV.right loanB fineB
  simp [a, b, c, d, e, f]
theorem Later.refl {l : LoanV} (h : l.right = true) : Later l l := ⟨rfl, rfl, Int.le_refl _, (right_mk h).2.2.2.2.2, id, h⟩
theorem Later.trans {a b c : LoanV} (h : Later a b) (g : Later b c) : Later a c := ⟨g.dev.trans h.dev, g.units.trans h.units, Int.le_trans h.spent g.spent, g.most, fun x => g.back (h.back x), g.right⟩
theorem spendF_yes {l : LoanV} {n : Int} (h : (spendF l n).2 = 0) : Later l (spendF l n).1 ∧ 1 ≤ n ∧ (spendF l n).1 = ⟨l.device, l.units, l.spent + n, l.back⟩ := by
  by_cases h1 : (l.right && fineB n) = false
  · unfold spendF at h; rw [if_pos h1] at h; cases h
  · by_cases h2 : l.back = true
    · unfold spendF at h; rw [if_neg h1, if_pos h2] at h; cases h
    · by_cases h3 : l.units - l.spent < n
      · unfold spendF at h; rw [if_neg h1, if_neg h2, if_pos h3] at h; cases h
      · have e : (spendF l n).1 = ⟨l.device, l.units, l.spent + n, l.back⟩ := by unfold spendF; rw [if_neg h1, if_neg h2, if_neg h3]
        obtain ⟨hr, hf⟩ : l.right = true ∧ fineB n = true := by simpa using h1
        have := fine_facts hf
        have hm := right_mk hr
        refine ⟨?_, this.1, e⟩
        rw [e]
        refine ⟨rfl, rfl, ?_, ?_, id, mk_right ?_⟩
        · show l.spent ≤ l.spent + n; omega
        · show l.spent + n ≤ l.units; omega
        · show 0 ≤ l.device ∧ l.device < 8 ∧ 1 ≤ l.units ∧ l.units ≤ 1099511627776 ∧ 0 ≤ l.spent + n ∧ l.spent + n ≤ l.units
          omega
theorem returnF_yes {l : LoanV} (h : (returnF l).2 = 0) : Later l (returnF l).1 ∧ l.back = false ∧ (returnF l).1 = ⟨l.device, l.units, l.spent, true⟩ := by
  by_cases h1 : l.right = false
  · unfold returnF at h; rw [if_pos h1] at h; cases h
  · by_cases h2 : l.back = true
    · unfold returnF at h; rw [if_neg h1, if_pos h2] at h; cases h
    · have e : (returnF l).1 = ⟨l.device, l.units, l.spent, true⟩ := by unfold returnF; rw [if_neg h1, if_neg h2]
      have hr : l.right = true := by
        cases hh : l.right with
        | true => rfl
        | false => exact absurd hh h1
      have hm := right_mk hr
      refine ⟨?_, by simpa using h2, e⟩
      rw [e]
      exact ⟨rfl, rfl, Int.le_refl _, hm.2.2.2.2.2, fun _ => rfl, mk_right hm⟩
theorem returnF_1 {l : LoanV} : (returnF l).2 = 1 ↔ l.right = false := by
  unfold returnF
  by_cases h1 : l.right = false
  · simp [h1]
  · rw [if_neg h1]
    by_cases h2 : l.back = true
    · rw [if_pos h2]; simp [h1]
    · rw [if_neg h2]; simp [h1]
theorem stepL_yes {t : List UInt8} {l : LoanV} (hr : l.right = true) (h : (stepL t l).2 = true) : Later l (stepL t l).1 := by
  by_cases h1 : resB t = false
  · unfold stepL; rw [if_pos h1]; exact Later.refl hr
  · by_cases h2 : t = backT
    · unfold stepL at h ⊢
      rw [if_neg h1, if_pos h2] at h ⊢
      exact (returnF_yes (of_decide_eq_true h)).1
    · by_cases h3 : t.take 2 = [33, 115]
      · by_cases h4 : doneB (natF ⟨t.drop 2, false⟩).2 = true
        · unfold stepL at h ⊢
          rw [if_neg h1, if_neg h2, if_pos h3, if_pos h4] at h ⊢
          exact (spendF_yes (of_decide_eq_true h)).1
        · unfold stepL at h
          rw [if_neg h1, if_neg h2, if_pos h3, if_neg h4] at h
          cases h
      · unfold stepL at h
        rw [if_neg h1, if_neg h2, if_neg h3] at h
        cases h
theorem replayGo_yes : ∀ {ts : List (List UInt8)} {l : LoanV}, l.right = true → (replayGo ts l).2 = true → Later l (replayGo ts l).1
  | [], l, hr, _ => Later.refl hr
  | t :: ts, l, hr, h => by
    by_cases hs : (stepL t l).2 = true
    · have e2 : replayGo (t :: ts) l = replayGo ts (stepL t l).1 := by simp only [replayGo]; rw [if_pos hs]
      rw [e2] at h ⊢
      have g := stepL_yes hr hs
      exact g.trans (replayGo_yes g.right h)
    · have e2 : replayGo (t :: ts) l = (noLoan, false) := by simp only [replayGo]; rw [if_neg hs]
      rw [e2] at h; cases h
theorem replayF_right {ts : List (List UInt8)} {l : LoanV} (h : (replayF ts l).2 = true) : l.right = true ∧ replayF ts l = replayGo ts l := by
  by_cases h1 : (returnF l).2 = 1
  · unfold replayF at h; rw [if_pos h1] at h; cases h
  · refine ⟨?_, by unfold replayF; rw [if_neg h1]⟩
    cases hh : l.right with
    | true => rfl
    | false => exact absurd (returnF_1.2 hh) h1
theorem replayF_of {ts : List (List UInt8)} {l : LoanV} (h : l.right = true) : replayF ts l = replayGo ts l := by
  unfold replayF
  rw [if_neg]
  intro h1
  rw [returnF_1.1 h1] at h; cases h
/-- replaying succeeds for the first entries too, with at most as much spent -/
theorem replayF_take {ts : List (List UInt8)} {l : LoanV} (k : Nat) (h : (replayF ts l).2 = true) : (replayF (ts.take k) l).2 = true ∧ Later l (replayF ts l).1 ∧ Later (replayF (ts.take k) l).1 (replayF ts l).1 := by
  obtain ⟨hr, e⟩ := replayF_right h
  rw [replayF_of hr, e]
  rw [e] at h
  have ea : replayGo ts l = if (replayGo (ts.take k) l).2 = true then replayGo (ts.drop k) (replayGo (ts.take k) l).1 else (noLoan, false) := by
    have := replayGo_app (ts.take k) (ts.drop k) l
    rwa [List.take_append_drop] at this
  by_cases hk : (replayGo (ts.take k) l).2 = true
  · rw [if_pos hk] at ea
    refine ⟨hk, replayGo_yes hr h, ?_⟩
    have g := replayGo_yes hr hk
    rw [ea]
    exact replayGo_yes g.right (by rw [← ea]; exact h)
  · rw [if_neg hk] at ea; rw [ea] at h; cases h
theorem stepL_spend {n : Int} {l : LoanV} (h0 : 0 ≤ n) (h1 : n ≤ 9223372036854775807) : stepL (spendT n) l = ((spendF l n).1, decide ((spendF l n).2 = 0)) := by
  have e1 : resB (spendT n) = true := by unfold spendT resB; rfl
  have e3 : (spendT n).take 2 = [33, 115] := by unfold spendT; rfl
  have e2 : spendT n ≠ backT := by
    intro h
    rw [h] at e3
    exact absurd e3 (by decide)
  have e4 : (spendT n).drop 2 = encN n := by unfold spendT; rfl
  have e5 : natF ⟨encN n, false⟩ = (n, ⟨[], false⟩) := by
    have := natF_read h0 h1 [] false
    rwa [List.append_nil] at this
  unfold stepL
  rw [if_neg (by rw [e1]; simp), if_neg e2, if_pos e3, e4, e5]
  rfl
end Go.Proofs.YtjncmlglhegnaaaGreatDoor
