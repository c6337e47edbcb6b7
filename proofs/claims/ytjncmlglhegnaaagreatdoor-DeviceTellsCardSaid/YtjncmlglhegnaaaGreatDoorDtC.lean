/- kerbsideref49: a device of the reference as a thing apart from others; Open, walked. -/
import Derived.Test.YtjncmlglhegnaaaGreatDoorDtB
import Derived.Test.YtjncmlglhegnaaaGreatDoorJrnX
import Derived.Test.YtjncmlglhegnaaaGreatDoorChainRB
import Derived.Test.YtjncmlglhegnaaaGreatDoorDevC
namespace Go.Proofs.YtjncmlglhegnaaaGreatDoor
open Go.RowKit Go.Sort Go.Lib

abbrev rdevX (J : Nat) (number : Int) (l : LoanV) : Array Value := #[.pointer (some ⟨J, 0, none⟩), .int .i64 number, .int .i64 l.device, .int .i64 l.units, .int .i64 l.spent, .bool l.back]
/-- a device of the reference in block X, its journal on the disk of block C -/
def rdevR (C X : Nat) (y : RDevV) : Res :=
  packR (fun _ : Nat => True) fun J => [boxR X (rdevX J y.number y.first), jrefR C J y.j]
theorem Sep.rdevPack {w0 w : World} {Rs : List Res} {C X J : Nat} {y : RDevV} (h : Sep w0 w (boxR X (rdevX J y.number y.first) :: jrefR C J y.j :: Rs)) : Sep w0 w (rdevR C X y :: Rs) :=
  Sep.pack (φ := fun _ : Nat => True) (ls := fun J => [boxR X (rdevX J y.number y.first), jrefR C J y.j]) J trivial h
theorem Sep.rdevPart {w0 w : World} {Rs : List Res} {C X : Nat} {y : RDevV} (h : Sep w0 w (rdevR C X y :: Rs)) : ∃ J, Sep w0 w (boxR X (rdevX J y.number y.first) :: jrefR C J y.j :: Rs) := by
  obtain ⟨J, _, h1⟩ := Sep.unpack h
  exact ⟨J, h1⟩
/-- what Open leaves -/
def DevPostR (w0 : World) (Rs : List Res) (C : Nat) : DV × Option RDevV × Int → Ending → World → Prop
  | (r, some y, er), e, w' => ∃ X, e = .returned (.tuple #[.pointer (some ⟨X, 0, none⟩), .int .i64 er]) ∧ Sep w0 w' (rdevR C X y :: refR C r :: Rs)
  | (r, none, er), e, w' => e = .returned (.tuple #[.pointer none, .int .i64 er]) ∧ Sep w0 w' (refR C r :: Rs)
theorem openR_some {r r' : DV} {f e : Int} {j : JR} (h : openR r f = (r', some j, e)) : e = 0 ∧ j.recs = recsF (((SyncR r f).1.file f).now) := by
  unfold openR at h
  split at h
  · simp at h
  · dsimp only at h
    split at h
    · simp at h
    · split at h
      · split at h
        · simp at h
        · simp only [Prod.mk.injEq, Option.some.injEq] at h
          obtain ⟨_, h2, h3⟩ := h
          subst h2
          exact ⟨h3.symm, rfl⟩
      · simp only [Prod.mk.injEq, Option.some.injEq] at h
        obtain ⟨_, h2, h3⟩ := h
        subst h2
        exact ⟨h3.symm, rfl⟩
theorem openR_none {r r' : DV} {f e : Int} (h : openR r f = (r', none, e)) : e ≠ 0 := by
  unfold openR at h
  split at h
  · simp only [Prod.mk.injEq] at h
    omega
  · dsimp only at h
    split at h
    · rename_i hc
      simp only [Prod.mk.injEq] at h
      omega
    · split at h
      · split at h
        · rename_i hc
          simp only [Prod.mk.injEq] at h
          omega
        · simp at h
      · simp at h
section
variable {w0 w w' : World} {Rs : List Res} {C : Nat} {r : DV}
set_option maxRecDepth 100000 in
set_option maxHeartbeats 16000000 in
theorem OpenDevR_sep (h : Sep w0 w (refR C r :: Rs)) (number : Int) (loan : LoanV) (x : DV × Option RDevV × Int) (hr : ropenD r number loan = x) :
    Calls Tryz.prog 18 #[.pointer (some ⟨C, 0, none⟩), .int .i64 number, .agg (loanX loan)] w (DevPostR w0 Rs C x) := by
  obtain ⟨rb, hrb⟩ : ∃ rb, loan.right = rb := ⟨_, rfl⟩
  have HRT := Lib.hid (fun W => LoanR_any loan.device loan.units loan.spent loan.back rb hrb W)
  have HS0 := Lib.hid (h.box (loanX loan) 24)
  unfold ropenD at hr
  rw [hrb] at hr
  have HR := Lib.hid hr
  simp only [loanX] at HRT HS0 ⊢
  clear h hr hrb
  go_enter Tryz.func18, Tryz.ntmps18
  go_upto_region 1 with (fail)
  generalize hg5 : w.heap.size = g5 at HS0 ⊢
  clear hg5
  generalize hWA : w.alloc (.cells #[.int .i64 loan.device, .int .i64 loan.units, .int .i64 loan.spent, .bool loan.back] 24) = wA at HS0 ⊢
  clear hWA
  obtain ⟨z5, k5, f5⟩ := HS0.out.loc
  by_cases h1 : number < 0
  · have hr := HR.out
    rw [if_pos (.inl h1)] at hr
    subst hr
    go_wp2_with (fail)
    go_ret2
    exact ⟨rfl, HS0.out.drop⟩
  have h1i : 0 ≤ number := by omega
  by_cases h2 : 8 ≤ number
  · have hr := HR.out
    rw [if_pos (.inr (.inl h2))] at hr
    subst hr
    clear h1
    go_wp2_with (fail)
    go_ret2
    exact ⟨rfl, HS0.out.drop⟩
  have h2i : number < 8 := by omega
  clear h1 h2
  go_wp2_with (fail)
  ((with_reducible refine (HRT.out _).mono ?_); rintro _ w1 ⟨rfl, hw1⟩)
  have hb1 : Below wA.heap.size wA w1 := by rw [← hw1]; exact below_alloc _ _
  have HS1 := Lib.hid (HS0.out.below hb1)
  clear hb1 hw1 HS0 HRT z5 k5 f5
  obtain ⟨z5, k5, f5⟩ := HS1.out.loc
  cases rb
  · have hr := HR.out
    rw [if_pos (.inr (.inr (.inl rfl)))] at hr
    subst hr
    go_wp2_with (fail)
    go_ret2
    exact ⟨rfl, HS1.out.drop⟩
  by_cases h4 : loan.device = number
  case neg =>
    have hr := HR.out
    rw [if_pos (.inr (.inr (.inr (.inl h4))))] at hr
    subst hr
    have hb : (loan.device == number) = false := by rw [beq_eq_false_iff_ne]; exact h4
    have hn : (loan.device != number) = true := by rw [bne_iff_ne]; exact h4
    clear h4
    go_wp2_with (fail)
    go_ret2
    exact ⟨rfl, HS1.out.drop⟩
  by_cases h5 : loan.spent = 0
  case neg =>
    have hr := HR.out
    rw [if_pos (.inr (.inr (.inr (.inr (.inl h5)))))] at hr
    subst hr
    have hb : (loan.spent == 0) = false := by rw [beq_eq_false_iff_ne]; exact h5
    have hn : (loan.spent != 0) = true := by rw [bne_iff_ne]; exact h5
    clear h5
    go_wp2_with (fail)
    go_ret2
    exact ⟨rfl, HS1.out.drop⟩
  obtain ⟨lb, hlb⟩ : ∃ lb, loan.back = lb := ⟨_, rfl⟩
  cases lb
  case true =>
    have hr := HR.out
    rw [if_pos (.inr (.inr (.inr (.inr (.inr hlb)))))] at hr
    subst hr
    go_wp2_with (fail)
    go_ret2
    exact ⟨rfl, HS1.out.drop⟩
  have hr := HR.out
  rw [if_neg (by rintro (h | h | h | h | h | h) <;> first | omega | simp at h | (rw [hlb] at h; simp at h) | exact h h4)] at hr
  subst h4
  obtain ⟨⟨r1, oj, e1⟩, hoj⟩ : ∃ q, openR r 0 = q := ⟨_, rfl⟩
  rw [hoj] at hr
  simp only at hr
  have C1 := Lib.hid (fun W Rs (h : Sep w0 W (refR C r :: Rs)) => OpenRJ_sep h 0 (r1, oj, e1) hoj)
  clear HR
  go_upto_region 3 with (fail)
  clear h5 hlb
  replace HS1 := Lib.hid HS1.out.sw
  cases oj with
  | none =>
    have he1 : e1 ≠ 0 := openR_none hoj
    have hb : (e1 == 0) = false := by rw [beq_eq_false_iff_ne]; exact he1
    have hn : (e1 != 0) = true := by rw [bne_iff_ne]; exact he1
    simp only at hr
    subst hr
    clear hoj he1
    go_wp2_with (fail)
    ((with_reducible refine (C1.out _ _ HS1.out).mono ?_); rintro _ w2 ⟨rfl, h2⟩)
    have HS3 := Lib.hid h2.drop2
    clear h2
    go_wp2_with (fail)
    go_ret2
    exact ⟨rfl, HS3.out⟩
  | some j =>
    obtain ⟨rfl, hj3⟩ := openR_some hoj
    have hjl : j.recs.length ≤ 16777216 := by
      have a1 := ((HS1.out.ref_ok.Sync 0).file 0).1
      have a2 := (recs_prefix (((SyncR r 0).1.file 0).now)).length_le
      have a3 := formsB_len (recsF (((SyncR r 0).1.file 0).now))
      rw [hj3]
      omega
    have hjs : ∀ t ∈ j.recs, t.length ≤ 100000 := fun t ht => by
      have := recs_small _ t (by rw [← hj3]; exact ht)
      omega
    have HJL := Lib.hid hjl
    have HJS := Lib.hid hjs
    have HR := Lib.hid hr
    clear hj3 hjl hjs hr hoj
    go_wp2_with (fail)
    ((with_reducible refine (C1.out _ _ HS1.out).mono ?_); rintro _ w2 ⟨J, rfl, h2⟩)
    obtain ⟨A3, c3, h3⟩ := h2.jref_part
    have HS3 := Lib.hid h3
    clear h2 h3 C1 HS1 z5 k5 f5
    obtain ⟨zJ, kJ, fJ⟩ := HS3.out.loc
    simp only [jrefX] at kJ
    go_wp2_with (fail)
    ((with_reducible refine (rentries_any w2 A3 j.recs.length c3 j.recs HS3.out.sw.own.sl' (by have := HJL.out; omega) HJS.out).mono ?_); rintro _ w4 hP)
    clear zJ kJ fJ
    rcases hP with ⟨A4, c4, es, hde, rfl, hS⟩ | ⟨hde, rfl, hb⟩
    case inr =>
      have hr := HR.out
      rw [hde] at hr
      simp only at hr
      subst hr
      have HS5 := Lib.hid (HS3.out.below hb)
      clear hde hb
      obtain ⟨q, hq⟩ : ∃ q, replayF (textsOf (vsOf [])) loan = q := ⟨_, rfl⟩
      have HRP := Lib.hid (rReplay_any w4 none 0 0 [] ⟨Sl.nil_ _ _ _, by simp, by simp⟩ (by omega) loan q hq)
      obtain ⟨⟨rd, ru, rs, rb⟩, ro⟩ := q
      obtain ⟨z5, k5, f5⟩ := HS5.out.r4.loc
      simp only [loanX] at HRP
      clear hq
      go_wp2_with (fail)
      ((with_reducible refine HRP.out.mono ?_); rintro _ w5 ⟨rfl, hb5⟩)
      have HS6 := Lib.hid (((HS5.out.below hb5).alloc (.cells #[.int .i64 rd, .int .i64 ru, .int .i64 rs, .bool rb] 24)).r3.drop2.drop2.drop2)
      clear hb5 HS5 z5 k5 f5 HRP
      go_wp2_with (fail)
      go_ret2
      exact ⟨rfl, HS6.out⟩
    have hr := HR.out
    rw [hde] at hr
    simp only at hr
    have HS5 := Lib.hid (HS3.out.graft hS)
    simp only [List.cons_append, List.nil_append] at HS5
    have HCH := Lib.hid (chAt_of hde HS5.out.own.sl' HS5.out.sw.sees)
    have HEL : Hid (es.length ≤ 1099511627776) := Lib.hid (by
      have h1 := decAll_len hde
      rw [vsOf_len] at h1
      have h2 := HJL.out
      omega)
    have L5 := Lib.hid HS5.out.drop.drop.drop.drop.drop.loc
    clear hS HS3 HR hde
    obtain ⟨k, hk⟩ : ∃ k, checkF (vsOf es) = k := ⟨_, rfl⟩
    obtain ⟨⟨⟨rd, ru, rs, rb⟩, ro⟩, hrp⟩ : ∃ q, replayF (textsOf (vsOf es)) loan = q := ⟨_, rfl⟩
    have HRP := Lib.hid (rReplay_any w4 A4 es.length c4 es HCH.out HEL.out loan _ hrp)
    have HCK := Lib.hid (fun W (h : Below w4.heap.size w4 W) => RCheck_any W A4 es.length c4 es (HCH.out.below h) k hk)
    rw [hk, hrp] at hr
    simp only [loanX] at HRP L5
    obtain ⟨z5, k5, f5⟩ := L5.out
    clear hk hrp
    go_wp2_with (fail)
    ((with_reducible refine HRP.out.mono ?_); rintro _ w5 ⟨rfl, hb5⟩)
    have HB5 := Lib.hid (hb5.alloc hb5.size (.cells #[.int .i64 rd, .int .i64 ru, .int .i64 rs, .bool rb] 24))
    have HS6 := Lib.hid ((HS5.out.below hb5).alloc (.cells #[.int .i64 rd, .int .i64 ru, .int .i64 rs, .bool rb] 24))
    clear hb5 HS5 z5 k5 f5 HRP L5
    go_upto_region 8 with (fail)
    generalize w5.alloc (.cells #[.int .i64 rd, .int .i64 ru, .int .i64 rs, .bool rb] 24) = wB at *
    cases ro
    case false =>
      rw [if_neg (fun h => by simp at h)] at hr
      subst hr
      go_wp2_with (fail)
      go_ret2
      exact ⟨rfl, HS6.out.drop.drop.drop.drop.drop2⟩
    by_cases hk0 : k = 0
    case neg =>
      rw [if_neg (fun h => hk0 h.2.1)] at hr
      subst hr
      have hb : (k == 0) = false := by rw [beq_eq_false_iff_ne]; exact hk0
      have hn : (k != 0) = true := by rw [bne_iff_ne]; exact hk0
      clear hk0
      go_wp2_with (fail)
      ((with_reducible refine (HCK.out _ HB5.out).mono ?_); rintro _ w6 ⟨rfl, hb6⟩)
      have HS7 := Lib.hid (HS6.out.below hb6)
      clear hb6 HS6
      go_wp2_with (fail)
      go_ret2
      exact ⟨rfl, HS7.out.drop.drop.drop.drop.drop2⟩
    subst hk0
    have HR := Lib.hid hr
    clear hr
    go_wp2_with (fail)
    ((with_reducible refine (HCK.out _ HB5.out).mono ?_); rintro _ w6 ⟨rfl, hb6⟩)
    have HS7 := Lib.hid (HS6.out.below hb6)
    have HCH7 := Lib.hid ((HCH.out.below HB5.out).below hb6)
    clear hb6 HS6 HB5 HCK HCH
    have L5 := Lib.hid HS7.out.drop.drop.drop.drop.drop.loc
    obtain ⟨z5, k5, f5⟩ := L5.out
    have HX := Lib.hid (fun (y : RDevV) (hy : y = ⟨j, loan.device, loan⟩) => hy ▸ Sep.rdevPack (y := ⟨j, loan.device, loan⟩) ((Sep.jref_join (j := j) HS7.out.drop.drop rfl rfl rfl).box (rdevX J loan.device loan) 116))
    cases es with
    | nil =>
      have hr := HR.out
      rw [if_pos ⟨by trivial, by trivial, fun e he => by simp [vsOf] at he⟩] at hr
      subst hr
      simp only [List.length_nil] at *
      go_wp2_with (fail)
      go_ret2
      exact ⟨_, rfl, (HX.out _ rfl).r3.drop⟩
    | cons v tl =>
      obtain ⟨n, hn⟩ : ∃ n, (v :: tl).length = n := ⟨_, rfl⟩
      have hn1 : 1 ≤ n := by rw [← hn]; simp
      have hcap := own_capE HS7.out.own
      rw [hn] at hcap
      have hc4 : (1 : Int) ≤ (c4 : Int) := by omega
      have hc4n : 1 ≤ c4 := by omega
      have hmin : min (1 : Int) (n : Int) = 1 := by omega
      have hpos : (0 : Int) < (n : Int) := by omega
      obtain ⟨b, o, rfl, hbl, d0, d1, d2, d3, d4⟩ := ent_at HCH7.out.sl (k := 0) (v := v) rfl
      simp only [Nat.zero_mul, Nat.add_zero, Nat.zero_add] at d0
      rw [hn]
      clear d1 d2 d3 d4 hn hn1 hcap HEL HCH7
      by_cases hd : v.v.dev = loan.device
      · have hr := HR.out
        rw [if_pos ⟨by trivial, by trivial, fun e he => by
          have : v.v = e := by simpa [vsOf] using he
          rw [← this]; exact hd⟩] at hr
        subst hr
        have hb : (v.v.dev == loan.device) = true := by rw [beq_iff_eq]; exact hd
        have hbn : (v.v.dev != loan.device) = false := by rw [bne, hb]; rfl
        clear hd
        go_wp2_with (fail)
        go_ret2
        exact ⟨_, rfl, (HX.out _ rfl).r3.drop⟩
      · have hr := HR.out
        rw [if_neg (fun h => hd (h.2.2 v.v rfl))] at hr
        subst hr
        have hb : (v.v.dev == loan.device) = false := by rw [beq_eq_false_iff_ne]; exact hd
        have hbn : (v.v.dev != loan.device) = true := by rw [bne_iff_ne]; exact hd
        clear hd
        go_wp2_with (fail)
        go_ret2
        exact ⟨rfl, HS7.out.drop.drop.drop.drop.drop2⟩
end
end Go.Proofs.YtjncmlglhegnaaaGreatDoor
