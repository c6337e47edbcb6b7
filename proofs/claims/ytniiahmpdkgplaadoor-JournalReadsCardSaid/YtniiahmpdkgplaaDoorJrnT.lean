/- kerbsidelaw03: JournalReads, walked. -/
import Derived.Test.YtniiahmpdkgplaaDoorJrnS
import Derived.Test.YtniiahmpdkgplaaDoorJrnL
import Derived.Test.YtniiahmpdkgplaaDoorWireA2
import Derived.Deep.LoopGhost
import Derived.Deep.DeepCutAuto
import Derived.Deep.CutBlock
namespace Go.Proofs.YtniiahmpdkgplaaDoor
open Go.RowKit Go.Sort Go.Lib

theorem Sep.boxGrown {w0 w w' : World} {Rs : List Res} {b : Nat} {X X' : Array Value} (h : Sep w0 w (boxR b X :: Rs)) (hl : Loc w' b X') (hg : w.grownBy w' (some b)) : Sep w0 w' (boxR b X' :: Rs) :=
  h.step fun F hF => ⟨F, ⟨hl, hF.2⟩, fun _ hk => .inl hk, Keeps.grown hg fun k hk => (hF.2 k).2 (by injection hk with hk; exact hk.symm)⟩
set_option maxRecDepth 100000 in
set_option maxHeartbeats 16000000 in
theorem journalReads_any (w : World) (hE : Env w.heap.size w) (s : List UInt8) :
    Calls Tryd.prog 4 #[.string ⟨s.toArray⟩] w fun e w' => e = .returned (.bool true) ∧ Below w.heap.size w w' := by
  have HE := Lib.hid hE
  have hz := str_size s
  clear hE
  go_enter Tryd.func4, Tryd.ntmps4
  go_wp2_with (fail)
  ((with_reducible refine (small_any w HE.out).mono ?_); rintro _ w1 ⟨rfl, hb⟩)
  have HB := Lib.hid hb
  clear hb
  by_cases hl : 300 < (s.length : Int)
  · go_wp2_with (fail)
    go_ret
    exact ⟨rfl, HB.out⟩
  have HS : Hid (s.length ≤ 300) := Lib.hid (by omega)
  have hl' : (s.length : Int) ≤ 300 := by have := HS.out; omega
  clear hl
  obtain ⟨d1, hw1, hn1, hc1⟩ := Calm.new.write (f := 7) (by decide) (by decide) 0 s (by have := HS.out; omega)
  have hs1 : (d1.file 7).now = s := by
    rw [hn1]
    have h0 : (newD.file 7).now = [] := rfl
    rw [h0]
    have := putB_end [] s
    simpa using this
  obtain ⟨d2, ho2, hf2, hc2⟩ := hc1.open_ (f := 7) (by decide) (by decide) hs1
  obtain ⟨d3, ho3, hf3, hc3⟩ := hc2.open_ (f := 7) (s := formsB (recsF s)) (by decide) (by decide) (by rw [hf2])
  rw [recs_again] at ho3 hf3
  obtain ⟨R, hR⟩ : ∃ R, recsF s = R := ⟨_, rfl⟩
  rw [hR] at ho2 hf2 ho3 hf3
  have HR := Lib.hid hR
  have HRL : Hid (R.length ≤ 300) := Lib.hid (by have h1 := formsB_len (recsF s); have h2 := (recs_prefix s).length_le; rw [hR] at h1 h2; have := HS.out; omega)
  have HRF : Hid ((formsB R).length ≤ 300) := Lib.hid (by have h2 := (recs_prefix s).length_le; rw [hR] at h2; have := HS.out; omega)
  have HW1 := Lib.hid hw1
  have HO2 := Lib.hid ho2
  have HO3 := Lib.hid ho3
  have HF2 := Lib.hid hf2
  have HF3 := Lib.hid hf3
  have HC2 := Lib.hid hc2
  have HC3 := Lib.hid hc3
  clear hw1 hn1 hc1 hs1 ho2 hf2 hc2 ho3 hf3 hc3 hR
  go_wp2_with (fail)
  ((with_reducible refine (New_sep (Sep.of_below HB.out)).mono ?_); rintro e w2 ⟨B, rfl, h1⟩)
  have H2 := Lib.hid h1
  clear h1
  go_wp2_with (fail)
  ((with_reducible refine (Write_sep H2.out 7 0 s (by simp) (by have := HS.out; omega) _ HW1.out).mono ?_); rintro e w3 ⟨rfl, h1⟩)
  have H3 := Lib.hid h1
  clear h1
  go_wp2_with (fail)
  ((with_reducible refine (Open_sep H3.out HE.out 7 _ HO2.out).mono ?_); rintro e w4 ⟨J, rfl, h1⟩)
  have H4 := Lib.hid h1
  have hal := All_sep h1 (by have := HRL.out; show R.length ≤ _; omega)
  have HAL := Lib.hid hal
  clear h1 hal
  go_wp2_with (fail)
  ((with_reducible refine (HAL.out).mono ?_); rintro _ w5 ⟨A3, c3, rfl, h5⟩)
  have H5 := Lib.hid h5
  clear h5
  go_wp2_with (fail)
  ((with_reducible refine (Open_any _ s).mono ?_); rintro _ w6 ⟨rfl, h6, hb6⟩)
  have H6 : Hid (Sep w w6 (boxR w5.heap.size #[.string ⟨s.toArray⟩, .bool false] :: ownR 9 1 (.slice A3 R.length c3) R.length (R.map strC) :: jourR B J ⟨7, R, ((formsB R).length : Int), false⟩ :: diskR B d2 :: [])) := Lib.hid (H5.out.boxAt hb6 h6 (Nat.le_refl _))
  clear h6 hb6
  go_upto_block 0 with (fail)
  obtain ⟨b, hbb⟩ : ∃ b, w5.heap.size = b := ⟨_, rfl⟩
  rw [hbb] at H6 ⊢
  have HBB : Hid (w.heap.size ≤ b) := Lib.hid (by rw [← hbb]; exact H5.out.base.size)
  clear hbb
  go_cut [9, 10] (fun wv bv wx => ∃ A4 c4, wv = .slice A4 R.length c4 ∧ bv = .int .i64 ((formsB R).length : Int) ∧ Sep w wx (ownR 9 1 (.slice A4 R.length c4) R.length (R.map strC) :: ownR 9 1 (.slice A3 R.length c3) R.length (R.map strC) :: jourR B J ⟨7, R, ((formsB R).length : Int), false⟩ :: diskR B d2 :: []))
  case first =>
    go_wp2_with (fail)
    go_loopg [9, 10] (s.length + 1) (fun gk wv bv wr => ∃ (l : List (List UInt8)) (A4 : Option Addr) (n4 c4 m : Nat), wv = .slice A4 n4 c4 ∧ bv = .int .i64 (m : Int) ∧ l.length = n4 ∧ (formsB l).length = m ∧ gk + m = s.length + 1 ∧ Wants s l ∧ Sep w wr (boxR b #[.string ⟨(s.drop m).toArray⟩, .bool false] :: ownR 9 1 (.slice A4 n4 c4) n4 (l.map strC) :: ownR 9 1 (.slice A3 R.length c3) R.length (R.map strC) :: jourR B J ⟨7, R, ((formsB R).length : Int), false⟩ :: diskR B d2 :: []))
    case atStart =>
      exact ⟨[], none, 0, 0, 0, rfl, rfl, rfl, rfl, rfl, Wants.nil s, by have h := (H6.out.ownNil 9 1).sw; simpa using h⟩
    case round =>
    obtain ⟨l, A4, n4, c4, m, rfl, rfl, hl4, hm, hgk, hwt, hS⟩ := hrel
    obtain ⟨wo, rfl⟩ : ∃ wo : World, wo = wr := ⟨_, rfl⟩
    have HS6 := Lib.hid hS
    have HL4 := Lib.hid hl4
    have HM := Lib.hid hm
    have HGK := Lib.hid hgk
    have HWT := Lib.hid hwt
    have hml : m ≤ s.length := by rw [← hm]; exact hwt.pre.length_le
    clear hS hl4 hm hgk hwt H6
    have HDONE : Hid (∀ W, stepJ (s.drop m) = none → (∃ X, Sep w W (boxR b X :: ownR 9 1 (.slice A4 n4 c4) n4 (l.map strC) :: ownR 9 1 (.slice A3 R.length c3) R.length (R.map strC) :: jourR B J ⟨7, R, ((formsB R).length : Int), false⟩ :: diskR B d2 :: [])) → ∃ A5 c5, Value.slice A4 n4 c4 = .slice A5 R.length c5 ∧ Value.int .i64 (m : Int) = .int .i64 ((formsB R).length : Int) ∧ Sep w W (ownR 9 1 (.slice A5 R.length c5) R.length (R.map strC) :: ownR 9 1 (.slice A3 R.length c3) R.length (R.map strC) :: jourR B J ⟨7, R, ((formsB R).length : Int), false⟩ :: diskR B d2 :: [])) := Lib.hid (fun W hn ⟨X, h⟩ => by
      have e : l = R := (HWT.out.done (by rw [HM.out]; exact hn)).trans HR.out
      have e4 : n4 = R.length := by rw [← HL4.out, e]
      have e5 : m = (formsB R).length := by rw [← HM.out, e]
      rw [e, e4] at h
      exact ⟨A4, c4, by rw [e4], by rw [e5], h.drop⟩)
    have HRD : Hid (RdAt wo b ⟨s.drop m, false⟩) := Lib.hid HS6.out.loc
    by_cases hlt : m < s.length
    case neg =>
      have hnil : s.drop m = [] := List.drop_eq_nil_of_le (by omega)
      have HNO : Hid (stepJ (s.drop m) = none) := Lib.hid (by rw [hnil]; exact stepJ_nil)
      have HLF := Lib.hid (Left_any HRD.out 0 (by show ((s.drop m).length : Int) = 0; rw [hnil]; rfl))
      clear hlt hml hnil
      go_wp2_with (fail)
      ((with_reducible refine (HLF.out).mono ?_); rintro _ w7 ⟨rfl, hw7⟩; obtain rfl := hw7)
      go_wp2_with (fail)
      go_meet
      case rel => exact HDONE.out _ HNO.out ⟨_, HS6.out⟩
    obtain ⟨s2, hs2⟩ : ∃ s2, s.drop m = s2 := ⟨_, rfl⟩
    rw [hs2] at HRD HDONE
    have hl2 : s2.length = s.length - m := by rw [← hs2, List.length_drop]
    have hpos : (0 : Int) < ((s.length - m : Nat) : Int) := by omega
    have HLF := Lib.hid (Left_any HRD.out ((s.length - m : Nat) : Int) (by show (s2.length : Int) = _; rw [hl2]))
    obtain ⟨t, r1, ht⟩ : ∃ t r1, textF ⟨s2, false⟩ = (t, r1) := ⟨_, _, rfl⟩
    obtain ⟨n, r2, hn⟩ : ∃ n r2, natF r1 = (n, r2) := ⟨_, _, rfl⟩
    have htl : t.length ≤ s2.length := by have h := textF_len (r := ⟨s2, false⟩) (ok_of rfl); rw [ht] at h; exact h
    have hk1 : r1.ok ∧ r1.rest.length ≤ s2.length := by
      have h := textF_keeps (r := ⟨s2, false⟩) (ok_of rfl)
      rw [ht] at h
      refine ⟨h.1, ?_⟩
      rcases h.2 with h | h
      · exact Nat.le_of_lt h
      · simp only at h; rw [h]; exact Nat.zero_le _
    have hnb : 0 ≤ n ∧ n ≤ 9223372036854775807 := by
      have h := numF_ok (e := 59) (least := 0) hk1.1
      have hn2 : numF 59 0 r1 = (n, r2) := hn
      rw [hn2] at h
      rcases h with ⟨_, h⟩ | ⟨_, _, h1, h2, _⟩
      · simp only at h; omega
      · exact ⟨h1, h2⟩
    obtain ⟨q, hq⟩ : ∃ q, sumF t = q := ⟨_, rfl⟩
    have hst := stepJ_is ht hn
    rw [hq] at hst
    have h20 : t.length ≤ 20000 := by have := HS.out; omega
    obtain ⟨a, ha⟩ : ∃ a, encT t = a := ⟨_, rfl⟩
    obtain ⟨e, he⟩ : ∃ e, encN n = e := ⟨_, rfl⟩
    have hla : a.length ≤ 400 := by rw [← ha]; have := encT_len (s := t) (by omega); have := HS.out; omega
    have hle : e.length ≤ 21 := by rw [← he]; unfold encN; rw [if_neg (by omega)]; exact encI_len ⟨by omega, by omega⟩
    have C1 := Lib.hid (fun (W : World) (h : RdAt W b ⟨s2, false⟩) (hb : Below w.heap.size w W) => Text_M h (HE.out.below hb) HBB.out (ok_of rfl) (by show s2.length ≤ _; have := HS.out; omega) (t, r1) ht)
    have C2 := Lib.hid (fun (W : World) (h : RdAt W b r1) (hb : Below w.heap.size w W) => NumM_any h (HE.out.below hb) HBB.out (by have := HS.out; omega) (n, r2) hn)
    have C3 := Lib.hid (fun W (hb : Below w.heap.size w W) => Text_any W (HE.out.below hb).isTab t (by omega) a ha)
    have C4 := Lib.hid (fun W (hb : Below w.heap.size w W) => Num_any W (HE.out.below hb).isTab n (by omega) hnb.2 e he)
    have C5 := Lib.hid (fun (W : World) => Sum_any W t (by omega) q hq)
    have y1 := str_size a
    have y2 := str_size e
    have i1 : ¬ 9223372036854775807 < a.length + e.length := by omega
    obtain ⟨f, hf⟩ : ∃ f, a ++ e = f := ⟨_, rfl⟩
    have hab : (⟨a.toArray⟩ : ByteArray) ++ (⟨e.toArray⟩ : ByteArray) = ⟨f.toArray⟩ := by rw [← hf]; exact str_app a e
    have y3 := str_size f
    have y4 := str_size t
    have hfl : f.length ≤ 421 := by rw [← hf, List.length_append]; omega
    have HFL := Lib.hid hfl
    have HFB : Hid (n = q → formB t = f) := Lib.hid (fun h => by unfold formB; rw [hq, ← h, ha, he, hf])
    have HST := Lib.hid hst
    have HS2 := Lib.hid hs2
    have HL2 := Lib.hid hl2
    have HLT := Lib.hid hlt
    have H20 := Lib.hid h20
    have HR2 : Hid (∀ h : stepJ s2 = some t, r2 = ⟨s2.drop f.length, false⟩) := Lib.hid (fun h => by
      obtain ⟨h1, r, hr⟩ := stepJ_iff.1 h
      have h3 := form_read (t := t) (by omega) r
      rw [hr, ht] at h3
      have h4 : r1 = ⟨encN (sumF t) ++ r, false⟩ := congrArg (fun x => x.2) h3.1
      have h5 := h3.2
      rw [← h4, hn] at h5
      have h6 : n = sumF t := congrArg (fun x => x.1) h5
      have h7 : r2 = ⟨r, false⟩ := congrArg (fun x => x.2) h5
      have h8 : formB t = f := by unfold formB; rw [← h6, ha, he, hf]
      rw [h7, ← hr, h8, List.drop_left])
    clear ht hn htl hk1 hnb hq hst h20 ha he hla hle hf hfl hs2 hl2 hlt hml
    go_wp2_with (fail)
    ((with_reducible refine (HLF.out).mono ?_); rintro _ w7 ⟨rfl, hw7⟩; obtain rfl := hw7)
    go_wp2_with (fail)
    ((with_reducible refine (C1.out _ HRD.out HS6.out.base).mono ?_); rintro _ w7 ⟨rfl, h7, g7⟩)
    have H7 := Lib.hid (HS6.out.boxGrown h7 g7)
    have HRD7 : Hid (RdAt w7 b r1) := Lib.hid h7
    clear h7 g7
    go_wp2_with (fail)
    ((with_reducible refine (C2.out _ HRD7.out H7.out.base).mono ?_); rintro _ w8 ⟨rfl, h8, g8⟩)
    have H8 := Lib.hid (H7.out.boxGrown h8 g8)
    clear h8 g8
    go_wp2_with (fail)
    ((with_reducible refine (C3.out _ H8.out.base).mono ?_); rintro _ w9 ⟨rfl, hb9⟩)
    have H9 := Lib.hid (H8.out.below hb9)
    clear hb9
    go_wp2_with (fail)
    ((with_reducible refine (C4.out _ H9.out.base).mono ?_); rintro _ w10 ⟨rfl, hb10⟩)
    have H10 := Lib.hid (H9.out.below hb10)
    clear hb10
    have hwf : IntKind.i64.wrap ((m : Int) + (f.length : Int)) = ((m + f.length : Nat) : Int) := by rw [IntWalk.i64_in _ (by have := HS.out; have := HLT.out; have := HFL.out; omega)]; omega
    by_cases h9 : n = q
    case neg =>
      as_aux_lemma =>
      have h9b : (n == q) = false := by rw [beq_eq_false_iff_ne]; exact h9
      have h9n : (n != q) = true := by rw [bne_iff_ne]; exact h9
      have HNO : Hid (stepJ s2 = none) := Lib.hid (by rw [HST.out, if_neg (fun h => h9 h.2.1)])
      clear h9
      go_wp2_with (fail)
      ((with_reducible refine (C5.out _).mono ?_); rintro _ w11 ⟨rfl, hw11⟩; obtain rfl := hw11)
      go_wp2_with (fail)
      go_meet
      case rel => exact HDONE.out _ HNO.out ⟨_, H10.out⟩
    subst h9
    obtain ⟨e1, he1⟩ : ∃ e1, m + f.length = e1 := ⟨_, rfl⟩
    have HFB2 : Hid (formB t = f) := Lib.hid (HFB.out rfl)
    have hee : (m : Int) + (f.length : Int) = (e1 : Int) := by omega
    rw [he1] at hwf
    have HE1 := Lib.hid he1
    by_cases h10 : f.length ≤ s2.length
    case neg =>
      as_aux_lemma =>
      have hwe : IntKind.i64.wrap (e1 : Int) = (e1 : Int) := IntWalk.i64_in _ (by have h1 := HS.out; have h2 := HLT.out; have h3 := HFL.out; omega)
      have h10i : (s.length : Int) < (e1 : Int) := by have := HL2.out; have := HLT.out; omega
      have h10d : decide ((s.length : Int) < (e1 : Int)) = true := decide_eq_true h10i
      have HNO : Hid (stepJ s2 = none) := Lib.hid (by
        rw [HST.out, if_neg (fun h => h10 ?_)]
        have h2 := congrArg List.length h.2.2
        rw [List.length_take, HFB2.out] at h2
        omega)
      clear h10 he1
      go_wp2_with (fail)
      ((with_reducible refine (C5.out _).mono ?_); rintro _ w11 ⟨rfl, hw11⟩; obtain rfl := hw11)
      go_wp2_with (fail)
      go_meet
      case rel => exact HDONE.out _ HNO.out ⟨_, H10.out⟩
    have hme : m ≤ e1 := by omega
    have hmei : (m : Int) ≤ (e1 : Int) := by omega
    have hesi : (e1 : Int) ≤ (s.length : Int) := by have := HL2.out; have := HLT.out; omega
    have h10d : decide ((s.length : Int) < (e1 : Int)) = false := decide_eq_false (by omega)
    have hwe : IntKind.i64.wrap (e1 : Int) = (e1 : Int) := IntWalk.i64_in _ (by have := HS.out; omega)
    have he0 : (0 : Int) ≤ (e1 : Int) := by omega
    have hm0 : (0 : Int) ≤ (m : Int) := by omega
    obtain ⟨x, hx⟩ : ∃ x, s2.take f.length = x := ⟨_, rfl⟩
    have hex2 : (⟨s.toArray⟩ : ByteArray).extract m e1 = ⟨x.toArray⟩ := by
      rw [str_ext, ← hx, ← HS2.out, ← he1, List.drop_take, Nat.add_sub_cancel_left]
    by_cases hxf : x = f
    case neg =>
      as_aux_lemma =>
      have hxb : (x == f) = false := beq_eq_false_iff_ne.2 hxf
      have hxn : (x != f) = true := bne_iff_ne.2 hxf
      have HNO : Hid (stepJ s2 = none) := Lib.hid (by rw [HST.out, HFB2.out, if_neg (fun h => hxf (hx.symm.trans h.2.2))])
      clear h10 hxf hx he1
      go_wp2_with (fail)
      ((with_reducible refine (C5.out _).mono ?_); rintro _ w11 ⟨rfl, hw11⟩; obtain rfl := hw11)
      go_wp2_with (fail)
      go_meet
      case rel => exact HDONE.out _ HNO.out ⟨_, H10.out⟩
    have HYES : Hid (stepJ s2 = some t) := Lib.hid (by rw [HST.out, if_pos ⟨H20.out, rfl, by rw [HFB2.out]; exact hx.trans hxf⟩])
    subst hxf
    clear h10 hx he1
    obtain ⟨i0, hi0, hi1, hi2, hi3⟩ := info_parts infoStr
    have HB10 := Lib.hid H10.out.sw
    have HO := Lib.hid ((HB10.out.alloc (.cells #[.string ⟨t.toArray⟩] 9)).own)
    have HSZ : Hid (w.heap.size ≤ w10.heap.size) := Lib.hid H10.out.base.size
    have HN4 : Hid (n4 ≤ 300) := Lib.hid (by have h1 := formsB_len l; have h2 := HLT.out; have h3 := HM.out; have h4 := HL4.out; have h5 := HS.out; omega)
    go_wp2_with (fail)
    ((with_reducible refine (C5.out _).mono ?_); rintro _ w11 ⟨rfl, hw11⟩; obtain rfl := hw11)
    go_wp2_with (at_builtin; refine wpList_append_sl _ rfl (.tmp 84) (.tmp 86) _ rfl w.heap.size 9 i0 _ 1 16 Tryd.underlying22 hi0 hi1 hi2 hi3 rfl (by omega) (.slice A4 n4 c4) n4 (l.map strC) rfl HO.out (some ⟨w10.heap.size, 0, none⟩) 1 1 [[.string ⟨t.toArray⟩]] rfl (Sl.new_ _ _ _) (by simp) (by simp [Value.oneCell']) (by have := HN4.out; simp only [maxLen]; omega) (by have := HN4.out; omega) (by have := HSZ.out; simp only [World.size_alloc]; omega) ?_; intro A7 c7 w12 hown hg hat; have HX := Lib.hid ((HB10.out.alloc (.cells #[.string ⟨t.toArray⟩] 9)).grown hown hg hat); clear hown hg hat)
    go_roundg (s.length + 1 - e1)
    case measure => have h1 := HE1.out; have h2 := formB_pos t; rw [HFB2.out] at h2; have := HGK.out; have := HLT.out; omega
    case rel =>
      have hm : l.map strC ++ [[.string ⟨t.toArray⟩]] = (l ++ [t]).map strC := by rw [List.map_append]; rfl
      have h := HX.out
      rw [hm, HR2.out HYES.out] at h
      refine ⟨l ++ [t], A7, n4 + 1, c7, e1, rfl, rfl, by rw [List.length_append, HL4.out]; rfl, by rw [formsB_app, formsB_one, List.length_append, HM.out, HFB2.out, HE1.out], by omega, HWT.out.step (by rw [HM.out, HS2.out]; exact HYES.out), ?_⟩
      have e : s.drop e1 = s2.drop x.length := by rw [← HS2.out, List.drop_drop, HE1.out]
      rw [e]
      exact h.sw
  case rest =>
  obtain ⟨A4, c4, rfl, rfl, h9⟩ := hcut
  obtain ⟨F, hF⟩ : ∃ F, formsB R = F := ⟨_, rfl⟩
  have hex : (⟨s.toArray⟩ : ByteArray).extract 0 F.length = ⟨F.toArray⟩ := by
    rw [str_ext, ← hF, List.drop_zero]
    have hp := recs_prefix s
    rw [HR.out] at hp
    rw [← List.prefix_iff_eq_take.1 hp]
  have hfl : F.length ≤ s.length := by
    have hp := (recs_prefix s).length_le
    rw [HR.out, hF] at hp
    exact hp
  have hfli : (F.length : Int) ≤ (s.length : Int) := by omega
  have hf0 : (0 : Int) ≤ (F.length : Int) := by omega
  have HR2 : Hid (ReadF d2 7 0 (F.length : Int) = (F, 0)) := Lib.hid (by have h := HC2.out.read (f := 7) (by decide) (by decide); rw [HF2.out, hF] at h; exact h)
  have HR3 : Hid (ReadF d3 7 0 (F.length : Int) = (F, 0)) := Lib.hid (by have h := HC3.out.read (f := 7) (by decide) (by decide); rw [HF3.out, hF] at h; exact h)
  have HZ2 : Hid (((d2.file 7).now.length : Int) = (F.length : Int)) := Lib.hid (by rw [HF2.out, hF])
  have HZ3 : Hid (((d3.file 7).now.length : Int) = (F.length : Int)) := Lib.hid (by rw [HF3.out, hF])
  rw [hF]
  rw [hF] at h9 HO3
  have hfz := str_size F
  have H9 := Lib.hid h9
  clear h9 hF hfl
  go_wp2_with (fail)
  ((with_reducible refine (Size_sep H9.out.r4 7 _ HZ2.out).mono ?_); rintro _ _ ⟨rfl, rfl⟩)
  go_wp2_with (fail)
  ((with_reducible refine (Read_sep H9.out.r4 7 0 _ _ HR2.out).mono ?_); rintro _ _ ⟨rfl, rfl⟩)
  go_wp2_with (fail)
  ((with_reducible refine (Open_sep H9.out.r4 HE.out 7 _ HO3.out).mono ?_); rintro e w10 ⟨K, rfl, h10⟩)
  have H10 := Lib.hid h10
  clear h10
  go_wp2_with (fail)
  ((with_reducible refine (Size_sep H10.out.sw 7 _ HZ3.out).mono ?_); rintro _ _ ⟨rfl, rfl⟩)
  go_wp2_with (fail)
  ((with_reducible refine (Read_sep H10.out.sw 7 0 _ _ HR3.out).mono ?_); rintro _ _ ⟨rfl, rfl⟩)
  have HS1 := Lib.hid (SameTexts_any w10 A3 A4 R.length R.length c3 c4 R R (Own.sl' H10.out.r4.own) (Own.sl' H10.out.r3.own) (by have := HRL.out; omega) true (by simp))
  go_wp2_with (fail)
  ((with_reducible refine (HS1.out).mono ?_); rintro _ w11 ⟨rfl, hb11⟩)
  have H11 := Lib.hid (H10.out.below hb11)
  clear hb11
  have HAK := Lib.hid (All_sep H11.out (by have := HRL.out; show R.length ≤ _; omega))
  go_wp2_with (fail)
  ((with_reducible refine (HAK.out).mono ?_); rintro _ w12 ⟨A5, c5, rfl, h12⟩)
  have H12 : Hid (Sep w w12 (ownR 9 1 (.slice A5 R.length c5) R.length (R.map strC) :: jourR B K ⟨7, R, (F.length : Int), false⟩ :: diskR B d3 :: ownR 9 1 (.slice A4 R.length c4) R.length (R.map strC) :: ownR 9 1 (.slice A3 R.length c3) R.length (R.map strC) :: jourR B J ⟨7, R, (F.length : Int), false⟩ :: [])) := Lib.hid h12
  clear h12
  have HS2 := Lib.hid (SameTexts_any w12 A5 A4 R.length R.length c5 c4 R R (Own.sl' H12.out.own) (Own.sl' H12.out.r4.own) (by have := HRL.out; omega) true (by simp))
  go_wp2_with (fail)
  ((with_reducible refine (HS2.out).mono ?_); rintro _ w13 ⟨rfl, hb13⟩)
  have H13 := Lib.hid (H12.out.below hb13)
  clear hb13
  go_wp2_with (fail)
  go_ret
  exact ⟨rfl, H13.out.base⟩
end Go.Proofs.YtniiahmpdkgplaaDoor
