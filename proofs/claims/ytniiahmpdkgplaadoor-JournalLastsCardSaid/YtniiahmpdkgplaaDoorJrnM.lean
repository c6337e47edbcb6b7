/- kerbsidelaw03: JournalLasts, walked. -/
import Derived.Test.YtniiahmpdkgplaaDoorJrnS
import Derived.Test.YtniiahmpdkgplaaDoorJrnL
import Derived.Deep.DeepCutAuto
import Derived.Deep.LoopGhost
import Derived.BigQuiet
namespace Go.Proofs.YtniiahmpdkgplaaDoor
open Go.RowKit Go.Sort Go.Lib

section
variable {P : Program} {w : World}
/-- a guarded append that is wanted -/
theorem wpList_append_j {ops : Array Oper} {rest : List Oper} {o : Oper} {a : Act} {Q : Exit → Act → World → Prop} (hgd : Region.wanted o (yielded ops a.tmps) = true) (s x : Operand) (t : TypeId)
    (ho : o.op = .call { callee := .builtin .append, args := #[s, x], argTypes := #[t, t] })
    (base : Nat) (e : TypeId) (i : TypeInfo) (z : Value) (size bytes : Nat) (ht : P.underlying t = some (.slice e)) (hi : P.info? e = some i) (hz : i.zero = some z)
    (hsize : i.size = size) (hby : i.bytes = bytes) (hzs : z.cells.size = size) (hsz : 0 < size)
    (v : Value) (n : Nat) (xs : List (List Value)) (hs : a.eval s = v) (hown : Own w base e size v n xs)
    (A : Option Addr) (m c : Nat) (news : List (List Value)) (hx : a.eval x = .slice A m c) (hr : Sl w size A m news) (hl : ∀ x ∈ news, x.length = size) (h1 : ∀ x ∈ news, ∀ u ∈ x, u.oneCell' = true)
    (h63 : n + m ≤ maxLen) (hbytes : (n + m) * bytes ≤ 140737488355328) (hbase : base ≤ w.heap.size)
    (h : ∀ A' c' w', Own w' base e size (.slice A' (n + m) c') (n + m) (xs ++ news) → w.grownBy w' v.ownBlock → ((Value.slice A' (n + m) c').ownBlock = v.ownBlock ∨ (Value.slice A' (n + m) c').ownBlock = some w.heap.size) → wpList P ops Q rest (a.put o.dst (.slice A' (n + m) c')) w') :
    wpList P ops Q (o :: rest) a w := by
  refine BigFrame.wpList_want hgd fun K hK => ?_
  obtain ⟨v', w', hrun, h2, h3, h4⟩ := run_append_sl (P := P) w base t o.type e i z size bytes ht hi hz hsize hby hzs hsz v n xs hown A m c news hr hl h1 h63 hbytes hbase
  obtain ⟨A', c', rfl, _⟩ := h2.sl
  unfold Oper.wp execOp
  simp only [ho, resolve, invoke, builtin, Sem.run_bind, Sem.run_pure, Result.andThen_ok, List.map_toArray, List.map_cons, List.map_nil, hs, hx, hrun]
  exact hK _ _ (h A' c' w' h2 h3 h4)
end
def jOpt (B J : Nat) : Option JV → List Res
  | none => []
  | some j => [jourR B J j]
def jPtr (J : Nat) : Option JV → Value
  | none => .pointer none
  | some _ => .pointer (some ⟨J, 0, none⟩)
theorem ok4 (keep : List Int) (A : Option Addr) (c : Nat) : OpC.ok ⟨4, [], 0, keep, A, c⟩ := ⟨⟨(by decide : (-9223372036854775808 : Int) ≤ 4), (by decide : (4 : Int) ≤ 9223372036854775807)⟩, (by decide : (-9223372036854775808 : Int) ≤ 0), (by decide : (0 : Int) ≤ 9223372036854775807)⟩
abbrev intsC (l : List Int) : List (List Value) := l.map fun k => [.int .i64 k]
theorem Sep.noJ {w0 w : World} {R1 R2 : Res} {B J : Nat} : ∀ {jo : Option JV}, Sep w0 w (R1 :: R2 :: jOpt B J jo) → Sep w0 w [R1, R2]
  | none, h => h
  | some _, h => h.r3.drop
theorem own_cap {w : World} {base n c : Nat} {e : TypeId} {A : Option Addr} {xs : List (List Value)} (h : Own w base e 1 (.slice A n c) n xs) : n ≤ c ∧ c ≤ maxLen := by
  rcases h.1.2 with ⟨h', h2⟩ | ⟨g', cap, cur, hv, hb, hg, h1, h2, h3, _⟩
  · injection h' with e1 e2 e3
    subst e2 e3
    exact ⟨Nat.le_refl _, Nat.zero_le _⟩
  · injection hv with e1 e2 e3
    subst e3
    exact ⟨by simpa using h1, h2⟩
set_option maxRecDepth 100000 in
set_option maxHeartbeats 16000000 in
theorem journalLasts_any (w : World) (hE : Env w.heap.size w) (A : Option Addr) (n c : Nat) (l : List OpC) (hs : Sl w 4 A n (l.map OpC.cells)) (hn : n ≤ maxLen) (hok : ∀ a ∈ l, a.ok) (hks : OpsAt w l) (Ak : Option Addr) (ck : Nat) (keep : List Int) (hk : Sl w 1 Ak keep.length (intsC keep)) :
    Calls Tryd.prog 6 #[.slice A n c, .slice Ak keep.length ck] w fun e w' => e = .returned (.bool true) ∧ Below w.heap.size w w' := by
  have HE := Lib.hid hE
  have HOP := Lib.hid hs
  have HKP := Lib.hid hk
  have HOK := Lib.hid hok
  have HKS := Lib.hid hks
  have hll : l.length = n := by have := hs.1; simpa using this
  have HL := Lib.hid hll
  have HFEW := Lib.hid (fun W (hb : Below w.heap.size w W) r hr => few_any W A n c l (hs.below hb) hn r hr)
  obtain ⟨m, hm⟩ : ∃ m, keep.length = m := ⟨_, rfl⟩
  rw [hm]
  have HM := Lib.hid hm
  clear hE hs hk hok hks hll hn hm
  go_enter Tryd.func6, Tryd.ntmps6
  go_wp2_with (fail)
  ((with_reducible refine (small_any w HE.out).mono ?_); rintro _ w1 ⟨rfl, hb⟩)
  have HB := Lib.hid hb
  clear hb
  cases hfw : fewOps l
  case false =>
    go_wp2_with (fail)
    ((with_reducible refine (HFEW.out _ HB.out false hfw).mono ?_); rintro _ _ ⟨rfl, rfl⟩)
    go_wp2_with (fail)
    go_ret
    exact ⟨rfl, HB.out⟩
  by_cases hk5 : 50 < (m : Int)
  · go_wp2_with (fail)
    ((with_reducible refine (HFEW.out _ HB.out true hfw).mono ?_); rintro _ _ ⟨rfl, rfl⟩)
    go_wp2_with (fail)
    go_ret
    exact ⟨rfl, HB.out⟩
  go_wp2_with (fail)
  ((with_reducible refine (HFEW.out _ HB.out true hfw).mono ?_); rintro _ _ ⟨rfl, rfl⟩)
  have HM50 : Hid (m ≤ 50) := Lib.hid (by omega)
  have HK5 : Hid ((m : Int) ≤ 50) := Lib.hid (by omega)
  have hk5' := HK5.out
  clear hk5
  go_wp2_with (fail)
  ((with_reducible refine (New_sep (Sep.of_below HB.out)).mono ?_); rintro e w2 ⟨B, rfl, h1⟩)
  have H2 := Lib.hid h1
  clear h1
  obtain ⟨d1, j1, hop, hp1, hp2, hL1⟩ : ∃ d1 j1, openJ newD 3 = (d1, some j1, 0) ∧ j1.recs <+: [] ∧ [] <+: j1.recs ∧ LastI 3 0 d1 [] [] (some j1) := by
    rcases (LastI.new 3).open_ (by decide) (by decide) (by decide) with ⟨d', j', h1, h2, h3, h4⟩ | ⟨d', e, h1, h2, h3, h4⟩
    · have h5 : j'.recs = [] := List.prefix_nil.1 h2
      rw [h5] at h4
      exact ⟨d', j', h1, h2, h3, h4⟩
    · exact absurd (h4 rfl rfl) (by decide)
  have HOP1 := Lib.hid hop
  have HL1 := Lib.hid hL1
  clear hop hp1 hp2 hL1
  go_wp2_with (fail)
  ((with_reducible refine (Open_sep H2.out HE.out 3 _ HOP1.out).mono ?_); rintro e w3 ⟨J, rfl, h1⟩)
  have H3 := Lib.hid h1
  clear h1
  obtain ⟨hfa, hfn⟩ : (∀ a ∈ l, a.few) ∧ n ≤ 25 := by
    rw [fewOps, Bool.and_eq_true, decide_eq_true_iff, decide_eq_true_iff, HL.out] at hfw
    exact hfw
  have HFA := Lib.hid hfa
  have HFN := Lib.hid hfn
  clear hfw hfa hfn hk5'
  go_wp2_with (fail)
  go_loopg [7, 9, 10, 11] (n + 1) (fun gk jv av sv iv wr => ∃ (k : Nat) (d : DV) (all sure : List (List UInt8)) (jo : Option JV) (J : Nat) (A1 : Option Addr) (n1 c1 : Nat) (A2 : Option Addr) (n2 c2 : Nat), gk + k = n + 1 ∧ jv = jPtr J jo ∧ av = .slice A1 n1 c1 ∧ sv = .slice A2 n2 c2 ∧ iv = .int .i64 (k : Int) ∧ n1 ≤ c1 ∧ LastI 3 k d all sure jo ∧ Sep w wr (texR A1 n1 all A2 n2 sure :: diskR B d :: jOpt B J jo))
  case atStart =>
    refine ⟨0, d1, [], [], some j1, J, none, 0, 0, none, 0, 0, by omega, rfl, rfl, rfl, rfl, Nat.le_refl _, HL1.out, ?_⟩
    exact H3.out.sw.texNil
  case round =>
    obtain ⟨k, d, all, sure, jo, J, A1, n1, c1, A2, n2, c2, hgk, rfl, rfl, rfl, rfl, hc1, hLI, hS⟩ := hrel
    obtain ⟨wo, rfl⟩ : ∃ wo : World, wo = wr := ⟨_, rfl⟩
    have HC1 := Lib.hid hc1
    have HLI := Lib.hid hLI
    have HS := Lib.hid hS
    have HGK := Lib.hid hgk
    clear hc1 hLI hS hgk H3 H2 HL1 HOP1 HB HFEW
    by_cases hlt : k < n + 1
    case neg =>
      have hki : (n : Int) < (k : Int) := by omega
      clear hlt
      go_wp2_with (fail)
      go_ret
      exact ⟨rfl, HS.out.base⟩
    have hki : (k : Int) ≤ (n : Int) := by omega
    have HLT := Lib.hid hlt
    clear hlt
    go_upto_if 49 with (fail)
    go_cut [] (fun wx => ∃ (o : OpC) (d2 : DV), o.s.length ≤ 200 ∧ o.keep.length ≤ 50 ∧ o.ok ∧ Sl w 1 o.A o.keep.length (intsC o.keep) ∧ LastI 3 k d2 all sure jo ∧ (k = n → o.kind = 4 ∧ d2.armed = 0 ∧ d2.lost = 0) ∧ Sep w wx (boxR wo.heap.size #[.int .i64 o.kind, .string ⟨o.s.toArray⟩, .int .i64 o.n, .slice o.A o.keep.length o.c] :: texR A1 n1 all A2 n2 sure :: diskR B d2 :: jOpt B J jo))
    case first =>
      by_cases hkn : k < n
      · obtain ⟨a, ha⟩ : ∃ a, l[k]? = some a := ⟨_, List.getElem?_eq_getElem (by rw [HL.out]; exact hkn)⟩
        obtain ⟨b, o, rfl, hbl, hcell⟩ := (HOP.out.below HS.out.base).2 k a.cells (by rw [List.getElem?_map, ha]; rfl)
        have q0 : wo.cell? ⟨b, o + k * 4, none⟩ = some (.int .i64 a.kind) := hcell 0 _ rfl
        have q1 : wo.cell? ⟨b, o + k * 4 + 1, none⟩ = some (.string ⟨a.s.toArray⟩) := hcell 1 _ rfl
        have q2 : wo.cell? ⟨b, o + k * 4 + 2, none⟩ = some (.int .i64 a.n) := hcell 2 _ rfl
        have q3 : wo.cell? ⟨b, o + k * 4 + 3, none⟩ = some (.slice a.A a.keep.length a.c) := hcell 3 _ rfl
        have hki2 : (k : Int) < (n : Int) := by omega
        have HA := Lib.hid (List.mem_of_getElem? ha)
        have HKN := Lib.hid hkn
        clear hcell ha hkn hki
        go_wp2_with (fail)
        go_meet
        case rel =>
          exact ⟨a, d, (HFA.out a HA.out).1, (HFA.out a HA.out).2, HOK.out a HA.out, HKS.out a HA.out, HLI.out, fun e => absurd HKN.out (by omega), HS.out.box _ _⟩
      · have hkn2 : k = n := by have := HLT.out; omega
        have HKN := Lib.hid hkn2
        have hki2 : (n : Int) ≤ (k : Int) := by omega
        clear hkn hkn2 hki
        have HSB := Lib.hid ((HS.out.box #[.int .i64 4, .string ⟨#[]⟩, .int .i64 0, .slice Ak m ck] 52).r3)
        go_wp2_with (fail)
        ((with_reducible refine (Lose_sep HSB.out 0 (by decide) _ rfl).mono ?_); rintro _ w5 ⟨rfl, h1⟩)
        have HSC := Lib.hid h1
        clear h1
        go_wp2_with (fail)
        have hArm := Arm_sep HSC.out 0 (by decide) [] none 0 (Sl.nil_ _ _ _) (by decide) _ rfl
        rw [List.length_nil] at hArm
        ((with_reducible refine (hArm).mono ?_); rintro _ w6 ⟨rfl, h1⟩)
        have HSD := Lib.hid h1
        clear h1
        go_wp2_with (fail)
        go_meet
        case rel =>
          have hm := HM.out
          subst hm
          exact ⟨⟨4, [], 0, keep, Ak, ck⟩, _, by simp, HM50.out, ok4 _ _ _, HKP.out, (HLI.out.lose 0 (by decide)).arm 0 (by decide) [] (by decide), fun _ => ⟨rfl, rfl, rfl⟩, HSD.out.l3⟩
    case rest =>
    obtain ⟨o, d2, ho1, ho2, ho3, ho4, hLI2, hlast, hS2⟩ := hcut
    obtain ⟨kd, os, on, okp, oA, oc⟩ := o
    simp only at ho1 ho2 ho3 ho4 hlast hS2
    have HS2 := Lib.hid hS2
    have HLI2 := Lib.hid hLI2
    have HLAST := Lib.hid hlast
    have HO1 := Lib.hid ho1
    have HO2 := Lib.hid ho2
    have hon : on ≤ 9223372036854775807 := ho3.2.2
    have HON := Lib.hid hon
    clear hon
    have HO4 := Lib.hid ho4
    have hbox := HS2.out.loc
    have hge : wo.heap.size < wc.heap.size := hbox.lt
    obtain ⟨zX, kX, fX⟩ := hbox
    clear ho1 ho2 ho3 ho4 hLI2 hlast hS2
    have HWK : Hid (IntKind.i64.wrap ((k : Int) + 1) = (k : Int) + 1) := Lib.hid (IntWalk.i64_in _ (by have := HFN.out; have := HLT.out; omega))
    have HK3 : Hid (k ≤ 3000) := Lib.hid (by have := HFN.out; have := HLT.out; omega)
    have HK4 : Hid (k ≤ 4000) := Lib.hid (by have := HFN.out; have := HLT.out; omega)
    clear HS HLI
    by_cases h0 : kd = 0
    · as_aux_lemma =>
      subst h0
      cases jo with
      | none =>
        have hjp : jPtr J none = .pointer none := rfl
        have hwk := HWK.out
        go_wp2_with (fail)
        go_roundg (n - k)
        case measure => have := HLT.out; have := HGK.out; omega
        case rel =>
          exact ⟨k + 1, d2, all, sure, none, J, A1, n1, c1, A2, n2, c2, by have := HLT.out; omega, rfl, rfl, rfl, by go_num, HC1.out, HLI2.out.up, HS2.out.drop⟩
      | some j =>
        have hjp : jPtr J (some j) = .pointer (some ⟨J, 0, none⟩) := rfl
        have hwk := HWK.out
        have HS3 : Hid (Sep w wc (jourR B J j :: diskR B d2 :: boxR wo.heap.size #[.int .i64 0, .string ⟨os.toArray⟩, .int .i64 on, .slice oA okp.length oc] :: texR A1 n1 all A2 n2 sure :: [])) := Lib.hid (HS2.out.r4.r4.sw)
        obtain ⟨d3, j3, e3, hr3, hcase⟩ := HLI2.out.append (by decide) (by decide) HK3.out HO1.out
        have HR3 := Lib.hid hr3
        have HAL := Lib.hid (All_sep HS3.out (HLI2.out.jbytes HK4.out).2)
        have HJ3 : Hid (j3.recs.length ≤ 1099511627776) := Lib.hid (by
          have h1 := (HLI2.out.jbytes HK4.out).2
          rcases hcase with ⟨_, _, h2⟩ | ⟨_, h2, _⟩ | ⟨_, h2, _⟩
          · rw [h2]; exact h1
          · have h3 := (HLI2.out.jou j rfl).2.2
            have := HK3.out
            rw [h2, List.length_append]
            simp
            omega
          · rw [h2]; exact h1)
        have HCASE := Lib.hid hcase
        obtain ⟨n3, hn3⟩ : ∃ n3, j.recs.length = n3 := ⟨_, rfl⟩
        have HN3 := Lib.hid hn3
        rw [hn3] at HAL
        clear hr3 hcase hn3
        go_wp2_with (fail)
        ((with_reducible refine (HAL.out).mono ?_); rintro _ w5 ⟨A3, c3, rfl, h5⟩)
        have H5 := Lib.hid (h5.perm (List.perm_append_comm (l₁ := [_]) (l₂ := [_, _, _, _])))
        have hbox5 := h5.r4.loc
        clear zX kX fX h5
        obtain ⟨zX, kX, fX⟩ := hbox5
        have HAP := Lib.hid (Append_sep H5.out HE.out (HLI2.out.jbytes HK4.out).1 (HLI2.out.jbytes HK4.out).2 os (by have := HO1.out; omega) _ HR3.out)
        go_wp2_with (fail)
        ((with_reducible refine (HAP.out).mono ?_); rintro _ w6 ⟨rfl, h6⟩)
        have H6 : Hid (Sep w w6 (jourR B J j3 :: diskR B d3 :: boxR wo.heap.size #[.int .i64 0, .string ⟨os.toArray⟩, .int .i64 on, .slice oA okp.length oc] :: texR A1 n1 all A2 n2 sure :: ownR 9 1 (.slice A3 n3 c3) n3 (j.recs.map strC) :: [])) := Lib.hid h6
        clear h6 zX kX fX
        have HAL2 := Lib.hid (All_sep H6.out HJ3.out)
        obtain ⟨n4, hn4⟩ : ∃ n4, j3.recs.length = n4 := ⟨_, rfl⟩
        have HN4 := Lib.hid hn4
        rw [hn4] at HAL2
        clear hn4
        go_wp2_with (fail)
        ((with_reducible refine (HAL2.out).mono ?_); rintro _ w7 ⟨A4, c4, rfl, h7⟩)
        have H7 := Lib.hid h7
        have hbox7 := h7.r4.loc
        clear h7
        have hgb : wo.heap.size < w7.heap.size := hbox7.lt
        obtain ⟨zX, kX, fX⟩ := hbox7
        rcases HCASE.out with ⟨he, hd, hj⟩ | ⟨he, hrec, hL3⟩ | ⟨he, hrec, hL3⟩
        · as_aux_lemma =>
          subst he
          have HJE := Lib.hid hj
          have HDE := Lib.hid hd
          clear hd hj HR3 HAP HAL HAL2 HCASE
          have HDK := Lib.hid (fun W => disky_any W 7 false (by decide))
          have HST := Lib.hid (SameTexts_any w7 A4 A3 n4 n3 c4 c3 j3.recs j.recs (Own.sl' H7.out.own) (Own.sl' (H7.out.perm (List.perm_append_comm (l₁ := [_, _, _, _, _]) (l₂ := [_]))).own) (by rw [← HN4.out]; exact HJ3.out) true (by rw [HJE.out]; simp))
          go_wp2_with (fail)
          ((with_reducible refine (HDK.out _).mono ?_); rintro _ _ ⟨rfl, rfl⟩)
          go_wp2_with (fail)
          ((with_reducible refine (HST.out).mono ?_); rintro _ w8 ⟨rfl, hb8⟩)
          have H8 := Lib.hid (H7.out.below hb8)
          go_wp2_with (fail)
          go_roundg (n - k)
          case measure => have := HLT.out; have := HGK.out; omega
          case rel =>
            have h := H8.out
            rw [HDE.out, HJE.out] at h
            exact ⟨k + 1, d2, all, sure, some j, J, A1, n1, c1, A2, n2, c2, by have := HLT.out; omega, rfl, rfl, rfl, by go_num, HC1.out, HLI2.out.up, h.drop.r4.r3.sw.r4.drop.r4.drop⟩
        · as_aux_lemma =>
          subst he
          have HREC := Lib.hid hrec
          have HL3 := Lib.hid hL3
          have HT := Lib.hid (H7.out.perm (List.perm_append_comm (l₁ := [_, _, _, _]) (l₂ := [_, _]))).tex1
          have HN1 : Hid (n1 ≤ 3000) := Lib.hid (by have h1 := HT.out.1; have h2 := HLI2.out.len; have h3 := HK3.out; simp only [List.length_map] at h1; omega)
          have hto : w7.cell? ⟨wo.heap.size, 1, none⟩ = some (.string ⟨os.toArray⟩) := kX 1
          clear hrec hL3 HR3 HAP HAL HAL2 HCASE
          have HMA : Hid (all.map strC ++ [[.string ⟨os.toArray⟩]] = (all ++ [os]).map strC) := Lib.hid (by rw [List.map_append]; rfl)
          go_upto_region 27 with (fail)
          obtain ⟨i0, hi0, hi1, hi2, hi3⟩ := info_parts infoStr
          go_cut [9] (fun s9 wy => ∃ A6 c6, s9 = .slice A6 (n1 + 1) c6 ∧ Sep w wy (ownR 9 1 (.slice A6 (n1 + 1) c6) (n1 + 1) ((all ++ [os]).map strC) :: ownR 9 1 (.slice A4 n4 c4) n4 (j3.recs.map strC) :: jourR B J j3 :: diskR B d3 :: boxR wo.heap.size #[.int .i64 0, .string ⟨os.toArray⟩, .int .i64 on, .slice oA okp.length oc] :: texR A1 n1 all A2 n2 sure :: ownR 9 1 (.slice A3 n3 c3) n3 (j.recs.map strC) :: []))
          case first =>
            as_aux_lemma =>
            go_region_law (first
              | (refine step_append_sl _ (by rfl) (.tmp 78) (.tmp 79) _ (by rfl) w7.heap.size 9 i0 _ 1 16 Tryd.underlying22 hi0 hi1 hi2 hi3 rfl (by omega) (.slice (some ⟨_, 0, none⟩) 0 0) 0 [] (by rfl) (by first | exact Own.empty (by simp) (by first | exact Nat.le_refl _ | simp) | exact (Own.empty (by simp) (by first | exact Nat.le_refl _ | simp)).alloc _) A1 n1 c1 (all.map strC) (by rfl) (by first | exact Sl.alloc (Sl.drew HT.out) _ | exact Sl.alloc (Sl.alloc (Sl.drew HT.out) _) _) (strs_len _) (strs_one _) (by have := HN1.out; simp only [maxLen]; omega) (by have := HN1.out; omega) (by simp <;> omega) ?_
                 intro A7 c7 wA hown1 hg1 hat1
                 rw [Nat.zero_add, List.nil_append] at hown1
                 have hbA : Below w7.heap.size w7 wA := by
                   first
                     | exact (((((Below.refl w7.heap.size w7).alloc (Nat.le_refl _) _).drew).grown hg1 (by simp) (fun k hk => by simp [Value.ownBlock] at hk; omega)))
                     | exact ((((((Below.refl w7.heap.size w7).alloc (Nat.le_refl _) _).alloc (by simp) _).drew).grown hg1 (by simp; omega) (fun k hk => by simp [Value.ownBlock] at hk; omega)))
                 obtain ⟨zXA, kXA, fXA⟩ := (H7.out.below hbA).r4.loc)
              | (refine step_append_sl _ (by rfl) (.tmp 80) (.tmp 83) _ (by rfl) w7.heap.size 9 i0 _ 1 16 Tryd.underlying22 hi0 hi1 hi2 hi3 rfl (by omega) (.slice A7 n1 c7) n1 (all.map strC) (by rfl) (by first | exact hown1 | exact hown1.alloc _) _ 1 _ [[.string ⟨os.toArray⟩]] (by rfl) (by first | exact Sl.new_ _ _ _ | exact Sl.grown (by first | exact Sl.drew (Sl.alloc (Sl.new_ w7 _ [.string ⟨os.toArray⟩]) _) | (have h := Sl.drew (Sl.new_ (w7.alloc (.cells #[] 9)) 9 [.string ⟨os.toArray⟩]); simp only [World.size_alloc] at h; exact h)) hg1 (.inr (fun ad e => by injection e with e; subst e; simp [Value.ownBlock]))) (by simp) (by simp [Value.oneCell']) (by have := HN1.out; simp only [maxLen]; omega) (by have := HN1.out; omega) (by first | exact hbA.size | exact Nat.le_trans hbA.size (by simp)) ?_
                 intro A6 c6 wB hown2 hg2 hat2
                 have hbB : Below w7.heap.size w7 wB := by
                   first
                     | exact hown1.below_grown (Nat.le_refl _) hbA.size hbA hg2
                     | exact (hown1.alloc _).below_grown (Nat.le_refl _) (by have := hbA.size; simp; omega) (hbA.alloc hbA.size _) hg2))
            all_goals
              (go_wp2_with (fail)
               go_meet
               rw [HMA.out] at hown2
               exact ⟨A6, c6, rfl, H7.out.ownNew hbB hown2⟩)
          case rest =>
          obtain ⟨A6, c6, rfl, h9⟩ := hcut
          have H9 := Lib.hid h9
          have hbox9 := (h9.perm (List.perm_append_comm (l₁ := [_, _, _, _]) (l₂ := [_, _, _]))).loc
          have hgb9 : wo.heap.size < wc.heap.size := hbox9.lt
          obtain ⟨zX9, kX9, fX9⟩ := hbox9
          clear h9 zX kX fX hto
          have HB9 := Lib.hid (H9.out.perm (List.perm_append_comm (l₁ := [_, _, _, _, _, _]) (l₂ := [_])))
          have HN3L : Hid (n3 ≤ 3000) := Lib.hid (by have h1 := (HLI2.out.jou j rfl).2.2; have h2 := HK3.out; have h3 := HN3.out; omega)
          have HB9O := Lib.hid ((HB9.out.alloc (.cells #[.string ⟨os.toArray⟩] 9)).own)
          have HSZ : Hid (w.heap.size ≤ wc.heap.size) := Lib.hid H9.out.base.size
          go_wp2_with (first
            | (at_builtin; refine wpList_append_j (by first | rfl | simp [go_sem]) (.tmp 89) (.tmp 92) 22 rfl w.heap.size 9 i0 _ 1 16 Tryd.underlying22 hi0 hi1 hi2 hi3 rfl (by omega) (.slice A3 n3 c3) n3 (j.recs.map strC) rfl HB9O.out (some ⟨wc.heap.size, 0, none⟩) 1 1 [[.string ⟨os.toArray⟩]] rfl (Sl.new_ _ _ _) (by simp) (by simp [Value.oneCell']) (by have := HN3L.out; simp only [maxLen]; omega) (by have := HN3L.out; omega) (by have := HSZ.out; simp only [World.size_alloc]; omega) ?_; intro A10 c10 w10 hown10 hg10 hat10; have HX10 := Lib.hid ((HB9.out.alloc (.cells #[.string ⟨os.toArray⟩] 9)).grown hown10 hg10 hat10); clear hown10 hg10 hat10))
          ((with_reducible refine (SameTexts_any w10 A4 A10 n4 (n3 + 1) c4 c10 j3.recs (j.recs ++ [os]) (Own.sl' HX10.out.r3.own) (by have h := Own.sl' HX10.out.own; rw [List.map_append, show List.map strC [os] = [[.string ⟨os.toArray⟩]] from rfl]; exact h) (by rw [← HN4.out]; exact HJ3.out) true (by rw [HREC.out]; simp)).mono ?_); rintro _ w11 ⟨rfl, hb11⟩)
          have H11 := Lib.hid (HX10.out.drop.below hb11)
          have hlc := own_cap H11.out.own
          have HLC := Lib.hid hlc.1
          clear hlc
          go_wp2_with (fail)
          go_roundg (n - k)
          case measure => have := HLT.out; have := HGK.out; omega
          case rel =>
            refine ⟨k + 1, d3, all ++ [os], sure, some j3, J, A6, n1 + 1, c6, A2, n2, c2, by have := HLT.out; omega, rfl, rfl, rfl, by go_num, HLC.out, HL3.out, ?_⟩
            exact H11.out.sw.drop.r4.drop.r4.sw.texFst.r3.sw
        · as_aux_lemma =>
          subst he
          have HREC := Lib.hid hrec
          have HL3 := Lib.hid hL3
          have HT := Lib.hid (H7.out.perm (List.perm_append_comm (l₁ := [_, _, _, _]) (l₂ := [_, _]))).tex1
          have HN1 : Hid (n1 ≤ 3000) := Lib.hid (by have h1 := HT.out.1; have h2 := HLI2.out.len; have h3 := HK3.out; simp only [List.length_map] at h1; omega)
          have hto : w7.cell? ⟨wo.heap.size, 1, none⟩ = some (.string ⟨os.toArray⟩) := kX 1
          clear hrec hL3 HR3 HAP HAL HAL2 HCASE
          have HDK := Lib.hid (fun W => disky_any W 8 true (by decide))
          go_wp2_with (fail)
          ((with_reducible refine (HDK.out _).mono ?_); rintro _ _ ⟨rfl, rfl⟩)
          have HMA : Hid (all.map strC ++ [[.string ⟨os.toArray⟩]] = (all ++ [os]).map strC) := Lib.hid (by rw [List.map_append]; rfl)
          go_upto_region 27 with (fail)
          obtain ⟨i0, hi0, hi1, hi2, hi3⟩ := info_parts infoStr
          go_cut [9] (fun s9 wy => ∃ A6 c6, s9 = .slice A6 (n1 + 1) c6 ∧ Sep w wy (ownR 9 1 (.slice A6 (n1 + 1) c6) (n1 + 1) ((all ++ [os]).map strC) :: ownR 9 1 (.slice A4 n4 c4) n4 (j3.recs.map strC) :: jourR B J j3 :: diskR B d3 :: boxR wo.heap.size #[.int .i64 0, .string ⟨os.toArray⟩, .int .i64 on, .slice oA okp.length oc] :: texR A1 n1 all A2 n2 sure :: ownR 9 1 (.slice A3 n3 c3) n3 (j.recs.map strC) :: []))
          case first =>
            as_aux_lemma =>
            go_region_law (first
              | (refine step_append_sl _ (by rfl) (.tmp 78) (.tmp 79) _ (by rfl) w7.heap.size 9 i0 _ 1 16 Tryd.underlying22 hi0 hi1 hi2 hi3 rfl (by omega) (.slice (some ⟨_, 0, none⟩) 0 0) 0 [] (by rfl) (by first | exact Own.empty (by simp) (by first | exact Nat.le_refl _ | simp) | exact (Own.empty (by simp) (by first | exact Nat.le_refl _ | simp)).alloc _) A1 n1 c1 (all.map strC) (by rfl) (by first | exact Sl.alloc (Sl.drew HT.out) _ | exact Sl.alloc (Sl.alloc (Sl.drew HT.out) _) _) (strs_len _) (strs_one _) (by have := HN1.out; simp only [maxLen]; omega) (by have := HN1.out; omega) (by simp <;> omega) ?_
                 intro A7 c7 wA hown1 hg1 hat1
                 rw [Nat.zero_add, List.nil_append] at hown1
                 have hbA : Below w7.heap.size w7 wA := by
                   first
                     | exact (((((Below.refl w7.heap.size w7).alloc (Nat.le_refl _) _).drew).grown hg1 (by simp) (fun k hk => by simp [Value.ownBlock] at hk; omega)))
                     | exact ((((((Below.refl w7.heap.size w7).alloc (Nat.le_refl _) _).alloc (by simp) _).drew).grown hg1 (by simp; omega) (fun k hk => by simp [Value.ownBlock] at hk; omega)))
                 obtain ⟨zXA, kXA, fXA⟩ := (H7.out.below hbA).r4.loc)
              | (refine step_append_sl _ (by rfl) (.tmp 80) (.tmp 83) _ (by rfl) w7.heap.size 9 i0 _ 1 16 Tryd.underlying22 hi0 hi1 hi2 hi3 rfl (by omega) (.slice A7 n1 c7) n1 (all.map strC) (by rfl) (by first | exact hown1 | exact hown1.alloc _) _ 1 _ [[.string ⟨os.toArray⟩]] (by rfl) (by first | exact Sl.new_ _ _ _ | exact Sl.grown (by first | exact Sl.drew (Sl.alloc (Sl.new_ w7 _ [.string ⟨os.toArray⟩]) _) | (have h := Sl.drew (Sl.new_ (w7.alloc (.cells #[] 9)) 9 [.string ⟨os.toArray⟩]); simp only [World.size_alloc] at h; exact h)) hg1 (.inr (fun ad e => by injection e with e; subst e; simp [Value.ownBlock]))) (by simp) (by simp [Value.oneCell']) (by have := HN1.out; simp only [maxLen]; omega) (by have := HN1.out; omega) (by first | exact hbA.size | exact Nat.le_trans hbA.size (by simp)) ?_
                 intro A6 c6 wB hown2 hg2 hat2
                 have hbB : Below w7.heap.size w7 wB := by
                   first
                     | exact hown1.below_grown (Nat.le_refl _) hbA.size hbA hg2
                     | exact (hown1.alloc _).below_grown (Nat.le_refl _) (by have := hbA.size; simp; omega) (hbA.alloc hbA.size _) hg2))
            all_goals
              (go_wp2_with (fail)
               go_meet
               rw [HMA.out] at hown2
               exact ⟨A6, c6, rfl, H7.out.ownNew hbB hown2⟩)
          case rest =>
          obtain ⟨A6, c6, rfl, h9⟩ := hcut
          have H9 := Lib.hid h9
          have hbox9 := (h9.perm (List.perm_append_comm (l₁ := [_, _, _, _]) (l₂ := [_, _, _]))).loc
          have hgb9 : wo.heap.size < wc.heap.size := hbox9.lt
          obtain ⟨zX9, kX9, fX9⟩ := hbox9
          clear h9 zX kX fX hto
          have HST := Lib.hid (SameTexts_any wc A4 A3 n4 n3 c4 c3 j3.recs j.recs (Own.sl' H9.out.sw.own) (Own.sl' (H9.out.perm (List.perm_append_comm (l₁ := [_, _, _, _, _, _]) (l₂ := [_]))).own) (by rw [← HN4.out]; exact HJ3.out) true (by rw [HREC.out]; simp))
          go_wp2_with (fail)
          ((with_reducible refine (HST.out).mono ?_); rintro _ w10 ⟨rfl, hb10⟩)
          have H10 := Lib.hid (H9.out.below hb10)
          have hlc := own_cap H10.out.own
          have HLC := Lib.hid hlc.1
          clear hlc
          go_wp2_with (fail)
          go_roundg (n - k)
          case measure => have := HLT.out; have := HGK.out; omega
          case rel =>
            have hx : n1 + 1 = (all ++ [os]).length := by have h1 := HT.out.1; simp only [List.length_map] at h1; rw [List.length_append]; simp; omega
            refine ⟨k + 1, d3, all ++ [os], sure, some j3, J, A6, n1 + 1, c6, A2, n2, c2, by have := HLT.out; omega, rfl, rfl, rfl, by go_num, HLC.out, HL3.out, ?_⟩
            exact H10.out.sw.drop.r4.drop.r4.sw.texFst.r4.drop.r3.sw
    by_cases h1 : kd = 1
    · as_aux_lemma =>
      subst h1
      cases jo with
      | none =>
        have hjp : jPtr J none = .pointer none := rfl
        have hwk := HWK.out
        go_wp2_with (fail)
        go_roundg (n - k)
        case measure => have := HLT.out; have := HGK.out; omega
        case rel =>
          exact ⟨k + 1, d2, all, sure, none, J, A1, n1, c1, A2, n2, c2, by have := HLT.out; omega, rfl, rfl, rfl, by go_num, HC1.out, HLI2.out.up, HS2.out.drop⟩
      | some j =>
        have hjp : jPtr J (some j) = .pointer (some ⟨J, 0, none⟩) := rfl
        have hwk := HWK.out
        have HS3 : Hid (Sep w wc (jourR B J j :: diskR B d2 :: texR A1 n1 all A2 n2 sure :: [])) := Lib.hid (HS2.out.drop.sw.r3)
        obtain ⟨d3, j3, e3, hr3, hcase⟩ := HLI2.out.sync (by decide) (by decide)
        have HR3 := Lib.hid hr3
        clear hr3
        rcases hcase with ⟨he, hj3, hrecs, hL3⟩ | ⟨he, hL3⟩
        · subst he
          subst hj3
          have HL3 := Lib.hid hL3
          have HRC := Lib.hid hrecs
          clear hL3 hrecs
          go_wp2_with (fail)
          ((with_reducible refine (SyncJ_sep HS3.out _ HR3.out).mono ?_); rintro _ w5 ⟨rfl, h5⟩)
          have H5 : Hid (Sep w w5 (jourR B J j3 :: diskR B d3 :: texR A1 n1 all A2 n2 sure :: [])) := h5
          clear h5
          go_wp2_with (fail)
          ((with_reducible refine (All_sep H5.out (HLI2.out.jbytes HK4.out).2).mono ?_); rintro _ w6 ⟨A3, c3, rfl, h6⟩)
          have H6 := Lib.hid h6
          clear h6
          go_wp2_with (fail)
          go_roundg (n - k)
          case measure => have := HLT.out; have := HGK.out; omega
          case rel =>
            refine ⟨k + 1, d3, all, all, some j3, J, A1, n1, c1, A3, j3.recs.length, c3, by have := HLT.out; omega, rfl, rfl, rfl, by go_num, HC1.out, HL3.out.up, ?_⟩
            have h := H6.out.r4.r4.r4.sw.r3.r4
            rw [HRC.out] at h ⊢
            exact h.texSnd
        · have HL3 := Lib.hid hL3
          have heb : (e3 == 0) = false := by rw [beq_eq_false_iff_ne]; exact he
          clear hL3
          go_wp2_with (fail)
          ((with_reducible refine (SyncJ_sep HS3.out _ HR3.out).mono ?_); rintro _ w5 ⟨rfl, h5⟩)
          have H5 : Hid (Sep w w5 (jourR B J j3 :: diskR B d3 :: texR A1 n1 all A2 n2 sure :: [])) := h5
          clear h5
          go_wp2_with (fail)
          go_roundg (n - k)
          case measure => have := HLT.out; have := HGK.out; omega
          case rel =>
            exact ⟨k + 1, d3, all, sure, some j3, J, A1, n1, c1, A2, n2, c2, by have := HLT.out; omega, rfl, rfl, rfl, by go_num, HC1.out, HL3.out.up, H5.out.r3.r3.sw.sw.r3.sw.r3⟩
    by_cases h2 : kd = 2
    · as_aux_lemma =>
      subst h2
      have hwk := HWK.out
      go_wp2_with (fail)
      ((with_reducible refine (Lose_sep HS2.out.r3 on HON.out _ rfl).mono ?_); rintro _ w5 ⟨rfl, h1⟩)
      have HSC := Lib.hid h1.sw.drop.sw
      clear h1
      go_wp2_with (fail)
      go_roundg (n - k)
      case measure => have := HLT.out; have := HGK.out; omega
      case rel =>
        exact ⟨k + 1, _, all, sure, jo, J, A1, n1, c1, A2, n2, c2, by have := HLT.out; omega, rfl, rfl, rfl, by go_num, HC1.out, (HLI2.out.lose on HON.out).up, HSC.out⟩
    by_cases h3 : kd = 3
    · as_aux_lemma =>
      subst h3
      have hwk := HWK.out
      go_wp2_with (fail)
      ((with_reducible refine (Arm_sep HS2.out.r3 on HON.out okp oA oc HO4.out (by have := HO2.out; omega) _ rfl).mono ?_); rintro _ w5 ⟨rfl, h1⟩)
      have HSC := Lib.hid h1.sw.drop.sw
      clear h1
      go_wp2_with (fail)
      go_roundg (n - k)
      case measure => have := HLT.out; have := HGK.out; omega
      case rel =>
        exact ⟨k + 1, _, all, sure, jo, J, A1, n1, c1, A2, n2, c2, by have := HLT.out; omega, rfl, rfl, rfl, by go_num, HC1.out, (HLI2.out.arm on HON.out okp (by have := HO2.out; omega)).up, HSC.out⟩
    by_cases h4 : kd = 4
    · as_aux_lemma =>
      subst h4
      have hwk := HWK.out
      obtain ⟨d3, hd3⟩ : ∃ d3, crashF d2 okp = d3 := ⟨_, rfl⟩
      have HNDN : Hid (k = n → ¬ ((StartF d3).armed = 0 → (StartF d3).lost = 0 → (StartF d3).down = true)) := Lib.hid (fun e h => by
        obtain ⟨_, ha, hl⟩ := HLAST.out e
        have h1 : (crashF d2 okp).armed = 0 ∧ (crashF d2 okp).lost = 0 := by
          unfold crashF
          split
          · exact ⟨ha, hl⟩
          · exact ⟨rfl, hl⟩
        rw [hd3] at h1
        exact Bool.noConfusion (h h1.1 h1.2))
      have HLS := Lib.hid (((HLI2.out.crash okp).start))
      rw [hd3] at HLS
      have HD3 := Lib.hid hd3
      clear hd3
      go_wp2_with (fail)
      ((with_reducible refine (Crash_sep HS2.out.r3 okp oA oc HO4.out (by have := HO2.out; omega) _ HD3.out).mono ?_); rintro _ w5 ⟨rfl, h5⟩)
      have H5 := Lib.hid h5
      clear h5
      go_wp2_with (fail)
      ((with_reducible refine (Start_sep H5.out _ rfl).mono ?_); rintro _ w6 ⟨rfl, h6⟩)
      have HST := Lib.hid h6.drop2.noJ
      clear h6

      rcases HLS.out.open_ (by decide) (by decide) HK3.out with ⟨d5, j5, hop, hpa, hps, hL5⟩ | ⟨d5, e5, hop, he5, hL5, hdn⟩
      · have HOP5 := Lib.hid hop
        have HPA := Lib.hid hpa
        have HPS := Lib.hid hps
        have HL5 := Lib.hid hL5
        obtain ⟨n5, hn5⟩ : ∃ n5, j5.recs.length = n5 := ⟨_, rfl⟩
        have HN5 := Lib.hid hn5
        clear hop hpa hps hL5 hn5
        go_wp2_with (fail)
        ((with_reducible refine (Open_sep HST.out HE.out 3 _ HOP5.out).mono ?_); rintro e w7 ⟨J2, rfl, h7⟩)
        have H7 := Lib.hid h7
        clear h7
        have HAL := Lib.hid (All_sep H7.out (HL5.out.jbytes HK4.out).2)
        go_wp2_with (fail)
        ((with_reducible refine (HAL.out).mono ?_); rintro _ w8 ⟨A3, c3, rfl, h8⟩)
        have H8 := Lib.hid h8
        have hcap := (own_cap h8.own).1
        have HCAP := Lib.hid hcap
        clear h8 hcap
        have HBG1 := Lib.hid (begins_any w8 A1 A3 n1 j5.recs.length c1 c3 all j5.recs H8.out.r4.tex1 (Own.sl' H8.out.own) HC1.out (HL5.out.jbytes HK4.out).2 true (decide_eq_true HPA.out))
        go_wp2_with (fail)
        ((with_reducible refine (HBG1.out).mono ?_); rintro _ w9 ⟨rfl, hb9⟩)
        have H9 := Lib.hid (H8.out.below hb9)
        clear hb9
        have HBG2 := Lib.hid (begins_any w9 A3 A2 j5.recs.length n2 c3 c2 j5.recs sure (Own.sl' H9.out.own) H9.out.r4.tex2 HCAP.out (by have h1 := H9.out.r4.tex2.1; have h2 := HPS.out.length_le; have h3 := (HL5.out.jbytes HK4.out).2; simp only [List.length_map] at h1; omega) true (decide_eq_true HPS.out))
        go_wp2_with (fail)
        ((with_reducible refine (HBG2.out).mono ?_); rintro _ w10 ⟨rfl, hb10⟩)
        have H10 := Lib.hid (H9.out.below hb10)
        clear hb10
        go_wp2_with (fail)
        go_roundg (n - k)
        case measure => have := HLT.out; have := HGK.out; omega
        case rel =>
          exact ⟨k + 1, d5, j5.recs, j5.recs, some j5, J2, A3, j5.recs.length, c3, A3, j5.recs.length, c3, by have := HLT.out; omega, rfl, rfl, rfl, by go_num, HCAP.out, HL5.out.up, H10.out.r4.drop.texBoth.r3.sw⟩
      · have hkn : k ≠ n := fun e => HNDN.out e hdn
        have HOP5 := Lib.hid hop
        have HL5 := Lib.hid hL5
        have hknb : ((k : Int) == (n : Int)) = false := by rw [beq_eq_false_iff_ne]; omega
        have HDK := Lib.hid (fun W => disky_any W e5 true (decide_eq_true he5))
        clear hop hL5 hdn hkn
        go_wp2_with (fail)
        ((with_reducible refine (Open_sep HST.out HE.out 3 _ HOP5.out).mono ?_); rintro e w7 ⟨rfl, h7⟩)
        have H7 := Lib.hid h7
        clear h7
        go_wp2_with (fail)
        ((with_reducible refine (HDK.out _).mono ?_); rintro _ _ ⟨rfl, rfl⟩)
        go_wp2_with (fail)
        go_roundg (n - k)
        case measure => have := HLT.out; have := HGK.out; omega
        case rel =>
          exact ⟨k + 1, d5, all, sure, none, J, A1, n1, c1, A2, n2, c2, by have := HLT.out; omega, rfl, rfl, rfl, by go_num, HC1.out, HL5.out.up, H7.out.sw⟩
    by_cases h5 : kd = 5
    · as_aux_lemma =>
      subst h5
      have hwk := HWK.out
      have HNDN : Hid (k = n → ¬ ((StartF d2).armed = 0 → (StartF d2).lost = 0 → (StartF d2).down = true)) := Lib.hid (fun e h => by
        obtain ⟨h4, _⟩ := HLAST.out e
        exact absurd h4 (by decide))
      have HLS := Lib.hid (HLI2.out.start)
      go_wp2_with (fail)
      ((with_reducible refine (Start_sep HS2.out.r3 _ rfl).mono ?_); rintro _ w6 ⟨rfl, h6⟩)
      have HST := Lib.hid h6.drop2.noJ
      clear h6

      rcases HLS.out.open_ (by decide) (by decide) HK3.out with ⟨d5, j5, hop, hpa, hps, hL5⟩ | ⟨d5, e5, hop, he5, hL5, hdn⟩
      · have HOP5 := Lib.hid hop
        have HPA := Lib.hid hpa
        have HPS := Lib.hid hps
        have HL5 := Lib.hid hL5
        obtain ⟨n5, hn5⟩ : ∃ n5, j5.recs.length = n5 := ⟨_, rfl⟩
        have HN5 := Lib.hid hn5
        clear hop hpa hps hL5 hn5
        go_wp2_with (fail)
        ((with_reducible refine (Open_sep HST.out HE.out 3 _ HOP5.out).mono ?_); rintro e w7 ⟨J2, rfl, h7⟩)
        have H7 := Lib.hid h7
        clear h7
        have HAL := Lib.hid (All_sep H7.out (HL5.out.jbytes HK4.out).2)
        go_wp2_with (fail)
        ((with_reducible refine (HAL.out).mono ?_); rintro _ w8 ⟨A3, c3, rfl, h8⟩)
        have H8 := Lib.hid h8
        have hcap := (own_cap h8.own).1
        have HCAP := Lib.hid hcap
        clear h8 hcap
        have HBG1 := Lib.hid (begins_any w8 A1 A3 n1 j5.recs.length c1 c3 all j5.recs H8.out.r4.tex1 (Own.sl' H8.out.own) HC1.out (HL5.out.jbytes HK4.out).2 true (decide_eq_true HPA.out))
        go_wp2_with (fail)
        ((with_reducible refine (HBG1.out).mono ?_); rintro _ w9 ⟨rfl, hb9⟩)
        have H9 := Lib.hid (H8.out.below hb9)
        clear hb9
        have HBG2 := Lib.hid (begins_any w9 A3 A2 j5.recs.length n2 c3 c2 j5.recs sure (Own.sl' H9.out.own) H9.out.r4.tex2 HCAP.out (by have h1 := H9.out.r4.tex2.1; have h2 := HPS.out.length_le; have h3 := (HL5.out.jbytes HK4.out).2; simp only [List.length_map] at h1; omega) true (decide_eq_true HPS.out))
        go_wp2_with (fail)
        ((with_reducible refine (HBG2.out).mono ?_); rintro _ w10 ⟨rfl, hb10⟩)
        have H10 := Lib.hid (H9.out.below hb10)
        clear hb10
        go_wp2_with (fail)
        go_roundg (n - k)
        case measure => have := HLT.out; have := HGK.out; omega
        case rel =>
          exact ⟨k + 1, d5, j5.recs, j5.recs, some j5, J2, A3, j5.recs.length, c3, A3, j5.recs.length, c3, by have := HLT.out; omega, rfl, rfl, rfl, by go_num, HCAP.out, HL5.out.up, H10.out.r4.drop.texBoth.r3.sw⟩
      · have hkn : k ≠ n := fun e => HNDN.out e hdn
        have HOP5 := Lib.hid hop
        have HL5 := Lib.hid hL5
        have hknb : ((k : Int) == (n : Int)) = false := by rw [beq_eq_false_iff_ne]; omega
        have HDK := Lib.hid (fun W => disky_any W e5 true (decide_eq_true he5))
        clear hop hL5 hdn hkn
        go_wp2_with (fail)
        ((with_reducible refine (Open_sep HST.out HE.out 3 _ HOP5.out).mono ?_); rintro e w7 ⟨rfl, h7⟩)
        have H7 := Lib.hid h7
        clear h7
        go_wp2_with (fail)
        ((with_reducible refine (HDK.out _).mono ?_); rintro _ _ ⟨rfl, rfl⟩)
        go_wp2_with (fail)
        go_roundg (n - k)
        case measure => have := HLT.out; have := HGK.out; omega
        case rel =>
          exact ⟨k + 1, d5, all, sure, none, J, A1, n1, c1, A2, n2, c2, by have := HLT.out; omega, rfl, rfl, rfl, by go_num, HC1.out, HL5.out.up, H7.out.sw⟩
    have hwk := HWK.out
    go_wp2_with (fail)
    go_roundg (n - k)
    case measure => have := HLT.out; have := HGK.out; omega
    case rel =>
      exact ⟨k + 1, d2, all, sure, jo, J, A1, n1, c1, A2, n2, c2, by have := HLT.out; omega, rfl, rfl, rfl, by go_num, HC1.out, HLI2.out.up, HS2.out.drop⟩
end Go.Proofs.YtniiahmpdkgplaaDoor
