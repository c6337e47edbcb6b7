/- kerbsidelaw41: GroupScales, walked. -/
import Derived.Test.YtcgakhajmekjcaaGrpI
namespace Go.Proofs.Ytcgakhajmekjcaa
open Go.RowKit

theorem int_len (q : List Int) : ∀ x ∈ q.map (fun k => [Value.int .i64 k]), x.length = 1 := by
  intro x hx
  obtain ⟨p, _, rfl⟩ := List.mem_map.1 hx
  rfl
theorem int_one (q : List Int) : ∀ x ∈ q.map (fun k => [Value.int .i64 k]), ∀ u ∈ x, u.oneCell' = true := by
  intro x hx u hu
  obtain ⟨p, _, rfl⟩ := List.mem_map.1 hx
  simp only [List.mem_cons, List.not_mem_nil, or_false] at hu
  subst hu
  rfl
theorem scaled_next {ps : List Int} {k : Nat} {p : Int} (b : Int) (hp : ps[k]? = some p) :
    ((ps.take (k + 1)).map fun p => p * b).map (fun k => [Value.int .i64 k]) = ((ps.take k).map fun p => p * b).map (fun k => [Value.int .i64 k]) ++ [[.int .i64 (p * b)]] := by
  rw [take_succ hp]
  simp
section
variable {P : Program} {w : World}
/-- a guarded append that is wanted -/
theorem wpList_append_w {ops : Array Oper} {rest : List Oper} {o : Oper} {a : Act} {Q : Exit → Act → World → Prop} (hgd : Region.wanted o (yielded ops a.tmps) = true) (s x : Operand) (t : TypeId)
    (ho : o.op = .call { callee := .builtin .append, args := #[s, x], argTypes := #[t, t] })
    (base : Nat) (e : TypeId) (i : TypeInfo) (z : Value) (size bytes : Nat) (ht : P.underlying t = some (.slice e)) (hi : P.info? e = some i) (hz : i.zero = some z)
    (hsize : i.size = size) (hby : i.bytes = bytes) (hzs : z.cells.size = size) (hsz : 0 < size)
    (v : Value) (n : Nat) (xs : List (List Value)) (hs : a.eval s = v) (hown : Own w base e size v n xs)
    (A : Option Addr) (m c : Nat) (news : List (List Value)) (hx : a.eval x = .slice A m c) (hr : Sl w size A m news) (hl : ∀ x ∈ news, x.length = size) (h1 : ∀ x ∈ news, ∀ u ∈ x, u.oneCell' = true)
    (h63 : n + m ≤ maxLen) (hbytes : (n + m) * bytes ≤ 140737488355328) (hbase : base ≤ w.heap.size)
    (h : ∀ A' c' w', Own w' base e size (.slice A' (n + m) c') (n + m) (xs ++ news) → w.grownBy w' v.ownBlock → ((Value.slice A' (n + m) c').ownBlock = v.ownBlock ∨ (Value.slice A' (n + m) c').ownBlock = some w.heap.size) → wpList P ops Q rest (a.put o.dst (.slice A' (n + m) c')) w') :
    wpList P ops Q (o :: rest) a w := by
  refine BigFrame.wpList_want hgd fun K hK => ?_
  obtain ⟨v', w', hrun, h2, h3, h4⟩ := run_append_sl (P := P) w base t o.type e i z size bytes ht hi hz hsize hby hzs hsz v n xs hown A m c news hr hl h1 h63 hbytes hbase
  obtain ⟨A', c', rfl, _⟩ := h2.sl
  unfold Oper.wp execOp
  simp only [ho, resolve, invoke, builtin, Sem.run_bind, Sem.run_pure, Result.andThen_ok, List.map_toArray, List.map_cons, List.map_nil, hs, hx, hrun]
  exact hK _ _ (h A' c' w' h2 h3 h4)
end
set_option maxRecDepth 100000 in
set_option maxHeartbeats 16000000 in
theorem scales_any (w : World) (A : Option Addr) (n cc : Nat) (ps : List Int) (hs : Ints w A n ps) (hn : n ≤ maxLen) (c first by_ : Int) :
    Calls Try.prog 5 #[.int .i64 c, .slice A n cc, .int .i64 first, .int .i64 by_] w fun e w' => e = .returned (.bool true) ∧ Below w.heap.size w w' := by
  have hl := hs.length
  have HSA := Lib.hid (sane_any w)
  obtain ⟨q, hq⟩ : ∃ q, rightB ps = q := ⟨_, rfl⟩
  have HRT := Lib.hid (fun W (h : Ints W A n ps) => Right_any W A n cc ps h hn q hq)
  have HS := Lib.hid hs
  by_cases h110 : 110 < (n : Int)
  · have HFW := Lib.hid (fun W => few_any W A n cc false (decide_eq_false (by omega)))
    clear hs hl hq
    go_enter Try.func5, Try.ntmps5
    go_wp2_with (first
      | ((with_reducible refine (HSA.out).mono ?_); rintro _ w1 ⟨rfl, hb1⟩; have HB1 := Lib.hid hb1; clear hb1)
      | ((with_reducible refine (HFW.out _).mono ?_); rintro _ w9 ⟨rfl, hw9⟩; obtain rfl := hw9))
    go_ret
    exact ⟨rfl, HB1.out⟩
  have HFW := Lib.hid (fun W => few_any W A n cc true (decide_eq_true (by omega)))
  by_cases hb : by_ < 1 ∨ 1000000 < by_
  · have h110' : (n : Int) ≤ 110 := by omega
    clear hs hl hq h110
    rcases hb with h1 | h1
    · go_enter Try.func5, Try.ntmps5
      go_wp2_with (first
        | ((with_reducible refine (HSA.out).mono ?_); rintro _ w1 ⟨rfl, hb1⟩; have HB1 := Lib.hid hb1; clear hb1)
        | ((with_reducible refine (HFW.out _).mono ?_); rintro _ w9 ⟨rfl, hw9⟩; obtain rfl := hw9))
      go_ret
      exact ⟨rfl, HB1.out⟩
    · have h2 : 1 ≤ by_ := by omega
      go_enter Try.func5, Try.ntmps5
      go_wp2_with (first
        | ((with_reducible refine (HSA.out).mono ?_); rintro _ w1 ⟨rfl, hb1⟩; have HB1 := Lib.hid hb1; clear hb1)
        | ((with_reducible refine (HFW.out _).mono ?_); rintro _ w9 ⟨rfl, hw9⟩; obtain rfl := hw9))
      go_ret
      exact ⟨rfl, HB1.out⟩
  have hb1 : 1 ≤ by_ := by omega
  have hb2 : by_ ≤ 1000000 := by omega
  clear hb
  by_cases h : SplitOk c ps first
  · have hrt : q = true := by rw [← hq]; exact rightB_true.2 ⟨h.len, h.rng, h.some⟩
    subst hrt
    have hn100 : n ≤ 100 := by have := h.len; omega
    have HL := Lib.hid hl
    have HO := Lib.hid h
    obtain ⟨i1, hj0, hj1, hj2, hj3⟩ := info_parts infoInt
    have HSP := Lib.hid (fun W (hW : Ints W A n ps) => Split_ok W A n cc ps hW c first h)
    have k1 := h.c0
    have k2 := h.c1
    have k3 := h.f0
    have k4 : first < (n : Int) := by have := h.f1; omega
    obtain ⟨sc, hsc⟩ : ∃ sc, (ps.map fun p => p * by_) = sc := ⟨_, rfl⟩
    have hsl : sc.length = n := by rw [← hsc, List.length_map]; exact hl
    have HSC := Lib.hid hsc
    have HSL := Lib.hid hsl
    have HBY := Lib.hid hb1
    clear hs hl hq h h110 hsc hsl
    go_enter Try.func5, Try.ntmps5
    go_wp2_with (first
      | ((with_reducible refine (HSA.out).mono ?_); rintro _ w1 ⟨rfl, hb1⟩; have HB1 := Lib.hid hb1; have HS1 := Lib.hid (Sl.below HS.out hb1); clear hb1)
      | ((with_reducible refine (HFW.out _).mono ?_); rintro _ w9 ⟨rfl, hw9⟩; obtain rfl := hw9)
      | ((with_reducible refine (HRT.out _ HS1.out).mono ?_); rintro _ w9 ⟨rfl, hw9⟩; obtain rfl := hw9)
      | ((with_reducible refine (HSP.out _ HS1.out).mono ?_); rintro _ w2 ⟨A2, c2, rfl, hs2, hb2⟩; have HL2 := Lib.hid hs2.1; have HS2 := Lib.hid (Sl.below HS1.out hb2); have HB2 := Lib.hid (HB1.out.trans (hb2.mono HB1.out.size)); clear hs2 hb2))
    go_loopw [12, 13] (fun sv iv wr => ∃ (k : Nat) (A3 : Option Addr) (c3 : Nat), k ≤ n ∧ iv = .int .i64 (k : Int) ∧ sv = .slice A3 k c3 ∧ Below w2.heap.size w2 wr ∧ Own wr w2.heap.size 3 1 (.slice A3 k c3) k (((ps.take k).map fun p => p * by_).map fun k => [.int .i64 k])) (fun _ i _ => n - (intOf i).toNat)
    case atStart => exact ⟨0, _, 0, Nat.zero_le _, rfl, rfl, below_alloc w2 _, Own.empty rfl (Nat.le_refl _)⟩
    case round =>
      obtain ⟨k, A3, c3, hk, rfl, rfl, hb, ho⟩ := hrel
      obtain ⟨wo, rfl⟩ : ∃ wo : World, wo = wr := ⟨_, rfl⟩
      have HB := Lib.hid hb
      have HOW := Lib.hid ho
      have hbz := hb.size
      clear hb ho
      by_cases hlt : k < n
      · obtain ⟨p, hp⟩ : ∃ p, ps[k]? = some p := ⟨_, List.getElem?_eq_getElem (by rw [HL.out]; exact hlt)⟩
        obtain ⟨b, o, rfl, hbl, c0⟩ := Ints.at_ (Sl.below HS2.out HB.out) hp
        have hki : (k : Int) < (n : Int) := by omega
        have hk0 : (0 : Int) ≤ (k : Int) := Int.natCast_nonneg _
        have hpr := HO.out.rng p (List.mem_of_getElem? hp)
        have hm0 : 0 ≤ p * by_ := Int.mul_nonneg hpr.1 (by omega)
        have hm1 : p * by_ ≤ 1000000 * 1000000 := Int.mul_le_mul hpr.2 hb2 (by omega) (by omega)
        have hwm : IntKind.i64.wrap (p * by_) = p * by_ := IntWalk.i64_in _ (by omega)
        have HNX := Lib.hid (scaled_next by_ hp)
        have HLT := Lib.hid hlt
        clear hp hpr hm0 hm1 hlt
        go_wp2_with (at_builtin; refine wpList_append_sl _ rfl (.tmp 69) (.tmp 76) 22 rfl w2.heap.size 3 i1 _ 1 8 Try.underlying22 hj0 hj1 hj2 hj3 rfl (by omega) (.slice A3 k c3) k _ rfl (HOW.out.alloc _) (some ⟨wo.heap.size, 0, none⟩) 1 1 [[.int .i64 (p * by_)]] rfl (Sl.new_ _ _ _) (by simp) (by simp [Value.oneCell']) (by simp only [maxLen]; omega) (by omega) (by simp only [World.size_alloc]; omega) ?_; intro A4 c4 w4 hown hg hat)
        have hbw := (HOW.out.alloc (.cells #[.int .i64 (p * by_)] 3)).below_grown (B := w2.heap.size) (Nat.le_refl _) (by simp only [World.size_alloc]; omega) (HB.out.alloc hbz _) hg
        rw [← HNX.out] at hown
        have HR := Lib.hid (And.intro hbw hown)
        clear hbw hown
        go_roundw
        case rel => exact ⟨k + 1, A4, c4, HLT.out, by go_num, rfl, HR.out.1, HR.out.2⟩
        case measure => have := HLT.out; simp [intOf]; omega
      · obtain rfl : k = n := by omega
        have hki : (k : Int) ≤ (k : Int) := Int.le_refl _
        have ho := HOW.out
        rw [List.take_of_length_le (by rw [HL.out]; exact Nat.le_refl _), HSC.out] at ho
        have hsi : Ints wo A3 k sc := Own.sl' ho
        have HSI := Lib.hid hsi
        obtain ⟨q2, hq2⟩ : ∃ q2, rightB sc = q2 := ⟨_, rfl⟩
        have HR2 := Lib.hid (fun W (h : Ints W A3 k sc) => Right_any W A3 k c3 sc h hn q2 hq2)
        have HBo := Lib.hid (HB2.out.trans (HB.out.mono HB2.out.size))
        have HSo := Lib.hid (Sl.below HS2.out HB.out)
        have HLo := Lib.hid (Sl.below HL2.out HB.out)
        have HQ2 := Lib.hid hq2
        clear ho hsi hlt hq2 HB2 HS2 HL2 HB HOW hbz
        generalize hsp : splitL c ps first = sp at *
        have HSPL := Lib.hid hsp
        have hspl : sp.length = k := by rw [← hsp, splitL_length, HL.out]
        have HSPK := Lib.hid hspl
        clear hsp hspl
        by_cases hqq : q2 = true
        · subst hqq
          have hr := rightB_true.1 HQ2.out
          have hok : SplitOk c sc first := ⟨k1, k2, hr.1, hr.2.1, hr.2.2, k3, by rw [HSL.out]; exact k4⟩
          have hss : splitL c sc first = sp := by rw [← HSC.out, SplitOk.scale HBY.out, HSPL.out]
          have hcall := Split_ok wo A3 k c3 sc HSI.out c first hok
          rw [hss] at hcall
          have HC3 := Lib.hid hcall
          have HSM := Lib.hid (fun W A8 c8 (h1 : Ints W A2 k sp) (h2 : Ints W A8 k sp) => Same_any W A2 A8 k c2 k c8 sp sp h1 h2 hn true (decide_eq_true rfl))
          clear hr hok hss hcall
          go_wp2_with (first
            | ((with_reducible refine (HC3.out).mono ?_); rintro _ w3 ⟨A8, c8, rfl, hs8, hb8⟩; have HL8 := Lib.hid hs8.1; have HI3 := Lib.hid (Sl.below HSI.out hb8); have HS3 := Lib.hid (Sl.below HSo.out hb8); have HL3 := Lib.hid (Sl.below HLo.out hb8); have HB3 := Lib.hid (HBo.out.trans (hb8.mono HBo.out.size)); clear hs8 hb8)
            | ((with_reducible refine (HR2.out _ HI3.out).mono ?_); rintro _ w9 ⟨rfl, hw9⟩; obtain rfl := hw9)
            | ((with_reducible refine (HSM.out _ _ _ HL3.out HL8.out).mono ?_); rintro _ w5 ⟨rfl, hb5⟩; have HS5 := Lib.hid (Sl.below HS3.out hb5); have HL5 := Lib.hid (Sl.below HL3.out hb5); have HB5 := Lib.hid (HB3.out.trans (hb5.mono HB3.out.size)); clear hb5)
            | (at_builtin; refine wpList_append_sl _ rfl (.tmp 97) (.tmp 98) 22 rfl w5.heap.size 3 i1 _ 1 8 Try.underlying22 hj0 hj1 hj2 hj3 rfl (by omega) (.slice (some ⟨w5.heap.size, 0, none⟩) 0 0) 0 [] rfl (Own.empty rfl (Nat.le_refl _)) A k cc (ps.map fun k => [.int .i64 k]) rfl (Sl.alloc HS5.out _) (int_len _) (int_one _) (by simp only [maxLen]; omega) (by omega) (by simp) ?_; intro A6 c6 w6 hown6 hg6 _; rw [Nat.zero_add, List.nil_append] at hown6; have hbb6 := (Own.empty (w := w5) (e := 3) (size := 1) rfl (Nat.le_refl _)).below_grown (B := w5.heap.size) (Nat.le_refl _) (by simp) (below_alloc w5 _) hg6; have HO6 := Lib.hid hown6; have HBB6 := Lib.hid hbb6; have hbz6 := hbb6.size; clear hown6 hg6 hbb6)
            | (at_builtin; refine wpList_append_sl _ rfl (.tmp 99) (.tmp 100) 22 rfl w5.heap.size 3 i1 _ 1 8 Try.underlying22 hj0 hj1 hj2 hj3 rfl (by omega) (.slice A6 k c6) k _ rfl (HO6.out.alloc _) (some ⟨w6.heap.size, 0, none⟩) 1 1 [[.int .i64 0]] rfl (Sl.new_ _ _ _) (by simp) (by simp [Value.oneCell']) (by simp only [maxLen]; omega) (by omega) (by simp only [World.size_alloc]; omega) ?_; intro A7 c7 w7 hown7 hg7 _; have hbb7 := (HO6.out.alloc (.cells #[.int .i64 0] 3)).below_grown (B := w5.heap.size) (Nat.le_refl _) (by simp only [World.size_alloc]; omega) (HBB6.out.alloc HBB6.out.size _) hg7; have HO7 := Lib.hid hown7; have HBB7 := Lib.hid hbb7; clear hown7 hg7 hbb7))
          have him : Ints w7 A7 (k + 1) (ps ++ [0]) := by
            have h := Own.sl' HO7.out
            unfold Ints
            rw [List.map_append]
            exact h
          have HIM := Lib.hid him
          have HB7 := Lib.hid (HB5.out.trans (HBB7.out.mono HB5.out.size))
          have HL7 := Lib.hid (Sl.below HL5.out HBB7.out)
          obtain ⟨q3, hq3⟩ : ∃ q3, rightB (ps ++ [0]) = q3 := ⟨_, rfl⟩
          have HR3 := Lib.hid (fun W (h : Ints W A7 (k + 1) (ps ++ [0])) => Right_any W A7 (k + 1) c7 (ps ++ [0]) h (by unfold maxLen; omega) q3 hq3)
          have HQ3 := Lib.hid hq3
          clear him hq3 HB5 HS5 HL5 HBB7 HBB6 HO6 HO7
          by_cases hqq3 : q3 = true
          · subst hqq3
            have hr := rightB_true.1 HQ3.out
            have hok : SplitOk c (ps ++ [0]) first := ⟨k1, k2, hr.1, hr.2.1, hr.2.2, k3, by rw [List.length_append, HL.out]; simp; omega⟩
            have hss : splitL c (ps ++ [0]) first = sp ++ [0] := by rw [SplitOk.more HO.out hok, HSPL.out]
            have hcall := Split_ok w7 A7 (k + 1) c7 (ps ++ [0]) HIM.out c first hok
            rw [hss] at hcall
            have HC9 := Lib.hid hcall
            have HSM9 := Lib.hid (fun W A8 c8 A9 c9 (h1 : Ints W A8 (k + 1) (sp ++ [0])) (h2 : Ints W A9 (k + 1) (sp ++ [0])) => Same_any W A8 A9 (k + 1) c8 (k + 1) c9 (sp ++ [0]) (sp ++ [0]) h1 h2 (by unfold maxLen; omega) true (decide_eq_true rfl))
            clear hr hok hss hcall
            go_wp2_with (first
              | ((with_reducible refine (HC9.out).mono ?_); rintro _ w9x ⟨A10, c10, rfl, hs10, hb10⟩; have HL10 := Lib.hid hs10.1; have HI9 := Lib.hid (Sl.below HIM.out hb10); have HL9 := Lib.hid (Sl.below HL7.out hb10); have HB9 := Lib.hid (HB7.out.trans (hb10.mono HB7.out.size)); clear hs10 hb10)
              | ((with_reducible refine (HR3.out _ HI9.out).mono ?_); rintro _ w9 ⟨rfl, hw9⟩; obtain rfl := hw9)
              | (at_builtin; refine wpList_append_w (by first | rfl | simp [go_sem]) (.tmp 132) (.tmp 133) 22 rfl w9x.heap.size 3 i1 _ 1 8 Try.underlying22 hj0 hj1 hj2 hj3 rfl (by omega) (.slice (some ⟨w9x.heap.size, 0, none⟩) 0 0) 0 [] rfl (Own.empty rfl (Nat.le_refl _)) A2 k c2 (sp.map fun k => [.int .i64 k]) rfl (Sl.alloc HL9.out _) (int_len _) (int_one _) (by simp only [maxLen]; omega) (by omega) (by simp) ?_; intro A16 c16 w16 hown16 hg16 _; rw [Nat.zero_add, List.nil_append] at hown16; have hbb16 := (Own.empty (w := w9x) (e := 3) (size := 1) rfl (Nat.le_refl _)).below_grown (B := w9x.heap.size) (Nat.le_refl _) (by simp) (below_alloc w9x _) hg16; have HO16 := Lib.hid hown16; have HBB16 := Lib.hid hbb16; have hbz16 := hbb16.size; clear hown16 hg16 hbb16)
              | (at_builtin; refine wpList_append_w (by first | rfl | simp [go_sem]) (.tmp 134) (.tmp 135) 22 rfl w9x.heap.size 3 i1 _ 1 8 Try.underlying22 hj0 hj1 hj2 hj3 rfl (by omega) (.slice A16 k c16) k _ rfl (HO16.out.alloc _) (some ⟨w16.heap.size, 0, none⟩) 1 1 [[.int .i64 0]] rfl (Sl.new_ _ _ _) (by simp) (by simp [Value.oneCell']) (by simp only [maxLen]; omega) (by omega) (by simp only [World.size_alloc]; omega) ?_; intro A17 c17 w17 hown17 hg17 _; have hbb17 := (HO16.out.alloc (.cells #[.int .i64 0] 3)).below_grown (B := w9x.heap.size) (Nat.le_refl _) (by simp only [World.size_alloc]; omega) (HBB16.out.alloc HBB16.out.size _) hg17; have HO17 := Lib.hid hown17; have HBB17 := Lib.hid hbb17; clear hown17 hg17 hbb17))
            have hin : Ints w17 A17 (k + 1) (sp ++ [0]) := by
              have h := Own.sl' HO17.out
              unfold Ints
              rw [List.map_append]
              exact h
            have HIN := Lib.hid hin
            have HLX := Lib.hid (Sl.below HL10.out HBB17.out)
            clear hin
            go_wp2_with ((with_reducible refine (HSM9.out _ _ _ _ _ HLX.out HIN.out).mono ?_); rintro _ w18 ⟨rfl, hb18⟩; have HB18 := Lib.hid ((HB9.out.trans (HBB17.out.mono HB9.out.size)).trans (hb18.mono (HB9.out.trans (HBB17.out.mono HB9.out.size)).size)))
            go_ret
            exact ⟨rfl, HB18.out⟩
          · obtain rfl : q3 = false := by simpa using hqq3
            have hnok : splitF c (ps ++ [0]) first = ([], 1) := splitF_bad fun h => by
              have := rightB_true.2 ⟨h.len, h.rng, h.some⟩
              rw [HQ3.out] at this
              cases this
            have HC9 := Lib.hid (Split_any w7 A7 (k + 1) c7 (ps ++ [0]) HIM.out (by unfold maxLen; omega) c first _ hnok)
            clear hnok hqq3
            go_wp2_with (first
              | ((with_reducible refine (HC9.out).mono ?_); rintro _ w9x ⟨A10, c10, rfl, _, hb10⟩; have HI9 := Lib.hid (Sl.below HIM.out hb10); have HB9 := Lib.hid (HB7.out.trans (hb10.mono HB7.out.size)); clear hb10)
              | ((with_reducible refine (HR3.out _ HI9.out).mono ?_); rintro _ w9 ⟨rfl, hw9⟩; obtain rfl := hw9))
            go_ret
            exact ⟨rfl, HB9.out⟩
        · obtain rfl : q2 = false := by simpa using hqq
          have hnok : splitF c sc first = ([], 1) := splitF_bad fun h => by
            have := rightB_true.2 ⟨h.len, h.rng, h.some⟩
            rw [HQ2.out] at this
            cases this
          have HC3 := Lib.hid (Split_any wo A3 k c3 sc HSI.out hn c first _ hnok)
          clear hnok hqq
          go_wp2_with (first
            | ((with_reducible refine (HC3.out).mono ?_); rintro _ w5 ⟨A8, c8, rfl, _, hb8⟩; have HI3 := Lib.hid (Sl.below HSI.out hb8); have HS5 := Lib.hid (Sl.below HSo.out hb8); have HL5 := Lib.hid (Sl.below HLo.out hb8); have HB5 := Lib.hid (HBo.out.trans (hb8.mono HBo.out.size)); clear hb8)
            | ((with_reducible refine (HR2.out _ HI3.out).mono ?_); rintro _ w9 ⟨rfl, hw9⟩; obtain rfl := hw9)
            | (at_builtin; refine wpList_append_sl _ rfl (.tmp 97) (.tmp 98) 22 rfl w5.heap.size 3 i1 _ 1 8 Try.underlying22 hj0 hj1 hj2 hj3 rfl (by omega) (.slice (some ⟨w5.heap.size, 0, none⟩) 0 0) 0 [] rfl (Own.empty rfl (Nat.le_refl _)) A k cc (ps.map fun k => [.int .i64 k]) rfl (Sl.alloc HS5.out _) (int_len _) (int_one _) (by simp only [maxLen]; omega) (by omega) (by simp) ?_; intro A6 c6 w6 hown6 hg6 _; rw [Nat.zero_add, List.nil_append] at hown6; have hbb6 := (Own.empty (w := w5) (e := 3) (size := 1) rfl (Nat.le_refl _)).below_grown (B := w5.heap.size) (Nat.le_refl _) (by simp) (below_alloc w5 _) hg6; have HO6 := Lib.hid hown6; have HBB6 := Lib.hid hbb6; have hbz6 := hbb6.size; clear hown6 hg6 hbb6)
            | (at_builtin; refine wpList_append_sl _ rfl (.tmp 99) (.tmp 100) 22 rfl w5.heap.size 3 i1 _ 1 8 Try.underlying22 hj0 hj1 hj2 hj3 rfl (by omega) (.slice A6 k c6) k _ rfl (HO6.out.alloc _) (some ⟨w6.heap.size, 0, none⟩) 1 1 [[.int .i64 0]] rfl (Sl.new_ _ _ _) (by simp) (by simp [Value.oneCell']) (by simp only [maxLen]; omega) (by omega) (by simp only [World.size_alloc]; omega) ?_; intro A7 c7 w7 hown7 hg7 _; have hbb7 := (HO6.out.alloc (.cells #[.int .i64 0] 3)).below_grown (B := w5.heap.size) (Nat.le_refl _) (by simp only [World.size_alloc]; omega) (HBB6.out.alloc HBB6.out.size _) hg7; have HO7 := Lib.hid hown7; have HBB7 := Lib.hid hbb7; clear hown7 hg7 hbb7))
          have him : Ints w7 A7 (k + 1) (ps ++ [0]) := by
            have h := Own.sl' HO7.out
            unfold Ints
            rw [List.map_append]
            exact h
          have HIM := Lib.hid him
          have HB7 := Lib.hid (HB5.out.trans (HBB7.out.mono HB5.out.size))
          have HL7 := Lib.hid (Sl.below HL5.out HBB7.out)
          obtain ⟨q3, hq3⟩ : ∃ q3, rightB (ps ++ [0]) = q3 := ⟨_, rfl⟩
          have HR3 := Lib.hid (fun W (h : Ints W A7 (k + 1) (ps ++ [0])) => Right_any W A7 (k + 1) c7 (ps ++ [0]) h (by unfold maxLen; omega) q3 hq3)
          have HQ3 := Lib.hid hq3
          clear him hq3 HB5 HS5 HL5 HBB7 HBB6 HO6 HO7
          by_cases hqq3 : q3 = true
          · subst hqq3
            have hr := rightB_true.1 HQ3.out
            have hok : SplitOk c (ps ++ [0]) first := ⟨k1, k2, hr.1, hr.2.1, hr.2.2, k3, by rw [List.length_append, HL.out]; simp; omega⟩
            have hss : splitL c (ps ++ [0]) first = sp ++ [0] := by rw [SplitOk.more HO.out hok, HSPL.out]
            have hcall := Split_ok w7 A7 (k + 1) c7 (ps ++ [0]) HIM.out c first hok
            rw [hss] at hcall
            have HC9 := Lib.hid hcall
            have HSM9 := Lib.hid (fun W A8 c8 A9 c9 (h1 : Ints W A8 (k + 1) (sp ++ [0])) (h2 : Ints W A9 (k + 1) (sp ++ [0])) => Same_any W A8 A9 (k + 1) c8 (k + 1) c9 (sp ++ [0]) (sp ++ [0]) h1 h2 (by unfold maxLen; omega) true (decide_eq_true rfl))
            clear hr hok hss hcall
            go_wp2_with (first
              | ((with_reducible refine (HC9.out).mono ?_); rintro _ w9x ⟨A10, c10, rfl, hs10, hb10⟩; have HL10 := Lib.hid hs10.1; have HI9 := Lib.hid (Sl.below HIM.out hb10); have HL9 := Lib.hid (Sl.below HL7.out hb10); have HB9 := Lib.hid (HB7.out.trans (hb10.mono HB7.out.size)); clear hs10 hb10)
              | ((with_reducible refine (HR3.out _ HI9.out).mono ?_); rintro _ w9 ⟨rfl, hw9⟩; obtain rfl := hw9)
              | (at_builtin; refine wpList_append_w (by first | rfl | simp [go_sem]) (.tmp 132) (.tmp 133) 22 rfl w9x.heap.size 3 i1 _ 1 8 Try.underlying22 hj0 hj1 hj2 hj3 rfl (by omega) (.slice (some ⟨w9x.heap.size, 0, none⟩) 0 0) 0 [] rfl (Own.empty rfl (Nat.le_refl _)) A2 k c2 (sp.map fun k => [.int .i64 k]) rfl (Sl.alloc HL9.out _) (int_len _) (int_one _) (by simp only [maxLen]; omega) (by omega) (by simp) ?_; intro A16 c16 w16 hown16 hg16 _; rw [Nat.zero_add, List.nil_append] at hown16; have hbb16 := (Own.empty (w := w9x) (e := 3) (size := 1) rfl (Nat.le_refl _)).below_grown (B := w9x.heap.size) (Nat.le_refl _) (by simp) (below_alloc w9x _) hg16; have HO16 := Lib.hid hown16; have HBB16 := Lib.hid hbb16; have hbz16 := hbb16.size; clear hown16 hg16 hbb16)
              | (at_builtin; refine wpList_append_w (by first | rfl | simp [go_sem]) (.tmp 134) (.tmp 135) 22 rfl w9x.heap.size 3 i1 _ 1 8 Try.underlying22 hj0 hj1 hj2 hj3 rfl (by omega) (.slice A16 k c16) k _ rfl (HO16.out.alloc _) (some ⟨w16.heap.size, 0, none⟩) 1 1 [[.int .i64 0]] rfl (Sl.new_ _ _ _) (by simp) (by simp [Value.oneCell']) (by simp only [maxLen]; omega) (by omega) (by simp only [World.size_alloc]; omega) ?_; intro A17 c17 w17 hown17 hg17 _; have hbb17 := (HO16.out.alloc (.cells #[.int .i64 0] 3)).below_grown (B := w9x.heap.size) (Nat.le_refl _) (by simp only [World.size_alloc]; omega) (HBB16.out.alloc HBB16.out.size _) hg17; have HO17 := Lib.hid hown17; have HBB17 := Lib.hid hbb17; clear hown17 hg17 hbb17))
            have hin : Ints w17 A17 (k + 1) (sp ++ [0]) := by
              have h := Own.sl' HO17.out
              unfold Ints
              rw [List.map_append]
              exact h
            have HIN := Lib.hid hin
            have HLX := Lib.hid (Sl.below HL10.out HBB17.out)
            clear hin
            go_wp2_with ((with_reducible refine (HSM9.out _ _ _ _ _ HLX.out HIN.out).mono ?_); rintro _ w18 ⟨rfl, hb18⟩; have HB18 := Lib.hid ((HB9.out.trans (HBB17.out.mono HB9.out.size)).trans (hb18.mono (HB9.out.trans (HBB17.out.mono HB9.out.size)).size)))
            go_ret
            exact ⟨rfl, HB18.out⟩
          · obtain rfl : q3 = false := by simpa using hqq3
            have hnok : splitF c (ps ++ [0]) first = ([], 1) := splitF_bad fun h => by
              have := rightB_true.2 ⟨h.len, h.rng, h.some⟩
              rw [HQ3.out] at this
              cases this
            have HC9 := Lib.hid (Split_any w7 A7 (k + 1) c7 (ps ++ [0]) HIM.out (by unfold maxLen; omega) c first _ hnok)
            clear hnok hqq3
            go_wp2_with (first
              | ((with_reducible refine (HC9.out).mono ?_); rintro _ w9x ⟨A10, c10, rfl, _, hb10⟩; have HI9 := Lib.hid (Sl.below HIM.out hb10); have HB9 := Lib.hid (HB7.out.trans (hb10.mono HB7.out.size)); clear hb10)
              | ((with_reducible refine (HR3.out _ HI9.out).mono ?_); rintro _ w9 ⟨rfl, hw9⟩; obtain rfl := hw9))
            go_ret
            exact ⟨rfl, HB9.out⟩
  · have hl' : ps.length = n := hl
    have hbad := split_bad hl' hq h
    have h110' : (n : Int) ≤ 110 := by omega
    clear hs h hl hl' hq h110
    rcases hbad with h1 | ⟨h1, h2⟩ | ⟨h1, h2, rfl⟩ | ⟨h1, h2, rfl, h3⟩ | ⟨h1, h2, rfl, h3, h4⟩
    all_goals
      go_enter Try.func5, Try.ntmps5
      go_wp2_with (first
        | ((with_reducible refine (HSA.out).mono ?_); rintro _ w1 ⟨rfl, hb1⟩; have HB1 := Lib.hid hb1; have HS1 := Lib.hid (Sl.below HS.out hb1); clear hb1)
        | ((with_reducible refine (HFW.out _).mono ?_); rintro _ w9 ⟨rfl, hw9⟩; obtain rfl := hw9)
        | ((with_reducible refine (HRT.out _ HS1.out).mono ?_); rintro _ w9 ⟨rfl, hw9⟩; obtain rfl := hw9))
      go_ret
      exact ⟨rfl, HB1.out⟩
end Go.Proofs.Ytcgakhajmekjcaa
