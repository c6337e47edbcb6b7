/- kerbsidelaw49: none, walked. -/
/- kerbsidelaw49: sane, walked. -/
/- kerbsidelaw49: acts in memory; kerbsideref49's Few, fine, walked. -/
import Derived.Test.YtjncmlglhegnaaaGreatDoorDevK
import Derived.Test.YtjncmlglhegnaaaGreatDoorDevI
namespace Go.Proofs.YtjncmlglhegnaaaGreatDoor
open Go.RowKit Go.Sort Go.Lib

set_option maxRecDepth 100000 in
set_option maxHeartbeats 1000000 in
theorem none_any (w : World) :
    Calls Tryz.prog 54 #[] w fun e w' => ∃ A, e = .returned (.slice A 8 8) ∧ Sl w' 1 A 8 (zed8.map intC) ∧ Below w.heap.size w w' := by
  obtain ⟨i1, hj0, hj1, hj2, hj3⟩ := info_parts infoInt
  go_enter Tryz.func54, Tryz.ntmps54
  go_wp2_with (at_make; refine wpList_make_own w rfl (.const (.int .i64 8)) (.const (.int .i64 8)) 30 rfl w.heap.size 3 i1 _ 1 8 Tryz.underlying30 hj0 hj1 hj2 hj3 rfl (by omega) 8 rfl rfl (by omega) (by simp only [maxLen]; omega) (Nat.le_refl _) ?_; intro w1 hown1 hb1 hz1; have HW1 := Lib.hid hown1; have HB1 := Lib.hid hb1)
  go_ret
  exact ⟨_, rfl, Own.sl' HW1.out, HB1.out⟩
end Go.Proofs.YtjncmlglhegnaaaGreatDoor
namespace Go.Proofs.YtjncmlglhegnaaaGreatDoor
open Go.RowKit Go.Sort

theorem devOk_of {x : DevV} (h : (decide (x.ents.length ≤ 1000) && x.ents.all rightB && decide (-9223372036854775808 ≤ x.j.bytes) && decide (x.j.bytes ≤ 4611686018427387904) && decide (x.j.recs.length ≤ 16777216)) = true) : DevOk x := by
  simp only [Bool.and_eq_true, decide_eq_true_eq, List.all_eq_true] at h
  obtain ⟨⟨⟨⟨h1, h2⟩, h3⟩, h4⟩, h5⟩ := h
  exact ⟨h1, fun v hv => rightB_true.1 (h2 v hv), ⟨h3, h4⟩, h5⟩
theorem writeZ {w0 w : World} {Rs : List Res} {B X : Nat} {d : DV} {x : DevV} (h : Sep w0 w (devR B X x :: diskR B d :: Rs)) (hE : Env w0.heap.size w0) (hok : DevOk x) (day : Int) (A : Option Addr) (hse : Sl w 1 A 8 (zed8.map intC)) (text : List UInt8) (ht : text.length ≤ 1099511627776) (r : DV × DevV × Int) (hr : writeD d x day zed8 text = r) :
    Calls Tryz.prog 27 #[.pointer (some ⟨X, 0, none⟩), .int .i64 day, .slice A 8 8, .string ⟨text.toArray⟩] w fun e w' => e = .returned (.int .i64 r.2.2) ∧ Sep w0 w' (devR B X r.2.1 :: diskR B r.1 :: Rs) :=
  writeD_sep h hE hok day A 8 zed8 hse text ht r hr
theorem spendZ {w0 w : World} {Rs : List Res} {B X : Nat} {d : DV} {x : DevV} (h : Sep w0 w (devR B X x :: diskR B d :: Rs)) (hE : Env w0.heap.size w0) (hok : DevOk x) (day : Int) (A : Option Addr) (hse : Sl w 1 A 8 (zed8.map intC)) (n : Int) (hn : -9223372036854775808 ≤ n ∧ n ≤ 9223372036854775807) (r : DV × DevV × Int) (hr : spendD d x day zed8 n = r) :
    Calls Tryz.prog 29 #[.pointer (some ⟨X, 0, none⟩), .int .i64 day, .slice A 8 8, .int .i64 n] w fun e w' => e = .returned (.int .i64 r.2.2) ∧ Sep w0 w' (devR B X r.2.1 :: diskR B r.1 :: Rs) :=
  spendD_sep h hE hok day A 8 zed8 hse n hn r hr
theorem sn1' : openD newD 2 loan0 = (sO1.1, some dev0, 0) := by
  show sO1 = _
  rw [← sn1]
theorem sn7' : openD sD2 2 loan0 = (sO2.1, some dev2, 0) := by
  show sO2 = _
  rw [← sn7]
theorem sn13 : sH3.2.2.2.map (·.no) = [0, 1, 2] := by kernel_rfl
def sX1 : DV × DevV × Int := writeD sH3.1 sH3.2.1 6 zed8 [33, 120]
def sX2 : DV × DevV × Int := spendD sX1.1 sX1.2.1 6 zed8 41
def sX3 : DV × DevV × Int := writeD sX2.1 sX2.2.1 3 zed8 [100]
theorem sx0 : sH3.2.1.loan = ⟨2, 50, 10, false⟩ := by kernel_rfl
theorem sx1 : sX1.2.2 = 2 := by kernel_rfl
theorem sx2 : sX2.2.2 = 6 := by kernel_rfl
theorem sx3 : sX3.2.2 = 17 := by kernel_rfl
theorem so8 : DevOk sX1.2.1 := devOk_of (by kernel_rfl)
theorem so9 : DevOk sX2.2.1 := devOk_of (by kernel_rfl)
theorem so1 : DevOk dev0 := devOk_of (by kernel_rfl)
theorem so2 : DevOk sW1.2.1 := devOk_of (by kernel_rfl)
theorem so3 : DevOk sS1.2.1 := devOk_of (by kernel_rfl)
theorem so4 : DevOk sH1.2.1 := devOk_of (by kernel_rfl)
theorem so5 : DevOk dev2 := devOk_of (by kernel_rfl)
theorem so6 : DevOk sW3.2.1 := devOk_of (by kernel_rfl)
theorem so7 : DevOk sH3.2.1 := devOk_of (by kernel_rfl)
set_option maxRecDepth 100000 in
set_option maxHeartbeats 8000000 in
theorem sane_any (w : World) (hE : Env w.heap.size w) :
    Calls Tryz.prog 8 #[] w fun e w' => e = .returned (.bool true) ∧ Below w.heap.size w w' := by
  have HE := Lib.hid hE
  clear hE
  go_enter Tryz.func8, Tryz.ntmps8
  go_wp2_with (fail)
  ((with_reducible refine (New_sep (Sep.start w)).mono ?_); rintro _ w1 ⟨B, rfl, h1⟩)
  have HS1 := Lib.hid (h1.box (loanX loan0) 24)
  clear h1
  simp only [loanX, loan0] at HS1
  obtain ⟨zL, kL, fL⟩ := HS1.out.loc
  go_wp2_with (fail)
  have HO1 := Lib.hid (OpenDev_sep HS1.out.sw HE.out 2 loan0 (sO1.1, some dev0, 0) sn1')
  simp only [loanX, loan0] at HO1
  ((with_reducible refine HO1.out.mono ?_); rintro _ w2 ⟨X, rfl, h2⟩)
  clear HO1
  have HS2 := Lib.hid h2
  clear h2 HS1 zL kL fL
  go_wp2_with (fail)
  ((with_reducible refine (none_any w2).mono ?_); rintro _ w3 ⟨A3, rfl, hs3, hb3⟩)
  have HS3 := Lib.hid (HS2.out.below hb3)
  have HZ3 := Lib.hid hs3
  clear hs3 hb3 HS2
  go_wp2_with (fail)
  ((with_reducible refine (writeZ HS3.out HE.out so1 4 A3 HZ3.out [97] (by simp) sW1 rfl).mono ?_); rintro _ w4 ⟨rfl, h4⟩)
  rw [sn2]
  have HS4 := Lib.hid h4
  clear h4 HS3 HZ3
  go_wp2_with (fail)
  ((with_reducible refine (none_any w4).mono ?_); rintro _ w5 ⟨A5, rfl, hs5, hb5⟩)
  have HS5 := Lib.hid (HS4.out.below hb5)
  have HZ5 := Lib.hid hs5
  clear hs5 hb5 HS4
  go_wp2_with (fail)
  ((with_reducible refine (spendZ HS5.out HE.out so2 5 A5 HZ5.out 10 (by omega) sS1 rfl).mono ?_); rintro _ w6 ⟨rfl, h6⟩)
  rw [sn3]
  have HS6 := Lib.hid h6
  clear h6 HS5 HZ5
  go_wp2_with (fail)
  ((with_reducible refine (Hand_sep HS6.out so3.few so3.right sH1 rfl).mono ?_); rintro _ w7 ⟨A7, c7, f7, hv7, rfl, h7⟩)
  rw [sn4]
  have HS7 := Lib.hid h7
  clear h7 HS6
  go_wp2_with (fail)
  ((with_reducible refine (none_any w7).mono ?_); rintro _ w8 ⟨A8, rfl, hs8, hb8⟩)
  have HS8 := Lib.hid (HS7.out.below hb8)
  have HZ8 := Lib.hid hs8
  clear hs8 hb8 HS7
  go_wp2_with (fail)
  ((with_reducible refine (writeZ HS8.out.r4.r4 HE.out so4 6 A8 HZ8.out [98] (by simp) sW2 rfl).mono ?_); rintro _ w9 ⟨rfl, h9⟩)
  have HS9 := Lib.hid h9
  clear h9 HS8 HZ8
  rw [sn6]
  go_wp2_with (fail)
  have HCR := Lib.hid (Crash_sep HS9.out.sw [] none 0 (Sl.nil_ w 1 none) (by simp) (crashF sW2.1 []) rfl)
  simp only [List.length_nil] at HCR
  ((with_reducible refine HCR.out.mono ?_); rintro _ w10 ⟨rfl, h10⟩)
  clear HCR
  have HS10 := Lib.hid h10
  clear h10 HS9
  go_wp2_with (fail)
  ((with_reducible refine (Start_sep HS10.out sD2 rfl).mono ?_); rintro _ w11 ⟨rfl, h11⟩)
  have HS11 := Lib.hid h11
  clear h11 HS10
  obtain ⟨zL, kL, fL⟩ := HS11.out.r5.loc
  go_wp2_with (fail)
  have HO2 := Lib.hid (OpenDev_sep HS11.out HE.out 2 loan0 (sO2.1, some dev2, 0) sn7')
  simp only [loanX, loan0] at HO2
  ((with_reducible refine HO2.out.mono ?_); rintro _ w12 ⟨X2, rfl, h12⟩)
  have HS12 := Lib.hid h12
  have H7L : Hid (f7.length = 2) := Lib.hid (by have h := congrArg List.length hv7; rw [vsOf_len] at h; rw [h, ← List.length_map (f := fun x : EntV => x.text), sn5]; rfl)
  have HA2 := Lib.hid (All_dev h12 so5.few so5.right)
  clear h12 HS11 HO2 zL kL fL
  have h7l := H7L.out
  go_wp2_with (fail)
  ((with_reducible refine HA2.out.mono ?_); rintro _ w13 ⟨A13, c13, f13, hv13, rfl, h13⟩)
  have HS13 := Lib.hid h13.drop.drop
  have h13l : f13.length = 2 := by have h := congrArg List.length hv13; rw [vsOf_len, sn8] at h; exact h
  clear h13 HS12 HA2
  go_wp2_with (fail)
  ((with_reducible refine (none_any w13).mono ?_); rintro _ w14 ⟨A14, rfl, hs14, hb14⟩)
  have HS14 := Lib.hid (HS13.out.below hb14)
  have HZ14 := Lib.hid hs14
  clear hs14 hb14 HS13
  go_wp2_with (fail)
  ((with_reducible refine (writeZ HS14.out HE.out so5 6 A14 HZ14.out [99] (by simp) sW3 rfl).mono ?_); rintro _ w15 ⟨rfl, h15⟩)
  rw [sn9]
  have HS15 := Lib.hid h15
  clear h15 HS14 HZ14
  go_wp2_with (fail)
  ((with_reducible refine (Hand_sep HS15.out so6.few so6.right sH3 rfl).mono ?_); rintro _ w16 ⟨A16, c16, f16, hv16, rfl, h16⟩)
  rw [sn10]
  have HS16 := Lib.hid h16
  clear h16 HS15
  have h16l : f16.length = 3 := by have h := congrArg List.length hv16; rw [vsOf_len] at h; rw [h, ← List.length_map (f := fun x : EntV => x.text), sn11]; rfl
  have HW16 := Lib.hid h16l
  go_upto_region 21 with (fail)
  have e5 := sn5
  rw [← hv7] at e5
  obtain ⟨u7, hu7⟩ : ∃ v, f7[1]? = some v := ⟨_, List.getElem?_eq_getElem (by rw [H7L.out]; omega)⟩
  have t7 : u7.v.text = [33, 115, 49, 48, 59] := by have h := congrArg (fun l => l[1]?) e5; simpa [vsOf, hu7] using h
  obtain ⟨b7, o7, rfl, hb7, p0, p1, p2, p3, p4⟩ := ent_at HS16.out.r6.own.sl' hu7
  have e11 := sn11
  have e13 := sn13
  rw [← hv16] at e11 e13
  obtain ⟨u16, hu16⟩ : ∃ v, f16[2]? = some v := ⟨_, List.getElem?_eq_getElem (by rw [HW16.out]; omega)⟩
  have t16 : u16.v.text = [99] := by have h := congrArg (fun l => l[2]?) e11; simpa [vsOf, hu16] using h
  have n16 : u16.v.no = 2 := by have h := congrArg (fun l => l[2]?) e13; simpa [vsOf, hu16] using h
  obtain ⟨b16, o16, rfl, hb16, q0, q1, q2, q3, q4⟩ := ent_at HS16.out.own.sl' hu16
  rw [t7] at p4
  rw [t16] at q4
  rw [n16] at q1
  have HL := Lib.hid (Loan_sep HS16.out.r3)
  rw [sx0] at HL
  simp only [loanX] at HL
  clear e5 e11 e13 t7 t16 n16 h16l h7l h13l
  go_wp2_with (fail)
  ((with_reducible refine HL.out.mono ?_); rintro _ w17 ⟨rfl, h17⟩)
  have HS17 := Lib.hid h17.r4
  clear h17 HL HS16
  go_wp2_with (fail)
  ((with_reducible refine (none_any w17).mono ?_); rintro _ w18 ⟨A18, rfl, hs18, hb18⟩)
  have HS18 := Lib.hid (HS17.out.sw.below hb18)
  have HZ18 := Lib.hid hs18
  clear hs18 hb18 HS17
  go_wp2_with (fail)
  ((with_reducible refine (writeZ HS18.out HE.out so7 6 A18 HZ18.out [33, 120] (by simp) sX1 rfl).mono ?_); rintro _ w19 ⟨rfl, h19⟩)
  rw [sx1]
  have HS19 := Lib.hid h19
  clear h19 HS18 HZ18
  go_wp2_with (fail)
  ((with_reducible refine (none_any w19).mono ?_); rintro _ w20 ⟨A20, rfl, hs20, hb20⟩)
  have HS20 := Lib.hid (HS19.out.below hb20)
  have HZ20 := Lib.hid hs20
  clear hs20 hb20 HS19
  go_wp2_with (fail)
  ((with_reducible refine (spendZ HS20.out HE.out so8 6 A20 HZ20.out 41 (by omega) sX2 rfl).mono ?_); rintro _ w21 ⟨rfl, h21⟩)
  rw [sx2]
  have HS21 := Lib.hid h21
  clear h21 HS20 HZ20
  go_wp2_with (fail)
  ((with_reducible refine (none_any w21).mono ?_); rintro _ w22 ⟨A22, rfl, hs22, hb22⟩)
  have HS22 := Lib.hid (HS21.out.below hb22)
  have HZ22 := Lib.hid hs22
  clear hs22 hb22 HS21
  go_wp2_with (fail)
  ((with_reducible refine (writeZ HS22.out HE.out so9 3 A22 HZ22.out [100] (by simp) sX3 rfl).mono ?_); rintro _ w23 ⟨rfl, h23⟩)
  rw [sx3]
  have HS23 := Lib.hid h23.base
  clear h23 HS22 HZ22
  go_wp2_with (fail)
  go_ret
  exact ⟨rfl, HS23.out⟩
end Go.Proofs.YtjncmlglhegnaaaGreatDoor
namespace Go.Proofs.YtjncmlglhegnaaaGreatDoor
open Go.RowKit Go.Sort Go.Lib

/-- an act, as it came in -/
structure ActE where
  kind : Int
  day : Int
  n : Int
  s : List UInt8
  keep : List Int
  A : Option Addr
  c : Nat
def ActE.cells (a : ActE) : List Value := [.int .i64 a.kind, .int .i64 a.day, .int .i64 a.n, .string ⟨a.s.toArray⟩, .slice a.A a.keep.length a.c]
def ActE.ok (a : ActE) : Prop := i64In a.kind ∧ i64In a.day ∧ i64In a.n
def ActE.few (a : ActE) : Prop := (a.s.length ≤ 100 ∨ 2990 ≤ a.s.length ∧ a.s.length ≤ 3010) ∧ a.keep.length ≤ 40
def ActsAtE (w : World) (l : List ActE) : Prop := ∀ a ∈ l, Sl w 1 a.A a.keep.length (a.keep.map fun k => [.int .i64 k])
def FewActs (l : List ActE) : Prop := (∀ a ∈ l, a.few) ∧ l.length ≤ 25
theorem act_at {w : World} {A : Option Addr} {n k : Nat} {l : List ActE} {a : ActE} (h : Sl w 5 A n (l.map ActE.cells)) (hx : l[k]? = some a) : ∃ b o, A = some ⟨b, o, none⟩ ∧ b < w.heap.size ∧
    w.cell? ⟨b, o + k * 5, none⟩ = some (.int .i64 a.kind) ∧ w.cell? ⟨b, o + k * 5 + 1, none⟩ = some (.int .i64 a.day) ∧ w.cell? ⟨b, o + k * 5 + 2, none⟩ = some (.int .i64 a.n) ∧ w.cell? ⟨b, o + k * 5 + 3, none⟩ = some (.string ⟨a.s.toArray⟩) ∧ w.cell? ⟨b, o + k * 5 + 4, none⟩ = some (.slice a.A a.keep.length a.c) := by
  obtain ⟨b, o, hA, hb, hc⟩ := h.2 k a.cells (by rw [List.getElem?_map, hx]; rfl)
  exact ⟨b, o, hA, hb, hc 0 _ rfl, hc 1 _ rfl, hc 2 _ rfl, hc 3 _ rfl, hc 4 _ rfl⟩
def FewD (l : List ActE) (w : World) (e : Ending) (w' : World) : Prop := ∃ r : Bool, e = .returned (.bool r) ∧ (r = true → FewActs l) ∧ w = w'
set_option maxRecDepth 100000 in
set_option maxHeartbeats 4000000 in
theorem Few49_any (w : World) (A : Option Addr) (n c : Nat) (l : List ActE) (hs : Sl w 5 A n (l.map ActE.cells)) :
    Calls Tryz.prog 14 #[.slice A n c] w (FewD l w) := by
  have hll : l.length = n := by simpa using hs.1
  have HS := Lib.hid hs
  have HL := Lib.hid hll
  clear hs hll
  go_enter Tryz.func14, Tryz.ntmps14
  go_wp2_with (fail)
  go_loop [3] (fun i => ∃ k : Nat, k ≤ n ∧ k ≤ 26 ∧ i = .int .i64 k ∧ ∀ a ∈ l.take k, a.few) (fun i => n - (Go.RowKit.intOf i).toNat)
  case atStart => exact ⟨0, Nat.zero_le _, by omega, rfl, by simp⟩
  case round =>
    obtain ⟨k, hk, hk2, rfl, hf⟩ := hrel
    have HF := Lib.hid hf
    clear hf
    by_cases hlt : k < n
    · have hki : (k : Int) < (n : Int) := by omega
      by_cases h26 : k ≤ 25
      · obtain ⟨a, ha⟩ : ∃ a, l[k]? = some a := ⟨_, List.getElem?_eq_getElem (by rw [HL.out]; exact hlt)⟩
        obtain ⟨b, o, rfl, hbl, d0, d1, d2, d3, d4⟩ := act_at HS.out ha
        have hsl := strLen a.s
        have h25 : (k : Int) ≤ 25 := by omega
        have hk0 : (0 : Int) ≤ (k : Int) := by omega
        have hwk : IntKind.i64.wrap ((k : Int) + 1) = (k : Int) + 1 := IntWalk.i64_in _ (by omega)
        have HA := Lib.hid ha
        have HK := Lib.hid h26
        have HLT := Lib.hid hlt
        have hyes : a.few → ∀ x ∈ l.take (k + 1), x.few := fun h x hx => by
          rw [List.take_add_one, HA.out] at hx
          simp only [List.mem_append, Option.toList_some, List.mem_singleton] at hx
          rcases hx with hx | rfl
          · exact HF.out x hx
          · exact h
        have HY := Lib.hid hyes
        clear hyes ha d0 d1 d2 hk hk2 h26 hlt
        by_cases h2 : 40 < (a.keep.length : Int)
        · by_cases h1 : 100 < (a.s.length : Int)
          · by_cases h3 : (a.s.length : Int) < 2990
            · go_wp2_with (fail)
              go_ret
              exact ⟨false, rfl, fun h => by (first | cases h | simp at h), rfl⟩
            · by_cases h4 : 3010 < (a.s.length : Int)
              · go_wp2_with (fail)
                go_ret
                exact ⟨false, rfl, fun h => by (first | cases h | simp at h), rfl⟩
              · go_wp2_with (fail)
                go_ret
                exact ⟨false, rfl, fun h => by (first | cases h | simp at h), rfl⟩
          · go_wp2_with (fail)
            go_ret
            exact ⟨false, rfl, fun h => by (first | cases h | simp at h), rfl⟩
        by_cases h1 : 100 < (a.s.length : Int)
        · by_cases h3 : (a.s.length : Int) < 2990
          · go_wp2_with (fail)
            go_ret
            exact ⟨false, rfl, fun h => by (first | cases h | simp at h), rfl⟩
          · by_cases h4 : 3010 < (a.s.length : Int)
            · go_wp2_with (fail)
              go_ret
              exact ⟨false, rfl, fun h => by (first | cases h | simp at h), rfl⟩
            · have HFW : Hid a.few := ⟨.inr ⟨by omega, by omega⟩, by omega⟩
              go_wp2_with (fail)
              go_round
              case rel => exact ⟨k + 1, HLT.out, by have := HK.out; omega, by go_num, HY.out HFW.out⟩
              case measure => have := HLT.out; simp [Go.RowKit.intOf]; omega
        · have HFW : Hid a.few := ⟨.inl (by omega), by omega⟩
          go_wp2_with (fail)
          go_round
          case rel => exact ⟨k + 1, HLT.out, by have := HK.out; omega, by go_num, HY.out HFW.out⟩
          case measure => have := HLT.out; simp [Go.RowKit.intOf]; omega
      · have h25 : ¬ (k : Int) ≤ 25 := by omega
        have h25d : decide ((k : Int) ≤ 25) = false := decide_eq_false h25
        have hn25 : ¬ (n : Int) ≤ 25 := by omega
        have hn25d : decide ((n : Int) ≤ 25) = false := decide_eq_false hn25
        clear hk hk2 h26 hlt
        go_wp2_with (fail)
        go_ret
        exact ⟨false, by rw [← hn25d]; rfl, (fun h => by cases h), rfl⟩
    · obtain rfl : k = n := by omega
      have hki : (k : Int) ≤ (k : Int) := Int.le_refl _
      have HK := Lib.hid hk2
      clear hk hk2 hlt
      go_wp2_with (fail)
      go_ret
      refine ⟨decide ((k : Int) ≤ 25), rfl, fun h => ⟨fun a ha => ?_, by have := of_decide_eq_true h; have := HL.out; omega⟩, rfl⟩
      exact HF.out a (by rw [List.take_of_length_le (by rw [HL.out]; exact Nat.le_refl _)]; exact ha)
set_option maxRecDepth 100000 in
set_option maxHeartbeats 4000000 in
theorem fine_any49 (w : World) (A : Option Addr) (n c : Nat) (l : List ActE) (hs : Sl w 5 A n (l.map ActE.cells)) (u : Int) :
    Calls Tryz.prog 40 #[.slice A n c, .int .i64 u] w fun e w' => ∃ r : Bool, e = .returned (.bool r) ∧ (r = true → FewActs l ∧ 1 ≤ u ∧ u ≤ 1000000) ∧ w = w' := by
  have HF := Lib.hid (Few49_any w A n c l hs)
  clear hs
  go_enter Tryz.func40, Tryz.ntmps40
  go_wp2_with (fail)
  ((with_reducible refine (HF.out).mono ?_); rintro _ _ ⟨r, rfl, hr, rfl⟩)
  have HR := Lib.hid hr
  clear hr
  cases r
  · go_wp2_with (fail)
    go_ret
    exact ⟨false, rfl, (fun h => by cases h), rfl⟩
  by_cases h1 : 1 ≤ u
  · by_cases h2 : u ≤ 1000000
    · go_wp2_with (fail)
      go_ret
      exact ⟨true, rfl, fun _ => ⟨HR.out (by first | rfl | simp), h1, h2⟩, rfl⟩
    · have h2d : decide (u ≤ 1000000) = false := decide_eq_false h2
      go_wp2_with (fail)
      go_ret
      exact ⟨false, by rw [← h2d]; rfl, (fun h => by cases h), rfl⟩
  · have h1d : decide (1 ≤ u) = false := decide_eq_false h1
    go_wp2_with (fail)
    go_ret
    exact ⟨false, by rw [← h1d]; rfl, (fun h => by cases h), rfl⟩
end Go.Proofs.YtjncmlglhegnaaaGreatDoor
