/- kerbsideref03: Sum, Form, Forms, Records, walked. -/
import Derived.Test.YtjncmlglhegnaaaGreatDoorJrnL
import Derived.Test.YtjncmlglhegnaaaGreatDoorJrnV
import Derived.Test.YtjncmlglhegnaaaGreatDoorWireJ
import Derived.Test.YtjncmlglhegnaaaGreatDoorWireB2
import Derived.Deep.LoopGhost
import Derived.Deep.DeepCutAuto
import Derived.Deep.CutBlock
import Derived.BigQuiet
namespace Go.Proofs.YtjncmlglhegnaaaGreatDoor
open Go.RowKit Go.Sort Go.Lib

theorem Sep.boxGrownR {w0 w w' : World} {Rs : List Res} {b : Nat} {X X' : Array Value} (h : Sep w0 w (boxR b X :: Rs)) (hl : Loc w' b X') (hg : w.grownBy w' (some b)) : Sep w0 w' (boxR b X' :: Rs) :=
  h.step fun F hF => ⟨F, ⟨hl, hF.2⟩, fun _ hk => .inl hk, Keeps.grown hg fun k hk => (hF.2 k).2 (by injection hk with hk; exact hk.symm)⟩
set_option maxRecDepth 100000 in
set_option maxHeartbeats 2000000 in
theorem RSum_any (w : World) (s : List UInt8) (hs : s.length ≤ 1099511627776) (r : Int) (hr : sumF s = r) :
    Calls Tryz.prog 165 #[.string ⟨s.toArray⟩] w fun e w' => e = .returned (.int .i64 r) ∧ w = w' := by
  have hz := str_size s
  have HS := Lib.hid hs
  have HR := Lib.hid hr
  clear hs hr
  go_enter Tryz.func165, Tryz.ntmps165
  go_wp2_with (fail)
  go_loop [3, 4] (fun nv iv => ∃ (k : Nat) (n : Int), k ≤ s.length ∧ iv = .int .i64 (k : Int) ∧ nv = .int .i64 n ∧ 0 ≤ n ∧ n < 2147483647 ∧ sumGo (s.drop k) k n = r) (fun _ iv => s.length - (Go.RowKit.intOf iv).toNat)
  case atStart => exact ⟨0, 0, Nat.zero_le _, rfl, rfl, by omega, by omega, HR.out⟩
  case round =>
    obtain ⟨k, n, hk, rfl, rfl, hn0, hn1, hsum⟩ := hrel
    have HSUM := Lib.hid hsum
    clear hsum
    by_cases hlt : k < s.length
    · obtain ⟨c, hc⟩ : ∃ c, s[k]? = some c := ⟨_, List.getElem?_eq_getElem hlt⟩
      have hki : (k : Int) < (s.length : Int) := by omega
      have hk0 : (0 : Int) ≤ (k : Int) := by omega
      obtain ⟨hq, hix⟩ : ∃ hq : k < (⟨s.toArray⟩ : ByteArray).size, (⟨s.toArray⟩ : ByteArray)[k]'hq = c := ⟨by rw [hz]; exact hlt, str_at hc _⟩
      have hcb : c.toNat ≤ 255 := Nat.le_of_lt_succ c.toNat_lt
      have hm : (c.toNat : Int) * ((k : Int) + 1) ≤ 255 * 1099511627777 := Int.mul_le_mul (by omega) (by have := HS.out; omega) (by omega) (by omega)
      have hm0 : 0 ≤ (c.toNat : Int) * ((k : Int) + 1) := Int.mul_nonneg (by omega) (by omega)
      have HNX := Lib.hid ((sumGo_at (n := n) hc).symm.trans HSUM.out)
      obtain ⟨p, hp⟩ : ∃ p, (c.toNat : Int) * ((k : Int) + 1) = p := ⟨_, rfl⟩
      rw [hp] at hm hm0
      obtain ⟨q, hqq⟩ : ∃ q, (n + p) % 2147483647 = q := ⟨_, rfl⟩
      have hq0 : 0 ≤ q := by rw [← hqq]; exact Int.emod_nonneg _ (by decide)
      have hq1 : q < 2147483647 := by rw [← hqq]; exact Int.emod_lt_of_pos _ (by decide)
      have hnx := HNX.out
      rw [hp, hqq] at hnx
      replace HNX := Lib.hid hnx
      have w1 : IntKind.i64.wrap ((k : Int) + 1) = (k : Int) + 1 := IntWalk.i64_in _ (by have := HS.out; omega)
      have w2 : IntKind.i64.wrap p = p := IntWalk.i64_in _ (by omega)
      have w3 : IntKind.i64.wrap (n + p) = n + p := IntWalk.i64_in _ (by omega)
      have w4 : IntKind.i64.wrap q = q := IntWalk.i64_in _ (by omega)
      have w5 : (n + p).tmod 2147483647 = q := by rw [Int.tmod_eq_emod_of_nonneg (by omega)]; exact hqq
      have w6 : IntKind.i64.wrap (c.toNat : Int) = (c.toNat : Int) := IntWalk.i64_in _ (by omega)
      have HLT := Lib.hid hlt
      have HQ := Lib.hid (And.intro hq0 hq1)
      clear hnx hc hlt hk hm hm0 hcb hq0 hq1
      go_wp2_with (fail)
      go_round
      case rel => exact ⟨k + 1, q, HLT.out, by go_num, rfl, HQ.out.1, HQ.out.2, HNX.out⟩
      case measure => have := HLT.out; simp [Go.RowKit.intOf]; omega
    · obtain rfl : k = s.length := by omega
      have h := HSUM.out
      rw [List.drop_length] at h
      have HF : Hid (n = r) := Lib.hid h
      clear h hlt hk
      go_wp2_with (fail)
      go_ret
      exact ⟨by rw [HF.out]; rfl, rfl⟩
set_option maxRecDepth 100000 in
set_option maxHeartbeats 2000000 in
theorem RForm_any (w : World) (s : List UInt8) (hs : s.length ≤ 1099511627776) (r : List UInt8) (hr : formB s = r) :
    Calls Tryz.prog 166 #[.string ⟨s.toArray⟩] w fun e w' => e = .returned (.string ⟨r.toArray⟩) ∧ Below w.heap.size w w' := by
  obtain ⟨a, ha⟩ : ∃ a, encT s = a := ⟨_, rfl⟩
  obtain ⟨n, hn⟩ : ∃ n, sumF s = n := ⟨_, rfl⟩
  obtain ⟨b, hb⟩ : ∃ b, encN n = b := ⟨_, rfl⟩
  have hrng := sumF_rng s
  rw [hn] at hrng
  have C1 := Lib.hid (RText_any w s (by omega) a ha)
  have C2 := Lib.hid (fun W => RSum_any W s hs n hn)
  have C3 := Lib.hid (fun W => RNum_any W n (by omega) (by omega) b hb)
  have hla : a.length ≤ 2199023255552 := by rw [← ha]; have := encT_len (s := s) (by omega); omega
  have hlb : b.length ≤ 21 := by rw [← hb]; unfold encN; rw [if_neg (by omega)]; exact encI_len ⟨by omega, by omega⟩
  have y1 := str_size a
  have y2 := str_size b
  have i1 : ¬ 9223372036854775807 < a.length + b.length := by omega
  have hab : (⟨a.toArray⟩ : ByteArray) ++ (⟨b.toArray⟩ : ByteArray) = ⟨(a ++ b).toArray⟩ := str_app a b
  have HR : Hid (a ++ b = r) := Lib.hid (by rw [← hr]; unfold formB; rw [hn, ha, hb])
  clear hr ha hn hb hrng hla hlb hs
  go_enter Tryz.func166, Tryz.ntmps166
  go_wp2_with (fail)
  ((with_reducible refine (C1.out).mono ?_); rintro _ w1 ⟨rfl, hb1⟩)
  have HB1 := Lib.hid hb1
  clear hb1
  go_wp2_with (fail)
  ((with_reducible refine (C2.out _).mono ?_); rintro _ w2 ⟨rfl, hw2⟩; obtain rfl := hw2)
  go_wp2_with (fail)
  ((with_reducible refine (C3.out _).mono ?_); rintro _ w3 ⟨rfl, hb3⟩)
  have HB3 := Lib.hid (HB1.out.trans (hb3.mono HB1.out.size))
  clear hb3
  go_wp2_with (fail)
  go_ret
  exact ⟨by rw [← HR.out]; rfl, HB3.out⟩
set_option maxRecDepth 100000 in
set_option maxHeartbeats 2000000 in
theorem RForms_any (w : World) (A : Option Addr) (n c : Nat) (l : List (List UInt8)) (hl : Sl w 1 A n (l.map strC)) (hm : (formsB l).length ≤ 1099511627776) (r : List UInt8) (hr : formsB l = r) :
    Calls Tryz.prog 116 #[.slice A n c] w fun e w' => e = .returned (.string ⟨r.toArray⟩) ∧ Below w.heap.size w w' := by
  subst hr
  have hln : l.length = n := by have := hl.1; simpa using this
  have HL := Lib.hid hl
  have HLN := Lib.hid hln
  have HM := Lib.hid hm
  have HN : Hid (n ≤ 1099511627776) := Lib.hid (by have := formsB_len l; omega)
  clear hl hln hm
  go_enter Tryz.func116, Tryz.ntmps116
  go_wp2_with (fail)
  go_loopg [3, 4] n (fun gk sv iv wr => ∃ (k : Nat) (s : List UInt8), gk + k = n ∧ iv = .int .i64 (k : Int) ∧ sv = .string ⟨s.toArray⟩ ∧ formsB (l.take k) = s ∧ Below w.heap.size w wr)
  case atStart => exact ⟨0, [], by omega, rfl, rfl, rfl, Below.refl _ _⟩
  case round =>
  obtain ⟨k, s, hgk, rfl, rfl, hs, hb⟩ := hrel
  obtain ⟨wo, rfl⟩ : ∃ wo : World, wo = wr := ⟨_, rfl⟩
  have HGK := Lib.hid hgk
  have HS := Lib.hid hs
  have HB := Lib.hid hb
  clear hgk hs hb
  by_cases hlt : k < n
  case neg =>
    have hki : (n : Int) ≤ (k : Int) := by omega
    have HE : Hid (formsB l = s) := Lib.hid (by rw [← HS.out, List.take_of_length_le (by rw [HLN.out]; omega)])
    clear hlt
    go_wp2_with (fail)
    go_ret
    exact ⟨by rw [HE.out]; rfl, HB.out⟩
  obtain ⟨t, ht⟩ : ∃ t, l[k]? = some t := ⟨_, List.getElem?_eq_getElem (by rw [HLN.out]; exact hlt)⟩
  obtain ⟨b, o, rfl, hbl, hcell⟩ := (HL.out.below HB.out).at1 (k := k) (v := .string ⟨t.toArray⟩) (by rw [List.getElem?_map, ht]; rfl)
  obtain ⟨f, hf⟩ : ∃ f, formB t = f := ⟨_, rfl⟩
  have htk : l.take k ++ [t] = l.take (k + 1) := by rw [List.take_add_one, ht]; rfl
  have hnx : formsB (l.take (k + 1)) = s ++ f := by rw [← htk, formsB_app, formsB_one, HS.out, hf]
  have hle : (s ++ f).length ≤ 1099511627776 := by rw [← hnx]; have := (formsB_pre (List.take_prefix (k + 1) l)).length_le; have := HM.out; omega
  rw [List.length_append] at hle
  have hte : t.length ≤ (encT t).length := by unfold encT; simp; omega
  have htl : t.length ≤ f.length := by
    rw [← hf]
    unfold formB
    rw [List.length_append]
    omega
  clear hte
  have hki : (k : Int) < (n : Int) := by omega
  have hwk : IntKind.i64.wrap ((k : Int) + 1) = (k : Int) + 1 := IntWalk.i64_in _ (by have := HN.out; omega)
  have C1 := Lib.hid (RForm_any wo t (by omega) f hf)
  have y1 := str_size s
  have y2 := str_size f
  have i1 : ¬ 9223372036854775807 < s.length + f.length := by omega
  obtain ⟨x, hx⟩ : ∃ x, s ++ f = x := ⟨_, rfl⟩
  have hab : (⟨s.toArray⟩ : ByteArray) ++ (⟨f.toArray⟩ : ByteArray) = ⟨x.toArray⟩ := by rw [← hx]; exact str_app s f
  have HNX : Hid (formsB (l.take (k + 1)) = x) := Lib.hid (by rw [hnx, hx])
  have HLT := Lib.hid hlt
  clear hlt hle htl htk hnx hx hf ht
  go_wp2_with (fail)
  ((with_reducible refine (C1.out).mono ?_); rintro _ w1 ⟨rfl, hb1⟩)
  have HB1 := Lib.hid (HB.out.trans (hb1.mono HB.out.size))
  clear hb1
  go_wp2_with (fail)
  go_roundg (n - (k + 1))
  case measure => have := HLT.out; have := HGK.out; omega
  case rel => exact ⟨k + 1, x, by have := HLT.out; omega, by go_num, rfl, HNX.out, HB1.out⟩
set_option maxRecDepth 100000 in
set_option maxHeartbeats 8000000 in
theorem RRecords_any (w : World) (s : List UInt8) (hs : s.length ≤ 16777216) (l0 : List (List UInt8)) (hl0 : recsF s = l0) :
    Calls Tryz.prog 115 #[.string ⟨s.toArray⟩] w fun e w' => ∃ A c, e = .returned (.slice A l0.length c) ∧ Own w' w.heap.size 9 1 (.slice A l0.length c) l0.length (l0.map strC) ∧ Below w.heap.size w w' := by
  have HS := Lib.hid hs
  have HR := Lib.hid hl0
  have hz := str_size s
  clear hs hl0
  obtain ⟨i0, hi0, hi1, hi2, hi3⟩ := info_parts infoStr
  go_enter Tryz.func115, Tryz.ntmps115
  go_wp2_with (fail)
  ((with_reducible refine (ROpen_any _ s).mono ?_); rintro _ w1 ⟨rfl, h1, hb1⟩)
  obtain ⟨b, hb⟩ : ∃ b, w.heap.size = b := ⟨_, rfl⟩
  have H1 : Hid (Sep w w1 (boxR b #[.string ⟨s.toArray⟩, .bool false] :: [])) := Lib.hid (by rw [← hb]; exact (Sep.start w).boxAt hb1 h1 (Nat.le_refl _))
  rw [hb]
  clear h1 hb1 hb
  go_wp2_with (fail)
  go_loopg [3] (s.length + 1) (fun gk wv wr => ∃ (l : List (List UInt8)) (A4 : Option Addr) (n4 c4 m : Nat), wv = .slice A4 n4 c4 ∧ l.length = n4 ∧ (formsB l).length = m ∧ gk + m = s.length + 1 ∧ Wants s l ∧ Sep w wr (boxR b #[.string ⟨(s.drop m).toArray⟩, .bool false] :: ownR 9 1 (.slice A4 n4 c4) n4 (l.map strC) :: []))
  case atStart =>
    exact ⟨[], none, 0, 0, 0, rfl, rfl, rfl, rfl, Wants.nil s, (H1.out.ownNil 9 1).sw⟩
  case round =>
  obtain ⟨l, A4, n4, c4, m, rfl, hl4, hm, hgk, hwt, hS⟩ := hrel
  obtain ⟨wo, rfl⟩ : ∃ wo : World, wo = wr := ⟨_, rfl⟩
  have HS6 := Lib.hid hS
  have HL4 := Lib.hid hl4
  have HM := Lib.hid hm
  have HGK := Lib.hid hgk
  have HWT := Lib.hid hwt
  have hml : m ≤ s.length := by rw [← hm]; exact hwt.pre.length_le
  clear hS hl4 hm hgk hwt H1
  have HDONE : Hid (∀ W, stepJ (s.drop m) = none → (∃ X, Sep w W (boxR b X :: ownR 9 1 (.slice A4 n4 c4) n4 (l.map strC) :: [])) → ∃ A5 c5, Ending.returned (.slice A4 n4 c4) = .returned (.slice A5 l0.length c5) ∧ Own W w.heap.size 9 1 (.slice A5 l0.length c5) l0.length (l0.map strC) ∧ Below w.heap.size w W) := Lib.hid (fun W hn ⟨X, h⟩ => by
    have e : l = l0 := (HWT.out.done (by rw [HM.out]; exact hn)).trans HR.out
    have e4 : n4 = l0.length := by rw [← HL4.out, e]
    rw [e, e4] at h
    exact ⟨A4, c4, by rw [e4], h.drop.own, h.base⟩)
  have HRD : Hid (RdAt wo b ⟨s.drop m, false⟩) := Lib.hid HS6.out.loc
  by_cases hlt : m < s.length
  case neg =>
    as_aux_lemma =>
    have hnil : s.drop m = [] := List.drop_eq_nil_of_le (by omega)
    have HNO : Hid (stepJ (s.drop m) = none) := Lib.hid (by rw [hnil]; exact stepJ_nil)
    have HLF := Lib.hid (RLeft_any HRD.out 0 (by show ((s.drop m).length : Int) = 0; rw [hnil]; rfl))
    clear hlt hml hnil
    go_wp2_with (fail)
    ((with_reducible refine (HLF.out).mono ?_); rintro _ w7 ⟨rfl, hw7⟩; obtain rfl := hw7)
    go_wp2_with (fail)
    go_ret
    exact HDONE.out _ HNO.out ⟨_, HS6.out⟩
  obtain ⟨s2, hs2⟩ : ∃ s2, s.drop m = s2 := ⟨_, rfl⟩
  rw [hs2] at HRD HDONE
  have hl2 : s2.length = s.length - m := by rw [← hs2, List.length_drop]
  have hpos : (0 : Int) < ((s.length - m : Nat) : Int) := by omega
  have HLF := Lib.hid (RLeft_any HRD.out ((s.length - m : Nat) : Int) (by show (s2.length : Int) = _; rw [hl2]))
  obtain ⟨t, r1, ht⟩ : ∃ t r1, textF ⟨s2, false⟩ = (t, r1) := ⟨_, _, rfl⟩
  obtain ⟨n, r2, hn⟩ : ∃ n r2, natF r1 = (n, r2) := ⟨_, _, rfl⟩
  have htl : t.length ≤ s2.length := by have h := textF_len (r := ⟨s2, false⟩) (ok_of rfl); rw [ht] at h; exact h
  have hk1 : r1.ok ∧ r1.rest.length ≤ s2.length := by
    have h := textF_keeps (r := ⟨s2, false⟩) (ok_of rfl)
    rw [ht] at h
    refine ⟨h.1, ?_⟩
    rcases h.2 with h | h
    · exact Nat.le_of_lt h
    · simp only at h; rw [h]; exact Nat.zero_le _
  obtain ⟨q, hq⟩ : ∃ q, sumF t = q := ⟨_, rfl⟩
  have hst := stepJ_ref ht hn
  rw [hq] at hst
  have HRS : Hid (stepJ s2 = some t → r2 = ⟨s2.drop (formB t).length, false⟩) := Lib.hid (step_rest ht hn)
  have C1 := Lib.hid (fun (W : World) (h : RdAt W b ⟨s2, false⟩) => RText_M h (ok_of rfl) (by show s2.length ≤ _; have := HS.out; omega) (t, r1) ht)
  have C2 := Lib.hid (fun (W : World) (h : RdAt W b r1) => RNumM_any h (by have := HS.out; omega) (n, r2) hn)
  have C5 := Lib.hid (fun (W : World) => RSum_any W t (by have := HS.out; omega) q hq)
  have y4 := str_size t
  have HST := Lib.hid hst
  have HS2 := Lib.hid hs2
  have HL2 := Lib.hid hl2
  have HLT := Lib.hid hlt
  have HTL : Hid (t.length ≤ 16777216) := Lib.hid (by have := HS.out; omega)
  obtain ⟨rest2, bad2⟩ := r2
  clear ht hn htl hk1 hq hst hs2 hl2 hlt hml
  go_wp2_with (fail)
  ((with_reducible refine (HLF.out).mono ?_); rintro _ w7 ⟨rfl, hw7⟩; obtain rfl := hw7)
  go_wp2_with (fail)
  ((with_reducible refine (C1.out _ HRD.out).mono ?_); rintro _ w7 ⟨rfl, h7, g7⟩)
  have H7 := Lib.hid (HS6.out.boxGrownR h7 g7)
  have HRD7 : Hid (RdAt w7 b r1) := Lib.hid h7
  clear h7 g7
  go_wp2_with (fail)
  ((with_reducible refine (C2.out _ HRD7.out).mono ?_); rintro _ w8 ⟨rfl, h8, g8⟩)
  have H8 := Lib.hid (H7.out.boxGrownR h8 g8)
  obtain ⟨z8, k8, f8⟩ := h8
  clear g8
  cases bad2
  case true =>
    as_aux_lemma =>
    have HNO : Hid (stepJ s2 = none) := Lib.hid (by rw [HST.out, if_neg (fun h => by cases h.1)])
    go_wp2_with (fail)
    go_ret
    exact HDONE.out _ HNO.out ⟨_, H8.out⟩
  by_cases h20 : 20000 < (t.length : Int)
  case pos =>
    as_aux_lemma =>
    have HNO : Hid (stepJ s2 = none) := Lib.hid (by rw [HST.out, if_neg (fun h => by have := h.2.1; omega)])
    go_wp2_with (fail)
    go_ret
    exact HDONE.out _ HNO.out ⟨_, H8.out⟩
  have h20i : (t.length : Int) ≤ 20000 := by omega
  by_cases h9 : n = q
  case neg =>
    as_aux_lemma =>
    have h9b : (n == q) = false := by rw [beq_eq_false_iff_ne]; exact h9
    have h9n : (n != q) = true := by rw [bne_iff_ne]; exact h9
    have HNO : Hid (stepJ s2 = none) := Lib.hid (by rw [HST.out, if_neg (fun h => h9 h.2.2)])
    clear h9 h20
    go_wp2_with (fail)
    ((with_reducible refine (C5.out _).mono ?_); rintro _ w11 ⟨rfl, hw11⟩; obtain rfl := hw11)
    go_wp2_with (fail)
    go_ret
    exact HDONE.out _ HNO.out ⟨_, H8.out⟩
  subst h9
  as_aux_lemma =>
  have HYES : Hid (stepJ s2 = some t) := Lib.hid (by rw [HST.out, if_pos ⟨rfl, by omega, rfl⟩])
  have HB8 := Lib.hid H8.out.sw
  have HO := Lib.hid ((HB8.out.alloc (.cells #[.string ⟨t.toArray⟩] 9)).own)
  have HSZ : Hid (w.heap.size ≤ w8.heap.size) := Lib.hid H8.out.base.size
  have HN4 : Hid (n4 ≤ 16777216) := Lib.hid (by have h1 := formsB_len l; have h2 := HLT.out; have h3 := HM.out; have h4 := HL4.out; have h5 := HS.out; omega)
  clear h20
  go_wp2_with (fail)
  ((with_reducible refine (C5.out _).mono ?_); rintro _ w11 ⟨rfl, hw11⟩; obtain rfl := hw11)
  go_wp2_with (at_builtin; refine wpList_append_sl _ rfl (.tmp 32) (.tmp 34) _ rfl w.heap.size 9 i0 _ 1 16 Tryz.underlying104 hi0 hi1 hi2 hi3 rfl (by omega) (.slice A4 n4 c4) n4 (l.map strC) rfl HO.out (some ⟨w8.heap.size, 0, none⟩) 1 1 [[.string ⟨t.toArray⟩]] rfl (Sl.new_ _ _ _) (by simp) (by simp [Value.oneCell']) (by have := HN4.out; simp only [maxLen]; omega) (by have := HN4.out; omega) (by have := HSZ.out; simp only [World.size_alloc]; omega) ?_; intro A7 c7 w12 hown hg hat; have HX := Lib.hid ((HB8.out.alloc (.cells #[.string ⟨t.toArray⟩] 9)).grown hown hg hat); clear hown hg hat)
  obtain ⟨e1, he1⟩ : ∃ e1, m + (formB t).length = e1 := ⟨_, rfl⟩
  have HE1 := Lib.hid he1
  clear he1
  go_roundg (s.length + 1 - e1)
  case measure => have h1 := HE1.out; have h2 := formB_pos t; have := HGK.out; have := HLT.out; omega
  case rel =>
    have hm : l.map strC ++ [[.string ⟨t.toArray⟩]] = (l ++ [t]).map strC := by rw [List.map_append]; rfl
    have h := HX.out
    have hr2 := HRS.out HYES.out
    rw [hm] at h
    have hfl : (formB t).length ≤ s2.length := (stepJ_iff.1 HYES.out).2.length_le
    refine ⟨l ++ [t], A7, n4 + 1, c7, e1, rfl, by rw [List.length_append, HL4.out]; rfl, by rw [formsB_app, formsB_one, List.length_append, HM.out, HE1.out], by have := HE1.out; have := HL2.out; have := HLT.out; omega, HWT.out.step (by rw [HM.out, HS2.out]; exact HYES.out), ?_⟩
    have e : s.drop e1 = s2.drop (formB t).length := by rw [← HS2.out, List.drop_drop, HE1.out]
    have e5 : rest2 = s2.drop (formB t).length := congrArg RdV.rest hr2
    rw [e, ← e5]
    exact h.sw
end Go.Proofs.YtjncmlglhegnaaaGreatDoor
