/- journal: Sum, form, walked. -/
/- journal: read, walked. -/
import Derived.Test.YtjncmlglhegnaaaGreatDoorDevP
import Derived.Test.YtjncmlglhegnaaaGreatDoorChainF
import Derived.Test.YtjncmlglhegnaaaGreatDoorChainJ
import Derived.WalkMore
namespace Go.Proofs.YtjncmlglhegnaaaGreatDoor
open Go.RowKit Go.Sort Go.Lib

theorem sumGo_at {s : List UInt8} {k : Nat} {c : UInt8} {n : Int} (h : s[k]? = some c) : sumGo (s.drop k) k n = sumGo (s.drop (k + 1)) (k + 1) ((n + (c.toNat : Int) * ((k : Int) + 1)) % 2147483647) := by
  obtain ⟨h1, h2⟩ := List.getElem?_eq_some_iff.1 h
  rw [List.drop_eq_getElem_cons h1, h2]
  rfl
set_option maxRecDepth 100000 in
set_option maxHeartbeats 2000000 in
theorem Sum_any (w : World) (s : List UInt8) (hs : s.length ≤ 1099511627776) (r : Int) (hr : sumF s = r) :
    Calls Tryz.prog 156 #[.string ⟨s.toArray⟩] w fun e w' => e = .returned (.int .i64 r) ∧ w = w' := by
  have hz := str_size s
  have HS := Lib.hid hs
  have HR := Lib.hid hr
  clear hs hr
  go_enter Tryz.func156, Tryz.ntmps156
  go_wp2_with (fail)
  go_loop [3, 7] (fun nv iv => ∃ (k : Nat) (n : Int), k ≤ s.length ∧ iv = .int .i64 (k : Int) ∧ nv = .int .i64 n ∧ 0 ≤ n ∧ n < 2147483647 ∧ sumGo (s.drop k) k n = r) (fun _ iv => s.length - (Go.RowKit.intOf iv).toNat)
  case atStart => exact ⟨0, 0, Nat.zero_le _, rfl, rfl, by omega, by omega, HR.out⟩
  case round =>
    obtain ⟨k, n, hk, rfl, rfl, hn0, hn1, hsum⟩ := hrel
    have HSUM := Lib.hid hsum
    clear hsum
    by_cases hlt : k < s.length
    · obtain ⟨c, hc⟩ : ∃ c, s[k]? = some c := ⟨_, List.getElem?_eq_getElem hlt⟩
      have hki : (k : Int) < (s.length : Int) := by omega
      have hk0 : (0 : Int) ≤ (k : Int) := by omega
      obtain ⟨hq, hix⟩ : ∃ hq : k < (⟨s.toArray⟩ : ByteArray).size, (⟨s.toArray⟩ : ByteArray)[k]'hq = c := ⟨by rw [hz]; exact hlt, str_at hc _⟩
      have hcb : c.toNat ≤ 255 := Nat.le_of_lt_succ c.toNat_lt
      have hm : (c.toNat : Int) * ((k : Int) + 1) ≤ 255 * 1099511627777 := Int.mul_le_mul (by omega) (by have := HS.out; omega) (by omega) (by omega)
      have hm0 : 0 ≤ (c.toNat : Int) * ((k : Int) + 1) := Int.mul_nonneg (by omega) (by omega)
      have HNX := Lib.hid ((sumGo_at (n := n) hc).symm.trans HSUM.out)
      obtain ⟨p, hp⟩ : ∃ p, (c.toNat : Int) * ((k : Int) + 1) = p := ⟨_, rfl⟩
      rw [hp] at hm hm0
      obtain ⟨q, hqq⟩ : ∃ q, (n + p) % 2147483647 = q := ⟨_, rfl⟩
      have hq0 : 0 ≤ q := by rw [← hqq]; exact Int.emod_nonneg _ (by decide)
      have hq1 : q < 2147483647 := by rw [← hqq]; exact Int.emod_lt_of_pos _ (by decide)
      have hnx := HNX.out
      rw [hp, hqq] at hnx
      replace HNX := Lib.hid hnx
      have w1 : IntKind.i64.wrap ((k : Int) + 1) = (k : Int) + 1 := IntWalk.i64_in _ (by have := HS.out; omega)
      have w2 : IntKind.i64.wrap p = p := IntWalk.i64_in _ (by omega)
      have w3 : IntKind.i64.wrap (n + p) = n + p := IntWalk.i64_in _ (by omega)
      have w4 : IntKind.i64.wrap q = q := IntWalk.i64_in _ (by omega)
      have w5 : (n + p).tmod 2147483647 = q := by rw [Int.tmod_eq_emod_of_nonneg (by omega)]; exact hqq
      have w6 : IntKind.i64.wrap (c.toNat : Int) = (c.toNat : Int) := IntWalk.i64_in _ (by omega)
      have HLT := Lib.hid hlt
      have HQ := Lib.hid (And.intro hq0 hq1)
      clear hnx hc hlt hk hm hm0 hcb hq0 hq1
      go_wp2_with (fail)
      go_round
      case rel => exact ⟨k + 1, q, HLT.out, by go_num, rfl, HQ.out.1, HQ.out.2, HNX.out⟩
      case measure => have := HLT.out; simp [Go.RowKit.intOf]; omega
    · obtain rfl : k = s.length := by omega
      have h := HSUM.out
      rw [List.drop_length] at h
      have HF : Hid (n = r) := Lib.hid h
      clear h hlt hk
      go_wp2_with (fail)
      go_ret
      exact ⟨by rw [HF.out]; rfl, rfl⟩
set_option maxRecDepth 100000 in
set_option maxHeartbeats 2000000 in
theorem form_any {B0 : Nat} (w : World) (hE : Env B0 w) (hB0 : B0 ≤ w.heap.size) (s : List UInt8) (hs : s.length ≤ 1099511627776) (r : List UInt8) (hr : formB s = r) :
    Calls Tryz.prog 155 #[.string ⟨s.toArray⟩] w fun e w' => e = .returned (.string ⟨r.toArray⟩) ∧ Below w.heap.size w w' := by
  obtain ⟨a, ha⟩ : ∃ a, encT s = a := ⟨_, rfl⟩
  obtain ⟨n, hn⟩ : ∃ n, sumF s = n := ⟨_, rfl⟩
  obtain ⟨b, hb⟩ : ∃ b, encN n = b := ⟨_, rfl⟩
  have hrng := sumF_rng s
  rw [hn] at hrng
  have C1 := Lib.hid (Text_any w hE.isTab s (by omega) a ha)
  have C2 := Lib.hid (fun W => Sum_any W s hs n hn)
  have C3 := Lib.hid (fun W (hb' : Below w.heap.size w W) => Num_any W (hE.below (hb'.mono hB0)).isTab n (by omega) (by omega) b hb)
  have hla : a.length ≤ 2199023255552 := by rw [← ha]; have := encT_len (s := s) (by omega); omega
  have hlb : b.length ≤ 21 := by rw [← hb]; unfold encN; rw [if_neg (by omega)]; exact encI_len ⟨by omega, by omega⟩
  have y1 := str_size a
  have y2 := str_size b
  have i1 : ¬ 9223372036854775807 < a.length + b.length := by omega
  have hab : (⟨a.toArray⟩ : ByteArray) ++ (⟨b.toArray⟩ : ByteArray) = ⟨(a ++ b).toArray⟩ := str_app a b
  have HR : Hid (a ++ b = r) := Lib.hid (by rw [← hr]; unfold formB; rw [hn, ha, hb])
  clear hr ha hn hb hrng hla hlb hs hE hB0
  go_enter Tryz.func155, Tryz.ntmps155
  go_wp2_with (fail)
  ((with_reducible refine (C1.out).mono ?_); rintro _ w1 ⟨rfl, hb1⟩)
  have HB1 := Lib.hid hb1
  clear hb1
  go_wp2_with (fail)
  ((with_reducible refine (C2.out _).mono ?_); rintro _ w2 ⟨rfl, hw2⟩; obtain rfl := hw2)
  go_wp2_with (fail)
  ((with_reducible refine (C3.out _ HB1.out).mono ?_); rintro _ w3 ⟨rfl, hb3⟩)
  have HB3 := Lib.hid (HB1.out.trans (hb3.mono HB1.out.size))
  clear hb3
  go_wp2_with (fail)
  go_ret
  exact ⟨by rw [← HR.out]; rfl, HB3.out⟩
end Go.Proofs.YtjncmlglhegnaaaGreatDoor
namespace Go.Proofs.YtjncmlglhegnaaaGreatDoor
open Go.RowKit Go.Sort Go.Lib

theorem stepJ_is {s t : List UInt8} {n : Int} {r1 r2 : RdV} (h1 : textF ⟨s, false⟩ = (t, r1)) (h2 : natF r1 = (n, r2)) : stepJ s = if t.length ≤ 20000 ∧ n = sumF t ∧ s.take (formB t).length = formB t then some t else none := by
  unfold stepJ
  rw [h1]
  simp only [h2]
theorem strs_len (ls : List (List UInt8)) : ∀ x ∈ ls.map strC, x.length = 1 := by
  intro x hx
  obtain ⟨l, _, rfl⟩ := List.mem_map.1 hx
  rfl
theorem strs_one (ls : List (List UInt8)) : ∀ x ∈ ls.map strC, ∀ u ∈ x, u.oneCell' = true := by
  intro x hx u hu
  obtain ⟨l, _, rfl⟩ := List.mem_map.1 hx
  simp only [strC, List.mem_singleton] at hu
  subst hu
  rfl
/-- what read has read -/
structure ReadRel (w : World) (s : List UInt8) (A : Option Addr) (c : Nat) (l : List (List UInt8)) (wr : World) : Prop where
  own : Own wr w.heap.size 9 1 (.slice A l.length c) l.length (l.map strC)
  below : Below w.heap.size w wr
  more : l ++ recsF (s.drop (formsB l).length) = recsF s
  len : (formsB l).length ≤ s.length
theorem ReadRel.done {w wr : World} {s : List UInt8} {A : Option Addr} {c : Nat} {l : List (List UInt8)} (h : ReadRel w s A c l wr) (hn : stepJ (s.drop (formsB l).length) = none) : l = recsF s := by
  have h1 := h.more
  rw [recsF_none hn, List.append_nil] at h1
  exact h1
set_option maxRecDepth 100000 in
set_option maxHeartbeats 16000000 in
theorem read_any {B0 : Nat} (w : World) (hE : Env B0 w) (hB0 : B0 ≤ w.heap.size) (s : List UInt8) (hs : s.length ≤ 16777216) :
    Calls Tryz.prog 106 #[.string ⟨s.toArray⟩] w fun e w' => ∃ A c, e = .returned (.tuple #[.slice A (recsF s).length c, .int .i64 ((formsB (recsF s)).length : Int)]) ∧ Own w' w.heap.size 9 1 (.slice A (recsF s).length c) (recsF s).length ((recsF s).map strC) ∧ Below w.heap.size w w' := by
  have HE := Lib.hid (fun W (hb : Below w.heap.size w W) => hE.below (hb.mono hB0))
  have HS := Lib.hid hs
  have HB0 := Lib.hid hB0
  have hz := str_size s
  clear hE hs hB0
  obtain ⟨i0, hi0, hi1, hi2, hi3⟩ := info_parts infoStr
  go_enter Tryz.func106, Tryz.ntmps106
  go_wp2
  go_step3
  go_wp2
  go_step3
  go_wp2
  go_loopw [4, 5] (fun lv bv wr => ∃ (A : Option Addr) (c : Nat) (l : List (List UInt8)), lv = .slice A l.length c ∧ bv = .int .i64 ((formsB l).length : Int) ∧ ReadRel w s A c l wr) (fun _ bv _ => s.length - (Go.RowKit.intOf bv).toNat)
  case atStart => exact ⟨none, 0, [], rfl, rfl, Own.nil_ _ _ _ _, Below.refl _ _, rfl, Nat.zero_le _⟩
  case round =>
    obtain ⟨A, c, l, rfl, rfl, hrel⟩ := hrel
    obtain ⟨wo, rfl⟩ : ∃ wo : World, wo = wr := ⟨_, rfl⟩
    have HREL := Lib.hid hrel
    clear hrel
    obtain ⟨m, hm⟩ : ∃ m, (formsB l).length = m := ⟨_, rfl⟩
    have HM := Lib.hid hm
    have hml : m ≤ s.length := by rw [← hm]; exact HREL.out.len
    rw [hm]
    clear hm
    by_cases hlt : m < s.length
    case neg =>
      obtain rfl : m = s.length := by omega
      have HD : Hid (l = recsF s) := Lib.hid (HREL.out.done (by rw [HM.out, List.drop_length]; exact stepJ_nil))
      clear hlt hml
      go_wp2_with (fail)
      first | go_ret2 | (rw [Exit.noGoto_ret]; go_ret2)
      have e := HD.out
      refine ⟨A, c, ?_, ?_, HREL.out.below⟩
      · rw [← e, HM.out]; rfl
      · rw [← e]; exact HREL.out.own
    have hmi : (m : Int) < (s.length : Int) := by omega
    have hm0 : (0 : Int) ≤ (m : Int) := by omega
    obtain ⟨s2, hs2⟩ : ∃ s2, s.drop m = s2 := ⟨_, rfl⟩
    have hex : (⟨s.toArray⟩ : ByteArray).extract m s.length = ⟨s2.toArray⟩ := by rw [str_ext, List.take_length, hs2]
    have hl2 : s2.length = s.length - m := by rw [← hs2, List.length_drop]
    obtain ⟨t, r1, ht⟩ : ∃ t r1, textF ⟨s2, false⟩ = (t, r1) := ⟨_, _, rfl⟩
    obtain ⟨n, r2, hn⟩ : ∃ n r2, natF r1 = (n, r2) := ⟨_, _, rfl⟩
    have htl : t.length ≤ s2.length := by have h := textF_len (r := ⟨s2, false⟩) (ok_of rfl); rw [ht] at h; exact h
    have hk1 : r1.ok ∧ r1.rest.length ≤ s2.length := by
      have h := textF_keeps (r := ⟨s2, false⟩) (ok_of rfl)
      rw [ht] at h
      refine ⟨h.1, ?_⟩
      rcases h.2 with h | h
      · exact Nat.le_of_lt h
      · simp only at h; rw [h]; exact Nat.zero_le _
    obtain ⟨f, hf⟩ : ∃ f, formB t = f := ⟨_, rfl⟩
    obtain ⟨q, hq⟩ : ∃ q, sumF t = q := ⟨_, rfl⟩
    have hst := stepJ_is ht hn
    rw [hf, hq] at hst
    have hfl : f.length ≤ s2.length + 60 := by
      rw [← hf]
      have h1 := encT_len (s := t) (by have := HS.out; omega)
      have h2 := sumF_rng t
      have h3 : (encN (sumF t)).length ≤ 21 := by unfold encN; rw [if_neg (by omega)]; exact encI_len ⟨by omega, by omega⟩
      unfold formB
      rw [List.length_append]
      omega
    have C1 := Lib.hid (fun (W : World) (b : Nat) (h : RdAt W b ⟨s2, false⟩) (hb : Below w.heap.size w W) (hB : w.heap.size ≤ b) => Text_M h (HE.out W hb) (Nat.le_trans HB0.out hB) (ok_of rfl) (by show s2.length ≤ _; have := HS.out; omega) (t, r1) ht)
    have C2 := Lib.hid (fun (W : World) (b : Nat) (h : RdAt W b r1) (hb : Below w.heap.size w W) (hB : w.heap.size ≤ b) => NumM_any h (HE.out W hb) (Nat.le_trans HB0.out hB) (by have := HS.out; omega) (n, r2) hn)
    have C3 := Lib.hid (fun (W : World) (hb : Below w.heap.size w W) => form_any W (HE.out W hb) (Nat.le_trans HB0.out hb.size) t (by have := HS.out; omega) f hf)
    have C4 := Lib.hid (fun (W : World) => Sum_any W t (by have := HS.out; omega) q hq)
    have HST := Lib.hid hst
    have HS2 := Lib.hid hs2
    have HFT := Lib.hid hf
    have htz := str_size t
    have hfz := str_size f
    have HTL : Hid (t.length ≤ 16777216) := Lib.hid (by have := HS.out; omega)
    have HFL : Hid (f.length ≤ 16777276) := Lib.hid (by have := HS.out; omega)
    have HL2 := Lib.hid hl2
    have HLT := Lib.hid hlt
    clear ht hn htl hk1 hf hq hst hfl hs2 hl2 hlt hml
    go_wp2_with (fail)
    ((with_reducible refine (Open_any _ s2).mono ?_); rintro _ w1 ⟨rfl, h1, hb1⟩)
    obtain ⟨b, hb⟩ : ∃ b, b = wo.heap.size := ⟨_, rfl⟩
    rw [← hb] at h1 ⊢
    have HBW : Hid (w.heap.size ≤ b) := Lib.hid (by rw [hb]; exact HREL.out.below.size)
    have HNE : Hid ((Value.slice A l.length c).ownBlock = none ∨ (Value.slice A l.length c).ownBlock ≠ some b) := Lib.hid (.inr fun h => by have := (HREL.out.own.lt b h).2; omega)
    have HB1 := Lib.hid (HREL.out.below.trans (hb1.mono HREL.out.below.size))
    have HO1 := Lib.hid (HREL.out.own.below hb1)
    have H1 := Lib.hid h1
    clear h1 hb1 hb
    go_wp2_with (fail)
    ((with_reducible refine (C1.out _ b H1.out HB1.out HBW.out).mono ?_); rintro _ w2 ⟨rfl, h2, g2⟩)
    have HB2 := Lib.hid (HB1.out.trans (below_row HBW.out HB1.out.size g2))
    have HO2 := Lib.hid (HO1.out.kept g2 HNE.out)
    have H2 := Lib.hid h2
    clear h2 g2 HB1 HO1 H1
    go_wp2_with (fail)
    ((with_reducible refine (C2.out _ b H2.out HB2.out HBW.out).mono ?_); rintro _ w3 ⟨rfl, h3, g3⟩)
    have HB3 := Lib.hid (HB2.out.trans (below_row HBW.out HB2.out.size g3))
    have HO3 := Lib.hid (HO2.out.kept g3 HNE.out)
    clear h3 g3 HB2 HO2 H2
    go_wp2_with (fail)
    ((with_reducible refine (C3.out _ HB3.out).mono ?_); rintro _ w4 ⟨rfl, hb4⟩)
    have HB4 := Lib.hid (HB3.out.trans (hb4.mono HB3.out.size))
    have HO4 := Lib.hid (HO3.out.below hb4)
    clear hb4 HB3 HO3 HNE
    have HSTOP : Hid (stepJ s2 = none → ∃ A1 c1, Ending.returned (.tuple #[.slice A l.length c, .int .i64 (m : Int)]) = .returned (.tuple #[.slice A1 (recsF s).length c1, .int .i64 ((formsB (recsF s)).length : Int)]) ∧ Own w4 w.heap.size 9 1 (.slice A1 (recsF s).length c1) (recsF s).length ((recsF s).map strC) ∧ Below w.heap.size w w4) := Lib.hid (fun hn => by
      have e := HREL.out.done (by rw [HM.out, HS2.out]; exact hn)
      refine ⟨A, c, ?_, ?_, HB4.out⟩
      · rw [← e, HM.out]
      · rw [← e]; exact HO4.out)
    by_cases h8 : t.length ≤ 20000
    case neg =>
      have h8i : 20000 < (t.length : Int) := by omega
      have hno : stepJ s2 = none := by rw [HST.out, if_neg (fun h => h8 h.1)]
      have HNO := Lib.hid hno
      clear h8 hno
      go_wp2_with (fail)
      first | go_ret2 | (rw [Exit.noGoto_ret]; go_ret2)
      exact HSTOP.out HNO.out
    have h8i : (t.length : Int) ≤ 20000 := by omega
    by_cases h9 : n = q
    case neg =>
      have h9b : (n == q) = false := by rw [beq_eq_false_iff_ne]; exact h9
      have h9n : (n != q) = true := by rw [bne_iff_ne]; exact h9
      have hno : stepJ s2 = none := by rw [HST.out, if_neg (fun h => h9 h.2.1)]
      have HNO := Lib.hid hno
      clear h8 h9 hno
      go_wp2_with (fail)
      ((with_reducible refine (C4.out _).mono ?_); rintro _ w5 ⟨rfl, hw5⟩; obtain rfl := hw5)
      go_wp2_with (fail)
      first | go_ret2 | (rw [Exit.noGoto_ret]; go_ret2)
      exact HSTOP.out HNO.out
    subst h9
    have hwm : IntKind.i64.wrap ((s.length : Int) - (m : Int)) = (s.length : Int) - (m : Int) := IntWalk.i64_in _ (by have := HS.out; omega)
    by_cases h10 : f.length ≤ s2.length
    case neg =>
      have h10i : (s.length : Int) - (m : Int) < (f.length : Int) := by have := HL2.out; omega
      have hno : stepJ s2 = none := by
        rw [HST.out, if_neg (fun h => h10 ?_)]
        have h2 := congrArg List.length h.2.2
        rw [List.length_take] at h2
        omega
      have HNO := Lib.hid hno
      clear h8 h10 hno
      go_wp2_with (fail)
      ((with_reducible refine (C4.out _).mono ?_); rintro _ w5 ⟨rfl, hw5⟩; obtain rfl := hw5)
      go_wp2_with (fail)
      first | go_ret2 | (rw [Exit.noGoto_ret]; go_ret2)
      exact HSTOP.out HNO.out
    have h10i : (f.length : Int) ≤ (s.length : Int) - (m : Int) := by have := HL2.out; omega
    have h10d : decide ((s.length : Int) - (m : Int) < (f.length : Int)) = false := decide_eq_false (by omega)
    have hwf : IntKind.i64.wrap ((m : Int) + (f.length : Int)) = ((m + f.length : Nat) : Int) := by rw [IntWalk.i64_in _ (by have := HS.out; have := HLT.out; omega)]; omega
    obtain ⟨e1, he1⟩ : ∃ e1, m + f.length = e1 := ⟨_, rfl⟩
    rw [he1] at hwf
    have hme : m ≤ e1 := by omega
    have hmei : (m : Int) ≤ (e1 : Int) := by omega
    have hesi : (e1 : Int) ≤ (s.length : Int) := by have := HL2.out; omega
    have hee : (m : Int) + (f.length : Int) = (e1 : Int) := by omega
    have hwe : IntKind.i64.wrap (e1 : Int) = (e1 : Int) := IntWalk.i64_in _ (by have := HS.out; omega)
    have he0 : (0 : Int) ≤ (e1 : Int) := by omega
    obtain ⟨x, hx⟩ : ∃ x, s2.take f.length = x := ⟨_, rfl⟩
    have hex2 : (⟨s.toArray⟩ : ByteArray).extract m e1 = ⟨x.toArray⟩ := by
      rw [str_ext, ← hx, ← HS2.out, ← he1, List.drop_take, Nat.add_sub_cancel_left]
    by_cases hxf : x = f
    case neg =>
      have hxb : (x == f) = false := beq_eq_false_iff_ne.2 hxf
      have hxn : (x != f) = true := bne_iff_ne.2 hxf
      have hno : stepJ s2 = none := by rw [HST.out, if_neg (fun h => hxf (hx.symm.trans h.2.2))]
      have HNO := Lib.hid hno
      clear h8 h10 hno hxf hx
      go_wp2_with (fail)
      ((with_reducible refine (C4.out _).mono ?_); rintro _ w5 ⟨rfl, hw5⟩; obtain rfl := hw5)
      go_wp2_with (fail)
      first | go_ret2 | (rw [Exit.noGoto_ret]; go_ret2)
      exact HSTOP.out HNO.out
    have HYES : Hid (stepJ s2 = some t) := Lib.hid (by rw [HST.out, if_pos ⟨h8, rfl, hx.trans hxf⟩])
    have HE1 := Lib.hid he1
    have H10 := Lib.hid h10
    subst hxf
    clear h8 h10 hx he1
    have hlen : l.length ≤ s.length := by have := formsB_len l; have := HREL.out.len; omega
    have HLN := Lib.hid hlen
    clear hlen
    go_wp2_with (fail)
    ((with_reducible refine (C4.out _).mono ?_); rintro _ w5 ⟨rfl, hw5⟩; obtain rfl := hw5)
    go_wp2_with (first
      | (at_builtin
         have t3 := Nat.le_trans HB4.out.size (alloc_le w4 (.cells #[.string ⟨t.toArray⟩] 9))
         have q1 := HO4.out.alloc (.cells #[.string ⟨t.toArray⟩] 9)
         have q2 := Sl.new_ w4 9 [.string ⟨t.toArray⟩]
         refine wpList_append_sl _ rfl (.tmp 48) (.tmp 50) 104 rfl w.heap.size 9 i0 _ 1 16 Tryz.underlying104 hi0 hi1 hi2 hi3 rfl Nat.one_pos (.slice A l.length c) l.length _ rfl q1 (some ⟨w4.heap.size, 0, none⟩) 1 1 [[.string ⟨t.toArray⟩]] rfl q2 (by simp) (by simp [Value.oneCell']) (by have := HLN.out; have := HS.out; simp only [maxLen]; omega) (by have := HLN.out; have := HS.out; omega) t3 ?_
         intro A4 c4 w6 hown hg hat
         have O6 := Lib.hid hown
         have HB6 : Hid (Below w.heap.size w w6) := Lib.hid (q1.below_grown (Nat.le_refl _) t3 (HB4.out.alloc HB4.out.size _) hg)
         clear hown hg hat q1 q2 t3))
    go_roundw
    case rel =>
      have e2 : (formsB (l ++ [t])).length = e1 := by rw [formsB_app, formsB_one, List.length_append, HM.out, HFT.out, HE1.out]
      refine ⟨A4, c4, l ++ [t], by simp, by rw [e2], ?_, HB6.out, ?_, ?_⟩
      · have h := O6.out
        simp only [List.length_append, List.length_singleton, List.map_append, List.map_cons, List.map_nil]
        exact h
      · rw [e2]
        have h := HREL.out.more
        rw [HM.out, HS2.out, recsF_some HYES.out, HFT.out, ← HS2.out, List.drop_drop, HE1.out] at h
        rw [← h]
        simp
      · rw [e2, ← HE1.out]; have := H10.out; have := HL2.out; have := HLT.out; omega
    case measure =>
      have h1 := HE1.out
      have h2 := formB_pos t
      rw [HFT.out] at h2
      have h3 := HLT.out
      simp [Go.RowKit.intOf]
      omega
end Go.Proofs.YtjncmlglhegnaaaGreatDoor
