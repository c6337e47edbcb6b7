/- kerbsidelaw01: WireNests, walked. -/
import Derived.Test.YtmceahmngifcgaaDoorWireLE
namespace Go.Proofs.YtmceahmngifcgaaDoor
open Go.RowKit Go.Sort Go.Lib

def partsL (l : List ValC) : List (List UInt8) := l.map fun v => (wvOf v).enc
theorem partsL_take {l : List ValC} {k : Nat} {v : ValC} (h : l[k]? = some v) : partsL (l.take (k + 1)) = partsL (l.take k) ++ [(wvOf v).enc] := by
  unfold partsL
  rw [take_succ' h]
  simp
theorem partsL_len (l : List ValC) : (partsL l).length = l.length := by simp [partsL]
theorem encTs_len {P : List (List UInt8)} (hl : P.length ≤ 20) (h : ∀ x ∈ P, x.length ≤ 1000000) : (P.map encT).flatten.length ≤ 20000440 ∧ (encTs P).length ≤ 20000462 := by
  have h1 := flat_le encT 1000022 P fun x hx => by
    have := h x hx
    have := encT_len (s := x) (by omega)
    omega
  have h2 := itoa_length (n := (P.length : Int)) (by omega) (by omega)
  have h3 : (P.map encT).flatten.length ≤ 20000440 := by
    refine Nat.le_trans h1 ?_
    omega
  refine ⟨h3, ?_⟩
  unfold encTs
  simp only [List.length_append, List.length_cons, List.length_nil]
  omega
set_option maxRecDepth 100000 in
set_option maxHeartbeats 32000000 in
theorem nests_any (w : World) (hE : Env w.heap.size w) (A : Option Addr) (n c : Nat) (l : List ValC) (hs : Sl w 5 A n (l.map ValC.cells)) (hl : ∀ u ∈ l, u.ok ∧ ValAt w u) :
    Calls Tryd.prog 6 #[.slice A n c] w fun e w' => e = .returned (.bool true) ∧ Below w.heap.size w w' := by
  obtain ⟨i0, hi0, hi1, hi2, hi3⟩ := info_parts infoStr
  have hll : l.length = n := by simpa using hs.1
  have HSM := Lib.hid (small_any w hE (Nat.le_refl _))
  have HE := Lib.hid (fun W (hb : Below w.heap.size w W) => hE.below hb)
  have HSL := Lib.hid (fun W (hb : Below w.heap.size w W) => hs.below hb)
  have HF := Lib.hid (fun W (hb : Below w.heap.size w W) => few_any W A n c l (hs.below hb) (fun u hu => (hl u hu).2.below hb))
  have HO := Lib.hid hl
  have HL := Lib.hid hll
  have HB := Lib.hid (Below.refl w.heap.size w)
  clear hE hs hl hll
  go_enter Tryd.func6, Tryd.ntmps6
  go_wp2_with (fail)
  ((with_reducible refine (HSM.out).mono ?_); rintro _ w1 ⟨rfl, hb1⟩)
  have hbT := hb1
  replace HB := Lib.hid (HB.out.trans (hbT.mono HB.out.size))
  clear hbT hb1 
  go_wp2_with (fail)
  ((with_reducible refine (HF.out _ HB.out).mono ?_); rintro _ w2 ⟨k, rfl, hk, hb2⟩)
  have hbT := hb2
  replace HB := Lib.hid (HB.out.trans (hbT.mono HB.out.size))
  clear hbT hb2 
  have HK := Lib.hid hk
  clear hk
  cases k
  · go_wp2_with (fail)
    go_ret
    exact ⟨rfl, HB.out⟩
  have HFW := Lib.hid (HK.out rfl)
  have hn20 : n ≤ 20 := by have := HFW.out.1; rw [HL.out] at this; exact this
  have HN20 := Lib.hid hn20
  clear HK hn20
  go_wp2_with (fail)
  go_loopw [4, 5] (fun sv iv wr => ∃ (k : Nat) (A4 : Option Addr) (c4 : Nat), k ≤ n ∧ iv = .int .i64 (k : Int) ∧ sv = .slice A4 k c4 ∧ Below w.heap.size w wr ∧ Own wr w.heap.size 9 1 (.slice A4 k c4) k ((partsL (l.take k)).map strC)) (fun _ i _ => n - (Go.RowKit.intOf i).toNat)
  case atStart => exact ⟨0, none, 0, Nat.zero_le _, rfl, rfl, HB.out, Own.nil_ _ _ _ _⟩
  case round =>
    obtain ⟨k, A4, c4, hk, rfl, rfl, hb, hown⟩ := hrel
    obtain ⟨wo, rfl⟩ : ∃ wo : World, wo = wr := ⟨_, rfl⟩
    have HBO := Lib.hid hb
    have HOW := Lib.hid hown
    clear hb HB hown
    by_cases hlt : k < n
    · obtain ⟨v, hx⟩ : ∃ v, l[k]? = some v := ⟨_, List.getElem?_eq_getElem (by rw [HL.out]; exact hlt)⟩
      have hvm := List.mem_of_getElem? hx
      obtain ⟨b, o, rfl, hbl, c0, c1, c2, c3, c4'⟩ := val_at (HSL.out wo HBO.out) hx
      obtain ⟨q, hq⟩ : ∃ q, (wvOf v).enc = q := ⟨_, rfl⟩
      have HC := Lib.hid (write_any wo (HE.out wo HBO.out) HBO.out.size v (HO.out v hvm).1 ((HO.out v hvm).2.below HBO.out) (HFW.out.2 v hvm) q hq)
      have HNX := Lib.hid (partsL_take hx)
      rw [hq] at HNX
      have hki : (k : Int) < (n : Int) := by omega
      have hk0 : (0 : Int) ≤ (k : Int) := by omega
      have HLT := Lib.hid hlt
      have HT1 : Hid (k + 1 ≤ maxLen) := Lib.hid (by have := HN20.out; simp only [maxLen]; omega)
      have HT2 : Hid ((k + 1) * 16 ≤ 140737488355328) := Lib.hid (by have := HN20.out; omega)
      have hwk : IntKind.i64.wrap ((k : Int) + 1) = (k : Int) + 1 := IntWalk.i64_in _ (by have := HN20.out; omega)
      clear hx hvm hq hlt hk
      go_wp2_with (first
        | ((with_reducible refine (HC.out).mono ?_); rintro _ w3 ⟨rfl, hb3⟩; have HB3 := Lib.hid (HBO.out.trans (hb3.mono HBO.out.size)); have O3 := Lib.hid (HOW.out.below hb3); clear hb3)
        | (at_builtin
           have t3 := Nat.le_trans HB3.out.size (alloc_le w3 (.cells #[.string ⟨q.toArray⟩] 9))
           have q1 := O3.out.alloc (.cells #[.string ⟨q.toArray⟩] 9)
           have q2 := Sl.new_ w3 9 [.string ⟨q.toArray⟩]
           have q3 : ∀ x ∈ [[(.string ⟨q.toArray⟩ : Value)]], x.length = 1 := by simp
           have q4 : ∀ x ∈ [[(.string ⟨q.toArray⟩ : Value)]], ∀ u ∈ x, u.oneCell' = true := by simp [Value.oneCell']
           refine wpList_append_sl _ rfl (.tmp 22) (.tmp 28) 23 rfl w.heap.size 9 i0 _ 1 16 Tryd.underlying23 hi0 hi1 hi2 hi3 rfl Nat.one_pos (.slice A4 k c4) k _ rfl q1 (some ⟨w3.heap.size, 0, none⟩) 1 1 [[.string ⟨q.toArray⟩]] rfl q2 q3 q4 HT1.out HT2.out t3 ?_
           intro A5 c5 w4 hown hg hat
           have O5 := Lib.hid hown
           have B5 := Lib.hid (q1.below_grown (Nat.le_refl _) (by have := HB3.out.size; simp only [World.size_alloc]; exact Nat.le_succ_of_le this) (HB3.out.alloc HB3.out.size _) hg)
           clear hown hg hat q1 q2 q3 q4 t3))
      go_roundw
      case rel => exact ⟨k + 1, A5, c5, HLT.out, by go_num, rfl, B5.out, by rw [HNX.out, List.map_append]; exact O5.out⟩
      case measure => have := HLT.out; simp [Go.RowKit.intOf]; omega
    · obtain rfl : k = n := by omega
      have hki : (k : Int) ≤ (k : Int) := Int.le_refl _
      have htk : l.take k = l := List.take_of_length_le (by rw [HL.out]; exact Nat.le_refl _)
      have hown := HOW.out
      rw [htk] at hown
      obtain ⟨P, hP⟩ : ∃ P, partsL l = P := ⟨_, rfl⟩
      rw [hP] at hown
      have hPl : P.length = k := by rw [← hP, partsL_len]; exact HL.out
      have hPx : ∀ x ∈ P, x.length ≤ 1000000 := fun x hx => by
        rw [← hP] at hx
        obtain ⟨v, hv, rfl⟩ := List.mem_map.1 hx
        exact wv_len (HO.out v hv).1 (HFW.out.2 v hv)
      have hlen := encTs_len (P := P) (by rw [hPl]; exact HN20.out) hPx
      obtain ⟨X, hX⟩ : ∃ X, encTs P = X := ⟨_, rfl⟩
      rw [hX] at hlen
      obtain ⟨Y, hY⟩ : ∃ Y, encT X = Y := ⟨_, rfl⟩
      have hYl := encT_len (s := X) (by omega)
      rw [hY] at hYl
      have c1 := Lib.hid (Texts_any wo (HE.out wo HBO.out) HBO.out.size A4 k c4 P (Own.sl' hown) (fun x hx => by have := hPx x hx; omega) (by have := HN20.out; omega) (by have := hlen.1; omega) X hX)
      have c2 := Lib.hid (fun W (hb : Below w.heap.size w W) => Text_any W (HE.out W hb).isTab X (by omega) Y hY)
      have c3 := Lib.hid (fun W => Open_any W Y)
      have c5 := Lib.hid (fun W => Open_any W X)
      have r1 : textF ⟨Y, false⟩ = (X, ⟨[], false⟩) := by
        have h := textF_read (s := X) (by omega) []
        rw [List.append_nil, hY] at h
        exact h
      have r2 : itemsF textF ⟨X, false⟩ = (P, ⟨[], false⟩) := by
        have h := textsF_read (l := P) (by have := HN20.out; omega) (fun s hs => by have := hPx s hs; omega) []
        rw [List.append_nil, hX] at h
        exact h
      have HR1 := Lib.hid r1
      have HR2 := Lib.hid r2
      have HYL := Lib.hid hYl
      have HXL := Lib.hid hlen
      have HPP := Lib.hid hP
      have HB := Lib.hid HBO.out
      clear hlt hk htk hown hP hPx hlen hX hY hYl r1 r2 HBO
      subst hPl
      go_wp2_with (fail)
      ((with_reducible refine (c1.out).mono ?_); rintro _ w3 ⟨rfl, hb3⟩)
      have hbT := hb3
      replace HB := Lib.hid (HB.out.trans (hbT.mono HB.out.size))
      clear hbT hb3 
      go_wp2_with (fail)
      ((with_reducible refine (c2.out _ HB.out).mono ?_); rintro _ w4 ⟨rfl, hb4⟩)
      have hbT := hb4
      replace HB := Lib.hid (HB.out.trans (hbT.mono HB.out.size))
      clear hbT hb4 
      go_wp2_with (fail)
      ((with_reducible refine (c3.out _).mono ?_); rintro _ w5 ⟨rfl, h5, hb5⟩)
      have HZ1 := Lib.hid HB.out.size
      obtain ⟨b1, hb1⟩ : ∃ b, w4.heap.size = b := ⟨_, rfl⟩
      have HB5 := Lib.hid (HB.out.trans (hb5.mono HB.out.size))
      rw [hb1] at h5 HZ1
      rw [hb1]
      have H5 := Lib.hid (Text_M h5 (HE.out w5 HB5.out) HZ1.out (ok_of rfl) (by show Y.length ≤ _; have := HYL.out; have := HXL.out; omega) _ HR1.out)
      clear hb5 h5 hb1
      go_wp2_with (fail)
      ((with_reducible refine (H5.out).mono ?_); rintro _ w6 ⟨rfl, h6, g6⟩)
      have HB6 := Lib.hid (HB5.out.trans (below_row HZ1.out HB5.out.size g6))
      have H6 := Lib.hid h6
      clear h6 g6
      go_wp2_with (fail)
      ((with_reducible refine (c5.out _).mono ?_); rintro _ w7 ⟨rfl, h7, hb7⟩)
      have HZ2 := Lib.hid HB6.out.size
      obtain ⟨b2, hb2⟩ : ∃ b, w6.heap.size = b := ⟨_, rfl⟩
      have HB7 := Lib.hid (HB6.out.trans (hb7.mono HB6.out.size))
      have H67 := Lib.hid (Done_any (H6.out.below hb7) true rfl)
      rw [hb2] at h7 HZ2
      rw [hb2]
      have H7 := Lib.hid (TextsM_any h7 (HE.out w7 HB7.out) HZ2.out (ok_of rfl) (by show X.length ≤ _; have := HXL.out; omega) _ HR2.out)
      clear hb7 h7 hb2
      go_wp2_with (fail)
      ((with_reducible refine (H67.out).mono ?_); rintro _ w9 ⟨rfl, hw9⟩; obtain rfl := hw9)
      go_wp2_with (fail)
      ((with_reducible refine (H7.out).mono ?_); rintro _ w8 ⟨A8, c8, rfl, hs8, h8, g8⟩)
      have HB8 := Lib.hid (HB7.out.trans (below_row HZ2.out HB7.out.size g8))
      have HD8 := Lib.hid (Done_any h8 true rfl)
      have HS8 := Lib.hid hs8.1
      clear hs8 h8 g8
      go_wp2_with ((with_reducible refine (HD8.out).mono ?_); rintro _ w9 ⟨rfl, hw9⟩; obtain rfl := hw9)
      go_loopw [9] (fun iv wr => ∃ j : Nat, j ≤ P.length ∧ iv = .int .i64 (j : Int) ∧ Below w.heap.size w wr ∧ Sl wr 1 A8 P.length (P.map strC)) (fun i _ => P.length - (Go.RowKit.intOf i).toNat)
      case atStart => exact ⟨0, Nat.zero_le _, rfl, HB8.out, HS8.out⟩
      case round =>
        obtain ⟨j, hj, rfl, hb, hs⟩ := hrel
        obtain ⟨wp, rfl⟩ : ∃ wp : World, wp = wr := ⟨_, rfl⟩
        have HBP := Lib.hid hb
        have HSP := Lib.hid hs
        clear hb hs HB8 HS8
        by_cases hlt : j < P.length
        · obtain ⟨v, hx⟩ : ∃ v, l[j]? = some v := ⟨_, List.getElem?_eq_getElem (by rw [HL.out]; exact hlt)⟩
          have hvm := List.mem_of_getElem? hx
          obtain ⟨b', o, rfl, hbl, c0, c1', c2', c3', c4'⟩ := val_at (HSL.out wp HBP.out) hx
          obtain ⟨q, hq⟩ : ∃ q, (wvOf v).enc = q := ⟨_, rfl⟩
          have hpq : P[j]? = some q := by rw [← HPP.out, partsL, List.getElem?_map, hx, ← hq]; rfl
          obtain ⟨b8, o8, rfl, hbl8, d0⟩ := HSP.out.at1 (k := j) (v := .string ⟨q.toArray⟩) (by rw [List.getElem?_map, hpq]; rfl)
          have hvo := (HO.out v hvm).1
          have hvf := HFW.out.2 v hvm
          have HVO := Lib.hid hvo
          have HVF := Lib.hid hvf
          have HVA := Lib.hid (HO.out v hvm).2
          have hql := wv_len hvo hvf
          rw [hq] at hql
          have hrd := readF_read (wv_ok hvo hvf) []
          rw [List.append_nil, hq] at hrd
          have HRD := Lib.hid hrd
          have HQL := Lib.hid hql
          have HOP := Lib.hid (fun W => Open_any W q)
          have hki : (j : Int) < (P.length : Int) := by omega
          have hk0 : (0 : Int) ≤ (j : Int) := by omega
          have hwk : IntKind.i64.wrap ((j : Int) + 1) = (j : Int) + 1 := IntWalk.i64_in _ (by have := HN20.out; omega)
          have HLT := Lib.hid hlt
          have HX := Lib.hid hx
          clear hx hvm hvo hvf hrd hlt hj hq hpq hql
          go_wp2_with (fail)
          ((with_reducible refine (HOP.out _).mono ?_); rintro _ wa ⟨rfl, ha, hba⟩)
          have HA := Lib.hid (HBP.out.trans (hba.mono HBP.out.size))
          have HZA := Lib.hid HBP.out.size
          have HPA := Lib.hid hba
          have HQ := Lib.hid (equal_any ha (HE.out wa HA.out) HZA.out (ok_of rfl) (by show q.length ≤ _; have := HQL.out; omega) v HVO.out HVF.out (fun W hb => HVA.out.below (HA.out.trans hb)))
          have hcs := val_is (HSL.out wp HBP.out) (k := j) (v := v) (b := b') (o := o) HX.out rfl hba
          obtain ⟨hbl2, k0, k1, k2, k3, k4⟩ := hcs
          clear ha hba
          go_wp2_with (fail)
          ((with_reducible refine (HQ.out).mono ?_); rintro _ wb ⟨⟨kb, rfl, hkb⟩, h5, g5⟩)
          have hkt : kb = true := hkb.2 (by rw [HRD.out])
          subst hkt
          rw [HRD.out] at h5
          have HD5 := Lib.hid (Done_any h5 true rfl)
          have HB5' := Lib.hid (HA.out.trans (below_row HZA.out HA.out.size g5))
          have HS5 := Lib.hid (HSP.out.below (HPA.out.trans (below_row (Nat.le_refl _) HPA.out.size g5)))
          clear hkb h5 g5
          go_wp2_with ((with_reducible refine (HD5.out).mono ?_); rintro _ w9 ⟨rfl, hw9⟩; obtain rfl := hw9)
          go_roundw
          case rel => exact ⟨j + 1, HLT.out, by go_num, HB5'.out, HS5.out⟩
          case measure => have := HLT.out; simp [Go.RowKit.intOf]; omega
        · obtain rfl : j = P.length := by omega
          have hki : (P.length : Int) ≤ (P.length : Int) := Int.le_refl _
          go_wp2_with (fail)
          go_ret
          exact ⟨rfl, HBP.out⟩
end Go.Proofs.YtmceahmngifcgaaDoor
