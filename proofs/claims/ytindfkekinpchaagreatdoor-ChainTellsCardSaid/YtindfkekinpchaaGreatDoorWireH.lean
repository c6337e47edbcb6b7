/- wire: the reference's close, ahead, number, Num, Int, walked. -/
import Derived.Test.YtindfkekinpchaaGreatDoorWireG
import Derived.Test.YtindfkekinpchaaGreatDoorWireB
namespace Go.Proofs.YtindfkekinpchaaGreatDoor
open Go.RowKit Go.Sort Go.Lib

set_option maxHeartbeats 1000000 in
theorem Rclose_any {w : World} {b : Nat} {r : RdV} (h : RdAt w b r) (e : UInt8) (r' : RdV) (hr : closeF e r = r') (hl : r.rest.length ≤ 140737488351232) (k : Bool) (hk : closeB e r = k) :
    Calls Tryz.prog 61 #[.pointer (some ⟨b, 0, none⟩), .int .u8 e.toNat] w (RdPost w b (.bool k) r') := by
  obtain ⟨l, x⟩ := r
  have HF := Lib.hid (Rfail_any h)
  have H := Lib.hid h
  obtain ⟨z, f1, f2⟩ := h
  cases l with
  | nil =>
    have hk' : k = false := by rw [← hk]; rfl
    have hr' : r' = .fail := by rw [← hr]; rfl
    subst hk' hr'
    clear hk hr
    go_enter Tryz.func61, Tryz.ntmps61
    go_wp2_with ((with_reducible refine (HF.out).mono ?_); rintro _ w1 ⟨rfl, h1, g1⟩; have H1 := Lib.hid h1; have G1 := Lib.hid g1; clear h1 g1)
    go_ret
    exact ⟨rfl, H1.out, G1.out⟩
  | cons c t =>
    have hsz := str_size (c :: t)
    obtain ⟨hq, hix⟩ : ∃ hq : 0 < (⟨(c :: t).toArray⟩ : ByteArray).size, (⟨(c :: t).toArray⟩ : ByteArray)[0]'hq = c := ⟨by rw [hsz]; simp, rfl⟩
    have hex := str_ext (c :: t) 1 (c :: t).length
    rw [List.take_length] at hex
    simp only [List.drop_succ_cons, List.drop_zero, List.length_cons] at hex hsz hl
    have hp : 0 < (c :: t).length := by simp
    by_cases hc : c = e
    · subst hc
      have hk' : k = true := by rw [← hk]; simp [closeB]
      have hr' : r' = ⟨t, x⟩ := by rw [← hr]; simp [closeF]
      subst hk' hr'
      have H2 := Lib.hid (H.out.set1 t)
      have G2 := Lib.hid (grownBy_setCell w ⟨b, 0, none⟩ (.string ⟨t.toArray⟩))
      clear hk hr
      go_enter Tryz.func61, Tryz.ntmps61
      go_wp2_with (fail)
      go_ret
      exact ⟨rfl, H2.out, G2.out⟩
    · have hk' : k = false := by rw [← hk]; simp [closeB, hc]
      have hr' : r' = .fail := by rw [← hr]; simp [closeF, hc]
      subst hk' hr'
      have hne : ((c.toNat : Int) != (e.toNat : Int)) = true := bne_iff_ne.2 (fun h => hc (UInt8.toNat_inj.1 (by omega)))
      clear hk hr hc
      go_enter Tryz.func61, Tryz.ntmps61
      go_wp2_with ((with_reducible refine (HF.out).mono ?_); rintro _ w1 ⟨rfl, h1, g1⟩; have H1 := Lib.hid h1; have G1 := Lib.hid g1; clear h1 g1)
      go_ret
      exact ⟨rfl, H1.out, G1.out⟩
theorem upTo_lt {e : UInt8} : ∀ {m : Nat} {l : List UInt8} {k : Nat}, k < upTo e m l → k < m ∧ ∃ c, l[k]? = some c ∧ c ≠ e
  | 0, _, k, h => by simp [upTo] at h
  | m + 1, [], k, h => by simp [upTo] at h
  | m + 1, c :: l, k, h => by
    simp only [upTo] at h
    split at h
    · simp at h
    · rename_i hc
      cases k with
      | zero => exact ⟨by omega, c, rfl, hc⟩
      | succ k =>
        obtain ⟨h1, c2, h2, h3⟩ := upTo_lt (k := k) (by omega : k < upTo e m l)
        exact ⟨by omega, c2, by simpa using h2, h3⟩
theorem upTo_end {e : UInt8} : ∀ (m : Nat) (l : List UInt8), upTo e m l = l.length ∨ (upTo e m l = m ∧ m < l.length ∧ l[m]? ≠ some e) ∨ (upTo e m l < l.length ∧ upTo e m l ≤ m ∧ l[upTo e m l]? = some e)
  | 0, [] => by simp [upTo]
  | 0, c :: l => by
    by_cases hc : c = e
    · simp [upTo, hc]
    · simp [upTo, hc]
  | m + 1, [] => by simp [upTo]
  | m + 1, c :: l => by
    simp only [upTo]
    split
    · rename_i hc
      simp [hc]
    · rename_i hc
      have := upTo_end (e := e) m l
      simp only [List.length_cons, List.getElem?_cons_succ]
      rcases this with h | ⟨h1, h2, h3⟩ | ⟨h1, h2, h3⟩
      · exact .inl (by omega)
      · exact .inr (.inl ⟨by omega, by omega, h3⟩)
      · exact .inr (.inr ⟨by omega, by omega, h3⟩)
set_option maxRecDepth 100000 in
set_option maxHeartbeats 2000000 in
theorem Rahead_any {w : World} {b : Nat} {r : RdV} (h : RdAt w b r) (e : UInt8) (hl : r.rest.length ≤ 140737488351232) (x : Int × RdV) (hx : aheadF e r = x) :
    Calls Tryz.prog 70 #[.pointer (some ⟨b, 0, none⟩), .int .u8 e.toNat] w (RdPost w b (.int .i64 x.1) x.2) := by
  obtain ⟨l, bd⟩ := r
  obtain ⟨u, hu⟩ : ∃ u, upTo e 21 l = u := ⟨_, rfl⟩
  have HF := Lib.hid (Rfail_any h)
  have H := Lib.hid h
  have HLT := Lib.hid (fun k (h : k < u) => upTo_lt (e := e) (m := 21) (l := l) (k := k) (by rw [hu]; exact h))
  have hend := upTo_end (e := e) 21 l
  rw [hu] at hend
  have hul : u ≤ l.length := by omega
  have hu21 : u ≤ 21 := by
    by_cases hu0 : 0 < u
    · have := (HLT.out (u - 1) (by omega)).1; omega
    · omega
  have hval : aheadF e ⟨l, bd⟩ = if l[u]? = some e then if (backF (l.take u)).2 = true then ((backF (l.take u)).1, ⟨l.drop (u + 1), bd⟩) else (0, .fail) else (0, .fail) := by
    unfold aheadF
    rw [hu]
  have HVAL := Lib.hid (hval.symm.trans hx)
  simp only at hl
  have hsz := str_size l
  have hl2 : (l.length : Int) ≤ 140737488351232 := by omega
  obtain ⟨z, f1, f2⟩ := h
  have HUL := Lib.hid hul
  have HU21 := Lib.hid hu21
  have HEND := Lib.hid hend
  clear hval hx hu hend hul hu21
  go_enter Tryz.func70, Tryz.ntmps70
  go_wp2_with (fail)
  go_loop [5] (fun nv => ∃ k : Nat, k ≤ u ∧ nv = .int .i64 (k : Int)) (fun n => u - (Go.RowKit.intOf n).toNat)
  case atStart => exact ⟨0, Nat.zero_le _, rfl⟩
  case round =>
    obtain ⟨k, hk, rfl⟩ := hrel
    by_cases hlt : k < u
    · obtain ⟨hk21, c, hc, hce⟩ := HLT.out k hlt
      have hkl : k < l.length := by have := HUL.out; omega
      obtain ⟨hq, hix⟩ : ∃ hq : k < (⟨l.toArray⟩ : ByteArray).size, (⟨l.toArray⟩ : ByteArray)[k]'hq = c := ⟨by rw [hsz]; exact hkl, str_at hc _⟩
      have hki : (k : Int) < (l.length : Int) := by omega
      have hkj : (k : Int) < 21 := by omega
      have hkn : (0 : Int) ≤ (k : Int) := by omega
      have hne : ((c.toNat : Int) != (e.toNat : Int)) = true := bne_iff_ne.2 (fun h => hce (UInt8.toNat_inj.1 (by omega)))
      have HLT2 := Lib.hid hlt
      clear hk hlt hk21 hc hce hkl
      go_wp2_with (fail)
      go_round
      case rel => exact ⟨k + 1, HLT2.out, by go_num⟩
      case measure => have := HLT2.out; simp [Go.RowKit.intOf]; omega
    · obtain rfl : k = u := by omega
      have hkn : (0 : Int) ≤ (k : Int) := by omega
      have hk21 := HU21.out
      have hkj : (k : Int) ≤ 21 := by omega
      rcases HEND.out with h | ⟨h1, h2, h3⟩ | ⟨h1, h2, h3⟩
      · subst h
        have hno : ¬ (l[l.length]? = some e) := by simp
        obtain rfl : x = (0, RdV.fail) := by rw [← HVAL.out, if_neg hno]
        have hki : (l.length : Int) ≤ (l.length : Int) := Int.le_refl _
        clear hlt hno hk hk21
        go_wp2_with ((with_reducible refine (HF.out).mono ?_); rintro _ w1 ⟨rfl, h1, g1⟩; have H1 := Lib.hid h1; have G1 := Lib.hid g1; clear h1 g1)
        go_ret
        exact ⟨rfl, H1.out, G1.out⟩
      · subst h1
        obtain ⟨c, hc⟩ : ∃ c, l[21]? = some c := ⟨_, List.getElem?_eq_getElem h2⟩
        rw [hc] at h3
        have hno : ¬ (l[21]? = some e) := by rw [hc]; exact h3
        obtain rfl : x = (0, RdV.fail) := by rw [← HVAL.out, if_neg hno]
        obtain ⟨hq, hix⟩ : ∃ hq : 21 < (⟨l.toArray⟩ : ByteArray).size, (⟨l.toArray⟩ : ByteArray)[21]'hq = c := ⟨by rw [hsz]; exact h2, str_at hc _⟩
        have hki : (21 : Int) < (l.length : Int) := by omega
        have hne : ((c.toNat : Int) != (e.toNat : Int)) = true := bne_iff_ne.2 (fun h => h3 (by rw [UInt8.toNat_inj.1 (show c.toNat = e.toNat by omega)]))
        clear hlt hno hk hk21 h3 hc h2 hkj hkn
        go_wp2_with ((with_reducible refine (HF.out).mono ?_); rintro _ w1 ⟨rfl, h1, g1⟩; have H1 := Lib.hid h1; have G1 := Lib.hid g1; clear h1 g1)
        go_ret
        exact ⟨rfl, H1.out, G1.out⟩
      · have hx := HVAL.out
        rw [if_pos h3] at hx
        obtain ⟨hq, hix⟩ : ∃ hq : k < (⟨l.toArray⟩ : ByteArray).size, (⟨l.toArray⟩ : ByteArray)[k]'hq = e := ⟨by rw [hsz]; exact h1, str_at h3 _⟩
        have hki : (k : Int) < (l.length : Int) := by omega
        have hex := str_ext l 0 k
        rw [List.drop_zero] at hex
        have hex2 := str_ext l (k + 1) l.length
        rw [List.take_length] at hex2
        obtain ⟨v, hv⟩ : ∃ v, backF (l.take k) = v := ⟨_, rfl⟩
        rw [hv] at hx
        have HB := Lib.hid (fun W => Back_any W (l.take k) (by rw [List.length_take]; omega) v hv)
        have H2 := Lib.hid (fun W (hb : Below w.heap.size w W) => And.intro (H.out.below hb) (And.intro ((H.out.below hb).set1 (l.drop (k + 1))) (And.intro (Rfail_any (H.out.below hb)) ((grown_row b hb).trans (grownBy_setCell W ⟨b, 0, none⟩ (.string ⟨(l.drop (k + 1)).toArray⟩))))))
        obtain ⟨vi, vb⟩ := v
        clear hlt hk hk21 h3 h1 hv
        generalize l.take k = tk at *
        generalize l.drop (k + 1) = dk at *
        cases vb
        · rw [if_neg (by simp)] at hx
          subst hx
          by_cases h21 : k = 21
          · subst h21
            clear hkj
            go_wp2_with (first | ((with_reducible refine (HB.out _).mono ?_); rintro _ w1 ⟨rfl, hb1⟩; obtain ⟨h1, h2, hf, g2⟩ := H2.out w1 hb1; have K2 := Lib.hid hf; have G2 := Lib.hid (grown_row b hb1); obtain ⟨z, f1, f2⟩ := h1; clear h2 g2 hb1 hf) | ((with_reducible refine (K2.out).mono ?_); rintro _ w3 ⟨rfl, h1, g1⟩; have H1 := Lib.hid h1; have G1 := Lib.hid (G2.out.trans g1); clear h1 g1))
            go_ret
            exact ⟨rfl, H1.out, G1.out⟩
          · have hkj2 : (k : Int) < 21 := by omega
            clear hkj h21
            go_wp2_with (first | ((with_reducible refine (HB.out _).mono ?_); rintro _ w1 ⟨rfl, hb1⟩; obtain ⟨h1, h2, hf, g2⟩ := H2.out w1 hb1; have K2 := Lib.hid hf; have G2 := Lib.hid (grown_row b hb1); obtain ⟨z, f1, f2⟩ := h1; clear h2 g2 hb1 hf) | ((with_reducible refine (K2.out).mono ?_); rintro _ w3 ⟨rfl, h1, g1⟩; have H1 := Lib.hid h1; have G1 := Lib.hid (G2.out.trans g1); clear h1 g1))
            go_ret
            exact ⟨rfl, H1.out, G1.out⟩
        · rw [if_pos rfl] at hx
          subst hx
          by_cases h21 : k = 21
          · subst h21
            clear hkj
            go_wp2_with ((with_reducible refine (HB.out _).mono ?_); rintro _ w1 ⟨rfl, hb1⟩; obtain ⟨h1, h2, _, g2⟩ := H2.out w1 hb1; have K2 := Lib.hid h2; have G2 := Lib.hid g2; obtain ⟨z, f1, f2⟩ := h1; clear h2 g2 hb1)
            go_ret
            exact ⟨rfl, K2.out, G2.out⟩
          · have hkj2 : (k : Int) < 21 := by omega
            clear hkj h21
            go_wp2_with ((with_reducible refine (HB.out _).mono ?_); rintro _ w1 ⟨rfl, hb1⟩; obtain ⟨h1, h2, _, g2⟩ := H2.out w1 hb1; have K2 := Lib.hid h2; have G2 := Lib.hid g2; obtain ⟨z, f1, f2⟩ := h1; clear h2 g2 hb1)
            go_ret
            exact ⟨rfl, K2.out, G2.out⟩
end Go.Proofs.YtindfkekinpchaaGreatDoor
