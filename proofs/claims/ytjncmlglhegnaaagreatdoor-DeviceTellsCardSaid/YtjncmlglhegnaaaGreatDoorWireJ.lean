/- wire: the reference's close, ahead, number, Num, Int, walked. -/
/- wire: the reference reader's number, Num, Int, Text, walked. -/
/- wire: the reference reader's Nums, walked (written by wip/gen_wirej.py). -/
import Derived.Test.YtjncmlglhegnaaaGreatDoorWireG
import Derived.Test.YtjncmlglhegnaaaGreatDoorWireB
namespace Go.Proofs.YtjncmlglhegnaaaGreatDoor
open Go.RowKit Go.Sort Go.Lib

set_option maxRecDepth 100000 in
set_option maxHeartbeats 1000000 in
theorem Rclose_any {w : World} {b : Nat} {r : RdV} (h : RdAt w b r) (e : UInt8) (r' : RdV) (hr : closeF e r = r') (hl : r.rest.length ≤ 140737488351232) (k : Bool) (hk : closeB e r = k) :
    Calls Tryz.prog 198 #[.pointer (some ⟨b, 0, none⟩), .int .u8 e.toNat] w (RdPost w b (.bool k) r') := by
  obtain ⟨l, x⟩ := r
  have HF := Lib.hid (Rfail_any h)
  have H := Lib.hid h
  obtain ⟨z, f1, f2⟩ := h
  cases l with
  | nil =>
    have hk' : k = false := by rw [← hk]; rfl
    have hr' : r' = .fail := by rw [← hr]; rfl
    subst hk' hr'
    clear hk hr
    go_enter Tryz.func198, Tryz.ntmps198
    go_wp2_with ((with_reducible refine (HF.out).mono ?_); rintro _ w1 ⟨rfl, h1, g1⟩; have H1 := Lib.hid h1; have G1 := Lib.hid g1; clear h1 g1)
    go_ret
    exact ⟨rfl, H1.out, G1.out⟩
  | cons c t =>
    have hsz := str_size (c :: t)
    obtain ⟨hq, hix⟩ : ∃ hq : 0 < (⟨(c :: t).toArray⟩ : ByteArray).size, (⟨(c :: t).toArray⟩ : ByteArray)[0]'hq = c := ⟨by rw [hsz]; simp, rfl⟩
    have hex := str_ext (c :: t) 1 (c :: t).length
    rw [List.take_length] at hex
    simp only [List.drop_succ_cons, List.drop_zero, List.length_cons] at hex hsz hl
    have hp : 0 < (c :: t).length := by simp
    by_cases hc : c = e
    · subst hc
      have hk' : k = true := by rw [← hk]; simp [closeB]
      have hr' : r' = ⟨t, x⟩ := by rw [← hr]; simp [closeF]
      subst hk' hr'
      have H2 := Lib.hid (H.out.set1 t)
      have G2 := Lib.hid (grownBy_setCell w ⟨b, 0, none⟩ (.string ⟨t.toArray⟩))
      clear hk hr
      go_enter Tryz.func198, Tryz.ntmps198
      go_wp2_with (fail)
      go_ret
      exact ⟨rfl, H2.out, G2.out⟩
    · have hk' : k = false := by rw [← hk]; simp [closeB, hc]
      have hr' : r' = .fail := by rw [← hr]; simp [closeF, hc]
      subst hk' hr'
      have hne : ((c.toNat : Int) != (e.toNat : Int)) = true := bne_iff_ne.2 (fun h => hc (UInt8.toNat_inj.1 (by omega)))
      clear hk hr hc
      go_enter Tryz.func198, Tryz.ntmps198
      go_wp2_with ((with_reducible refine (HF.out).mono ?_); rintro _ w1 ⟨rfl, h1, g1⟩; have H1 := Lib.hid h1; have G1 := Lib.hid g1; clear h1 g1)
      go_ret
      exact ⟨rfl, H1.out, G1.out⟩
theorem upTo_lt {e : UInt8} : ∀ {m : Nat} {l : List UInt8} {k : Nat}, k < upTo e m l → k < m ∧ ∃ c, l[k]? = some c ∧ c ≠ e
  | 0, _, k, h => by simp [upTo] at h
  | m + 1, [], k, h => by simp [upTo] at h
  | m + 1, c :: l, k, h => by
    simp only [upTo] at h
    split at h
    · simp at h
    · rename_i hc
      cases k with
      | zero => exact ⟨by omega, c, rfl, hc⟩
      | succ k =>
        obtain ⟨h1, c2, h2, h3⟩ := upTo_lt (k := k) (by omega : k < upTo e m l)
        exact ⟨by omega, c2, by simpa using h2, h3⟩
theorem upTo_end {e : UInt8} : ∀ (m : Nat) (l : List UInt8), upTo e m l = l.length ∨ (upTo e m l = m ∧ m < l.length ∧ l[m]? ≠ some e) ∨ (upTo e m l < l.length ∧ upTo e m l ≤ m ∧ l[upTo e m l]? = some e)
  | 0, [] => by simp [upTo]
  | 0, c :: l => by
    by_cases hc : c = e
    · simp [upTo, hc]
    · simp [upTo, hc]
  | m + 1, [] => by simp [upTo]
  | m + 1, c :: l => by
    simp only [upTo]
    split
    · rename_i hc
      simp [hc]
    · rename_i hc
      have := upTo_end (e := e) m l
      simp only [List.length_cons, List.getElem?_cons_succ]
      rcases this with h | ⟨h1, h2, h3⟩ | ⟨h1, h2, h3⟩
      · exact .inl (by omega)
      · exact .inr (.inl ⟨by omega, by omega, h3⟩)
      · exact .inr (.inr ⟨by omega, by omega, h3⟩)
set_option maxRecDepth 100000 in
set_option maxHeartbeats 2000000 in
theorem Rahead_any {w : World} {b : Nat} {r : RdV} (h : RdAt w b r) (e : UInt8) (hl : r.rest.length ≤ 140737488351232) (x : Int × RdV) (hx : aheadF e r = x) :
    Calls Tryz.prog 219 #[.pointer (some ⟨b, 0, none⟩), .int .u8 e.toNat] w (RdPost w b (.int .i64 x.1) x.2) := by
  obtain ⟨l, bd⟩ := r
  obtain ⟨u, hu⟩ : ∃ u, upTo e 21 l = u := ⟨_, rfl⟩
  have HF := Lib.hid (Rfail_any h)
  have H := Lib.hid h
  have HLT := Lib.hid (fun k (h : k < u) => upTo_lt (e := e) (m := 21) (l := l) (k := k) (by rw [hu]; exact h))
  have hend := upTo_end (e := e) 21 l
  rw [hu] at hend
  have hul : u ≤ l.length := by omega
  have hu21 : u ≤ 21 := by
    by_cases hu0 : 0 < u
    · have := (HLT.out (u - 1) (by omega)).1; omega
    · omega
  have hval : aheadF e ⟨l, bd⟩ = if l[u]? = some e then if (backF (l.take u)).2 = true then ((backF (l.take u)).1, ⟨l.drop (u + 1), bd⟩) else (0, .fail) else (0, .fail) := by
    unfold aheadF
    rw [hu]
  have HVAL := Lib.hid (hval.symm.trans hx)
  simp only at hl
  have hsz := str_size l
  have hl2 : (l.length : Int) ≤ 140737488351232 := by omega
  obtain ⟨z, f1, f2⟩ := h
  have HUL := Lib.hid hul
  have HU21 := Lib.hid hu21
  have HEND := Lib.hid hend
  clear hval hx hu hend hul hu21
  go_enter Tryz.func219, Tryz.ntmps219
  go_wp2_with (fail)
  go_loop [5] (fun nv => ∃ k : Nat, k ≤ u ∧ nv = .int .i64 (k : Int)) (fun n => u - (Go.RowKit.intOf n).toNat)
  case atStart => exact ⟨0, Nat.zero_le _, rfl⟩
  case round =>
    obtain ⟨k, hk, rfl⟩ := hrel
    by_cases hlt : k < u
    · obtain ⟨hk21, c, hc, hce⟩ := HLT.out k hlt
      have hkl : k < l.length := by have := HUL.out; omega
      obtain ⟨hq, hix⟩ : ∃ hq : k < (⟨l.toArray⟩ : ByteArray).size, (⟨l.toArray⟩ : ByteArray)[k]'hq = c := ⟨by rw [hsz]; exact hkl, str_at hc _⟩
      have hki : (k : Int) < (l.length : Int) := by omega
      have hkj : (k : Int) < 21 := by omega
      have hkn : (0 : Int) ≤ (k : Int) := by omega
      have hne : ((c.toNat : Int) != (e.toNat : Int)) = true := bne_iff_ne.2 (fun h => hce (UInt8.toNat_inj.1 (by omega)))
      have HLT2 := Lib.hid hlt
      clear hk hlt hk21 hc hce hkl
      go_wp2_with (fail)
      go_round
      case rel => exact ⟨k + 1, HLT2.out, by go_num⟩
      case measure => have := HLT2.out; simp [Go.RowKit.intOf]; omega
    · obtain rfl : k = u := by omega
      have hkn : (0 : Int) ≤ (k : Int) := by omega
      have hk21 := HU21.out
      have hkj : (k : Int) ≤ 21 := by omega
      rcases HEND.out with h | ⟨h1, h2, h3⟩ | ⟨h1, h2, h3⟩
      · subst h
        have hno : ¬ (l[l.length]? = some e) := by simp
        obtain rfl : x = (0, RdV.fail) := by rw [← HVAL.out, if_neg hno]
        have hki : (l.length : Int) ≤ (l.length : Int) := Int.le_refl _
        clear hlt hno hk hk21
        go_wp2_with ((with_reducible refine (HF.out).mono ?_); rintro _ w1 ⟨rfl, h1, g1⟩; have H1 := Lib.hid h1; have G1 := Lib.hid g1; clear h1 g1)
        go_ret
        exact ⟨rfl, H1.out, G1.out⟩
      · subst h1
        obtain ⟨c, hc⟩ : ∃ c, l[21]? = some c := ⟨_, List.getElem?_eq_getElem h2⟩
        rw [hc] at h3
        have hno : ¬ (l[21]? = some e) := by rw [hc]; exact h3
        obtain rfl : x = (0, RdV.fail) := by rw [← HVAL.out, if_neg hno]
        obtain ⟨hq, hix⟩ : ∃ hq : 21 < (⟨l.toArray⟩ : ByteArray).size, (⟨l.toArray⟩ : ByteArray)[21]'hq = c := ⟨by rw [hsz]; exact h2, str_at hc _⟩
        have hki : (21 : Int) < (l.length : Int) := by omega
        have hne : ((c.toNat : Int) != (e.toNat : Int)) = true := bne_iff_ne.2 (fun h => h3 (by rw [UInt8.toNat_inj.1 (show c.toNat = e.toNat by omega)]))
        clear hlt hno hk hk21 h3 hc h2 hkj hkn
        go_wp2_with ((with_reducible refine (HF.out).mono ?_); rintro _ w1 ⟨rfl, h1, g1⟩; have H1 := Lib.hid h1; have G1 := Lib.hid g1; clear h1 g1)
        go_ret
        exact ⟨rfl, H1.out, G1.out⟩
      · have hx := HVAL.out
        rw [if_pos h3] at hx
        obtain ⟨hq, hix⟩ : ∃ hq : k < (⟨l.toArray⟩ : ByteArray).size, (⟨l.toArray⟩ : ByteArray)[k]'hq = e := ⟨by rw [hsz]; exact h1, str_at h3 _⟩
        have hki : (k : Int) < (l.length : Int) := by omega
        have hex := str_ext l 0 k
        rw [List.drop_zero] at hex
        have hex2 := str_ext l (k + 1) l.length
        rw [List.take_length] at hex2
        obtain ⟨v, hv⟩ : ∃ v, backF (l.take k) = v := ⟨_, rfl⟩
        rw [hv] at hx
        have HB := Lib.hid (fun W => Back_any W (l.take k) (by rw [List.length_take]; omega) v hv)
        have H2 := Lib.hid (fun W (hb : Below w.heap.size w W) => And.intro (H.out.below hb) (And.intro ((H.out.below hb).set1 (l.drop (k + 1))) (And.intro (Rfail_any (H.out.below hb)) ((grown_row b hb).trans (grownBy_setCell W ⟨b, 0, none⟩ (.string ⟨(l.drop (k + 1)).toArray⟩))))))
        obtain ⟨vi, vb⟩ := v
        clear hlt hk hk21 h3 h1 hv
        generalize l.take k = tk at *
        generalize l.drop (k + 1) = dk at *
        cases vb
        · rw [if_neg (by simp)] at hx
          subst hx
          by_cases h21 : k = 21
          · subst h21
            clear hkj
            go_wp2_with (first | ((with_reducible refine (HB.out _).mono ?_); rintro _ w1 ⟨rfl, hb1⟩; obtain ⟨h1, h2, hf, g2⟩ := H2.out w1 hb1; have K2 := Lib.hid hf; have G2 := Lib.hid (grown_row b hb1); obtain ⟨z, f1, f2⟩ := h1; clear h2 g2 hb1 hf) | ((with_reducible refine (K2.out).mono ?_); rintro _ w3 ⟨rfl, h1, g1⟩; have H1 := Lib.hid h1; have G1 := Lib.hid (G2.out.trans g1); clear h1 g1))
            go_ret
            exact ⟨rfl, H1.out, G1.out⟩
          · have hkj2 : (k : Int) < 21 := by omega
            clear hkj h21
            go_wp2_with (first | ((with_reducible refine (HB.out _).mono ?_); rintro _ w1 ⟨rfl, hb1⟩; obtain ⟨h1, h2, hf, g2⟩ := H2.out w1 hb1; have K2 := Lib.hid hf; have G2 := Lib.hid (grown_row b hb1); obtain ⟨z, f1, f2⟩ := h1; clear h2 g2 hb1 hf) | ((with_reducible refine (K2.out).mono ?_); rintro _ w3 ⟨rfl, h1, g1⟩; have H1 := Lib.hid h1; have G1 := Lib.hid (G2.out.trans g1); clear h1 g1))
            go_ret
            exact ⟨rfl, H1.out, G1.out⟩
        · rw [if_pos rfl] at hx
          subst hx
          by_cases h21 : k = 21
          · subst h21
            clear hkj
            go_wp2_with ((with_reducible refine (HB.out _).mono ?_); rintro _ w1 ⟨rfl, hb1⟩; obtain ⟨h1, h2, _, g2⟩ := H2.out w1 hb1; have K2 := Lib.hid h2; have G2 := Lib.hid g2; obtain ⟨z, f1, f2⟩ := h1; clear h2 g2 hb1)
            go_ret
            exact ⟨rfl, K2.out, G2.out⟩
          · have hkj2 : (k : Int) < 21 := by omega
            clear hkj h21
            go_wp2_with ((with_reducible refine (HB.out _).mono ?_); rintro _ w1 ⟨rfl, hb1⟩; obtain ⟨h1, h2, _, g2⟩ := H2.out w1 hb1; have K2 := Lib.hid h2; have G2 := Lib.hid g2; obtain ⟨z, f1, f2⟩ := h1; clear h2 g2 hb1)
            go_ret
            exact ⟨rfl, K2.out, G2.out⟩
end Go.Proofs.YtjncmlglhegnaaaGreatDoor
namespace Go.Proofs.YtjncmlglhegnaaaGreatDoor
open Go.RowKit Go.Sort Go.Lib

set_option maxRecDepth 100000 in
set_option maxHeartbeats 1000000 in
theorem Rnumber_any {w : World} {b : Nat} {r : RdV} (h : RdAt w b r) (e : UInt8) (hl : r.rest.length ≤ 140737488351232) (x : Int × RdV) (hx : numF e 0 r = x) :
    Calls Tryz.prog 196 #[.pointer (some ⟨b, 0, none⟩), .int .u8 e.toNat] w (RdPost w b (.int .i64 x.1) x.2) := by
  rw [numF_zero, ← aheadF_eq] at hx
  obtain ⟨y, hy⟩ : ∃ y, aheadF e r = y := ⟨_, rfl⟩
  have HA := Lib.hid (Rahead_any h e hl y hy)
  rw [hy] at hx
  obtain ⟨v, r1⟩ := y
  clear hy hl
  by_cases hv : v < 0
  · simp only [hv, if_true] at hx
    subst hx
    go_enter Tryz.func196, Tryz.ntmps196
    go_wp2_with (first | ((with_reducible refine (HA.out).mono ?_); rintro _ w1 ⟨rfl, h1, g1⟩; have H1 := Lib.hid (Rfail_any h1); have G1 := Lib.hid g1; clear h1 g1) | ((with_reducible refine (H1.out).mono ?_); rintro _ w3 ⟨rfl, h1, g1⟩; have K1 := Lib.hid h1; have G3 := Lib.hid (G1.out.trans g1); clear h1 g1))
    go_ret
    exact ⟨rfl, K1.out, G3.out⟩
  · simp only [hv, if_false] at hx
    subst hx
    have hv' : 0 ≤ v := by omega
    clear hv
    go_enter Tryz.func196, Tryz.ntmps196
    go_wp2_with ((with_reducible refine (HA.out).mono ?_); rintro _ w1 ⟨rfl, h1, g1⟩; have H1 := Lib.hid h1; have G1 := Lib.hid g1; clear h1 g1)
    go_ret
    exact ⟨rfl, H1.out, G1.out⟩
set_option maxRecDepth 100000 in
set_option maxHeartbeats 1000000 in
theorem RNumM_any {w : World} {b : Nat} {r : RdV} (h : RdAt w b r) (hl : r.rest.length ≤ 140737488351232) (x : Int × RdV) (hx : natF r = x) :
    Calls Tryz.prog 164 #[.pointer (some ⟨b, 0, none⟩)] w (RdPost w b (.int .i64 x.1) x.2) := by
  have HA : Hid (Calls Tryz.prog 196 #[.pointer (some ⟨b, 0, none⟩), .int .u8 59] w (RdPost w b (.int .i64 x.1) x.2)) := Lib.hid (Rnumber_any h 59 hl x hx)
  clear hx hl h
  go_enter Tryz.func164, Tryz.ntmps164
  go_wp2_with ((with_reducible refine (HA.out).mono ?_); rintro _ w1 ⟨rfl, h1, g1⟩; have H1 := Lib.hid h1; have G1 := Lib.hid g1; clear h1 g1)
  go_ret
  exact ⟨rfl, H1.out, G1.out⟩
set_option maxRecDepth 100000 in
set_option maxHeartbeats 1000000 in
theorem RIntM_any {w : World} {b : Nat} {r : RdV} (h : RdAt w b r) (hl : r.rest.length ≤ 140737488351232) (x : Int × RdV) (hx : intF r = x) :
    Calls Tryz.prog 199 #[.pointer (some ⟨b, 0, none⟩)] w (RdPost w b (.int .i64 x.1) x.2) := by
  have HA : Hid (Calls Tryz.prog 219 #[.pointer (some ⟨b, 0, none⟩), .int .u8 59] w (RdPost w b (.int .i64 x.1) x.2)) := Lib.hid (Rahead_any h 59 hl x (by rw [aheadF_eq]; exact hx))
  clear hx hl h
  go_enter Tryz.func199, Tryz.ntmps199
  go_wp2_with ((with_reducible refine (HA.out).mono ?_); rintro _ w1 ⟨rfl, h1, g1⟩; have H1 := Lib.hid h1; have G1 := Lib.hid g1; clear h1 g1)
  go_ret
  exact ⟨rfl, H1.out, G1.out⟩
theorem Rclose44 {w : World} {b : Nat} {r : RdV} (h : RdAt w b r) (r' : RdV) (hr : closeF 44 r = r') (hl : r.rest.length ≤ 140737488351232) (k : Bool) (hk : closeB 44 r = k) :
    Calls Tryz.prog 198 #[.pointer (some ⟨b, 0, none⟩), .int .u8 44] w (RdPost w b (.bool k) r') := Rclose_any h 44 r' hr hl k hk
theorem Rclose93 {w : World} {b : Nat} {r : RdV} (h : RdAt w b r) (r' : RdV) (hr : closeF 93 r = r') (hl : r.rest.length ≤ 140737488351232) (k : Bool) (hk : closeB 93 r = k) :
    Calls Tryz.prog 198 #[.pointer (some ⟨b, 0, none⟩), .int .u8 93] w (RdPost w b (.bool k) r') := Rclose_any h 93 r' hr hl k hk
set_option maxRecDepth 100000 in
set_option maxHeartbeats 2000000 in
theorem RText_M {w : World} {b : Nat} {r : RdV} (h : RdAt w b r) (hok : r.ok) (hl : r.rest.length ≤ 140737488351232) (x : List UInt8 × RdV) (hx : textF r = x) :
    Calls Tryz.prog 163 #[.pointer (some ⟨b, 0, none⟩)] w (RdPost w b (.string ⟨x.1.toArray⟩) x.2) := by
  obtain ⟨n, r1, hn⟩ : ∃ n r1, numF 58 0 r = (n, r1) := ⟨_, _, rfl⟩
  have HA : Hid (Calls Tryz.prog 196 #[.pointer (some ⟨b, 0, none⟩), .int .u8 58] w (RdPost w b (.int .i64 n) r1)) := Lib.hid (Rnumber_any h 58 hl _ hn)
  have hk := (numF_keeps (e := 58) (least := 0) hok).2
  rw [hn] at hk
  simp only at hk
  have hw := textF_ways hn x hx hok
  obtain ⟨l, bd⟩ := r1
  simp only at hw hk
  have hl2 : l.length ≤ 140737488351232 := by omega
  clear hn hx hok hl h hk
  have hsz := str_size l
  rcases hw with ⟨h1, rfl, rfl⟩ | ⟨k, rfl, rfl, ⟨h1, rfl⟩ | ⟨h1, h2, h3, rfl⟩ | ⟨h1, h2, h3, rfl⟩⟩
  · obtain ⟨rfl, rfl⟩ : l = [] ∧ bd = true := by injection h1; exact ⟨‹_›, ‹_›⟩
    clear h1
    go_enter Tryz.func163, Tryz.ntmps163
    go_wp2_with (first | ((with_reducible refine (HA.out).mono ?_); rintro _ w1 ⟨rfl, h1, g1⟩; have H1 := Lib.hid (Rfail_any h1); have G1 := Lib.hid g1; obtain ⟨z, f1, f2⟩ := h1; clear g1) | ((with_reducible refine (H1.out).mono ?_); rintro _ w3 ⟨rfl, h1, g1⟩; have K1 := Lib.hid h1; have G3 := Lib.hid (G1.out.trans g1); clear h1 g1))
    go_ret
    exact ⟨rfl, K1.out, G3.out⟩
  · have hki : (l.length : Int) < (k : Int) := by omega
    clear h1
    go_enter Tryz.func163, Tryz.ntmps163
    go_wp2_with (first | ((with_reducible refine (HA.out).mono ?_); rintro _ w1 ⟨rfl, h1, g1⟩; have H1 := Lib.hid (Rfail_any h1); have G1 := Lib.hid g1; obtain ⟨z, f1, f2⟩ := h1; clear g1) | ((with_reducible refine (H1.out).mono ?_); rintro _ w3 ⟨rfl, h1, g1⟩; have K1 := Lib.hid h1; have G3 := Lib.hid (G1.out.trans g1); clear h1 g1))
    go_ret
    exact ⟨rfl, K1.out, G3.out⟩
  · have hki : (k : Int) ≤ (l.length : Int) := by omega
    by_cases hke : k = l.length
    · subst hke
      clear h1 h2 h3 hki
      go_enter Tryz.func163, Tryz.ntmps163
      go_wp2_with (first | ((with_reducible refine (HA.out).mono ?_); rintro _ w1 ⟨rfl, h1, g1⟩; have H1 := Lib.hid (Rfail_any h1); have G1 := Lib.hid g1; obtain ⟨z, f1, f2⟩ := h1; clear g1) | ((with_reducible refine (H1.out).mono ?_); rintro _ w3 ⟨rfl, h1, g1⟩; have K1 := Lib.hid h1; have G3 := Lib.hid (G1.out.trans g1); clear h1 g1))
      go_ret
      exact ⟨rfl, K1.out, G3.out⟩
    · have hki : (k : Int) < (l.length : Int) := by omega
      have hkn : (0 : Int) ≤ (k : Int) := by omega
      have hex := str_ext l 0 k
      rw [List.drop_zero] at hex
      have hex2 := str_ext l k l.length
      rw [List.take_length] at hex2
      have hld : (l.drop k).length ≤ 140737488351232 := by rw [List.length_drop]; omega
      generalize hdk : l.drop k = dk at *
      have H2 := Lib.hid (fun W (h : RdAt W b ⟨l, false⟩) => And.intro (Rclose44 (h.set1 dk) _ rfl hld false h3) (grownBy_setCell W ⟨b, 0, none⟩ (.string ⟨dk.toArray⟩)))
      rw [h2] at H2
      generalize l.take k = tk at *
      clear h1 h2 h3 hld hdk hke
      go_enter Tryz.func163, Tryz.ntmps163
      go_wp2_with (first | ((with_reducible refine (HA.out).mono ?_); rintro _ w1 ⟨rfl, h1, g1⟩; obtain ⟨h2, g2⟩ := H2.out w1 h1; have K1 := Lib.hid h2; have G1 := Lib.hid (g1.trans g2); obtain ⟨z, f1, f2⟩ := h1; clear g1 g2 h2) | ((with_reducible refine (K1.out).mono ?_); rintro _ w3 ⟨rfl, h1, g1⟩; have K3 := Lib.hid h1; have G3 := Lib.hid (G1.out.trans g1); clear h1 g1))
      go_ret
      exact ⟨rfl, K3.out, G3.out⟩
  · have hki : (k : Int) < (l.length : Int) := by omega
    have hkn : (0 : Int) ≤ (k : Int) := by omega
    have hex := str_ext l 0 k
    rw [List.drop_zero] at hex
    have hex2 := str_ext l k l.length
    rw [List.take_length] at hex2
    have hld : (l.drop k).length ≤ 140737488351232 := by rw [List.length_drop]; omega
    generalize hdk : l.drop k = dk at *
    have H2 := Lib.hid (fun W (h : RdAt W b ⟨l, false⟩) => And.intro (Rclose44 (h.set1 dk) _ rfl hld true h3) (grownBy_setCell W ⟨b, 0, none⟩ (.string ⟨dk.toArray⟩)))
    generalize closeF 44 ⟨dk, false⟩ = r3 at *
    generalize l.take k = tk at *
    clear h1 h2 h3 hld hdk
    go_enter Tryz.func163, Tryz.ntmps163
    go_wp2_with (first | ((with_reducible refine (HA.out).mono ?_); rintro _ w1 ⟨rfl, h1, g1⟩; obtain ⟨h2, g2⟩ := H2.out w1 h1; have K1 := Lib.hid h2; have G1 := Lib.hid (g1.trans g2); obtain ⟨z, f1, f2⟩ := h1; clear g1 g2 h2) | ((with_reducible refine (K1.out).mono ?_); rintro _ w3 ⟨rfl, h1, g1⟩; have K3 := Lib.hid h1; have G3 := Lib.hid (G1.out.trans g1); clear h1 g1))
    go_ret
    exact ⟨rfl, K3.out, G3.out⟩
end Go.Proofs.YtjncmlglhegnaaaGreatDoor
namespace Go.Proofs.YtjncmlglhegnaaaGreatDoor
open Go.RowKit Go.Sort Go.Lib

set_option maxRecDepth 100000 in
set_option maxHeartbeats 4000000 in
theorem RNums_M {w : World} {b : Nat} {r : RdV} (h : RdAt w b r) (hok : r.ok) (hl : r.rest.length ≤ 1099511627776) (x : List (Int) × RdV) (hx : itemsF intF r = x) :
    Calls Tryz.prog 167 #[.pointer (some ⟨b, 0, none⟩)] w (ListPost intC 1 w b x) := by
  obtain ⟨i0, hi0, hi1, hi2, hi3⟩ := info_parts infoInt
  obtain ⟨n, r1, hn⟩ : ∃ n r1, numF 91 0 r = (n, r1) := ⟨_, _, rfl⟩
  have HA : Hid (Calls Tryz.prog 196 #[.pointer (some ⟨b, 0, none⟩), .int .u8 91] w (RdPost w b (.int .i64 n) r1)) := Lib.hid (Rnumber_any h 91 (by omega) _ hn)
  obtain ⟨N, rfl, hok1, hl1, hN⟩ := nat_of_num hok hn
  have HW := Lib.hid (fun xs ri (hr : runF intF N r1 = (xs, ri)) ho => itemsF_ways (ri := ri) hn (by rw [Int.toNat_natCast]; exact hr) ho x hx)
  have hL : r1.rest.length ≤ 1099511627776 := by omega
  have HL := Lib.hid hL
  have HB := Lib.hid (Loc.lt h)
  have HNN := Lib.hid hN
  have HOK := Lib.hid hok1
  clear hn hok hl h hx hok1 hl1 hL hN
  go_enter Tryz.func167, Tryz.ntmps167
  go_wp2_with ((with_reducible refine (HA.out).mono ?_); rintro _ w1 ⟨rfl, h1, g1⟩; have H1 := Lib.hid h1; have G1 := Lib.hid g1; clear h1 g1)
  go_loopw [4, 5] (fun sv iv wr => ∃ (i : Nat) (xs : List (Int)) (ri : RdV) (A : Option Addr) (c : Nat), iv = .int .i64 (i : Int) ∧ sv = .slice A xs.length c ∧ RunAt intF N r1 i xs ri ∧ RdAt wr b ri ∧ w.grownBy wr (some b) ∧ Own wr w.heap.size 3 1 (.slice A xs.length c) xs.length (xs.map intC)) (fun _ i _ => N - (Go.RowKit.intOf i).toNat)
  case atStart => exact ⟨0, [], r1, none, 0, rfl, rfl, RunAt.start HOK.out, H1.out, G1.out, Own.nil_ _ _ _ _⟩
  case round =>
    obtain ⟨i, xs, ri, A, c, rfl, rfl, hrun, hrd, hg, hown⟩ := hrel
    obtain ⟨wo, rfl⟩ : ∃ wo : World, wo = wr := ⟨_, rfl⟩
    have HR := Lib.hid hrun
    have HD := Lib.hid hrd
    have HG := Lib.hid hg
    have HO := Lib.hid hown
    have hiN := hrun.le
    clear hrun hg hown H1 G1
    obtain ⟨z, f1, f2⟩ := hrd
    have hi0' : (0 : Int) ≤ (i : Int) := by omega
    obtain ⟨l, bd⟩ := ri
    simp only at f1
    by_cases hgo : i < N ∧ bd = false
    · obtain ⟨hlt, rfl⟩ := hgo
      have hki : (i : Int) < (N : Int) := by omega
      have hfew := HR.out.few
      have hmore := HR.out.more rfl
      have hlim := HL.out
      have hb1 : xs.length ≤ 1099511627777 := by omega
      have HN := Lib.hid (RunAt.next intF_steps HR.out hlt rfl)
      obtain ⟨⟨v, r2⟩, hone⟩ : ∃ y, intF ⟨l, false⟩ = y := ⟨_, rfl⟩
      have HC := Lib.hid (RIntM_any HD.out (by have := HR.out.more rfl; have := HL.out; show l.length ≤ _; simp only at *; omega) _ hone)
      rw [hone] at HN
      have HLT := Lib.hid hlt
      have HT1 : Hid (xs.length + 1 ≤ maxLen) := Lib.hid (by simp only [maxLen]; omega)
      have HT2 : Hid ((xs.length + 1) * 8 ≤ 140737488355328) := Lib.hid (by omega)
      have hwi : IntKind.i64.wrap ((i : Int) + 1) = (i : Int) + 1 := IntWalk.i64_in _ (by have := HNN.out; omega)
      clear hlt hfew hmore hlim hone hiN hb1
      go_wp2_with (first
        | ((with_reducible refine (HC.out).mono ?_); rintro _ w2 ⟨rfl, h2, g2⟩; have H2 := Lib.hid h2; have G2 := Lib.hid (HG.out.trans g2); have O2 := Lib.hid (HO.out.kept g2 (.inr (own_ne HO.out.1 HB.out))); have HZ := Lib.hid (Nat.le_trans HG.out.size g2.size); clear h2 g2)
        | (at_builtin
           have t3 := Nat.le_trans HZ.out (alloc_le w2 (.cells #[.int .i64 v] 3))
           have q1 := O2.out.alloc (.cells #[.int .i64 v] 3)
           have q2 := Sl.new_ w2 3 [.int .i64 v]
           have q3 : ∀ x ∈ [[(.int .i64 v : Value)]], x.length = 1 := by simp
           have q4 : ∀ x ∈ [[(.int .i64 v : Value)]], ∀ u ∈ x, u.oneCell' = true := by simp [Value.oneCell']
           refine wpList_append_sl _ rfl (.tmp 20) (.tmp 23) 30 rfl w.heap.size 3 i0 _ 1 8 Tryz.underlying30 hi0 hi1 hi2 hi3 rfl Nat.one_pos (.slice A xs.length c) xs.length _ rfl q1 (some ⟨w2.heap.size, 0, none⟩) 1 1 [[.int .i64 v]] rfl q2 q3 q4 HT1.out HT2.out t3 ?_
           intro A4 c4 w4 hown hg hat
           have O4 := Lib.hid hown
           have G4 := Lib.hid (grown_over (G2.out.trans (World.grownBy_alloc _ _ _)) q1 hg)
           have H4 := Lib.hid ((H2.out.alloc _).grown hg (own_ne q1.1 HB.out))
           clear hown hg hat q1 q2 q3 q4 t3))
      go_roundw
      case rel => exact ⟨i + 1, xs ++ [v], r2, A4, c4, by go_num, by simp, HN.out, H4.out, G4.out, by have h := O4.out; simp only [List.length_append, List.length_singleton, List.map_append, List.map_cons, List.map_nil]; exact h⟩
      case measure => have := HLT.out; simp [Go.RowKit.intOf]; omega
    · have hst : i = N ∨ bd = true := by
        cases bd
        · left; have : ¬ i < N := fun h => hgo ⟨h, rfl⟩; omega
        · exact .inr rfl
      have hx := HW.out _ _ (HR.out.stop hst) HR.out.ok
      have hmo := HR.out.more
      have hlim := HL.out
      clear hgo
      rcases hx with ⟨h1, rfl⟩ | ⟨h1, h2, h3, rfl⟩ | ⟨h1, h2, h3, hxe⟩
      · obtain ⟨rfl, rfl⟩ : l = [] ∧ bd = true := by injection h1; exact ⟨‹_›, ‹_›⟩
        clear h1 hst hmo hlim
        by_cases hlt : i < N
        · have hki : (i : Int) < (N : Int) := by omega
          clear hlt hiN
          go_wp2_with (fail)
          go_ret
          exact ⟨none, 0, rfl, SlF.nil_ _ _ _, HD.out, HG.out⟩
        · have hki : (N : Int) ≤ (i : Int) := by omega
          clear hlt hiN
          go_wp2_with (fail)
          go_ret
          exact ⟨none, 0, rfl, SlF.nil_ _ _ _, HD.out, HG.out⟩
      · simp only at h1
        subst h1
        obtain rfl : i = N := by rcases hst with h | h; exact h; cases h
        have hki : (i : Int) ≤ (i : Int) := Int.le_refl _
        have hl4 : l.length ≤ 140737488351232 := by have := hmo rfl; simp only at this; omega
        have HC := Lib.hid (Rclose93 HD.out _ h3 hl4 false h2)
        clear h2 h3 hst hmo hlim hiN hl4
        go_wp2_with ((with_reducible refine (HC.out).mono ?_); rintro _ w3 ⟨rfl, h1, g1⟩; have H3 := Lib.hid h1; have G3 := Lib.hid (HG.out.trans g1); clear h1 g1)
        go_ret
        exact ⟨none, 0, rfl, SlF.nil_ _ _ _, H3.out, G3.out⟩
      · simp only at h1
        subst h1
        obtain rfl : i = N := by rcases hst with h | h; exact h; cases h
        have hki : (i : Int) ≤ (i : Int) := Int.le_refl _
        have hl4 : l.length ≤ 140737488351232 := by have := hmo rfl; simp only at this; omega
        obtain ⟨r3, hr3⟩ : ∃ r3, closeF 93 ⟨l, false⟩ = r3 := ⟨_, rfl⟩
        have HC := Lib.hid (Rclose93 HD.out _ hr3 hl4 true h2)
        rw [hr3] at h3 hxe
        subst hxe
        clear h2 hst hmo hlim hiN hl4 hr3
        go_wp2_with ((with_reducible refine (HC.out).mono ?_); rintro _ w3 ⟨rfl, h1, g1⟩; have H3 := Lib.hid h1; have G3 := Lib.hid (HG.out.trans g1); have O3 := Lib.hid (HO.out.kept g1 (.inr (own_ne HO.out.1 HB.out))); clear h1 g1)
        go_ret
        exact ⟨A, c, rfl, ⟨Own.sl' O3.out, O3.out.fresh⟩, H3.out, G3.out⟩
end Go.Proofs.YtjncmlglhegnaaaGreatDoor
