/- wire: the reference reader's number, Num, Int, Text, walked. -/
import Derived.Test.YtindfkekinpchaaGreatDoorWireH
namespace Go.Proofs.YtindfkekinpchaaGreatDoor
open Go.RowKit Go.Sort Go.Lib

set_option maxHeartbeats 1000000 in
theorem Rnumber_any {w : World} {b : Nat} {r : RdV} (h : RdAt w b r) (e : UInt8) (hl : r.rest.length ≤ 140737488351232) (x : Int × RdV) (hx : numF e 0 r = x) :
    Calls Tryz.prog 59 #[.pointer (some ⟨b, 0, none⟩), .int .u8 e.toNat] w (RdPost w b (.int .i64 x.1) x.2) := by
  rw [numF_zero, ← aheadF_eq] at hx
  obtain ⟨y, hy⟩ : ∃ y, aheadF e r = y := ⟨_, rfl⟩
  have HA := Lib.hid (Rahead_any h e hl y hy)
  rw [hy] at hx
  obtain ⟨v, r1⟩ := y
  clear hy hl
  by_cases hv : v < 0
  · simp only [hv, if_true] at hx
    subst hx
    go_enter Tryz.func59, Tryz.ntmps59
    go_wp2_with (first | ((with_reducible refine (HA.out).mono ?_); rintro _ w1 ⟨rfl, h1, g1⟩; have H1 := Lib.hid (Rfail_any h1); have G1 := Lib.hid g1; clear h1 g1) | ((with_reducible refine (H1.out).mono ?_); rintro _ w3 ⟨rfl, h1, g1⟩; have K1 := Lib.hid h1; have G3 := Lib.hid (G1.out.trans g1); clear h1 g1))
    go_ret
    exact ⟨rfl, K1.out, G3.out⟩
  · simp only [hv, if_false] at hx
    subst hx
    have hv' : 0 ≤ v := by omega
    clear hv
    go_enter Tryz.func59, Tryz.ntmps59
    go_wp2_with ((with_reducible refine (HA.out).mono ?_); rintro _ w1 ⟨rfl, h1, g1⟩; have H1 := Lib.hid h1; have G1 := Lib.hid g1; clear h1 g1)
    go_ret
    exact ⟨rfl, H1.out, G1.out⟩
set_option maxHeartbeats 1000000 in
theorem RNumM_any {w : World} {b : Nat} {r : RdV} (h : RdAt w b r) (hl : r.rest.length ≤ 140737488351232) (x : Int × RdV) (hx : natF r = x) :
    Calls Tryz.prog 39 #[.pointer (some ⟨b, 0, none⟩)] w (RdPost w b (.int .i64 x.1) x.2) := by
  have HA : Hid (Calls Tryz.prog 59 #[.pointer (some ⟨b, 0, none⟩), .int .u8 59] w (RdPost w b (.int .i64 x.1) x.2)) := Lib.hid (Rnumber_any h 59 hl x hx)
  clear hx hl h
  go_enter Tryz.func39, Tryz.ntmps39
  go_wp2_with ((with_reducible refine (HA.out).mono ?_); rintro _ w1 ⟨rfl, h1, g1⟩; have H1 := Lib.hid h1; have G1 := Lib.hid g1; clear h1 g1)
  go_ret
  exact ⟨rfl, H1.out, G1.out⟩
set_option maxHeartbeats 1000000 in
theorem RIntM_any {w : World} {b : Nat} {r : RdV} (h : RdAt w b r) (hl : r.rest.length ≤ 140737488351232) (x : Int × RdV) (hx : intF r = x) :
    Calls Tryz.prog 60 #[.pointer (some ⟨b, 0, none⟩)] w (RdPost w b (.int .i64 x.1) x.2) := by
  have HA : Hid (Calls Tryz.prog 70 #[.pointer (some ⟨b, 0, none⟩), .int .u8 59] w (RdPost w b (.int .i64 x.1) x.2)) := Lib.hid (Rahead_any h 59 hl x (by rw [aheadF_eq]; exact hx))
  clear hx hl h
  go_enter Tryz.func60, Tryz.ntmps60
  go_wp2_with ((with_reducible refine (HA.out).mono ?_); rintro _ w1 ⟨rfl, h1, g1⟩; have H1 := Lib.hid h1; have G1 := Lib.hid g1; clear h1 g1)
  go_ret
  exact ⟨rfl, H1.out, G1.out⟩
theorem Rclose44 {w : World} {b : Nat} {r : RdV} (h : RdAt w b r) (r' : RdV) (hr : closeF 44 r = r') (hl : r.rest.length ≤ 140737488351232) (k : Bool) (hk : closeB 44 r = k) :
    Calls Tryz.prog 61 #[.pointer (some ⟨b, 0, none⟩), .int .u8 44] w (RdPost w b (.bool k) r') := Rclose_any h 44 r' hr hl k hk
theorem Rclose93 {w : World} {b : Nat} {r : RdV} (h : RdAt w b r) (r' : RdV) (hr : closeF 93 r = r') (hl : r.rest.length ≤ 140737488351232) (k : Bool) (hk : closeB 93 r = k) :
    Calls Tryz.prog 61 #[.pointer (some ⟨b, 0, none⟩), .int .u8 93] w (RdPost w b (.bool k) r') := Rclose_any h 93 r' hr hl k hk
set_option maxRecDepth 100000 in
set_option maxHeartbeats 2000000 in
theorem RText_M {w : World} {b : Nat} {r : RdV} (h : RdAt w b r) (hok : r.ok) (hl : r.rest.length ≤ 140737488351232) (x : List UInt8 × RdV) (hx : textF r = x) :
    Calls Tryz.prog 41 #[.pointer (some ⟨b, 0, none⟩)] w (RdPost w b (.string ⟨x.1.toArray⟩) x.2) := by
  obtain ⟨n, r1, hn⟩ : ∃ n r1, numF 58 0 r = (n, r1) := ⟨_, _, rfl⟩
  have HA : Hid (Calls Tryz.prog 59 #[.pointer (some ⟨b, 0, none⟩), .int .u8 58] w (RdPost w b (.int .i64 n) r1)) := Lib.hid (Rnumber_any h 58 hl _ hn)
  have hk := (numF_keeps (e := 58) (least := 0) hok).2
  rw [hn] at hk
  simp only at hk
  have hw := textF_ways hn x hx hok
  obtain ⟨l, bd⟩ := r1
  simp only at hw hk
  have hl2 : l.length ≤ 140737488351232 := by omega
  clear hn hx hok hl h hk
  have hsz := str_size l
  rcases hw with ⟨h1, rfl, rfl⟩ | ⟨k, rfl, rfl, ⟨h1, rfl⟩ | ⟨h1, h2, h3, rfl⟩ | ⟨h1, h2, h3, rfl⟩⟩
  · obtain ⟨rfl, rfl⟩ : l = [] ∧ bd = true := by injection h1; exact ⟨‹_›, ‹_›⟩
    clear h1
    go_enter Tryz.func41, Tryz.ntmps41
    go_wp2_with (first | ((with_reducible refine (HA.out).mono ?_); rintro _ w1 ⟨rfl, h1, g1⟩; have H1 := Lib.hid (Rfail_any h1); have G1 := Lib.hid g1; obtain ⟨z, f1, f2⟩ := h1; clear g1) | ((with_reducible refine (H1.out).mono ?_); rintro _ w3 ⟨rfl, h1, g1⟩; have K1 := Lib.hid h1; have G3 := Lib.hid (G1.out.trans g1); clear h1 g1))
    go_ret
    exact ⟨rfl, K1.out, G3.out⟩
  · have hki : (l.length : Int) < (k : Int) := by omega
    clear h1
    go_enter Tryz.func41, Tryz.ntmps41
    go_wp2_with (first | ((with_reducible refine (HA.out).mono ?_); rintro _ w1 ⟨rfl, h1, g1⟩; have H1 := Lib.hid (Rfail_any h1); have G1 := Lib.hid g1; obtain ⟨z, f1, f2⟩ := h1; clear g1) | ((with_reducible refine (H1.out).mono ?_); rintro _ w3 ⟨rfl, h1, g1⟩; have K1 := Lib.hid h1; have G3 := Lib.hid (G1.out.trans g1); clear h1 g1))
    go_ret
    exact ⟨rfl, K1.out, G3.out⟩
  · have hki : (k : Int) ≤ (l.length : Int) := by omega
    by_cases hke : k = l.length
    · subst hke
      clear h1 h2 h3 hki
      go_enter Tryz.func41, Tryz.ntmps41
      go_wp2_with (first | ((with_reducible refine (HA.out).mono ?_); rintro _ w1 ⟨rfl, h1, g1⟩; have H1 := Lib.hid (Rfail_any h1); have G1 := Lib.hid g1; obtain ⟨z, f1, f2⟩ := h1; clear g1) | ((with_reducible refine (H1.out).mono ?_); rintro _ w3 ⟨rfl, h1, g1⟩; have K1 := Lib.hid h1; have G3 := Lib.hid (G1.out.trans g1); clear h1 g1))
      go_ret
      exact ⟨rfl, K1.out, G3.out⟩
    · have hki : (k : Int) < (l.length : Int) := by omega
      have hkn : (0 : Int) ≤ (k : Int) := by omega
      have hex := str_ext l 0 k
      rw [List.drop_zero] at hex
      have hex2 := str_ext l k l.length
      rw [List.take_length] at hex2
      have hld : (l.drop k).length ≤ 140737488351232 := by rw [List.length_drop]; omega
      generalize hdk : l.drop k = dk at *
      have H2 := Lib.hid (fun W (h : RdAt W b ⟨l, false⟩) => And.intro (Rclose44 (h.set1 dk) _ rfl hld false h3) (grownBy_setCell W ⟨b, 0, none⟩ (.string ⟨dk.toArray⟩)))
      rw [h2] at H2
      generalize l.take k = tk at *
      clear h1 h2 h3 hld hdk hke
      go_enter Tryz.func41, Tryz.ntmps41
      go_wp2_with (first | ((with_reducible refine (HA.out).mono ?_); rintro _ w1 ⟨rfl, h1, g1⟩; obtain ⟨h2, g2⟩ := H2.out w1 h1; have K1 := Lib.hid h2; have G1 := Lib.hid (g1.trans g2); obtain ⟨z, f1, f2⟩ := h1; clear g1 g2 h2) | ((with_reducible refine (K1.out).mono ?_); rintro _ w3 ⟨rfl, h1, g1⟩; have K3 := Lib.hid h1; have G3 := Lib.hid (G1.out.trans g1); clear h1 g1))
      go_ret
      exact ⟨rfl, K3.out, G3.out⟩
  · have hki : (k : Int) < (l.length : Int) := by omega
    have hkn : (0 : Int) ≤ (k : Int) := by omega
    have hex := str_ext l 0 k
    rw [List.drop_zero] at hex
    have hex2 := str_ext l k l.length
    rw [List.take_length] at hex2
    have hld : (l.drop k).length ≤ 140737488351232 := by rw [List.length_drop]; omega
    generalize hdk : l.drop k = dk at *
    have H2 := Lib.hid (fun W (h : RdAt W b ⟨l, false⟩) => And.intro (Rclose44 (h.set1 dk) _ rfl hld true h3) (grownBy_setCell W ⟨b, 0, none⟩ (.string ⟨dk.toArray⟩)))
    generalize closeF 44 ⟨dk, false⟩ = r3 at *
    generalize l.take k = tk at *
    clear h1 h2 h3 hld hdk
    go_enter Tryz.func41, Tryz.ntmps41
    go_wp2_with (first | ((with_reducible refine (HA.out).mono ?_); rintro _ w1 ⟨rfl, h1, g1⟩; obtain ⟨h2, g2⟩ := H2.out w1 h1; have K1 := Lib.hid h2; have G1 := Lib.hid (g1.trans g2); obtain ⟨z, f1, f2⟩ := h1; clear g1 g2 h2) | ((with_reducible refine (K1.out).mono ?_); rintro _ w3 ⟨rfl, h1, g1⟩; have K3 := Lib.hid h1; have G3 := Lib.hid (G1.out.trans g1); clear h1 g1))
    go_ret
    exact ⟨rfl, K3.out, G3.out⟩
end Go.Proofs.YtindfkekinpchaaGreatDoor
