/- wire: the reference reader's number, Num, Int, Text, walked. -/
import Derived.Test.YtmceahmngifcgaaDoorWireH
namespace Go.Proofs.YtmceahmngifcgaaDoor
open Go.RowKit Go.Sort Go.Lib

theorem numF_ok {e : UInt8} {least : Int} {r : RdV} (h : r.ok) : (numF e least r).2 = .fail ∧ (numF e least r).1 = 0 ∨ (numF e least r).2.bad = false ∧ r.bad = false ∧ least ≤ (numF e least r).1 ∧ (numF e least r).1 ≤ 9223372036854775807 ∧ -9223372036854775808 ≤ (numF e least r).1 ∧ (numF e least r).2.rest.length < r.rest.length := by
  obtain ⟨n, r', hn⟩ : ∃ n r', numF e least r = (n, r') := ⟨_, _, rfl⟩
  rw [hn]
  rcases numF_was hn with ⟨h1, h2⟩ | ⟨h1, h2, h3, h4, h5⟩
  · exact .inl ⟨h2, h1⟩
  · have hb : r.bad = false := by
      by_cases hb : r.bad = true
      · rw [h hb] at h1
        simp at h1
      · simpa using hb
    refine .inr ⟨h2.trans hb, hb, h3, h5, h4, ?_⟩
    have := congrArg List.length h1
    rw [List.length_append, List.length_cons] at this
    show r'.rest.length < r.rest.length
    omega
theorem fail_ok : RdV.fail.ok := fun _ => rfl
theorem ok_of {r : RdV} (h : r.bad = false) : r.ok := fun h2 => by rw [h] at h2; cases h2
theorem numF_keeps {e : UInt8} {least : Int} {r : RdV} (h : r.ok) : (numF e least r).2.ok ∧ (numF e least r).2.rest.length ≤ r.rest.length := by
  rcases numF_ok (e := e) (least := least) h with ⟨h1, _⟩ | ⟨h1, _, _, _, _, h2⟩
  · rw [h1]; exact ⟨fail_ok, Nat.zero_le _⟩
  · exact ⟨ok_of h1, by omega⟩
theorem closeF_keeps {e : UInt8} {r : RdV} (h : r.ok) : (closeF e r).ok ∧ (closeF e r).rest.length ≤ r.rest.length := by
  unfold closeF
  split
  · exact ⟨fail_ok, Nat.zero_le _⟩
  · rename_i c t hc
    split
    · refine ⟨fun h2 => ?_, by rw [hc]; simp⟩
      have := h h2
      rw [hc] at this
      cases this
    · exact ⟨fail_ok, Nat.zero_le _⟩
set_option maxHeartbeats 1000000 in
theorem Rnumber_any {w : World} {b : Nat} {r : RdV} (h : RdAt w b r) (e : UInt8) (hl : r.rest.length ≤ 140737488351232) (x : Int × RdV) (hx : numF e 0 r = x) :
    Calls Tryd.prog 54 #[.pointer (some ⟨b, 0, none⟩), .int .u8 e.toNat] w (RdPost w b (.int .i64 x.1) x.2) := by
  rw [numF_zero, ← aheadF_eq] at hx
  obtain ⟨y, hy⟩ : ∃ y, aheadF e r = y := ⟨_, rfl⟩
  have HA := Lib.hid (Rahead_any h e hl y hy)
  rw [hy] at hx
  obtain ⟨v, r1⟩ := y
  clear hy hl
  by_cases hv : v < 0
  · simp only [hv, if_true] at hx
    subst hx
    go_enter Tryd.func54, Tryd.ntmps54
    go_wp2_with (first | ((with_reducible refine (HA.out).mono ?_); rintro _ w1 ⟨rfl, h1, g1⟩; have H1 := Lib.hid (Rfail_any h1); have G1 := Lib.hid g1; clear h1 g1) | ((with_reducible refine (H1.out).mono ?_); rintro _ w3 ⟨rfl, h1, g1⟩; have K1 := Lib.hid h1; have G3 := Lib.hid (G1.out.trans g1); clear h1 g1))
    go_ret
    exact ⟨rfl, K1.out, G3.out⟩
  · simp only [hv, if_false] at hx
    subst hx
    have hv' : 0 ≤ v := by omega
    clear hv
    go_enter Tryd.func54, Tryd.ntmps54
    go_wp2_with ((with_reducible refine (HA.out).mono ?_); rintro _ w1 ⟨rfl, h1, g1⟩; have H1 := Lib.hid h1; have G1 := Lib.hid g1; clear h1 g1)
    go_ret
    exact ⟨rfl, H1.out, G1.out⟩
set_option maxHeartbeats 1000000 in
theorem RNumM_any {w : World} {b : Nat} {r : RdV} (h : RdAt w b r) (hl : r.rest.length ≤ 140737488351232) (x : Int × RdV) (hx : natF r = x) :
    Calls Tryd.prog 33 #[.pointer (some ⟨b, 0, none⟩)] w (RdPost w b (.int .i64 x.1) x.2) := by
  have HA : Hid (Calls Tryd.prog 54 #[.pointer (some ⟨b, 0, none⟩), .int .u8 59] w (RdPost w b (.int .i64 x.1) x.2)) := Lib.hid (Rnumber_any h 59 hl x hx)
  clear hx hl h
  go_enter Tryd.func33, Tryd.ntmps33
  go_wp2_with ((with_reducible refine (HA.out).mono ?_); rintro _ w1 ⟨rfl, h1, g1⟩; have H1 := Lib.hid h1; have G1 := Lib.hid g1; clear h1 g1)
  go_ret
  exact ⟨rfl, H1.out, G1.out⟩
set_option maxHeartbeats 1000000 in
theorem RIntM_any {w : World} {b : Nat} {r : RdV} (h : RdAt w b r) (hl : r.rest.length ≤ 140737488351232) (x : Int × RdV) (hx : intF r = x) :
    Calls Tryd.prog 34 #[.pointer (some ⟨b, 0, none⟩)] w (RdPost w b (.int .i64 x.1) x.2) := by
  have HA : Hid (Calls Tryd.prog 55 #[.pointer (some ⟨b, 0, none⟩), .int .u8 59] w (RdPost w b (.int .i64 x.1) x.2)) := Lib.hid (Rahead_any h 59 hl x (by rw [aheadF_eq]; exact hx))
  clear hx hl h
  go_enter Tryd.func34, Tryd.ntmps34
  go_wp2_with ((with_reducible refine (HA.out).mono ?_); rintro _ w1 ⟨rfl, h1, g1⟩; have H1 := Lib.hid h1; have G1 := Lib.hid g1; clear h1 g1)
  go_ret
  exact ⟨rfl, H1.out, G1.out⟩
theorem Rclose44 {w : World} {b : Nat} {r : RdV} (h : RdAt w b r) (r' : RdV) (hr : closeF 44 r = r') (hl : r.rest.length ≤ 140737488351232) (k : Bool) (hk : closeB 44 r = k) :
    Calls Tryd.prog 57 #[.pointer (some ⟨b, 0, none⟩), .int .u8 44] w (RdPost w b (.bool k) r') := Rclose_any h 44 r' hr hl k hk
theorem Rclose93 {w : World} {b : Nat} {r : RdV} (h : RdAt w b r) (r' : RdV) (hr : closeF 93 r = r') (hl : r.rest.length ≤ 140737488351232) (k : Bool) (hk : closeB 93 r = k) :
    Calls Tryd.prog 57 #[.pointer (some ⟨b, 0, none⟩), .int .u8 93] w (RdPost w b (.bool k) r') := Rclose_any h 93 r' hr hl k hk
/-- the ways of a text -/
theorem textF_ways {r r1 : RdV} {n : Int} (hn : numF 58 0 r = (n, r1)) (x : List UInt8 × RdV) (hx : textF r = x) (hok : r.ok) :
    (r1 = .fail ∧ n = 0 ∧ x = ([], .fail)) ∨
    (∃ k : Nat, n = (k : Int) ∧ r1.bad = false ∧ ((r1.rest.length < k ∧ x = ([], .fail)) ∨
      (k ≤ r1.rest.length ∧ closeF 44 ⟨r1.rest.drop k, false⟩ = .fail ∧ closeB 44 ⟨r1.rest.drop k, false⟩ = false ∧ x = ([], .fail)) ∨
      (k < r1.rest.length ∧ (closeF 44 ⟨r1.rest.drop k, false⟩).bad = false ∧ closeB 44 ⟨r1.rest.drop k, false⟩ = true ∧ x = (r1.rest.take k, closeF 44 ⟨r1.rest.drop k, false⟩)))) := by
  have ho := numF_ok (e := 58) (least := 0) hok
  rw [hn] at ho
  unfold textF at hx
  rw [hn] at hx
  simp only at hx ho
  rcases ho with ⟨h1, h2⟩ | ⟨h1, h2, h3, h4, _⟩
  · subst h1 h2
    refine .inl ⟨rfl, rfl, ?_⟩
    rw [← hx]
    simp [RdV.fail, closeF]
  · refine .inr ⟨n.toNat, by omega, h1, ?_⟩
    rw [h1] at hx
    by_cases hlt : (r1.rest.length : Int) < n
    · rw [if_pos hlt] at hx
      exact .inl ⟨by omega, hx.symm⟩
    · rw [if_neg hlt] at hx
      refine .inr ?_
      cases hd : r1.rest.drop n.toNat with
      | nil =>
        rw [hd] at hx
        refine .inl ⟨by omega, rfl, rfl, ?_⟩
        rw [← hx]
        rfl
      | cons c t =>
        rw [hd] at hx
        have hlen : n.toNat < r1.rest.length := by
          have := congrArg List.length hd
          simp at this
          omega
        by_cases hc : c = 44
        · subst hc
          refine .inr ⟨hlen, rfl, by simp [closeB], ?_⟩
          rw [← hx]
          rfl
        · refine .inl ⟨by omega, by simp [closeF, hc], by simp [closeB, hc], ?_⟩
          rw [← hx]
          simp [closeF, hc, RdV.fail]
theorem textF_keeps {r : RdV} (hok : r.ok) : (textF r).2.ok ∧ ((textF r).2.rest.length < r.rest.length ∨ (textF r).2 = .fail) := by
  rcases textF_ways (r := r) (r1 := (numF 58 0 r).2) (n := (numF 58 0 r).1) rfl _ rfl hok with ⟨_, _, h⟩ | ⟨k, h1, h2, ⟨_, h⟩ | ⟨_, _, _, h⟩ | ⟨_, h4, _, h⟩⟩
  · rw [h]; exact ⟨fail_ok, .inr rfl⟩
  · rw [h]; exact ⟨fail_ok, .inr rfl⟩
  · rw [h]; exact ⟨fail_ok, .inr rfl⟩
  · rw [h]
    have h5 := (closeF_keeps (e := 44) (r := ⟨(numF 58 0 r).2.rest.drop k, false⟩) (ok_of rfl)).2
    rcases numF_ok (e := 58) (least := 0) hok with ⟨h6, _⟩ | ⟨_, _, _, _, _, h6⟩
    · rw [h6] at h2; cases h2
    · refine ⟨ok_of h4, .inl ?_⟩
      rw [List.length_drop] at h5
      show (closeF 44 ⟨(numF 58 0 r).2.rest.drop k, false⟩).rest.length < _
      omega
set_option maxRecDepth 100000 in
set_option maxHeartbeats 2000000 in
theorem RText_M {w : World} {b : Nat} {r : RdV} (h : RdAt w b r) (hok : r.ok) (hl : r.rest.length ≤ 140737488351232) (x : List UInt8 × RdV) (hx : textF r = x) :
    Calls Tryd.prog 35 #[.pointer (some ⟨b, 0, none⟩)] w (RdPost w b (.string ⟨x.1.toArray⟩) x.2) := by
  obtain ⟨n, r1, hn⟩ : ∃ n r1, numF 58 0 r = (n, r1) := ⟨_, _, rfl⟩
  have HA : Hid (Calls Tryd.prog 54 #[.pointer (some ⟨b, 0, none⟩), .int .u8 58] w (RdPost w b (.int .i64 n) r1)) := Lib.hid (Rnumber_any h 58 hl _ hn)
  have hk := (numF_keeps (e := 58) (least := 0) hok).2
  rw [hn] at hk
  simp only at hk
  have hw := textF_ways hn x hx hok
  obtain ⟨l, bd⟩ := r1
  simp only at hw hk
  have hl2 : l.length ≤ 140737488351232 := by omega
  clear hn hx hok hl h hk
  have hsz := str_size l
  rcases hw with ⟨h1, rfl, rfl⟩ | ⟨k, rfl, rfl, ⟨h1, rfl⟩ | ⟨h1, h2, h3, rfl⟩ | ⟨h1, h2, h3, rfl⟩⟩
  · obtain ⟨rfl, rfl⟩ : l = [] ∧ bd = true := by injection h1; exact ⟨‹_›, ‹_›⟩
    clear h1
    go_enter Tryd.func35, Tryd.ntmps35
    go_wp2_with (first | ((with_reducible refine (HA.out).mono ?_); rintro _ w1 ⟨rfl, h1, g1⟩; have H1 := Lib.hid (Rfail_any h1); have G1 := Lib.hid g1; obtain ⟨z, f1, f2⟩ := h1; clear g1) | ((with_reducible refine (H1.out).mono ?_); rintro _ w3 ⟨rfl, h1, g1⟩; have K1 := Lib.hid h1; have G3 := Lib.hid (G1.out.trans g1); clear h1 g1))
    go_ret
    exact ⟨rfl, K1.out, G3.out⟩
  · have hki : (l.length : Int) < (k : Int) := by omega
    clear h1
    go_enter Tryd.func35, Tryd.ntmps35
    go_wp2_with (first | ((with_reducible refine (HA.out).mono ?_); rintro _ w1 ⟨rfl, h1, g1⟩; have H1 := Lib.hid (Rfail_any h1); have G1 := Lib.hid g1; obtain ⟨z, f1, f2⟩ := h1; clear g1) | ((with_reducible refine (H1.out).mono ?_); rintro _ w3 ⟨rfl, h1, g1⟩; have K1 := Lib.hid h1; have G3 := Lib.hid (G1.out.trans g1); clear h1 g1))
    go_ret
    exact ⟨rfl, K1.out, G3.out⟩
  · have hki : (k : Int) ≤ (l.length : Int) := by omega
    by_cases hke : k = l.length
    · subst hke
      clear h1 h2 h3 hki
      go_enter Tryd.func35, Tryd.ntmps35
      go_wp2_with (first | ((with_reducible refine (HA.out).mono ?_); rintro _ w1 ⟨rfl, h1, g1⟩; have H1 := Lib.hid (Rfail_any h1); have G1 := Lib.hid g1; obtain ⟨z, f1, f2⟩ := h1; clear g1) | ((with_reducible refine (H1.out).mono ?_); rintro _ w3 ⟨rfl, h1, g1⟩; have K1 := Lib.hid h1; have G3 := Lib.hid (G1.out.trans g1); clear h1 g1))
      go_ret
      exact ⟨rfl, K1.out, G3.out⟩
    · have hki : (k : Int) < (l.length : Int) := by omega
      have hkn : (0 : Int) ≤ (k : Int) := by omega
      have hex := str_ext l 0 k
      rw [List.drop_zero] at hex
      have hex2 := str_ext l k l.length
      rw [List.take_length] at hex2
      have hld : (l.drop k).length ≤ 140737488351232 := by rw [List.length_drop]; omega
      generalize hdk : l.drop k = dk at *
      have H2 := Lib.hid (fun W (h : RdAt W b ⟨l, false⟩) => And.intro (Rclose44 (h.set1 dk) _ rfl hld false h3) (grownBy_setCell W ⟨b, 0, none⟩ (.string ⟨dk.toArray⟩)))
      rw [h2] at H2
      generalize l.take k = tk at *
      clear h1 h2 h3 hld hdk hke
      go_enter Tryd.func35, Tryd.ntmps35
      go_wp2_with (first | ((with_reducible refine (HA.out).mono ?_); rintro _ w1 ⟨rfl, h1, g1⟩; obtain ⟨h2, g2⟩ := H2.out w1 h1; have K1 := Lib.hid h2; have G1 := Lib.hid (g1.trans g2); obtain ⟨z, f1, f2⟩ := h1; clear g1 g2 h2) | ((with_reducible refine (K1.out).mono ?_); rintro _ w3 ⟨rfl, h1, g1⟩; have K3 := Lib.hid h1; have G3 := Lib.hid (G1.out.trans g1); clear h1 g1))
      go_ret
      exact ⟨rfl, K3.out, G3.out⟩
  · have hki : (k : Int) < (l.length : Int) := by omega
    have hkn : (0 : Int) ≤ (k : Int) := by omega
    have hex := str_ext l 0 k
    rw [List.drop_zero] at hex
    have hex2 := str_ext l k l.length
    rw [List.take_length] at hex2
    have hld : (l.drop k).length ≤ 140737488351232 := by rw [List.length_drop]; omega
    generalize hdk : l.drop k = dk at *
    have H2 := Lib.hid (fun W (h : RdAt W b ⟨l, false⟩) => And.intro (Rclose44 (h.set1 dk) _ rfl hld true h3) (grownBy_setCell W ⟨b, 0, none⟩ (.string ⟨dk.toArray⟩)))
    generalize closeF 44 ⟨dk, false⟩ = r3 at *
    generalize l.take k = tk at *
    clear h1 h2 h3 hld hdk
    go_enter Tryd.func35, Tryd.ntmps35
    go_wp2_with (first | ((with_reducible refine (HA.out).mono ?_); rintro _ w1 ⟨rfl, h1, g1⟩; obtain ⟨h2, g2⟩ := H2.out w1 h1; have K1 := Lib.hid h2; have G1 := Lib.hid (g1.trans g2); obtain ⟨z, f1, f2⟩ := h1; clear g1 g2 h2) | ((with_reducible refine (K1.out).mono ?_); rintro _ w3 ⟨rfl, h1, g1⟩; have K3 := Lib.hid h1; have G3 := Lib.hid (G1.out.trans g1); clear h1 g1))
    go_ret
    exact ⟨rfl, K3.out, G3.out⟩
end Go.Proofs.YtmceahmngifcgaaDoor
