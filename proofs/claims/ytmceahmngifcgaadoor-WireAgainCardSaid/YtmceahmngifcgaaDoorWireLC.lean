/- kerbsidelaw01: WireAgain, walked (written by wip/gen_wirelc.py). -/
import Derived.Test.YtmceahmngifcgaaDoorWireLB
namespace Go.Proofs.YtmceahmngifcgaaDoor
open Go.RowKit Go.Sort Go.Lib

/-- what was read at the beginning of a string is what the value's encoding is -/
def WasAt (s t : List UInt8) (r2 : RdV) : Prop := r2.ok ∧ (r2.bad = false → s = t ++ r2.rest)
theorem nat_was {s : List UInt8} {m : Int} {r2 : RdV} (h : natF ⟨s, false⟩ = (m, r2)) : WasAt s (encN m) r2 ∧ (-9223372036854775808 ≤ m ∧ m ≤ 9223372036854775807) := by
  have h1 := numF_ok (e := 59) (least := 0) (r := ⟨s, false⟩) (ok_of rfl)
  have h2 := numF_keeps (e := 59) (least := 0) (r := ⟨s, false⟩) (ok_of rfl)
  have h3 : numF 59 0 ⟨s, false⟩ = (m, r2) := h
  rw [h3] at h1 h2
  exact ⟨⟨h2.1, fun hb => (natF_was _ _ _ h hb).1⟩, by simp only at h1; omega⟩
theorem int_was {s : List UInt8} {m : Int} {r2 : RdV} (h : intF ⟨s, false⟩ = (m, r2)) : WasAt s (encI m) r2 ∧ (-9223372036854775808 ≤ m ∧ m ≤ 9223372036854775807) := by
  have h1 := numF_ok (e := 59) (least := -9223372036854775808) (r := ⟨s, false⟩) (ok_of rfl)
  have h2 := numF_keeps (e := 59) (least := -9223372036854775808) (r := ⟨s, false⟩) (ok_of rfl)
  have h3 : numF 59 (-9223372036854775808) ⟨s, false⟩ = (m, r2) := h
  rw [h3] at h1 h2
  exact ⟨⟨h2.1, fun hb => (intF_was _ _ _ h hb).1⟩, by simp only at h1; omega⟩
theorem intF_rng {r : RdV} (h : r.ok) : inI (intF r).1 := by
  have h1 := numF_ok (e := 59) (least := -9223372036854775808) h
  unfold intF inI
  omega
theorem textF_len {r : RdV} (h : r.ok) : (textF r).1.length ≤ r.rest.length := by
  have h2 := numF_keeps (e := 58) (least := 0) h
  rcases textF_ways (r := r) (r1 := (numF 58 0 r).2) (n := (numF 58 0 r).1) rfl _ rfl h with ⟨_, _, h⟩ | ⟨k, h1, _, ⟨_, h⟩ | ⟨_, _, _, h⟩ | ⟨h3, h4, _, h⟩⟩
  · rw [h]; exact Nat.zero_le _
  · rw [h]; exact Nat.zero_le _
  · rw [h]; exact Nat.zero_le _
  · rw [h]
    show ((numF 58 0 r).2.rest.take k).length ≤ _
    rw [List.length_take]
    omega
section
variable {α : Type} {one : RdV → α × RdV}
theorem runF_all (hs : Steps one) (Q : Nat → α → Prop) (hQ : ∀ r : RdV, r.ok → Q r.rest.length (one r).1) (hm : ∀ a b x, a ≤ b → Q a x → Q b x) : ∀ (k : Nat) (r : RdV), r.ok → ∀ x ∈ (runF one k r).1, Q r.rest.length x
  | 0, r, h, x, hx => by cases hx
  | k + 1, r, h, x, hx => by
    unfold runF at hx
    split at hx
    · cases hx
    · obtain ⟨h1, h2⟩ := hs r h
      rcases List.mem_cons.1 hx with rfl | hx
      · exact hQ r h
      · refine hm _ _ _ ?_ (runF_all hs Q hQ hm k (one r).2 h1 x hx)
        rcases h2 with h2 | h2
        · omega
        · rw [h2]; exact Nat.zero_le _
theorem itemsF_all (hs : Steps one) (Q : Nat → α → Prop) (hQ : ∀ r : RdV, r.ok → Q r.rest.length (one r).1) (hm : ∀ a b x, a ≤ b → Q a x → Q b x) {r : RdV} (h : r.ok) : ∀ x ∈ (itemsF one r).1, Q r.rest.length x := by
  obtain ⟨h1, h2⟩ := numF_keeps (e := 91) (least := 0) h
  unfold itemsF
  split
  · intro x hx; cases hx
  · intro x hx
    exact hm _ _ _ h2 (runF_all hs Q hQ hm _ _ h1 x hx)
end
theorem text_was {s : List UInt8} {m : List UInt8} {r2 : RdV} (h : textF ⟨s, false⟩ = (m, r2)) : WasAt s (encT m) r2 ∧ m.length ≤ s.length := by
  have h2 := textF_keeps (r := ⟨s, false⟩) (ok_of rfl)
  have h3 := textF_len (r := ⟨s, false⟩) (ok_of rfl)
  rw [h] at h2 h3
  exact ⟨⟨h2.1, fun hb => (textF_was _ _ _ h hb).1⟩, h3⟩
theorem ints_was {s : List UInt8} {m : List Int} {r2 : RdV} (h : intsF ⟨s, false⟩ = (m, r2)) (hl : s.length ≤ 400) : WasAt s (encIs m) r2 ∧ m.length ≤ 401 ∧ (∀ x ∈ m, inI x) ∧ (m.map encI).flatten.length ≤ 70368744177664 := by
  have h2 := itemsF_len intF_steps (r := ⟨s, false⟩) (ok_of rfl)
  have h3 := itemsF_all intF_steps (fun _ x => inI x) (fun r h => intF_rng h) (fun _ _ _ _ h => h) (r := ⟨s, false⟩) (ok_of rfl)
  have h4 : itemsF intF ⟨s, false⟩ = (m, r2) := h
  rw [h4] at h2 h3
  have h5 := flat_le encI 21 m fun x hx => encI_len (h3 x hx)
  simp only at h2
  exact ⟨⟨h2.2.1, fun hb => (intsF_was _ _ _ h hb).1⟩, by omega, h3, by omega⟩
theorem texts_was {s : List UInt8} {m : List (List UInt8)} {r2 : RdV} (h : textsF ⟨s, false⟩ = (m, r2)) (hl : s.length ≤ 400) : WasAt s (encTs m) r2 ∧ m.length ≤ 401 ∧ (∀ x ∈ m, x.length ≤ 140737488351232) ∧ (m.map encT).flatten.length ≤ 70368744177664 := by
  have h2 := itemsF_len textF_steps (r := ⟨s, false⟩) (ok_of rfl)
  have h3 := itemsF_all textF_steps (fun n x => x.length ≤ n) (fun r h => textF_len h) (fun _ _ _ h1 h => Nat.le_trans h h1) (r := ⟨s, false⟩) (ok_of rfl)
  have h4 : itemsF textF ⟨s, false⟩ = (m, r2) := h
  rw [h4] at h2 h3
  have h5 := flat_le encT 422 m fun x hx => by
    have h6 := h3 x hx
    simp only at h6
    have := encT_len (s := x) (by omega)
    omega
  simp only at h2
  exact ⟨⟨h2.2.1, fun hb => (textsF_was _ _ _ h hb).1⟩, by omega, fun x hx => by have := h3 x hx; simp only at this; omega, by omega⟩
set_option maxRecDepth 100000 in
set_option maxHeartbeats 16000000 in
theorem again_any (w : World) (hE : Env w.heap.size w) (s : List UInt8) (hsm : s.length ≤ maxLen) (what : Int) (hwh : inI what) :
    Calls Tryd.prog 4 #[.string ⟨s.toArray⟩, .int .i64 what] w fun e w' => e = .returned (.bool true) ∧ Below w.heap.size w w' := by
  have HS := Lib.hid (small_any w hE (Nat.le_refl _))
  have HE := Lib.hid (fun W (hb : Below w.heap.size w W) => hE.below hb)
  have hsz := str_size s
  have HB := Lib.hid (Below.refl w.heap.size w)
  unfold maxLen at hsm
  clear hE
  by_cases h400 : 400 < (s.length : Int)
  · clear hsm
    go_enter Tryd.func4, Tryd.ntmps4
    go_wp2_with (fail)
    ((with_reducible refine (HS.out).mono ?_); rintro _ w1 ⟨rfl, hb1⟩)
    have hbT := hb1
    replace HB := Lib.hid (HB.out.trans (hbT.mono HB.out.size))
    clear hbT hb1 
    go_wp2_with (fail)
    go_ret
    exact ⟨rfl, HB.out⟩
  have h4 : (s.length : Int) ≤ 400 := by omega
  have hs400 : s.length ≤ 400 := by omega
  clear h400 hsm
  have HO := Lib.hid (fun W => Open_any W s)
  rcases kindF_rng what with hk | hk | hk | hk | hk
  · have HK := Lib.hid (fun W => kind_any W what 0 ⟨#[]⟩ (.slice none 0 0) (.slice none 0 0) hwh 0 hk)
    obtain ⟨⟨m, r2⟩, hm⟩ : ∃ y, natF ⟨s, false⟩ = y := ⟨_, rfl⟩
    obtain ⟨hwa, hr⟩ := nat_was hm
    obtain ⟨t, ht⟩ : ∃ t, encN m = t := ⟨_, rfl⟩
    rw [ht] at hwa
    have HWA := Lib.hid hwa
    clear hwa
    go_enter Tryd.func4, Tryd.ntmps4
    go_wp2_with (fail)
    ((with_reducible refine (HS.out).mono ?_); rintro _ w1 ⟨rfl, hb1⟩)
    have hbT := hb1
    replace HB := Lib.hid (HB.out.trans (hbT.mono HB.out.size))
    clear hbT hb1 
    have HBB := Lib.hid HB.out.size
    go_wp2_with (fail)
    ((with_reducible refine (HO.out _).mono ?_); rintro _ w2 ⟨rfl, h2, hb2⟩)
    have HB2 := Lib.hid (HB.out.trans (hb2.mono HB.out.size))
    have H := Lib.hid (fun W (g : Below w2.heap.size w2 W) => h2.below g)
    have HZ := Lib.hid (Loc.lt h2)
    clear hb2 h2
    go_wp2_with (fail)
    ((with_reducible refine (HK.out _).mono ?_); rintro _ w3 ⟨rfl, hb3⟩)
    have HB3 := Lib.hid (HB2.out.trans (hb3.mono HB2.out.size))
    have HR := Lib.hid (fun W (g : Below w2.heap.size w2 W) (hb : Below w.heap.size w W) => NumM_any (H.out W g) (HE.out W hb) HBB.out (by show s.length ≤ _; omega) _ hm)
    have HG3 := Lib.hid hb3
    clear hb3
    go_wp2_with (fail)
    ((with_reducible refine (HR.out _ HG3.out HB3.out).mono ?_); rintro _ w4 ⟨rfl, h4, g4⟩)
    have HB4 := Lib.hid (HB3.out.trans (below_row HBB.out HB3.out.size g4))
    have H4 := Lib.hid h4
    have HC := Lib.hid (fun W (hb : Below w.heap.size w W) => Num_any W (HE.out W hb).isTab m hr.1 hr.2 t ht)
    clear h4 g4
    go_wp2_with (fail)
    ((with_reducible refine (HC.out _ HB4.out).mono ?_); rintro _ w5 ⟨rfl, hb5⟩)
    have H5 := Lib.hid (H4.out.below hb5)
    replace HB := Lib.hid (HB4.out.trans (hb5.mono HB4.out.size))
    clear hb5 hm hr ht hk
    have h4 : (s.length : Int) ≤ 400 := by omega
    by_cases hbad : r2.bad = true
    · have hf := is_fail HWA.out.1 hbad
      subst hf
      have HL := Lib.hid (Left_any H5.out 0 rfl)
      have HD := Lib.hid (Done_any H5.out false rfl)
      clear hbad
      go_wp2_with (first | ((with_reducible refine (HL.out).mono ?_); rintro _ w9 ⟨rfl, hw9⟩; obtain rfl := hw9) | ((with_reducible refine (HD.out).mono ?_); rintro _ w9 ⟨rfl, hw9⟩; obtain rfl := hw9))
      go_ret
      exact ⟨rfl, HB.out⟩
    · have hbf : r2.bad = false := by simpa using hbad
      have hst := HWA.out.2 hbf
      obtain ⟨l2, b2⟩ := r2
      simp only at hbf hst
      subst hbf
      have hsl : s.length = t.length + l2.length := by rw [hst, List.length_append]
      have hsub : IntKind.i64.wrap ((s.length : Int) - (l2.length : Int)) = (t.length : Int) := by rw [show (s.length : Int) - (l2.length : Int) = (t.length : Int) by omega]; exact IntWalk.i64_in _ (by omega)
      have hmin : min (t.length : Int) (s.length : Int) = (t.length : Int) := by omega
      have hmax : max (0 : Int) (t.length : Int) = (t.length : Int) := by omega
      have hle : (t.length : Int) ≤ (s.length : Int) := by omega
      have ht0 : (0 : Int) ≤ (t.length : Int) := by omega
      have hex := str_ext s 0 t.length
      rw [List.drop_zero, show s.take t.length = t by rw [hst]; simp] at hex
      by_cases hnil : l2 = []
      · subst hnil
        have HL := Lib.hid (Left_any H5.out 0 rfl)
        have HD := Lib.hid (Done_any H5.out true rfl)
        have hsub0 : IntKind.i64.wrap ((s.length : Int) - 0) = (t.length : Int) := by rw [show (s.length : Int) - 0 = (t.length : Int) by simp at hsl; omega]; exact IntWalk.i64_in _ (by omega)
        have hst0 : (s.length : Int) = (t.length : Int) := by simp at hsl; omega
        have hstn : s = t := by simpa using hst
        subst hstn
        clear hst hsl hsub hst0 hsub0 hbad hle hmin hmax
        have hex9 := str_ext s 0 s.length
        rw [List.drop_zero, List.take_length] at hex9
        go_wp2_with (first | ((with_reducible refine (HL.out).mono ?_); rintro _ w9 ⟨rfl, hw9⟩; obtain rfl := hw9) | ((with_reducible refine (HD.out).mono ?_); rintro _ w9 ⟨rfl, hw9⟩; obtain rfl := hw9))
        go_ret
        exact ⟨rfl, HB.out⟩
      · have hlp : 0 < l2.length := List.length_pos_iff.2 hnil
        obtain ⟨L, hL⟩ : ∃ L : Int, (l2.length : Int) = L := ⟨_, rfl⟩
        have HL := Lib.hid (Left_any H5.out L hL)
        rw [hL] at hsub
        have hne : (L == 0) = false := beq_eq_false_iff_ne.2 (by omega)
        have hle2 : s.length = s.length := rfl
        clear hst hsl hbad hnil hlp hL hle2
        go_wp2_with ((with_reducible refine (HL.out).mono ?_); rintro _ w9 ⟨rfl, hw9⟩; obtain rfl := hw9)
        go_ret
        exact ⟨rfl, HB.out⟩
  · have HK := Lib.hid (fun W => kind_any W what 0 ⟨#[]⟩ (.slice none 0 0) (.slice none 0 0) hwh 1 hk)
    obtain ⟨⟨m, r2⟩, hm⟩ : ∃ y, intF ⟨s, false⟩ = y := ⟨_, rfl⟩
    obtain ⟨hwa, hr⟩ := int_was hm
    obtain ⟨t, ht⟩ : ∃ t, encI m = t := ⟨_, rfl⟩
    rw [ht] at hwa
    have HWA := Lib.hid hwa
    clear hwa
    go_enter Tryd.func4, Tryd.ntmps4
    go_wp2_with (fail)
    ((with_reducible refine (HS.out).mono ?_); rintro _ w1 ⟨rfl, hb1⟩)
    have hbT := hb1
    replace HB := Lib.hid (HB.out.trans (hbT.mono HB.out.size))
    clear hbT hb1 
    have HBB := Lib.hid HB.out.size
    go_wp2_with (fail)
    ((with_reducible refine (HO.out _).mono ?_); rintro _ w2 ⟨rfl, h2, hb2⟩)
    have HB2 := Lib.hid (HB.out.trans (hb2.mono HB.out.size))
    have H := Lib.hid (fun W (g : Below w2.heap.size w2 W) => h2.below g)
    have HZ := Lib.hid (Loc.lt h2)
    clear hb2 h2
    go_wp2_with (fail)
    ((with_reducible refine (HK.out _).mono ?_); rintro _ w3 ⟨rfl, hb3⟩)
    have HB3 := Lib.hid (HB2.out.trans (hb3.mono HB2.out.size))
    have HR := Lib.hid (fun W (g : Below w2.heap.size w2 W) (hb : Below w.heap.size w W) => IntM_any (H.out W g) (HE.out W hb) HBB.out (by show s.length ≤ _; omega) _ hm)
    have HG3 := Lib.hid hb3
    clear hb3
    go_wp2_with (fail)
    ((with_reducible refine (HR.out _ HG3.out HB3.out).mono ?_); rintro _ w4 ⟨rfl, h4, g4⟩)
    have HB4 := Lib.hid (HB3.out.trans (below_row HBB.out HB3.out.size g4))
    have H4 := Lib.hid h4
    have HC := Lib.hid (fun W (hb : Below w.heap.size w W) => Int_any W (HE.out W hb).isTab m hr.1 hr.2 t ht)
    clear h4 g4
    go_wp2_with (fail)
    ((with_reducible refine (HC.out _ HB4.out).mono ?_); rintro _ w5 ⟨rfl, hb5⟩)
    have H5 := Lib.hid (H4.out.below hb5)
    replace HB := Lib.hid (HB4.out.trans (hb5.mono HB4.out.size))
    clear hb5 hm hr ht hk
    have h4 : (s.length : Int) ≤ 400 := by omega
    by_cases hbad : r2.bad = true
    · have hf := is_fail HWA.out.1 hbad
      subst hf
      have HL := Lib.hid (Left_any H5.out 0 rfl)
      have HD := Lib.hid (Done_any H5.out false rfl)
      clear hbad
      go_wp2_with (first | ((with_reducible refine (HL.out).mono ?_); rintro _ w9 ⟨rfl, hw9⟩; obtain rfl := hw9) | ((with_reducible refine (HD.out).mono ?_); rintro _ w9 ⟨rfl, hw9⟩; obtain rfl := hw9))
      go_ret
      exact ⟨rfl, HB.out⟩
    · have hbf : r2.bad = false := by simpa using hbad
      have hst := HWA.out.2 hbf
      obtain ⟨l2, b2⟩ := r2
      simp only at hbf hst
      subst hbf
      have hsl : s.length = t.length + l2.length := by rw [hst, List.length_append]
      have hsub : IntKind.i64.wrap ((s.length : Int) - (l2.length : Int)) = (t.length : Int) := by rw [show (s.length : Int) - (l2.length : Int) = (t.length : Int) by omega]; exact IntWalk.i64_in _ (by omega)
      have hmin : min (t.length : Int) (s.length : Int) = (t.length : Int) := by omega
      have hmax : max (0 : Int) (t.length : Int) = (t.length : Int) := by omega
      have hle : (t.length : Int) ≤ (s.length : Int) := by omega
      have ht0 : (0 : Int) ≤ (t.length : Int) := by omega
      have hex := str_ext s 0 t.length
      rw [List.drop_zero, show s.take t.length = t by rw [hst]; simp] at hex
      by_cases hnil : l2 = []
      · subst hnil
        have HL := Lib.hid (Left_any H5.out 0 rfl)
        have HD := Lib.hid (Done_any H5.out true rfl)
        have hsub0 : IntKind.i64.wrap ((s.length : Int) - 0) = (t.length : Int) := by rw [show (s.length : Int) - 0 = (t.length : Int) by simp at hsl; omega]; exact IntWalk.i64_in _ (by omega)
        have hst0 : (s.length : Int) = (t.length : Int) := by simp at hsl; omega
        have hstn : s = t := by simpa using hst
        subst hstn
        clear hst hsl hsub hst0 hsub0 hbad hle hmin hmax
        have hex9 := str_ext s 0 s.length
        rw [List.drop_zero, List.take_length] at hex9
        go_wp2_with (first | ((with_reducible refine (HL.out).mono ?_); rintro _ w9 ⟨rfl, hw9⟩; obtain rfl := hw9) | ((with_reducible refine (HD.out).mono ?_); rintro _ w9 ⟨rfl, hw9⟩; obtain rfl := hw9))
        go_ret
        exact ⟨rfl, HB.out⟩
      · have hlp : 0 < l2.length := List.length_pos_iff.2 hnil
        obtain ⟨L, hL⟩ : ∃ L : Int, (l2.length : Int) = L := ⟨_, rfl⟩
        have HL := Lib.hid (Left_any H5.out L hL)
        rw [hL] at hsub
        have hne : (L == 0) = false := beq_eq_false_iff_ne.2 (by omega)
        have hle2 : s.length = s.length := rfl
        clear hst hsl hbad hnil hlp hL hle2
        go_wp2_with ((with_reducible refine (HL.out).mono ?_); rintro _ w9 ⟨rfl, hw9⟩; obtain rfl := hw9)
        go_ret
        exact ⟨rfl, HB.out⟩
  · have HK := Lib.hid (fun W => kind_any W what 0 ⟨#[]⟩ (.slice none 0 0) (.slice none 0 0) hwh 2 hk)
    obtain ⟨⟨m, r2⟩, hm⟩ : ∃ y, textF ⟨s, false⟩ = y := ⟨_, rfl⟩
    obtain ⟨hwa, hr⟩ := text_was hm
    obtain ⟨t, ht⟩ : ∃ t, encT m = t := ⟨_, rfl⟩
    rw [ht] at hwa
    have HWA := Lib.hid hwa
    clear hwa
    go_enter Tryd.func4, Tryd.ntmps4
    go_wp2_with (fail)
    ((with_reducible refine (HS.out).mono ?_); rintro _ w1 ⟨rfl, hb1⟩)
    have hbT := hb1
    replace HB := Lib.hid (HB.out.trans (hbT.mono HB.out.size))
    clear hbT hb1 
    have HBB := Lib.hid HB.out.size
    go_wp2_with (fail)
    ((with_reducible refine (HO.out _).mono ?_); rintro _ w2 ⟨rfl, h2, hb2⟩)
    have HB2 := Lib.hid (HB.out.trans (hb2.mono HB.out.size))
    have H := Lib.hid (fun W (g : Below w2.heap.size w2 W) => h2.below g)
    have HZ := Lib.hid (Loc.lt h2)
    clear hb2 h2
    go_wp2_with (fail)
    ((with_reducible refine (HK.out _).mono ?_); rintro _ w3 ⟨rfl, hb3⟩)
    have HB3 := Lib.hid (HB2.out.trans (hb3.mono HB2.out.size))
    have HR := Lib.hid (fun W (g : Below w2.heap.size w2 W) (hb : Below w.heap.size w W) => Text_M (H.out W g) (HE.out W hb) HBB.out (ok_of rfl) (by show s.length ≤ _; omega) _ hm)
    have HG3 := Lib.hid hb3
    clear hb3
    go_wp2_with (fail)
    ((with_reducible refine (HR.out _ HG3.out HB3.out).mono ?_); rintro _ w4 ⟨rfl, h4, g4⟩)
    have HB4 := Lib.hid (HB3.out.trans (below_row HBB.out HB3.out.size g4))
    have H4 := Lib.hid h4
    have HC := Lib.hid (fun W (hb : Below w.heap.size w W) => Text_any W (HE.out W hb).isTab m (by omega) t ht)
    clear h4 g4
    go_wp2_with (fail)
    ((with_reducible refine (HC.out _ HB4.out).mono ?_); rintro _ w5 ⟨rfl, hb5⟩)
    have H5 := Lib.hid (H4.out.below hb5)
    replace HB := Lib.hid (HB4.out.trans (hb5.mono HB4.out.size))
    clear hb5 hm hr ht hk
    have h4 : (s.length : Int) ≤ 400 := by omega
    by_cases hbad : r2.bad = true
    · have hf := is_fail HWA.out.1 hbad
      subst hf
      have HL := Lib.hid (Left_any H5.out 0 rfl)
      have HD := Lib.hid (Done_any H5.out false rfl)
      clear hbad
      go_wp2_with (first | ((with_reducible refine (HL.out).mono ?_); rintro _ w9 ⟨rfl, hw9⟩; obtain rfl := hw9) | ((with_reducible refine (HD.out).mono ?_); rintro _ w9 ⟨rfl, hw9⟩; obtain rfl := hw9))
      go_ret
      exact ⟨rfl, HB.out⟩
    · have hbf : r2.bad = false := by simpa using hbad
      have hst := HWA.out.2 hbf
      obtain ⟨l2, b2⟩ := r2
      simp only at hbf hst
      subst hbf
      have hsl : s.length = t.length + l2.length := by rw [hst, List.length_append]
      have hsub : IntKind.i64.wrap ((s.length : Int) - (l2.length : Int)) = (t.length : Int) := by rw [show (s.length : Int) - (l2.length : Int) = (t.length : Int) by omega]; exact IntWalk.i64_in _ (by omega)
      have hmin : min (t.length : Int) (s.length : Int) = (t.length : Int) := by omega
      have hmax : max (0 : Int) (t.length : Int) = (t.length : Int) := by omega
      have hle : (t.length : Int) ≤ (s.length : Int) := by omega
      have ht0 : (0 : Int) ≤ (t.length : Int) := by omega
      have hex := str_ext s 0 t.length
      rw [List.drop_zero, show s.take t.length = t by rw [hst]; simp] at hex
      by_cases hnil : l2 = []
      · subst hnil
        have HL := Lib.hid (Left_any H5.out 0 rfl)
        have HD := Lib.hid (Done_any H5.out true rfl)
        have hsub0 : IntKind.i64.wrap ((s.length : Int) - 0) = (t.length : Int) := by rw [show (s.length : Int) - 0 = (t.length : Int) by simp at hsl; omega]; exact IntWalk.i64_in _ (by omega)
        have hst0 : (s.length : Int) = (t.length : Int) := by simp at hsl; omega
        have hstn : s = t := by simpa using hst
        subst hstn
        clear hst hsl hsub hst0 hsub0 hbad hle hmin hmax
        have hex9 := str_ext s 0 s.length
        rw [List.drop_zero, List.take_length] at hex9
        go_wp2_with (first | ((with_reducible refine (HL.out).mono ?_); rintro _ w9 ⟨rfl, hw9⟩; obtain rfl := hw9) | ((with_reducible refine (HD.out).mono ?_); rintro _ w9 ⟨rfl, hw9⟩; obtain rfl := hw9))
        go_ret
        exact ⟨rfl, HB.out⟩
      · have hlp : 0 < l2.length := List.length_pos_iff.2 hnil
        obtain ⟨L, hL⟩ : ∃ L : Int, (l2.length : Int) = L := ⟨_, rfl⟩
        have HL := Lib.hid (Left_any H5.out L hL)
        rw [hL] at hsub
        have hne : (L == 0) = false := beq_eq_false_iff_ne.2 (by omega)
        have hle2 : s.length = s.length := rfl
        clear hst hsl hbad hnil hlp hL hle2
        go_wp2_with ((with_reducible refine (HL.out).mono ?_); rintro _ w9 ⟨rfl, hw9⟩; obtain rfl := hw9)
        go_ret
        exact ⟨rfl, HB.out⟩
  · have HK := Lib.hid (fun W => kind_any W what 0 ⟨#[]⟩ (.slice none 0 0) (.slice none 0 0) hwh 3 hk)
    obtain ⟨⟨m, r2⟩, hm⟩ : ∃ y, intsF ⟨s, false⟩ = y := ⟨_, rfl⟩
    obtain ⟨hwa, hr⟩ := ints_was hm hs400
    obtain ⟨t, ht⟩ : ∃ t, encIs m = t := ⟨_, rfl⟩
    rw [ht] at hwa
    have HWA := Lib.hid hwa
    clear hwa
    go_enter Tryd.func4, Tryd.ntmps4
    go_wp2_with (fail)
    ((with_reducible refine (HS.out).mono ?_); rintro _ w1 ⟨rfl, hb1⟩)
    have hbT := hb1
    replace HB := Lib.hid (HB.out.trans (hbT.mono HB.out.size))
    clear hbT hb1 
    have HBB := Lib.hid HB.out.size
    go_wp2_with (fail)
    ((with_reducible refine (HO.out _).mono ?_); rintro _ w2 ⟨rfl, h2, hb2⟩)
    have HB2 := Lib.hid (HB.out.trans (hb2.mono HB.out.size))
    have H := Lib.hid (fun W (g : Below w2.heap.size w2 W) => h2.below g)
    have HZ := Lib.hid (Loc.lt h2)
    clear hb2 h2
    go_wp2_with (fail)
    ((with_reducible refine (HK.out _).mono ?_); rintro _ w3 ⟨rfl, hb3⟩)
    have HB3 := Lib.hid (HB2.out.trans (hb3.mono HB2.out.size))
    have HR := Lib.hid (fun W (g : Below w2.heap.size w2 W) (hb : Below w.heap.size w W) => NumsM_any (H.out W g) (HE.out W hb) HBB.out (ok_of rfl) (by show s.length ≤ _; omega) _ hm)
    have HG3 := Lib.hid hb3
    clear hb3
    go_wp2_with (fail)
    ((with_reducible refine (HR.out _ HG3.out HB3.out).mono ?_); rintro _ w4 ⟨A4, c4, rfl, hs4, h4, g4⟩)
    have HB4 := Lib.hid (HB3.out.trans (below_row HBB.out HB3.out.size g4))
    have H4 := Lib.hid h4
    have HC := Lib.hid (fun W (hb : Below w.heap.size w W) (A : Option Addr) (c : Nat) (hs : Sl W 1 A m.length (m.map intC)) => Nums_any W (HE.out W hb) (Nat.le_trans (Nat.le_refl _) hb.size) A m.length c m hs hr.2.1 (by omega) hr.2.2 t ht)
    have HS4 := Lib.hid hs4.1
    clear h4 g4 hs4
    go_wp2_with (fail)
    ((with_reducible refine (HC.out _ HB4.out _ _ HS4.out).mono ?_); rintro _ w5 ⟨rfl, hb5⟩)
    have H5 := Lib.hid (H4.out.below hb5)
    replace HB := Lib.hid (HB4.out.trans (hb5.mono HB4.out.size))
    clear hb5 hm hr ht hk
    have h4 : (s.length : Int) ≤ 400 := by omega
    by_cases hbad : r2.bad = true
    · have hf := is_fail HWA.out.1 hbad
      subst hf
      have HL := Lib.hid (Left_any H5.out 0 rfl)
      have HD := Lib.hid (Done_any H5.out false rfl)
      clear hbad
      go_wp2_with (first | ((with_reducible refine (HL.out).mono ?_); rintro _ w9 ⟨rfl, hw9⟩; obtain rfl := hw9) | ((with_reducible refine (HD.out).mono ?_); rintro _ w9 ⟨rfl, hw9⟩; obtain rfl := hw9))
      go_ret
      exact ⟨rfl, HB.out⟩
    · have hbf : r2.bad = false := by simpa using hbad
      have hst := HWA.out.2 hbf
      obtain ⟨l2, b2⟩ := r2
      simp only at hbf hst
      subst hbf
      have hsl : s.length = t.length + l2.length := by rw [hst, List.length_append]
      have hsub : IntKind.i64.wrap ((s.length : Int) - (l2.length : Int)) = (t.length : Int) := by rw [show (s.length : Int) - (l2.length : Int) = (t.length : Int) by omega]; exact IntWalk.i64_in _ (by omega)
      have hmin : min (t.length : Int) (s.length : Int) = (t.length : Int) := by omega
      have hmax : max (0 : Int) (t.length : Int) = (t.length : Int) := by omega
      have hle : (t.length : Int) ≤ (s.length : Int) := by omega
      have ht0 : (0 : Int) ≤ (t.length : Int) := by omega
      have hex := str_ext s 0 t.length
      rw [List.drop_zero, show s.take t.length = t by rw [hst]; simp] at hex
      by_cases hnil : l2 = []
      · subst hnil
        have HL := Lib.hid (Left_any H5.out 0 rfl)
        have HD := Lib.hid (Done_any H5.out true rfl)
        have hsub0 : IntKind.i64.wrap ((s.length : Int) - 0) = (t.length : Int) := by rw [show (s.length : Int) - 0 = (t.length : Int) by simp at hsl; omega]; exact IntWalk.i64_in _ (by omega)
        have hst0 : (s.length : Int) = (t.length : Int) := by simp at hsl; omega
        have hstn : s = t := by simpa using hst
        subst hstn
        clear hst hsl hsub hst0 hsub0 hbad hle hmin hmax
        have hex9 := str_ext s 0 s.length
        rw [List.drop_zero, List.take_length] at hex9
        go_wp2_with (first | ((with_reducible refine (HL.out).mono ?_); rintro _ w9 ⟨rfl, hw9⟩; obtain rfl := hw9) | ((with_reducible refine (HD.out).mono ?_); rintro _ w9 ⟨rfl, hw9⟩; obtain rfl := hw9))
        go_ret
        exact ⟨rfl, HB.out⟩
      · have hlp : 0 < l2.length := List.length_pos_iff.2 hnil
        obtain ⟨L, hL⟩ : ∃ L : Int, (l2.length : Int) = L := ⟨_, rfl⟩
        have HL := Lib.hid (Left_any H5.out L hL)
        rw [hL] at hsub
        have hne : (L == 0) = false := beq_eq_false_iff_ne.2 (by omega)
        have hle2 : s.length = s.length := rfl
        clear hst hsl hbad hnil hlp hL hle2
        go_wp2_with ((with_reducible refine (HL.out).mono ?_); rintro _ w9 ⟨rfl, hw9⟩; obtain rfl := hw9)
        go_ret
        exact ⟨rfl, HB.out⟩
  · have HK := Lib.hid (fun W => kind_any W what 0 ⟨#[]⟩ (.slice none 0 0) (.slice none 0 0) hwh 4 hk)
    obtain ⟨⟨m, r2⟩, hm⟩ : ∃ y, textsF ⟨s, false⟩ = y := ⟨_, rfl⟩
    obtain ⟨hwa, hr⟩ := texts_was hm hs400
    obtain ⟨t, ht⟩ : ∃ t, encTs m = t := ⟨_, rfl⟩
    rw [ht] at hwa
    have HWA := Lib.hid hwa
    clear hwa
    go_enter Tryd.func4, Tryd.ntmps4
    go_wp2_with (fail)
    ((with_reducible refine (HS.out).mono ?_); rintro _ w1 ⟨rfl, hb1⟩)
    have hbT := hb1
    replace HB := Lib.hid (HB.out.trans (hbT.mono HB.out.size))
    clear hbT hb1 
    have HBB := Lib.hid HB.out.size
    go_wp2_with (fail)
    ((with_reducible refine (HO.out _).mono ?_); rintro _ w2 ⟨rfl, h2, hb2⟩)
    have HB2 := Lib.hid (HB.out.trans (hb2.mono HB.out.size))
    have H := Lib.hid (fun W (g : Below w2.heap.size w2 W) => h2.below g)
    have HZ := Lib.hid (Loc.lt h2)
    clear hb2 h2
    go_wp2_with (fail)
    ((with_reducible refine (HK.out _).mono ?_); rintro _ w3 ⟨rfl, hb3⟩)
    have HB3 := Lib.hid (HB2.out.trans (hb3.mono HB2.out.size))
    have HR := Lib.hid (fun W (g : Below w2.heap.size w2 W) (hb : Below w.heap.size w W) => TextsM_any (H.out W g) (HE.out W hb) HBB.out (ok_of rfl) (by show s.length ≤ _; omega) _ hm)
    have HG3 := Lib.hid hb3
    clear hb3
    go_wp2_with (fail)
    ((with_reducible refine (HR.out _ HG3.out HB3.out).mono ?_); rintro _ w4 ⟨A4, c4, rfl, hs4, h4, g4⟩)
    have HB4 := Lib.hid (HB3.out.trans (below_row HBB.out HB3.out.size g4))
    have H4 := Lib.hid h4
    have HC := Lib.hid (fun W (hb : Below w.heap.size w W) (A : Option Addr) (c : Nat) (hs : Sl W 1 A m.length (m.map strC)) => Texts_any W (HE.out W hb) (Nat.le_trans (Nat.le_refl _) hb.size) A m.length c m hs hr.2.1 (by omega) hr.2.2 t ht)
    have HS4 := Lib.hid hs4.1
    clear h4 g4 hs4
    go_wp2_with (fail)
    ((with_reducible refine (HC.out _ HB4.out _ _ HS4.out).mono ?_); rintro _ w5 ⟨rfl, hb5⟩)
    have H5 := Lib.hid (H4.out.below hb5)
    replace HB := Lib.hid (HB4.out.trans (hb5.mono HB4.out.size))
    clear hb5 hm hr ht hk
    have h4 : (s.length : Int) ≤ 400 := by omega
    by_cases hbad : r2.bad = true
    · have hf := is_fail HWA.out.1 hbad
      subst hf
      have HL := Lib.hid (Left_any H5.out 0 rfl)
      have HD := Lib.hid (Done_any H5.out false rfl)
      clear hbad
      go_wp2_with (first | ((with_reducible refine (HL.out).mono ?_); rintro _ w9 ⟨rfl, hw9⟩; obtain rfl := hw9) | ((with_reducible refine (HD.out).mono ?_); rintro _ w9 ⟨rfl, hw9⟩; obtain rfl := hw9))
      go_ret
      exact ⟨rfl, HB.out⟩
    · have hbf : r2.bad = false := by simpa using hbad
      have hst := HWA.out.2 hbf
      obtain ⟨l2, b2⟩ := r2
      simp only at hbf hst
      subst hbf
      have hsl : s.length = t.length + l2.length := by rw [hst, List.length_append]
      have hsub : IntKind.i64.wrap ((s.length : Int) - (l2.length : Int)) = (t.length : Int) := by rw [show (s.length : Int) - (l2.length : Int) = (t.length : Int) by omega]; exact IntWalk.i64_in _ (by omega)
      have hmin : min (t.length : Int) (s.length : Int) = (t.length : Int) := by omega
      have hmax : max (0 : Int) (t.length : Int) = (t.length : Int) := by omega
      have hle : (t.length : Int) ≤ (s.length : Int) := by omega
      have ht0 : (0 : Int) ≤ (t.length : Int) := by omega
      have hex := str_ext s 0 t.length
      rw [List.drop_zero, show s.take t.length = t by rw [hst]; simp] at hex
      by_cases hnil : l2 = []
      · subst hnil
        have HL := Lib.hid (Left_any H5.out 0 rfl)
        have HD := Lib.hid (Done_any H5.out true rfl)
        have hsub0 : IntKind.i64.wrap ((s.length : Int) - 0) = (t.length : Int) := by rw [show (s.length : Int) - 0 = (t.length : Int) by simp at hsl; omega]; exact IntWalk.i64_in _ (by omega)
        have hst0 : (s.length : Int) = (t.length : Int) := by simp at hsl; omega
        have hstn : s = t := by simpa using hst
        subst hstn
        clear hst hsl hsub hst0 hsub0 hbad hle hmin hmax
        have hex9 := str_ext s 0 s.length
        rw [List.drop_zero, List.take_length] at hex9
        go_wp2_with (first | ((with_reducible refine (HL.out).mono ?_); rintro _ w9 ⟨rfl, hw9⟩; obtain rfl := hw9) | ((with_reducible refine (HD.out).mono ?_); rintro _ w9 ⟨rfl, hw9⟩; obtain rfl := hw9))
        go_ret
        exact ⟨rfl, HB.out⟩
      · have hlp : 0 < l2.length := List.length_pos_iff.2 hnil
        obtain ⟨L, hL⟩ : ∃ L : Int, (l2.length : Int) = L := ⟨_, rfl⟩
        have HL := Lib.hid (Left_any H5.out L hL)
        rw [hL] at hsub
        have hne : (L == 0) = false := beq_eq_false_iff_ne.2 (by omega)
        have hle2 : s.length = s.length := rfl
        clear hst hsl hbad hnil hlp hL hle2
        go_wp2_with ((with_reducible refine (HL.out).mono ?_); rintro _ w9 ⟨rfl, hw9⟩; obtain rfl := hw9)
        go_ret
        exact ⟨rfl, HB.out⟩
end Go.Proofs.YtmceahmngifcgaaDoor
