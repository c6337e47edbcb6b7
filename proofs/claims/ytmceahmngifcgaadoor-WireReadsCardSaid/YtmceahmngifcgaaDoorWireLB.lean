/- kerbsidelaw01: equal, walked. -/
import Derived.Test.YtmceahmngifcgaaDoorWireS2
import Derived.Test.YtmceahmngifcgaaDoorOrdL
import Derived.Deep.RegionHeld3
namespace Go.Proofs.YtmceahmngifcgaaDoor
open Go.RowKit Go.Sort Go.Lib

/-- what 'equal' leaves: the reader reads the value's kind, and says whether it is the value -/
def EqPost (w : World) (b : Nat) (v : WV) (r : RdV) (e : Ending) (w' : World) : Prop := (∃ k : Bool, e = .returned (.bool k) ∧ (k = true ↔ (readF v.kind r).1 = v)) ∧ RdAt w' b (readF v.kind r).2 ∧ w.grownBy w' (some b)
theorem ungrown {w w' : World} {row : Option Nat} (h : w.drew.grownBy w' row) : w.grownBy w' row := ⟨h.os, h.tape, h.output, h.size, h.block⟩
theorem wvOf_kind (v : ValC) : ((wvOf v).kind : Int) = kindF v.k := by
  unfold wvOf
  rcases kindF_rng v.k with h | h | h | h | h <;> rw [h] <;> rfl
section
variable {α : Type} {one : RdV → α × RdV}
theorem runF_len (hs : Steps one) : ∀ (k : Nat) (r : RdV), r.ok → (runF one k r).1.length ≤ r.rest.length + 1 ∧ (runF one k r).2.ok ∧ (runF one k r).2.rest.length ≤ r.rest.length
  | 0, r, h => ⟨Nat.zero_le _, h, Nat.le_refl _⟩
  | k + 1, r, h => by
    unfold runF
    split
    · exact ⟨Nat.zero_le _, h, Nat.le_refl _⟩
    · obtain ⟨h1, h2⟩ := hs r h
      obtain ⟨h3, h4, h5⟩ := runF_len hs k (one r).2 h1
      rcases h2 with h2 | h2
      · simp only [List.length_cons]
        exact ⟨by omega, h4, by omega⟩
      · rw [h2] at h3 h4 h5 ⊢
        have hz : (runF one k RdV.fail).1 = [] := by cases k <;> simp [runF, RdV.fail]
        rw [hz]
        simp only [List.length_cons, List.length_nil]
        refine ⟨by omega, h4, ?_⟩
        have h6 : RdV.fail.rest.length = 0 := rfl
        omega
theorem itemsF_len (hs : Steps one) {r : RdV} (h : r.ok) : (itemsF one r).1.length ≤ r.rest.length + 1 ∧ (itemsF one r).2.ok ∧ (itemsF one r).2.rest.length ≤ r.rest.length := by
  obtain ⟨h1, h2⟩ := numF_keeps (e := 91) (least := 0) h
  obtain ⟨h3, h4, h5⟩ := runF_len hs (numF 91 0 r).1.toNat (numF 91 0 r).2 h1
  obtain ⟨h6, h7⟩ := closeF_keeps (e := 93) h4
  unfold itemsF
  split
  · exact ⟨Nat.zero_le _, h6, Nat.le_trans h7 (Nat.le_trans h5 h2)⟩
  · exact ⟨Nat.le_trans h3 (by omega), h6, Nat.le_trans h7 (Nat.le_trans h5 h2)⟩
end
theorem readF_keeps (k : Nat) {r : RdV} (h : r.ok) : (readF k r).2.ok ∧ (readF k r).2.rest.length ≤ r.rest.length := by
  match k with
  | 0 => exact numF_keeps h
  | 1 => exact numF_keeps h
  | 2 =>
    obtain ⟨h1, h2⟩ := textF_keeps h
    refine ⟨h1, ?_⟩
    rcases h2 with h2 | h2
    · exact Nat.le_of_lt h2
    · show (textF r).2.rest.length ≤ _
      rw [h2]
      exact Nat.zero_le _
  | 3 => exact (itemsF_len intF_steps h).2
  | k + 4 => exact (itemsF_len textF_steps h).2
theorem below_row {B b : Nat} {w w' : World} (hB : B ≤ b) (hs : B ≤ w.heap.size) (hg : w.grownBy w' (some b)) : Below B w w' := (Below.refl B w).grown hg hs fun k hk => by injection hk with hk; omega
set_option maxRecDepth 100000 in
set_option maxHeartbeats 8000000 in
theorem equal_any {B : Nat} {w : World} {b : Nat} {r : RdV} (h : RdAt w b r) (hE : Env B w) (hB : B ≤ b) (hok : r.ok) (hl : r.rest.length ≤ 1000000000000) (v : ValC) (hv : v.ok) (hf : v.few) (hat : ∀ W, Below B w W → ValAt W v) :
    Calls Tryd.prog 31 #[.pointer (some ⟨b, 0, none⟩), .agg #[.int .i64 v.k, .int .i64 v.n, .string ⟨v.s.toArray⟩, .slice v.A v.L.length v.c, .slice v.A' v.T.length v.c']] w (EqPost w b (wvOf v) r) := by
  have hBw : B ≤ w.heap.size := Nat.le_trans hB (Nat.le_of_lt (Loc.lt h))
  have HK := Lib.hid (kind_any (w.alloc (.cells #[.int .i64 v.k, .int .i64 v.n, .string ⟨v.s.toArray⟩, .slice v.A v.L.length v.c, .slice v.A' v.T.length v.c'] 25)) v.k v.n ⟨v.s.toArray⟩ (.slice v.A v.L.length v.c) (.slice v.A' v.T.length v.c') hv.k _ rfl)
  have H := Lib.hid (fun W (hb : Below w.heap.size w W) => h.below hb)
  have HE := Lib.hid (fun W (hb : Below w.heap.size w W) => hE.below (hb.mono hBw))
  have HB := Lib.hid (Below.refl w.heap.size w)
  have hk := wvOf_kind v
  rcases kindF_rng v.k with hx | hx | hx | hx | hx
  all_goals rw [hx] at HK hk
  · have hwv : wvOf v = .nat (numberF v.n) := by unfold wvOf; rw [if_pos hx]
    rw [hwv]
    obtain ⟨⟨m, r2⟩, hm⟩ : ∃ y, natF r = y := ⟨_, rfl⟩
    have HP : Hid (∀ w', w.grownBy w' (some b) → RdAt w' b r2 → EqPost w b (.nat (numberF v.n)) r (.returned (.bool (decide (m = numberF v.n)))) w') := Lib.hid (fun w' g h2 => ⟨⟨_, rfl, by simp only [WV.kind, readF, hm, WV.nat.injEq, decide_eq_true_eq]⟩, by simp only [WV.kind, readF, hm]; exact h2, g⟩)
    have HN := Lib.hid (fun W (hb : Below w.heap.size w W) => NumM_any (H.out W hb) (HE.out W hb) hB (by omega) _ hm)
    have HM := Lib.hid (fun W => lawNumber_any W v.n hv.n _ rfl)
    have HNE : Hid ((some b : Option Nat) ≠ some w.heap.size) := Lib.hid (fun e => by have := Loc.lt h; injection e with e; omega)
    obtain ⟨q, hq⟩ : ∃ q, numberF v.n = q := ⟨_, rfl⟩
    rw [hq] at HP HM
    rw [hq]
    clear hm hx hwv hk hE hat hok hl h hv hf hq H HE
    go_enter Tryd.func31, Tryd.ntmps31
    go_wp2_with (fail)
    ((with_reducible refine (HK.out).mono ?_); rintro _ w1 ⟨rfl, hb1⟩)
    obtain ⟨hX, hbT⟩ := locs1 hb1
    have X := Lib.hid hX
    clear hX
    replace HB := Lib.hid (HB.out.trans (hbT.mono HB.out.size))
    clear hbT hb1 
    obtain ⟨zX, kX, fX⟩ := X.out
    go_wp2_with (fail)
    go_region_with (first
      | (go_at_call 23; ((with_reducible refine (HN.out _ ?hs1).mono ?_); (case hs1 => first | exact HB.out | exact HB.out.drew); rintro _ w3 ⟨rfl, h3, g3⟩; have X3 := Lib.hid ((Loc.drew X.out).grown g3 HNE.out); obtain ⟨zX3, kX3, fX3⟩ := X3.out))
      | (go_at_call 53; ((with_reducible refine (HM.out _).mono ?_); rintro _ w9 ⟨rfl, hw9⟩; obtain rfl := hw9)))
    all_goals
      go_wp2_with (fail)
      go_ret
      exact HP.out _ ((grown_row b HB.out).trans (ungrown g3)) h3
  · have hwv : wvOf v = .int v.n := by unfold wvOf; rw [if_neg (by rw [hx]; decide), if_pos hx]
    rw [hwv]
    obtain ⟨⟨m, r2⟩, hm⟩ : ∃ y, intF r = y := ⟨_, rfl⟩
    have HP : Hid (∀ w', w.grownBy w' (some b) → RdAt w' b r2 → EqPost w b (.int v.n) r (.returned (.bool (decide (m = v.n)))) w') := Lib.hid (fun w' g h2 => ⟨⟨_, rfl, by simp [WV.kind, readF, hm]⟩, by simp only [WV.kind, readF, hm]; exact h2, g⟩)
    have HN := Lib.hid (fun W (hb : Below w.heap.size w W) => IntM_any (H.out W hb) (HE.out W hb) hB (by omega) _ hm)
    have HNE : Hid ((some b : Option Nat) ≠ some w.heap.size) := Lib.hid (fun e => by have := Loc.lt h; injection e with e; omega)
    clear hm hx hwv hk hE hat hok hl h hv hf H HE
    go_enter Tryd.func31, Tryd.ntmps31
    go_wp2_with (fail)
    ((with_reducible refine (HK.out).mono ?_); rintro _ w1 ⟨rfl, hb1⟩)
    obtain ⟨hX, hbT⟩ := locs1 hb1
    have X := Lib.hid hX
    clear hX
    replace HB := Lib.hid (HB.out.trans (hbT.mono HB.out.size))
    clear hbT hb1 
    obtain ⟨zX, kX, fX⟩ := X.out
    go_wp2_with (fail)
    go_region_with (
      (go_at_call 24; ((with_reducible refine (HN.out _ ?hs1).mono ?_); (case hs1 => first | exact HB.out | exact HB.out.drew); rintro _ w3 ⟨rfl, h3, g3⟩; have X3 := Lib.hid ((Loc.drew X.out).grown g3 HNE.out); obtain ⟨zX3, kX3, fX3⟩ := X3.out)))
    all_goals
      go_wp2_with (fail)
      go_ret
      exact HP.out _ ((grown_row b HB.out).trans (ungrown g3)) h3
  · have hwv : wvOf v = .text v.s := by unfold wvOf; rw [if_neg (by rw [hx]; decide), if_neg (by rw [hx]; decide), if_pos hx]
    rw [hwv]
    obtain ⟨⟨m, r2⟩, hm⟩ : ∃ y, textF r = y := ⟨_, rfl⟩
    have HP : Hid (∀ w', w.grownBy w' (some b) → RdAt w' b r2 → EqPost w b (.text v.s) r (.returned (.bool (m == v.s))) w') := Lib.hid (fun w' g h2 => ⟨⟨_, rfl, by simp [WV.kind, readF, hm]⟩, by simp only [WV.kind, readF, hm]; exact h2, g⟩)
    have HN := Lib.hid (fun W (hb : Below w.heap.size w W) => Text_M (H.out W hb) (HE.out W hb) hB hok (by omega) _ hm)
    have HNE : Hid ((some b : Option Nat) ≠ some w.heap.size) := Lib.hid (fun e => by have := Loc.lt h; injection e with e; omega)
    clear hm hx hwv hk hE hat hok hl h hv hf H HE
    go_enter Tryd.func31, Tryd.ntmps31
    go_wp2_with (fail)
    ((with_reducible refine (HK.out).mono ?_); rintro _ w1 ⟨rfl, hb1⟩)
    obtain ⟨hX, hbT⟩ := locs1 hb1
    have X := Lib.hid hX
    clear hX
    replace HB := Lib.hid (HB.out.trans (hbT.mono HB.out.size))
    clear hbT hb1 
    obtain ⟨zX, kX, fX⟩ := X.out
    go_wp2_with (fail)
    go_region_with (
      (go_at_call 25; ((with_reducible refine (HN.out _ ?hs1).mono ?_); (case hs1 => first | exact HB.out | exact HB.out.drew); rintro _ w3 ⟨rfl, h3, g3⟩; have X3 := Lib.hid ((Loc.drew X.out).grown g3 HNE.out); obtain ⟨zX3, kX3, fX3⟩ := X3.out)))
    all_goals
      go_wp2_with (fail)
      go_ret
      exact HP.out _ ((grown_row b HB.out).trans (ungrown g3)) h3
  · have hwv : wvOf v = .ints v.L := by unfold wvOf; rw [if_neg (by rw [hx]; decide), if_neg (by rw [hx]; decide), if_neg (by rw [hx]; decide), if_pos hx]
    rw [hwv]
    obtain ⟨⟨m, r2⟩, hm⟩ : ∃ y, itemsF intF r = y := ⟨_, rfl⟩
    have hlen := (itemsF_len intF_steps hok).1
    rw [hm] at hlen
    have HLEN : Hid (m.length ≤ 1099511627776) := Lib.hid (by simp only at hlen; omega)
    have HP : Hid (∀ w', w.grownBy w' (some b) → RdAt w' b r2 → EqPost w b (.ints v.L) r (.returned (.bool (decide (m = v.L)))) w') := Lib.hid (fun w' g h2 => ⟨⟨_, rfl, by have e : intsF r = (m, r2) := hm; simp [WV.kind, readF, e]⟩, by have e : intsF r = (m, r2) := hm; simp only [WV.kind, readF, e]; exact h2, g⟩)
    have HN := Lib.hid (fun W (hb : Below w.heap.size w W) => NumsM_any (H.out W hb) (HE.out W hb) hB hok (by omega) _ hm)
    have HNE : Hid ((some b : Option Nat) ≠ some w.heap.size) := Lib.hid (fun e => by have := Loc.lt h; injection e with e; omega)
    have HAT := Lib.hid (fun W (g : w.grownBy W (some b)) => hat W (below_row hB hBw g))
    clear hm hx hwv hk hE hat hok hl h hv hf H HE hlen
    go_enter Tryd.func31, Tryd.ntmps31
    go_wp2_with (fail)
    ((with_reducible refine (HK.out).mono ?_); rintro _ w1 ⟨rfl, hb1⟩)
    obtain ⟨hX, hbT⟩ := locs1 hb1
    have X := Lib.hid hX
    clear hX
    replace HB := Lib.hid (HB.out.trans (hbT.mono HB.out.size))
    clear hbT hb1 
    obtain ⟨zX, kX, fX⟩ := X.out
    go_wp2_with (fail)
    go_region_with (first
      | (go_at_call 26; ((with_reducible refine (HN.out _ ?hs1).mono ?_); (case hs1 => first | exact HB.out | exact HB.out.drew); rintro _ w3 ⟨A3, c3, rfl, hs3, h3, g3⟩; have X3 := Lib.hid ((Loc.drew X.out).grown g3 HNE.out); have G3 := Lib.hid ((grown_row b HB.out).trans (ungrown g3)); have S3 := Lib.hid (SameNums_any w3 A3 v.A m.length v.L.length c3 v.c m v.L hs3.1 (HAT.out w3 G3.out).ints HLEN.out _ rfl); have H3 := Lib.hid h3; clear hs3 g3 h3; obtain ⟨zX3, kX3, fX3⟩ := X3.out))
      | (go_at_call 36; ((with_reducible refine (S3.out).mono ?_); rintro _ w4 ⟨rfl, hb4⟩; have HB4 := Lib.hid hb4; clear hb4)))
    all_goals
      go_wp2_with (fail)
      go_ret
      exact HP.out _ (G3.out.trans (grown_row b HB4.out)) (H3.out.below HB4.out)
  · have hwv : wvOf v = .texts v.T := by unfold wvOf; rw [if_neg (by rw [hx]; decide), if_neg (by rw [hx]; decide), if_neg (by rw [hx]; decide), if_neg (by rw [hx]; decide)]
    rw [hwv]
    obtain ⟨⟨m, r2⟩, hm⟩ : ∃ y, itemsF textF r = y := ⟨_, rfl⟩
    have hlen := (itemsF_len textF_steps hok).1
    rw [hm] at hlen
    have HLEN : Hid (m.length ≤ 1099511627776) := Lib.hid (by simp only at hlen; omega)
    have HP : Hid (∀ w', w.grownBy w' (some b) → RdAt w' b r2 → EqPost w b (.texts v.T) r (.returned (.bool (decide (m = v.T)))) w') := Lib.hid (fun w' g h2 => ⟨⟨_, rfl, by have e : textsF r = (m, r2) := hm; simp [WV.kind, readF, e]⟩, by have e : textsF r = (m, r2) := hm; simp only [WV.kind, readF, e]; exact h2, g⟩)
    have HN := Lib.hid (fun W (hb : Below w.heap.size w W) => TextsM_any (H.out W hb) (HE.out W hb) hB hok (by omega) _ hm)
    have HNE : Hid ((some b : Option Nat) ≠ some w.heap.size) := Lib.hid (fun e => by have := Loc.lt h; injection e with e; omega)
    have HAT := Lib.hid (fun W (g : w.grownBy W (some b)) => hat W (below_row hB hBw g))
    clear hm hx hwv hk hE hat hok hl h hv hf H HE hlen
    go_enter Tryd.func31, Tryd.ntmps31
    go_wp2_with (fail)
    ((with_reducible refine (HK.out).mono ?_); rintro _ w1 ⟨rfl, hb1⟩)
    obtain ⟨hX, hbT⟩ := locs1 hb1
    have X := Lib.hid hX
    clear hX
    replace HB := Lib.hid (HB.out.trans (hbT.mono HB.out.size))
    clear hbT hb1 
    obtain ⟨zX, kX, fX⟩ := X.out
    go_wp2_with (fail)
    go_region_with (first
      | (go_at_call 27; ((with_reducible refine (HN.out _ ?hs1).mono ?_); (case hs1 => first | exact HB.out | exact HB.out.drew); rintro _ w3 ⟨A3, c3, rfl, hs3, h3, g3⟩; have X3 := Lib.hid ((Loc.drew X.out).grown g3 HNE.out); have G3 := Lib.hid ((grown_row b HB.out).trans (ungrown g3)); have S3 := Lib.hid (SameTexts_any w3 A3 v.A' m.length v.T.length c3 v.c' m v.T hs3.1 (HAT.out w3 G3.out).strs HLEN.out _ rfl); have H3 := Lib.hid h3; clear hs3 g3 h3; obtain ⟨zX3, kX3, fX3⟩ := X3.out))
      | (go_at_call 38; ((with_reducible refine (S3.out).mono ?_); rintro _ w4 ⟨rfl, hb4⟩; have HB4 := Lib.hid hb4; clear hb4)))
    all_goals
      go_wp2_with (fail)
      go_ret
      exact HP.out _ (G3.out.trans (grown_row b HB4.out)) (H3.out.below HB4.out)
end Go.Proofs.YtmceahmngifcgaaDoor
