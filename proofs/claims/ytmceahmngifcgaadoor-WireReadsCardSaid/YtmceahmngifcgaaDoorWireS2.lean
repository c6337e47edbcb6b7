/- kerbsidelaw01: small, walked. -/
import Derived.Test.YtmceahmngifcgaaDoorWireZ
namespace Go.Proofs.YtmceahmngifcgaaDoor
open Go.RowKit Go.Sort Go.Lib

theorem e_0 : encN 0 = [48, 59] := by simp [encN, encI, Lib.itoa, Lib.decDigits]
theorem e_300 : encN 300 = [51, 48, 48, 59] := by simp [encN, encI, Lib.itoa, Lib.decDigits]
theorem e_m1 : encN (-1) = [] := by simp [encN]
theorem e_m7 : encI (-7) = [45, 55, 59] := by simp [encI, Lib.itoa, Lib.decDigits]
theorem e_7 : encI 7 = [55, 59] := by simp [encI, Lib.itoa, Lib.decDigits]
theorem e_ab : encT [97, 44, 98] = [51, 58, 97, 44, 98, 44] := by simp [encT, Lib.itoa, Lib.decDigits]
theorem e_1m1 : encIs [1, -1] = [50, 91, 49, 59, 45, 49, 59, 93] := by simp [encIs, encI, Lib.itoa, Lib.decDigits]
theorem e_nil : encTs [] = [48, 91, 93] := by simp [encTs, Lib.itoa, Lib.decDigits]
theorem e_007 : natF ⟨[48, 48, 55, 59], false⟩ = (0, .fail) := by
  have h7 : Lib.itoa 7 = [55] := by simp [Lib.itoa, Lib.decDigits]
  have ha : Lib.atoiAll [48, 48, 55] = .ok 7 := by decide
  have hp : placeOf 59 [48, 48, 55, 59] = some 3 := by decide
  unfold natF numF
  simp [hp, ha, h7]
theorem e_flat : (([1, -1] : List Int).map encI).flatten.length ≤ 70368744177664 := by simp [encI, Lib.itoa, Lib.decDigits]
theorem Sl.two (w : World) (e : TypeId) (x y : Value) : Sl (w.alloc (.cells #[x, y] e)) 1 (some ⟨w.heap.size, 0, none⟩) 2 [[x], [y]] :=
  ⟨rfl, fun i z hz => by
    match i, hz with
    | 0, hz =>
      simp at hz
      subst hz
      refine ⟨w.heap.size, 0, rfl, by simp, fun j v hv => ?_⟩
      rw [World.cell?_alloc_at _ _ _ _ rfl]
      match j, hv with
      | 0, hv => simpa using hv
      | j + 1, hv => simp at hv
    | 1, hz =>
      simp at hz
      subst hz
      refine ⟨w.heap.size, 0, rfl, by simp, fun j v hv => ?_⟩
      rw [World.cell?_alloc_at _ _ _ _ rfl]
      match j, hv with
      | 0, hv => simpa using hv
      | j + 1, hv => simp at hv⟩
set_option maxRecDepth 100000 in
set_option maxHeartbeats 8000000 in
theorem small_any {B0 : Nat} (w : World) (hE : Env B0 w) (hB0 : B0 ≤ w.heap.size) :
    Calls Tryd.prog 9 #[] w fun e w' => e = .returned (.bool true) ∧ Below w.heap.size w w' := by
  have HT := Lib.hid (fun W (hb : Below w.heap.size w W) => (hE.below (hb.mono hB0)).isTab)
  have HE := Lib.hid (fun W (hb : Below w.heap.size w W) => hE.below (hb.mono hB0))
  have h1 := Lib.hid (fun W hb => Num_any W (HT.out W hb) 0 (by omega) (by omega) _ e_0)
  have h2 := Lib.hid (fun W hb => Num_any W (HT.out W hb) 300 (by omega) (by omega) _ e_300)
  have h3 := Lib.hid (fun W hb => Num_any W (HT.out W hb) (-1) (by omega) (by omega) _ e_m1)
  have h4 := Lib.hid (fun W hb => Int_any W (HT.out W hb) (-7) (by omega) (by omega) _ e_m7)
  have h5 := Lib.hid (fun W hb => Int_any W (HT.out W hb) 7 (by omega) (by omega) _ e_7)
  have h6 := Lib.hid (fun W hb => Text_any W (HT.out W hb) [97, 44, 98] (by simp) _ e_ab)
  have h7 := Lib.hid (fun W (hb : Below w.heap.size w W) => Nums_any (W.alloc (.cells #[.int .i64 1, .int .i64 (-1)] 3)) (HE.out _ (hb.alloc hb.size _)) (by have := hb.size; simp only [World.size_alloc]; omega) (some ⟨W.heap.size, 0, none⟩) 2 2 [1, -1] (Sl.two W 3 (.int .i64 1) (.int .i64 (-1))) (by simp [inI]) (by omega) e_flat _ e_1m1)
  have h8 := Lib.hid (fun W (hb : Below w.heap.size w W) => Texts_any W (HE.out _ hb) (Nat.le_trans hB0 hb.size) none 0 0 [] (Sl.nil_ _ _ _) (by simp) (by omega) (by simp) _ e_nil)
  have h9 := Lib.hid (fun W => Open_any W [48, 48, 55, 59])
  have HB := Lib.hid (Below.refl w.heap.size w)
  have HB0 := Lib.hid hB0
  clear hE hB0
  go_enter Tryd.func9, Tryd.ntmps9
  go_wp2_with (fail)
  ((with_reducible refine (h1.out _ HB.out).mono ?_); rintro _ w1 ⟨rfl, hb1⟩)
  have hbT := hb1
  replace HB := Lib.hid (HB.out.trans (hbT.mono HB.out.size))
  clear hbT hb1 
  go_wp2_with (fail)
  ((with_reducible refine (h2.out _ HB.out).mono ?_); rintro _ w2 ⟨rfl, hb2⟩)
  have hbT := hb2
  replace HB := Lib.hid (HB.out.trans (hbT.mono HB.out.size))
  clear hbT hb2 
  go_wp2_with (fail)
  ((with_reducible refine (h3.out _ HB.out).mono ?_); rintro _ w3 ⟨rfl, hb3⟩)
  have hbT := hb3
  replace HB := Lib.hid (HB.out.trans (hbT.mono HB.out.size))
  clear hbT hb3 
  go_wp2_with (fail)
  ((with_reducible refine (h4.out _ HB.out).mono ?_); rintro _ w4 ⟨rfl, hb4⟩)
  have hbT := hb4
  replace HB := Lib.hid (HB.out.trans (hbT.mono HB.out.size))
  clear hbT hb4 
  go_wp2_with (fail)
  ((with_reducible refine (h5.out _ HB.out).mono ?_); rintro _ w5 ⟨rfl, hb5⟩)
  have hbT := hb5
  replace HB := Lib.hid (HB.out.trans (hbT.mono HB.out.size))
  clear hbT hb5 
  go_wp2_with (fail)
  ((with_reducible refine (h6.out _ HB.out).mono ?_); rintro _ w6 ⟨rfl, hb6⟩)
  have hbT := hb6
  replace HB := Lib.hid (HB.out.trans (hbT.mono HB.out.size))
  clear hbT hb6 
  go_wp2_with (fail)
  ((with_reducible refine (h7.out _ HB.out).mono ?_); rintro _ w7 ⟨rfl, hb7⟩)
  obtain ⟨_, hbT⟩ := locs1 hb7
  replace HB := Lib.hid (HB.out.trans (hbT.mono HB.out.size))
  clear hbT hb7 
  go_wp2_with (fail)
  ((with_reducible refine (h8.out _ HB.out).mono ?_); rintro _ w8 ⟨rfl, hb8⟩)
  have hbT := hb8
  replace HB := Lib.hid (HB.out.trans (hbT.mono HB.out.size))
  clear hbT hb8 
  go_wp2_with (fail)
  ((with_reducible refine (h9.out _).mono ?_); rintro _ w9 ⟨rfl, hr9, hb9⟩)
  have hEw := HE.out w9 (HB.out.trans (hb9.mono HB.out.size))
  have H9 := Lib.hid (NumM_any hr9 hEw (Nat.le_trans HB0.out HB.out.size) (by simp) _ e_007)
  have HZ := Lib.hid hb9
  clear hr9 hb9 hEw
  go_wp2_with (fail)
  ((with_reducible refine (H9.out).mono ?_); rintro _ wa ⟨rfl, hr, hg⟩)
  have HL := Lib.hid (Left_any hr 0 rfl)
  have HD := Lib.hid (Done_any hr false rfl)
  have HG := Lib.hid (HB.out.trans ((HZ.out.mono HB.out.size).grown hg (Nat.le_trans HB.out.size HZ.out.size) (fun k hk => by injection hk with hk; have := HB.out.size; omega)))
  clear hr hg
  go_wp2_with (first | ((with_reducible refine (HL.out).mono ?_); rintro _ w9 ⟨rfl, hw9⟩; obtain rfl := hw9) | ((with_reducible refine (HD.out).mono ?_); rintro _ w9 ⟨rfl, hw9⟩; obtain rfl := hw9))
  go_ret
  exact ⟨rfl, HG.out⟩
end Go.Proofs.YtmceahmngifcgaaDoor
