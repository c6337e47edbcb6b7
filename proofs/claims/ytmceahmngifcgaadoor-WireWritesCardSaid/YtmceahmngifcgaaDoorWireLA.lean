/- kerbsidelaw01: WireWrites, walked. -/
import Derived.Test.YtmceahmngifcgaaDoorWireS2
import Derived.Deep.RegionHeld3
namespace Go.Proofs.YtmceahmngifcgaaDoor
open Go.RowKit Go.Sort Go.Lib

theorem Sl.one5 (w : World) (e : TypeId) (v : ValC) : Sl (w.alloc (.cells #[.int .i64 v.k, .int .i64 v.n, .string ⟨v.s.toArray⟩, .slice v.A v.L.length v.c, .slice v.A' v.T.length v.c'] e)) 5 (some ⟨w.heap.size, 0, none⟩) 1 ([v].map ValC.cells) := Sl.new_ w e v.cells
set_option maxRecDepth 100000 in
set_option maxHeartbeats 16000000 in
theorem writes_any (w : World) (hE : Env w.heap.size w) (v : ValC) (hok : v.ok) (hat : ValAt w v) :
    Calls Tryd.prog 3 #[.agg #[.int .i64 v.k, .int .i64 v.n, .string ⟨v.s.toArray⟩, .slice v.A v.L.length v.c, .slice v.A' v.T.length v.c']] w fun e w' => e = .returned (.bool true) ∧ Below w.heap.size w w' := by
  have HT := Lib.hid (fun W (hb : Below w.heap.size w W) => (hE.below hb).isTab)
  have HE := Lib.hid (fun W (hb : Below w.heap.size w W) => hE.below hb)
  have HS := Lib.hid (fun W (hb : Below w.heap.size w W) => small_any W (hE.below hb) hb.size)
  have HF := Lib.hid (fun W (hb : Below w.heap.size w W) => few_any (W.alloc (.cells #[.int .i64 v.k, .int .i64 v.n, .string ⟨v.s.toArray⟩, .slice v.A v.L.length v.c, .slice v.A' v.T.length v.c'] 25)) (some ⟨W.heap.size, 0, none⟩) 1 1 [v] (Sl.one5 W _ v) (fun u hu => by simp only [List.mem_singleton] at hu; subst hu; exact hat.below (hb.alloc hb.size _)))
  have HB := Lib.hid (Below.refl w.heap.size w)
  have HOK := Lib.hid hok
  have HAT := Lib.hid hat
  clear hE hok hat
  go_enter Tryd.func3, Tryd.ntmps3
  go_wp2_with (fail)
  ((with_reducible refine (HS.out _ (HB.out.alloc (Nat.le_refl _) _)).mono ?_); rintro _ w1 ⟨rfl, hb1⟩)
  obtain ⟨hX, hbT⟩ := locs1 hb1
  have X := Lib.hid hX
  clear hX
  replace HB := Lib.hid (HB.out.trans (hbT.mono HB.out.size))
  clear hbT hb1 
  obtain ⟨zX, kX, fX⟩ := X.out
  go_wp2_with (fail)
  ((with_reducible refine (HF.out _ HB.out).mono ?_); rintro _ w2 ⟨k, rfl, hk, hb2⟩)
  obtain ⟨_, hbT⟩ := locs1 hb2
  replace HB := Lib.hid (HB.out.trans (hbT.mono HB.out.size))
  replace X := Lib.hid (X.out.below hbT)
  clear hbT hb2 zX kX fX
  have HK := Lib.hid hk
  clear hk
  cases k
  · go_wp2_with (fail)
    go_ret
    exact ⟨rfl, HB.out⟩
  have hf : v.few := (HK.out rfl).2 v (by simp)
  obtain ⟨rN, hrN⟩ : ∃ r, encN v.n = r := ⟨_, rfl⟩
  obtain ⟨rI, hrI⟩ : ∃ r, encI v.n = r := ⟨_, rfl⟩
  obtain ⟨rT, hrT⟩ : ∃ r, encT v.s = r := ⟨_, rfl⟩
  obtain ⟨rL, hrL⟩ : ∃ r, encIs v.L = r := ⟨_, rfl⟩
  obtain ⟨rM, hrM⟩ : ∃ r, encTs v.T = r := ⟨_, rfl⟩
  have hn := HOK.out.n
  have hs3 := hf.2.2.1
  have c1 := Lib.hid (fun W (hb : Below w.heap.size w W) => Num_any W (HT.out W hb) v.n hn.1 hn.2 rN hrN)
  have c2 := Lib.hid (fun W => RNum_any W v.n hn.1 hn.2 rN hrN)
  have c3 := Lib.hid (fun W (hb : Below w.heap.size w W) => Int_any W (HT.out W hb) v.n hn.1 hn.2 rI hrI)
  have c4 := Lib.hid (fun W => RInt_any W v.n hn.1 hn.2 rI hrI)
  have c5 := Lib.hid (fun W (hb : Below w.heap.size w W) => Text_any W (HT.out W hb) v.s (by omega) rT hrT)
  have c6 := Lib.hid (fun W => RText_any W v.s (by omega) rT hrT)
  have c7 := Lib.hid (fun W (hb : Below w.heap.size w W) => Nums_any W (HE.out W hb) hb.size v.A v.L.length v.c v.L (HAT.out.ints.below hb) HOK.out.L (by have := hf.1; omega) (few_flatI hf HOK.out.L) rL hrL)
  have c8 := Lib.hid (fun W (hb : Below w.heap.size w W) => RNums_any W v.A v.L.length v.c v.L (HAT.out.ints.below hb) HOK.out.L (by have := hf.1; omega) (few_flatI hf HOK.out.L) rL hrL)
  have c9 := Lib.hid (fun W (hb : Below w.heap.size w W) => Texts_any W (HE.out W hb) hb.size v.A' v.T.length v.c' v.T (HAT.out.strs.below hb) (fun x hx => by have := hf.2.2.2 x hx; omega) (by have := hf.2.1; omega) (few_flatT hf) rM hrM)
  have c0 := Lib.hid (fun W (hb : Below w.heap.size w W) => RTexts_any W v.A' v.T.length v.c' v.T (HAT.out.strs.below hb) (fun x hx => by have := hf.2.2.2 x hx; omega) (by have := hf.2.1; omega) (few_flatT hf) rM hrM)
  clear hrN hrI hrT hrL hrM hn hs3 hf HK
  go_wp2_with (fail)
  have hS : ∀ w', Below w2.heap.size w2 w' → _ := fun w' hb => And.intro ((X.out.below hb).cell 1) (And.intro ((X.out.below hb).cell 2) hb)
  have HSS := Lib.hid hS
  clear hS
  obtain ⟨zX, kX, fX⟩ := X.out
  go_region_held3 (fun w' => w'.cell? ⟨w.heap.size, 1, none⟩ = some (.int .i64 v.n) ∧ w'.cell? ⟨w.heap.size, 2, none⟩ = some (.string ⟨v.s.toArray⟩) ∧ Below w2.heap.size w2 w')
      (first | exact HSS.out _ hB7 | (refine HSS.out _ ?_; repeat (first | exact hB7 | exact Below.refl _ _ | refine Below.drew ?_ | refine Below.alloc ?_ (by first | exact Nat.le_refl _ | exact hB7.size | (simp <;> omega)) _ | refine Below.setCell ?_ (by first | exact Nat.le_refl _ | exact hB7.size | (simp <;> omega)) _)))
      (first
        | (go_at_call 11
           ((with_reducible refine (c1.out _ ?hs1).mono ?_)
            (case hs1 => exact HB.out.trans (Below.mono (by go_split_ands; assumption) HB.out.size))
            rintro e w3 ⟨rfl, hbF⟩
            have hB7 : Below w2.heap.size w2 w3 := by go_split_ands; exact Below.trans (by assumption) (hbF.mono (Below.size (by assumption)))))
        | (go_at_call 12
           ((with_reducible refine (c2.out _).mono ?_)
            rintro e w3 ⟨rfl, hbF⟩
            have hB7 : Below w2.heap.size w2 w3 := by go_split_ands; exact Below.trans (by assumption) (hbF.mono (Below.size (by assumption)))))
        | (go_at_call 13
           ((with_reducible refine (c3.out _ ?hs1).mono ?_)
            (case hs1 => exact HB.out.trans (Below.mono (by go_split_ands; assumption) HB.out.size))
            rintro e w3 ⟨rfl, hbF⟩
            have hB7 : Below w2.heap.size w2 w3 := by go_split_ands; exact Below.trans (by assumption) (hbF.mono (Below.size (by assumption)))))
        | (go_at_call 14
           ((with_reducible refine (c4.out _).mono ?_)
            rintro e w3 ⟨rfl, hbF⟩
            have hB7 : Below w2.heap.size w2 w3 := by go_split_ands; exact Below.trans (by assumption) (hbF.mono (Below.size (by assumption)))))
        | (go_at_call 15
           ((with_reducible refine (c5.out _ ?hs1).mono ?_)
            (case hs1 => exact HB.out.trans (Below.mono (by go_split_ands; assumption) HB.out.size))
            rintro e w3 ⟨rfl, hbF⟩
            have hB7 : Below w2.heap.size w2 w3 := by go_split_ands; exact Below.trans (by assumption) (hbF.mono (Below.size (by assumption)))))
        | (go_at_call 16
           ((with_reducible refine (c6.out _).mono ?_)
            rintro e w3 ⟨rfl, hbF⟩
            have hB7 : Below w2.heap.size w2 w3 := by go_split_ands; exact Below.trans (by assumption) (hbF.mono (Below.size (by assumption))))))
  have HB5 := Lib.hid (HB.out.trans (hB7.mono HB.out.size))
  have X5 := Lib.hid (X.out.below hB7)
  clear hB7 zX kX fX hbF
  go_wp2_with (fail)
  have hS : ∀ w', Below w3.heap.size w3 w' → _ := fun w' hb => And.intro ((X5.out.below hb).cell 3) (And.intro ((X5.out.below hb).cell 4) hb)
  have HS5 := Lib.hid hS
  clear hS
  obtain ⟨zX5, kX5, fX5⟩ := X5.out
  go_region_held3 (fun w' => w'.cell? ⟨w.heap.size, 3, none⟩ = some (.slice v.A v.L.length v.c) ∧ w'.cell? ⟨w.heap.size, 4, none⟩ = some (.slice v.A' v.T.length v.c') ∧ Below w3.heap.size w3 w')
      (first | exact HS5.out _ hB8 | (refine HS5.out _ ?_; repeat (first | exact hB8 | exact Below.refl _ _ | refine Below.drew ?_ | refine Below.alloc ?_ (by first | exact Nat.le_refl _ | exact hB8.size | (simp <;> omega)) _ | refine Below.setCell ?_ (by first | exact Nat.le_refl _ | exact hB8.size | (simp <;> omega)) _)))
      (first
        | (go_at_call 17
           ((with_reducible refine (c7.out _ ?hs1).mono ?_)
            (case hs1 => exact HB5.out.trans (Below.mono (by go_split_ands; assumption) HB5.out.size))
            rintro e w4 ⟨rfl, hbG⟩
            have hB8 : Below w3.heap.size w3 w4 := by go_split_ands; exact Below.trans (by assumption) (hbG.mono (Below.size (by assumption)))))
        | (go_at_call 18
           ((with_reducible refine (c8.out _ ?hs1).mono ?_)
            (case hs1 => exact HB5.out.trans (Below.mono (by go_split_ands; assumption) HB5.out.size))
            rintro e w4 ⟨rfl, hbG⟩
            have hB8 : Below w3.heap.size w3 w4 := by go_split_ands; exact Below.trans (by assumption) (hbG.mono (Below.size (by assumption)))))
        | (go_at_call 19
           ((with_reducible refine (c9.out _ ?hs1).mono ?_)
            (case hs1 => exact HB5.out.trans (Below.mono (by go_split_ands; assumption) HB5.out.size))
            rintro e w4 ⟨rfl, hbG⟩
            have hB8 : Below w3.heap.size w3 w4 := by go_split_ands; exact Below.trans (by assumption) (hbG.mono (Below.size (by assumption)))))
        | (go_at_call 20
           ((with_reducible refine (c0.out _ ?hs1).mono ?_)
            (case hs1 => exact HB5.out.trans (Below.mono (by go_split_ands; assumption) HB5.out.size))
            rintro e w4 ⟨rfl, hbG⟩
            have hB8 : Below w3.heap.size w3 w4 := by go_split_ands; exact Below.trans (by assumption) (hbG.mono (Below.size (by assumption))))))
  have HB9 := Lib.hid (HB5.out.trans (hB8.mono HB5.out.size))
  clear hB8
  go_wp2_with (fail)
  go_ret
  exact ⟨rfl, HB9.out⟩
end Go.Proofs.YtmceahmngifcgaaDoor
