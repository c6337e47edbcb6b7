/- chain: the reference's Convicts, Encode, walked (written by wip/gen_chainrc.py out of XChainF, XChainG). -/
import Derived.Test.YtjncmlglhegnaaaGreatDoorChainRB
import Derived.Test.YtjncmlglhegnaaaGreatDoorChainJ
import Derived.Test.YtjncmlglhegnaaaGreatDoorChainK
import Derived.Test.YtjncmlglhegnaaaGreatDoorWireW
namespace Go.Proofs.YtjncmlglhegnaaaGreatDoor
open Go.RowKit Go.Sort Go.Lib

set_option maxRecDepth 100000 in
set_option maxHeartbeats 16000000 in
theorem REncode_any (w : World) (e : EntC) (he : EntAt w e) (le : e.v.seen.length ≤ 1099511627776 ∧ e.v.text.length ≤ 140737488351232) (r : List UInt8 × Bool) (hr : encodeF e.v = r) :
    Calls Tryz.prog 130 #[.agg e.cells.toArray] w fun x w' => x = .returned (.tuple #[.string ⟨r.1.toArray⟩, .bool r.2]) ∧ Below w.heap.size w w' := by
  obtain ⟨ra, hra⟩ : ∃ q, rightB e.v = q := ⟨_, rfl⟩
  have HA := Lib.hid (fun W (h : Below w.heap.size w W) => RRight_any W e (he.below h) ra hra)
  have HB := Lib.hid (Below.refl w.heap.size w)
  obtain ⟨⟨dev, no, day, seen, text⟩, A, c⟩ := e
  simp only [EntC.cells, EntAt] at HA he le hr ⊢
  unfold encodeF at hr
  rw [hra] at hr
  cases ra
  · subst hr
    clear he le hra
    go_enter Tryz.func130, Tryz.ntmps130
    go_wp2_with (fail)
    ((with_reducible refine (HA.out _ (HB.out.alloc (Nat.le_refl _) _)).mono ?_); rintro _ w1 ⟨rfl, hb1⟩)
    obtain ⟨hX, hbT⟩ := locs1 hb1
    have X := Lib.hid hX
    clear hX
    replace HB := Lib.hid (HB.out.trans (hbT.mono HB.out.size))
    clear hbT hb1 
    go_wp2_with (fail)
    go_ret2
    exact ⟨rfl, HB.out⟩
  have hR := rightB_true.1 hra
  rw [if_pos rfl] at hr
  obtain ⟨q1, h1⟩ : ∃ q, encN dev = q := ⟨_, rfl⟩
  obtain ⟨q2, h2⟩ : ∃ q, encN no = q := ⟨_, rfl⟩
  obtain ⟨q3, h3⟩ : ∃ q, encN day = q := ⟨_, rfl⟩
  obtain ⟨q4, h4⟩ : ∃ q, encIs seen = q := ⟨_, rfl⟩
  obtain ⟨q5, h5⟩ : ∃ q, encT text = q := ⟨_, rfl⟩
  have hs : q1 ++ (q2 ++ (q3 ++ (q4 ++ q5))) = encE ⟨dev, no, day, seen, text⟩ := by unfold encE; rw [h1, h2, h3, h4, h5]
  have hi : ∀ x ∈ seen, inI x := fun x hx => by have := hR.rng x hx; unfold inI; omega
  have hf : (seen.map encI).flatten.length ≤ 70368744177664 := by
    have h1 := flat_le encI 21 seen fun x hx => encI_len (hi x hx)
    have h2 := hR.len
    simp only at h2
    omega
  have b1 := hR.d0
  have b2 := hR.d1
  have b3 := hR.n0
  have b4 := hR.n1
  have b5 := hR.y0
  have b6 := hR.y1
  have b7 := hR.txt
  have b8 := hR.len
  simp only at b1 b2 b3 b4 b5 b6 b7 b8
  have c1 := Lib.hid (fun W (hb : Below w.heap.size w W) => RNum_any W dev (by omega) (by omega) q1 h1)
  have c2 := Lib.hid (fun W (hb : Below w.heap.size w W) => RNum_any W no (by omega) (by omega) q2 h2)
  have c3 := Lib.hid (fun W (hb : Below w.heap.size w W) => RNum_any W day (by omega) (by omega) q3 h3)
  have c4 := Lib.hid (fun W (hb : Below w.heap.size w W) => RNums_any W A seen.length c seen (he.below hb) hi (by omega) hf q4 h4)
  have c5 := Lib.hid (fun W (hb : Below w.heap.size w W) => RText_any W text (by omega) q5 h5)
  have HR : Hid (r = (q1 ++ (q2 ++ (q3 ++ (q4 ++ q5))), true)) := Lib.hid (by rw [hs]; exact hr.symm)
  have l1 : q1.length ≤ 21 := by rw [← h1]; unfold encN; rw [if_neg (by omega)]; exact encI_len ⟨by omega, by omega⟩
  have l2 : q2.length ≤ 21 := by rw [← h2]; unfold encN; rw [if_neg (by omega)]; exact encI_len ⟨by omega, by omega⟩
  have l3 : q3.length ≤ 21 := by rw [← h3]; unfold encN; rw [if_neg (by omega)]; exact encI_len ⟨by omega, by omega⟩
  have l5 : q5.length ≤ 140737488351232 := by rw [← h5]; have := encT_len (s := text) (by omega); omega
  have l4 : q4.length ≤ 140737488351232 := by
    rw [← h4]
    have h6 := itoa_length (n := (seen.length : Int)) (by omega) (by omega)
    unfold encIs
    simp
    have h7 : ((seen.map encI).flatten).length = (seen.map (fun x => (encI x).length)).sum := by simp [List.length_flatten, Function.comp_def]
    simp only [List.length_flatten, List.map_map, Function.comp_def] at hf ⊢
    omega
  have z2 : ((⟨q1.toArray⟩ : ByteArray) ++ ⟨q2.toArray⟩).size = q1.length + q2.length := by rw [str_app]; simp [ByteArray.size]
  have z3 : (((⟨q1.toArray⟩ : ByteArray) ++ ⟨q2.toArray⟩) ++ ⟨q3.toArray⟩).size = q1.length + q2.length + q3.length := by rw [str_app, str_app]; simp [ByteArray.size]; omega
  have z4 : ((((⟨q1.toArray⟩ : ByteArray) ++ ⟨q2.toArray⟩) ++ ⟨q3.toArray⟩) ++ ⟨q4.toArray⟩).size = q1.length + q2.length + q3.length + q4.length := by rw [str_app, str_app, str_app]; simp [ByteArray.size]; omega
  have y1 := str_size q1
  have y2 := str_size q2
  have y3 := str_size q3
  have y4 := str_size q4
  have y5 := str_size q5
  have i1 : ¬ 9223372036854775807 < q1.length + q2.length := by omega
  have i2 : ¬ 9223372036854775807 < q1.length + q2.length + q3.length := by omega
  have i3 : ¬ 9223372036854775807 < q1.length + q2.length + q3.length + q4.length := by omega
  have i4 : ¬ 9223372036854775807 < q1.length + q2.length + q3.length + q4.length + q5.length := by omega
  have HQ : Hid (((((⟨q1.toArray⟩ : ByteArray) ++ ⟨q2.toArray⟩) ++ ⟨q3.toArray⟩) ++ ⟨q4.toArray⟩) ++ ⟨q5.toArray⟩ = ⟨r.1.toArray⟩ ∧ r.2 = true) := Lib.hid (by rw [HR.out]; refine ⟨?_, rfl⟩; rw [str_app, str_app, str_app, str_app]; simp)
  generalize seen.length = n at *
  clear he le hra hr hR h1 h2 h3 h4 h5 hs hi hf b1 b2 b3 b4 b5 b6 b7 b8 l1 l2 l3 l4 l5 HR
  go_enter Tryz.func130, Tryz.ntmps130
  go_wp2_with (fail)
  ((with_reducible refine (HA.out _ (HB.out.alloc (Nat.le_refl _) _)).mono ?_); rintro _ w1 ⟨rfl, hb1⟩)
  obtain ⟨hX, hbT⟩ := locs1 hb1
  have X := Lib.hid hX
  clear hX
  replace HB := Lib.hid (HB.out.trans (hbT.mono HB.out.size))
  clear hbT hb1 
  have hS : ∀ w', Below w1.heap.size w1 w' → _ := fun w' hb => And.intro ((X.out.below hb).cell 0) (And.intro ((X.out.below hb).cell 1) (And.intro ((X.out.below hb).cell 2) (And.intro ((X.out.below hb).cell 3) (And.intro ((X.out.below hb).cell 4) hb))))
  have HSS := Lib.hid hS
  clear hS
  obtain ⟨zX, kX, fX⟩ := X.out
  go_wp2_with (fail)
  go_region_held3 (fun w' => w'.cell? ⟨w.heap.size, 0, none⟩ = some (.int .i64 dev) ∧ w'.cell? ⟨w.heap.size, 1, none⟩ = some (.int .i64 no) ∧ w'.cell? ⟨w.heap.size, 2, none⟩ = some (.int .i64 day) ∧ w'.cell? ⟨w.heap.size, 3, none⟩ = some (.slice A n c) ∧ w'.cell? ⟨w.heap.size, 4, none⟩ = some (.string ⟨text.toArray⟩) ∧ Below w1.heap.size w1 w')
      (first | exact HSS.out _ hB7 | (refine HSS.out _ ?_; repeat (first | exact hB7 | exact Below.refl _ _ | refine Below.drew ?_ | refine Below.alloc ?_ (by first | exact Nat.le_refl _ | exact hB7.size | (simp <;> omega)) _ | refine Below.setCell ?_ (by first | exact Nat.le_refl _ | exact hB7.size | (simp <;> omega)) _)))
      (first
        | ((with_reducible refine (c1.out _ ?hs1).mono ?_)
           (case hs1 => exact HB.out.trans (Below.mono (by go_split_ands; assumption) HB.out.size))
           rintro e w3 ⟨rfl, hbF⟩
           have hB7 : Below w1.heap.size w1 w3 := by go_split_ands; exact Below.trans (by assumption) (hbF.mono (Below.size (by assumption))))
        | ((with_reducible refine (c2.out _ ?hs1).mono ?_)
           (case hs1 => exact HB.out.trans (Below.mono (by go_split_ands; assumption) HB.out.size))
           rintro e w3 ⟨rfl, hbF⟩
           have hB7 : Below w1.heap.size w1 w3 := by go_split_ands; exact Below.trans (by assumption) (hbF.mono (Below.size (by assumption))))
        | ((with_reducible refine (c3.out _ ?hs1).mono ?_)
           (case hs1 => exact HB.out.trans (Below.mono (by go_split_ands; assumption) HB.out.size))
           rintro e w3 ⟨rfl, hbF⟩
           have hB7 : Below w1.heap.size w1 w3 := by go_split_ands; exact Below.trans (by assumption) (hbF.mono (Below.size (by assumption))))
        | ((with_reducible refine (c4.out _ ?hs1).mono ?_)
           (case hs1 => exact HB.out.trans (Below.mono (by go_split_ands; assumption) HB.out.size))
           rintro e w3 ⟨rfl, hbF⟩
           have hB7 : Below w1.heap.size w1 w3 := by go_split_ands; exact Below.trans (by assumption) (hbF.mono (Below.size (by assumption))))
        | ((with_reducible refine (c5.out _ ?hs1).mono ?_)
           (case hs1 => exact HB.out.trans (Below.mono (by go_split_ands; assumption) HB.out.size))
           rintro e w3 ⟨rfl, hbF⟩
           have hB7 : Below w1.heap.size w1 w3 := by go_split_ands; exact Below.trans (by assumption) (hbF.mono (Below.size (by assumption)))))
  have HB9 := Lib.hid (HB.out.trans (hB7.mono HB.out.size))
  clear hB7
  go_wp2_with (fail)
  go_ret2
  exact ⟨by rw [HQ.out.2, ← HQ.out.1]; rfl, HB9.out⟩
end Go.Proofs.YtjncmlglhegnaaaGreatDoor
