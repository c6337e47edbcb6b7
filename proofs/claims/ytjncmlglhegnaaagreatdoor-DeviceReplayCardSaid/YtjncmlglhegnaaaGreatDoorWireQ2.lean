/- chain: Encode, walked. -/
/- wire: how much a run of items reads; what a method of a reader leaves below a bound (plain Lean). -/
import Derived.Test.YtjncmlglhegnaaaGreatDoorChainF
import Derived.Test.YtjncmlglhegnaaaGreatDoorWireV
import Derived.Deep.RegionHeld3
import Derived.Test.YtjncmlglhegnaaaGreatDoorWireQ
namespace Go.Proofs.YtjncmlglhegnaaaGreatDoor
open Go.RowKit Go.Sort Go.Lib

def encodeF (e : EntV) : List UInt8 × Bool := if rightB e = true then (encE e, true) else ([], false)
set_option maxRecDepth 100000 in
set_option maxHeartbeats 16000000 in
theorem Encode_any {B0 : Nat} (w : World) (hE : Env B0 w) (hB0 : B0 ≤ w.heap.size) (e : EntC) (he : EntAt w e) (le : e.v.seen.length ≤ 1099511627776 ∧ e.v.text.length ≤ 140737488351232) (r : List UInt8 × Bool) (hr : encodeF e.v = r) :
    Calls Tryz.prog 127 #[.agg e.cells.toArray] w fun x w' => x = .returned (.tuple #[.string ⟨r.1.toArray⟩, .bool r.2]) ∧ Below w.heap.size w w' := by
  have HE := Lib.hid (fun W (hb : Below w.heap.size w W) => hE.below (hb.mono hB0))
  obtain ⟨ra, hra⟩ : ∃ q, rightB e.v = q := ⟨_, rfl⟩
  have HA := Lib.hid (fun W (h : Below w.heap.size w W) => Right_any W e (he.below h) le.1 le.2 ra hra)
  have HB := Lib.hid (Below.refl w.heap.size w)
  obtain ⟨⟨dev, no, day, seen, text⟩, A, c⟩ := e
  simp only [EntC.cells, EntAt] at HA he le hr ⊢
  unfold encodeF at hr
  rw [hra] at hr
  cases ra
  · subst hr
    clear hE he le hra
    go_enter Tryz.func127, Tryz.ntmps127
    go_wp2_with (fail)
    ((with_reducible refine (HA.out _ (HB.out.alloc (Nat.le_refl _) _)).mono ?_); rintro _ w1 ⟨rfl, hb1⟩)
    obtain ⟨hX, hbT⟩ := locs1 hb1
    have X := Lib.hid hX
    clear hX
    replace HB := Lib.hid (HB.out.trans (hbT.mono HB.out.size))
    clear hbT hb1 
    go_wp2_with (fail)
    go_ret2
    exact ⟨rfl, HB.out⟩
  have hR := rightB_true.1 hra
  rw [if_pos rfl] at hr
  obtain ⟨q1, h1⟩ : ∃ q, encN dev = q := ⟨_, rfl⟩
  obtain ⟨q2, h2⟩ : ∃ q, encN no = q := ⟨_, rfl⟩
  obtain ⟨q3, h3⟩ : ∃ q, encN day = q := ⟨_, rfl⟩
  obtain ⟨q4, h4⟩ : ∃ q, encIs seen = q := ⟨_, rfl⟩
  obtain ⟨q5, h5⟩ : ∃ q, encT text = q := ⟨_, rfl⟩
  have hs : q1 ++ (q2 ++ (q3 ++ (q4 ++ q5))) = encE ⟨dev, no, day, seen, text⟩ := by unfold encE; rw [h1, h2, h3, h4, h5]
  have hi : ∀ x ∈ seen, inI x := fun x hx => by have := hR.rng x hx; unfold inI; omega
  have hf : (seen.map encI).flatten.length ≤ 70368744177664 := by
    have h1 := flat_le encI 21 seen fun x hx => encI_len (hi x hx)
    have h2 := hR.len
    simp only at h2
    omega
  have b1 := hR.d0
  have b2 := hR.d1
  have b3 := hR.n0
  have b4 := hR.n1
  have b5 := hR.y0
  have b6 := hR.y1
  have b7 := hR.txt
  have b8 := hR.len
  simp only at b1 b2 b3 b4 b5 b6 b7 b8
  have c1 := Lib.hid (fun W (hb : Below w.heap.size w W) => Num_any W (HE.out W hb).isTab dev (by omega) (by omega) q1 h1)
  have c2 := Lib.hid (fun W (hb : Below w.heap.size w W) => Num_any W (HE.out W hb).isTab no (by omega) (by omega) q2 h2)
  have c3 := Lib.hid (fun W (hb : Below w.heap.size w W) => Num_any W (HE.out W hb).isTab day (by omega) (by omega) q3 h3)
  have c4 := Lib.hid (fun W (hb : Below w.heap.size w W) => Nums_any W (HE.out W hb) (Nat.le_trans hB0 hb.size) A seen.length c seen (he.below hb) hi (by omega) hf q4 h4)
  have c5 := Lib.hid (fun W (hb : Below w.heap.size w W) => Text_any W (HE.out W hb).isTab text (by omega) q5 h5)
  have HR : Hid (r = (q1 ++ (q2 ++ (q3 ++ (q4 ++ q5))), true)) := Lib.hid (by rw [hs]; exact hr.symm)
  have l1 : q1.length ≤ 21 := by rw [← h1]; unfold encN; rw [if_neg (by omega)]; exact encI_len ⟨by omega, by omega⟩
  have l2 : q2.length ≤ 21 := by rw [← h2]; unfold encN; rw [if_neg (by omega)]; exact encI_len ⟨by omega, by omega⟩
  have l3 : q3.length ≤ 21 := by rw [← h3]; unfold encN; rw [if_neg (by omega)]; exact encI_len ⟨by omega, by omega⟩
  have l5 : q5.length ≤ 140737488351232 := by rw [← h5]; have := encT_len (s := text) (by omega); omega
  have l4 : q4.length ≤ 140737488351232 := by
    rw [← h4]
    have h6 := itoa_length (n := (seen.length : Int)) (by omega) (by omega)
    unfold encIs
    simp
    have h7 : ((seen.map encI).flatten).length = (seen.map (fun x => (encI x).length)).sum := by simp [List.length_flatten, Function.comp_def]
    simp only [List.length_flatten, List.map_map, Function.comp_def] at hf ⊢
    omega
  have z2 : ((⟨q1.toArray⟩ : ByteArray) ++ ⟨q2.toArray⟩).size = q1.length + q2.length := by rw [str_app]; simp [ByteArray.size]
  have z3 : (((⟨q1.toArray⟩ : ByteArray) ++ ⟨q2.toArray⟩) ++ ⟨q3.toArray⟩).size = q1.length + q2.length + q3.length := by rw [str_app, str_app]; simp [ByteArray.size]; omega
  have z4 : ((((⟨q1.toArray⟩ : ByteArray) ++ ⟨q2.toArray⟩) ++ ⟨q3.toArray⟩) ++ ⟨q4.toArray⟩).size = q1.length + q2.length + q3.length + q4.length := by rw [str_app, str_app, str_app]; simp [ByteArray.size]; omega
  have y1 := str_size q1
  have y2 := str_size q2
  have y3 := str_size q3
  have y4 := str_size q4
  have y5 := str_size q5
  have i1 : ¬ 9223372036854775807 < q1.length + q2.length := by omega
  have i2 : ¬ 9223372036854775807 < q1.length + q2.length + q3.length := by omega
  have i3 : ¬ 9223372036854775807 < q1.length + q2.length + q3.length + q4.length := by omega
  have i4 : ¬ 9223372036854775807 < q1.length + q2.length + q3.length + q4.length + q5.length := by omega
  have HQ : Hid (((((⟨q1.toArray⟩ : ByteArray) ++ ⟨q2.toArray⟩) ++ ⟨q3.toArray⟩) ++ ⟨q4.toArray⟩) ++ ⟨q5.toArray⟩ = ⟨r.1.toArray⟩ ∧ r.2 = true) := Lib.hid (by rw [HR.out]; refine ⟨?_, rfl⟩; rw [str_app, str_app, str_app, str_app]; simp)
  generalize seen.length = n at *
  clear hE he le hra hr hR h1 h2 h3 h4 h5 hs hi hf b1 b2 b3 b4 b5 b6 b7 b8 l1 l2 l3 l4 l5 HR
  go_enter Tryz.func127, Tryz.ntmps127
  go_wp2_with (fail)
  ((with_reducible refine (HA.out _ (HB.out.alloc (Nat.le_refl _) _)).mono ?_); rintro _ w1 ⟨rfl, hb1⟩)
  obtain ⟨hX, hbT⟩ := locs1 hb1
  have X := Lib.hid hX
  clear hX
  replace HB := Lib.hid (HB.out.trans (hbT.mono HB.out.size))
  clear hbT hb1 
  have hS : ∀ w', Below w1.heap.size w1 w' → _ := fun w' hb => And.intro ((X.out.below hb).cell 0) (And.intro ((X.out.below hb).cell 1) (And.intro ((X.out.below hb).cell 2) (And.intro ((X.out.below hb).cell 3) (And.intro ((X.out.below hb).cell 4) hb))))
  have HSS := Lib.hid hS
  clear hS
  obtain ⟨zX, kX, fX⟩ := X.out
  go_wp2_with (fail)
  go_region_held3 (fun w' => w'.cell? ⟨w.heap.size, 0, none⟩ = some (.int .i64 dev) ∧ w'.cell? ⟨w.heap.size, 1, none⟩ = some (.int .i64 no) ∧ w'.cell? ⟨w.heap.size, 2, none⟩ = some (.int .i64 day) ∧ w'.cell? ⟨w.heap.size, 3, none⟩ = some (.slice A n c) ∧ w'.cell? ⟨w.heap.size, 4, none⟩ = some (.string ⟨text.toArray⟩) ∧ Below w1.heap.size w1 w')
      (first | exact HSS.out _ hB7 | (refine HSS.out _ ?_; repeat (first | exact hB7 | exact Below.refl _ _ | refine Below.drew ?_ | refine Below.alloc ?_ (by first | exact Nat.le_refl _ | exact hB7.size | (simp <;> omega)) _ | refine Below.setCell ?_ (by first | exact Nat.le_refl _ | exact hB7.size | (simp <;> omega)) _)))
      (first
        | ((with_reducible refine (c1.out _ ?hs1).mono ?_)
           (case hs1 => exact HB.out.trans (Below.mono (by go_split_ands; assumption) HB.out.size))
           rintro e w3 ⟨rfl, hbF⟩
           have hB7 : Below w1.heap.size w1 w3 := by go_split_ands; exact Below.trans (by assumption) (hbF.mono (Below.size (by assumption))))
        | ((with_reducible refine (c2.out _ ?hs1).mono ?_)
           (case hs1 => exact HB.out.trans (Below.mono (by go_split_ands; assumption) HB.out.size))
           rintro e w3 ⟨rfl, hbF⟩
           have hB7 : Below w1.heap.size w1 w3 := by go_split_ands; exact Below.trans (by assumption) (hbF.mono (Below.size (by assumption))))
        | ((with_reducible refine (c3.out _ ?hs1).mono ?_)
           (case hs1 => exact HB.out.trans (Below.mono (by go_split_ands; assumption) HB.out.size))
           rintro e w3 ⟨rfl, hbF⟩
           have hB7 : Below w1.heap.size w1 w3 := by go_split_ands; exact Below.trans (by assumption) (hbF.mono (Below.size (by assumption))))
        | ((with_reducible refine (c4.out _ ?hs1).mono ?_)
           (case hs1 => exact HB.out.trans (Below.mono (by go_split_ands; assumption) HB.out.size))
           rintro e w3 ⟨rfl, hbF⟩
           have hB7 : Below w1.heap.size w1 w3 := by go_split_ands; exact Below.trans (by assumption) (hbF.mono (Below.size (by assumption))))
        | ((with_reducible refine (c5.out _ ?hs1).mono ?_)
           (case hs1 => exact HB.out.trans (Below.mono (by go_split_ands; assumption) HB.out.size))
           rintro e w3 ⟨rfl, hbF⟩
           have hB7 : Below w1.heap.size w1 w3 := by go_split_ands; exact Below.trans (by assumption) (hbF.mono (Below.size (by assumption)))))
  have HB9 := Lib.hid (HB.out.trans (hB7.mono HB.out.size))
  clear hB7
  go_wp2_with (fail)
  go_ret2
  exact ⟨by rw [HQ.out.2, ← HQ.out.1]; rfl, HB9.out⟩
end Go.Proofs.YtjncmlglhegnaaaGreatDoor
namespace Go.Proofs.YtjncmlglhegnaaaGreatDoor
open Go.RowKit Go.Lib

theorem ungrown {w w' : World} {row : Option Nat} (h : w.drew.grownBy w' row) : w.grownBy w' row := ⟨h.os, h.tape, h.output, h.size, h.block⟩
section
variable {α : Type} {one : RdV → α × RdV}
theorem runF_len (hs : Steps one) : ∀ (k : Nat) (r : RdV), r.ok → (runF one k r).1.length ≤ r.rest.length + 1 ∧ (runF one k r).2.ok ∧ (runF one k r).2.rest.length ≤ r.rest.length
  | 0, r, h => ⟨Nat.zero_le _, h, Nat.le_refl _⟩
  | k + 1, r, h => by
    unfold runF
    split
    · exact ⟨Nat.zero_le _, h, Nat.le_refl _⟩
    · obtain ⟨h1, h2⟩ := hs r h
      obtain ⟨h3, h4, h5⟩ := runF_len hs k (one r).2 h1
      rcases h2 with h2 | h2
      · simp only [List.length_cons]
        exact ⟨by omega, h4, by omega⟩
      · rw [h2] at h3 h4 h5 ⊢
        have hz : (runF one k RdV.fail).1 = [] := by cases k <;> simp [runF, RdV.fail]
        rw [hz]
        simp only [List.length_cons, List.length_nil]
        refine ⟨by omega, h4, ?_⟩
        have h6 : RdV.fail.rest.length = 0 := rfl
        omega
theorem itemsF_len (hs : Steps one) {r : RdV} (h : r.ok) : (itemsF one r).1.length ≤ r.rest.length + 1 ∧ (itemsF one r).2.ok ∧ (itemsF one r).2.rest.length ≤ r.rest.length := by
  obtain ⟨h1, h2⟩ := numF_keeps (e := 91) (least := 0) h
  obtain ⟨h3, h4, h5⟩ := runF_len hs (numF 91 0 r).1.toNat (numF 91 0 r).2 h1
  obtain ⟨h6, h7⟩ := closeF_keeps (e := 93) h4
  unfold itemsF
  split
  · exact ⟨Nat.zero_le _, h6, Nat.le_trans h7 (Nat.le_trans h5 h2)⟩
  · exact ⟨Nat.le_trans h3 (by omega), h6, Nat.le_trans h7 (Nat.le_trans h5 h2)⟩
end
theorem below_row {B b : Nat} {w w' : World} (hB : B ≤ b) (hs : B ≤ w.heap.size) (hg : w.grownBy w' (some b)) : Below B w w' := (Below.refl B w).grown hg hs fun k hk => by injection hk with hk; omega
theorem intF_rng {r : RdV} (h : r.ok) : inI (intF r).1 := by
  have h1 := numF_ok (e := 59) (least := -9223372036854775808) h
  unfold intF inI
  omega
theorem textF_len {r : RdV} (h : r.ok) : (textF r).1.length ≤ r.rest.length := by
  have h2 := numF_keeps (e := 58) (least := 0) h
  rcases textF_ways (r := r) (r1 := (numF 58 0 r).2) (n := (numF 58 0 r).1) rfl _ rfl h with ⟨_, _, h⟩ | ⟨k, h1, _, ⟨_, h⟩ | ⟨_, _, _, h⟩ | ⟨h3, h4, _, h⟩⟩
  · rw [h]; exact Nat.zero_le _
  · rw [h]; exact Nat.zero_le _
  · rw [h]; exact Nat.zero_le _
  · rw [h]
    show ((numF 58 0 r).2.rest.take k).length ≤ _
    rw [List.length_take]
    omega
section
variable {α : Type} {one : RdV → α × RdV}
theorem runF_all (hs : Steps one) (Q : Nat → α → Prop) (hQ : ∀ r : RdV, r.ok → Q r.rest.length (one r).1) (hm : ∀ a b x, a ≤ b → Q a x → Q b x) : ∀ (k : Nat) (r : RdV), r.ok → ∀ x ∈ (runF one k r).1, Q r.rest.length x
  | 0, r, h, x, hx => by cases hx
  | k + 1, r, h, x, hx => by
    unfold runF at hx
    split at hx
    · cases hx
    · obtain ⟨h1, h2⟩ := hs r h
      rcases List.mem_cons.1 hx with rfl | hx
      · exact hQ r h
      · refine hm _ _ _ ?_ (runF_all hs Q hQ hm k (one r).2 h1 x hx)
        rcases h2 with h2 | h2
        · omega
        · rw [h2]; exact Nat.zero_le _
theorem itemsF_all (hs : Steps one) (Q : Nat → α → Prop) (hQ : ∀ r : RdV, r.ok → Q r.rest.length (one r).1) (hm : ∀ a b x, a ≤ b → Q a x → Q b x) {r : RdV} (h : r.ok) : ∀ x ∈ (itemsF one r).1, Q r.rest.length x := by
  obtain ⟨h1, h2⟩ := numF_keeps (e := 91) (least := 0) h
  unfold itemsF
  split
  · intro x hx; cases hx
  · intro x hx
    exact hm _ _ _ h2 (runF_all hs Q hQ hm _ _ h1 x hx)
end
end Go.Proofs.YtjncmlglhegnaaaGreatDoor
