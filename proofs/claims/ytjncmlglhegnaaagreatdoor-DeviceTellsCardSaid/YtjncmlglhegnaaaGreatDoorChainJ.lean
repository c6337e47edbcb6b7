/- chain: Encode, walked. -/
/- wire: how much a run of items reads; what a method of a reader leaves below a bound (plain Lean). -/
/- chain: Decode, walked. -/
/- chain: slices.Clone at ints and at entries, walked. -/
/- chain: Next, walked. -/
import Derived.Test.YtjncmlglhegnaaaGreatDoorChainF
import Derived.Test.YtjncmlglhegnaaaGreatDoorWireV
import Derived.Deep.RegionHeld3
import Derived.Test.YtjncmlglhegnaaaGreatDoorWireQ
import Derived.Deep.RegionLaw
import Derived.StillTactics
namespace Go.Proofs.YtjncmlglhegnaaaGreatDoor
open Go.RowKit Go.Sort Go.Lib

def encodeF (e : EntV) : List UInt8 × Bool := if rightB e = true then (encE e, true) else ([], false)
set_option maxRecDepth 100000 in
set_option maxHeartbeats 16000000 in
theorem Encode_any {B0 : Nat} (w : World) (hE : Env B0 w) (hB0 : B0 ≤ w.heap.size) (e : EntC) (he : EntAt w e) (le : e.v.seen.length ≤ 1099511627776 ∧ e.v.text.length ≤ 140737488351232) (r : List UInt8 × Bool) (hr : encodeF e.v = r) :
    Calls Tryz.prog 127 #[.agg e.cells.toArray] w fun x w' => x = .returned (.tuple #[.string ⟨r.1.toArray⟩, .bool r.2]) ∧ Below w.heap.size w w' := by
  have HE := Lib.hid (fun W (hb : Below w.heap.size w W) => hE.below (hb.mono hB0))
  obtain ⟨ra, hra⟩ : ∃ q, rightB e.v = q := ⟨_, rfl⟩
  have HA := Lib.hid (fun W (h : Below w.heap.size w W) => Right_any W e (he.below h) le.1 le.2 ra hra)
  have HB := Lib.hid (Below.refl w.heap.size w)
  obtain ⟨⟨dev, no, day, seen, text⟩, A, c⟩ := e
  simp only [EntC.cells, EntAt] at HA he le hr ⊢
  unfold encodeF at hr
  rw [hra] at hr
  cases ra
  · subst hr
    clear hE he le hra
    go_enter Tryz.func127, Tryz.ntmps127
    go_wp2_with (fail)
    ((with_reducible refine (HA.out _ (HB.out.alloc (Nat.le_refl _) _)).mono ?_); rintro _ w1 ⟨rfl, hb1⟩)
    obtain ⟨hX, hbT⟩ := locs1 hb1
    have X := Lib.hid hX
    clear hX
    replace HB := Lib.hid (HB.out.trans (hbT.mono HB.out.size))
    clear hbT hb1 
    go_wp2_with (fail)
    go_ret2
    exact ⟨rfl, HB.out⟩
  have hR := rightB_true.1 hra
  rw [if_pos rfl] at hr
  obtain ⟨q1, h1⟩ : ∃ q, encN dev = q := ⟨_, rfl⟩
  obtain ⟨q2, h2⟩ : ∃ q, encN no = q := ⟨_, rfl⟩
  obtain ⟨q3, h3⟩ : ∃ q, encN day = q := ⟨_, rfl⟩
  obtain ⟨q4, h4⟩ : ∃ q, encIs seen = q := ⟨_, rfl⟩
  obtain ⟨q5, h5⟩ : ∃ q, encT text = q := ⟨_, rfl⟩
  have hs : q1 ++ (q2 ++ (q3 ++ (q4 ++ q5))) = encE ⟨dev, no, day, seen, text⟩ := by unfold encE; rw [h1, h2, h3, h4, h5]
  have hi : ∀ x ∈ seen, inI x := fun x hx => by have := hR.rng x hx; unfold inI; omega
  have hf : (seen.map encI).flatten.length ≤ 70368744177664 := by
    have h1 := flat_le encI 21 seen fun x hx => encI_len (hi x hx)
    have h2 := hR.len
    simp only at h2
    omega
  have b1 := hR.d0
  have b2 := hR.d1
  have b3 := hR.n0
  have b4 := hR.n1
  have b5 := hR.y0
  have b6 := hR.y1
  have b7 := hR.txt
  have b8 := hR.len
  simp only at b1 b2 b3 b4 b5 b6 b7 b8
  have c1 := Lib.hid (fun W (hb : Below w.heap.size w W) => Num_any W (HE.out W hb).isTab dev (by omega) (by omega) q1 h1)
  have c2 := Lib.hid (fun W (hb : Below w.heap.size w W) => Num_any W (HE.out W hb).isTab no (by omega) (by omega) q2 h2)
  have c3 := Lib.hid (fun W (hb : Below w.heap.size w W) => Num_any W (HE.out W hb).isTab day (by omega) (by omega) q3 h3)
  have c4 := Lib.hid (fun W (hb : Below w.heap.size w W) => Nums_any W (HE.out W hb) (Nat.le_trans hB0 hb.size) A seen.length c seen (he.below hb) hi (by omega) hf q4 h4)
  have c5 := Lib.hid (fun W (hb : Below w.heap.size w W) => Text_any W (HE.out W hb).isTab text (by omega) q5 h5)
  have HR : Hid (r = (q1 ++ (q2 ++ (q3 ++ (q4 ++ q5))), true)) := Lib.hid (by rw [hs]; exact hr.symm)
  have l1 : q1.length ≤ 21 := by rw [← h1]; unfold encN; rw [if_neg (by omega)]; exact encI_len ⟨by omega, by omega⟩
  have l2 : q2.length ≤ 21 := by rw [← h2]; unfold encN; rw [if_neg (by omega)]; exact encI_len ⟨by omega, by omega⟩
  have l3 : q3.length ≤ 21 := by rw [← h3]; unfold encN; rw [if_neg (by omega)]; exact encI_len ⟨by omega, by omega⟩
  have l5 : q5.length ≤ 140737488351232 := by rw [← h5]; have := encT_len (s := text) (by omega); omega
  have l4 : q4.length ≤ 140737488351232 := by
    rw [← h4]
    have h6 := itoa_length (n := (seen.length : Int)) (by omega) (by omega)
    unfold encIs
    simp
    have h7 : ((seen.map encI).flatten).length = (seen.map (fun x => (encI x).length)).sum := by simp [List.length_flatten, Function.comp_def]
    simp only [List.length_flatten, List.map_map, Function.comp_def] at hf ⊢
    omega
  have z2 : ((⟨q1.toArray⟩ : ByteArray) ++ ⟨q2.toArray⟩).size = q1.length + q2.length := by rw [str_app]; simp [ByteArray.size]
  have z3 : (((⟨q1.toArray⟩ : ByteArray) ++ ⟨q2.toArray⟩) ++ ⟨q3.toArray⟩).size = q1.length + q2.length + q3.length := by rw [str_app, str_app]; simp [ByteArray.size]; omega
  have z4 : ((((⟨q1.toArray⟩ : ByteArray) ++ ⟨q2.toArray⟩) ++ ⟨q3.toArray⟩) ++ ⟨q4.toArray⟩).size = q1.length + q2.length + q3.length + q4.length := by rw [str_app, str_app, str_app]; simp [ByteArray.size]; omega
  have y1 := str_size q1
  have y2 := str_size q2
  have y3 := str_size q3
  have y4 := str_size q4
  have y5 := str_size q5
  have i1 : ¬ 9223372036854775807 < q1.length + q2.length := by omega
  have i2 : ¬ 9223372036854775807 < q1.length + q2.length + q3.length := by omega
  have i3 : ¬ 9223372036854775807 < q1.length + q2.length + q3.length + q4.length := by omega
  have i4 : ¬ 9223372036854775807 < q1.length + q2.length + q3.length + q4.length + q5.length := by omega
  have HQ : Hid (((((⟨q1.toArray⟩ : ByteArray) ++ ⟨q2.toArray⟩) ++ ⟨q3.toArray⟩) ++ ⟨q4.toArray⟩) ++ ⟨q5.toArray⟩ = ⟨r.1.toArray⟩ ∧ r.2 = true) := Lib.hid (by rw [HR.out]; refine ⟨?_, rfl⟩; rw [str_app, str_app, str_app, str_app]; simp)
  generalize seen.length = n at *
  clear hE he le hra hr hR h1 h2 h3 h4 h5 hs hi hf b1 b2 b3 b4 b5 b6 b7 b8 l1 l2 l3 l4 l5 HR
  go_enter Tryz.func127, Tryz.ntmps127
  go_wp2_with (fail)
  ((with_reducible refine (HA.out _ (HB.out.alloc (Nat.le_refl _) _)).mono ?_); rintro _ w1 ⟨rfl, hb1⟩)
  obtain ⟨hX, hbT⟩ := locs1 hb1
  have X := Lib.hid hX
  clear hX
  replace HB := Lib.hid (HB.out.trans (hbT.mono HB.out.size))
  clear hbT hb1 
  have hS : ∀ w', Below w1.heap.size w1 w' → _ := fun w' hb => And.intro ((X.out.below hb).cell 0) (And.intro ((X.out.below hb).cell 1) (And.intro ((X.out.below hb).cell 2) (And.intro ((X.out.below hb).cell 3) (And.intro ((X.out.below hb).cell 4) hb))))
  have HSS := Lib.hid hS
  clear hS
  obtain ⟨zX, kX, fX⟩ := X.out
  go_wp2_with (fail)
  go_region_held3 (fun w' => w'.cell? ⟨w.heap.size, 0, none⟩ = some (.int .i64 dev) ∧ w'.cell? ⟨w.heap.size, 1, none⟩ = some (.int .i64 no) ∧ w'.cell? ⟨w.heap.size, 2, none⟩ = some (.int .i64 day) ∧ w'.cell? ⟨w.heap.size, 3, none⟩ = some (.slice A n c) ∧ w'.cell? ⟨w.heap.size, 4, none⟩ = some (.string ⟨text.toArray⟩) ∧ Below w1.heap.size w1 w')
      (first | exact HSS.out _ hB7 | (refine HSS.out _ ?_; repeat (first | exact hB7 | exact Below.refl _ _ | refine Below.drew ?_ | refine Below.alloc ?_ (by first | exact Nat.le_refl _ | exact hB7.size | (simp <;> omega)) _ | refine Below.setCell ?_ (by first | exact Nat.le_refl _ | exact hB7.size | (simp <;> omega)) _)))
      (first
        | ((with_reducible refine (c1.out _ ?hs1).mono ?_)
           (case hs1 => exact HB.out.trans (Below.mono (by go_split_ands; assumption) HB.out.size))
           rintro e w3 ⟨rfl, hbF⟩
           have hB7 : Below w1.heap.size w1 w3 := by go_split_ands; exact Below.trans (by assumption) (hbF.mono (Below.size (by assumption))))
        | ((with_reducible refine (c2.out _ ?hs1).mono ?_)
           (case hs1 => exact HB.out.trans (Below.mono (by go_split_ands; assumption) HB.out.size))
           rintro e w3 ⟨rfl, hbF⟩
           have hB7 : Below w1.heap.size w1 w3 := by go_split_ands; exact Below.trans (by assumption) (hbF.mono (Below.size (by assumption))))
        | ((with_reducible refine (c3.out _ ?hs1).mono ?_)
           (case hs1 => exact HB.out.trans (Below.mono (by go_split_ands; assumption) HB.out.size))
           rintro e w3 ⟨rfl, hbF⟩
           have hB7 : Below w1.heap.size w1 w3 := by go_split_ands; exact Below.trans (by assumption) (hbF.mono (Below.size (by assumption))))
        | ((with_reducible refine (c4.out _ ?hs1).mono ?_)
           (case hs1 => exact HB.out.trans (Below.mono (by go_split_ands; assumption) HB.out.size))
           rintro e w3 ⟨rfl, hbF⟩
           have hB7 : Below w1.heap.size w1 w3 := by go_split_ands; exact Below.trans (by assumption) (hbF.mono (Below.size (by assumption))))
        | ((with_reducible refine (c5.out _ ?hs1).mono ?_)
           (case hs1 => exact HB.out.trans (Below.mono (by go_split_ands; assumption) HB.out.size))
           rintro e w3 ⟨rfl, hbF⟩
           have hB7 : Below w1.heap.size w1 w3 := by go_split_ands; exact Below.trans (by assumption) (hbF.mono (Below.size (by assumption)))))
  have HB9 := Lib.hid (HB.out.trans (hB7.mono HB.out.size))
  clear hB7
  go_wp2_with (fail)
  go_ret2
  exact ⟨by rw [HQ.out.2, ← HQ.out.1]; rfl, HB9.out⟩
end Go.Proofs.YtjncmlglhegnaaaGreatDoor
namespace Go.Proofs.YtjncmlglhegnaaaGreatDoor
open Go.RowKit Go.Lib

section
variable {α : Type} {one : RdV → α × RdV}
theorem runF_len (hs : Steps one) : ∀ (k : Nat) (r : RdV), r.ok → (runF one k r).1.length ≤ r.rest.length + 1 ∧ (runF one k r).2.ok ∧ (runF one k r).2.rest.length ≤ r.rest.length
  | 0, r, h => ⟨Nat.zero_le _, h, Nat.le_refl _⟩
  | k + 1, r, h => by
    unfold runF
    split
    · exact ⟨Nat.zero_le _, h, Nat.le_refl _⟩
    · obtain ⟨h1, h2⟩ := hs r h
      obtain ⟨h3, h4, h5⟩ := runF_len hs k (one r).2 h1
      rcases h2 with h2 | h2
      · simp only [List.length_cons]
        exact ⟨by omega, h4, by omega⟩
      · rw [h2] at h3 h4 h5 ⊢
        have hz : (runF one k RdV.fail).1 = [] := by cases k <;> simp [runF, RdV.fail]
        rw [hz]
        simp only [List.length_cons, List.length_nil]
        refine ⟨by omega, h4, ?_⟩
        have h6 : RdV.fail.rest.length = 0 := rfl
        omega
theorem itemsF_len (hs : Steps one) {r : RdV} (h : r.ok) : (itemsF one r).1.length ≤ r.rest.length + 1 ∧ (itemsF one r).2.ok ∧ (itemsF one r).2.rest.length ≤ r.rest.length := by
  obtain ⟨h1, h2⟩ := numF_keeps (e := 91) (least := 0) h
  obtain ⟨h3, h4, h5⟩ := runF_len hs (numF 91 0 r).1.toNat (numF 91 0 r).2 h1
  obtain ⟨h6, h7⟩ := closeF_keeps (e := 93) h4
  unfold itemsF
  split
  · exact ⟨Nat.zero_le _, h6, Nat.le_trans h7 (Nat.le_trans h5 h2)⟩
  · exact ⟨Nat.le_trans h3 (by omega), h6, Nat.le_trans h7 (Nat.le_trans h5 h2)⟩
end
theorem below_row {B b : Nat} {w w' : World} (hB : B ≤ b) (hs : B ≤ w.heap.size) (hg : w.grownBy w' (some b)) : Below B w w' := (Below.refl B w).grown hg hs fun k hk => by injection hk with hk; omega
theorem textF_len {r : RdV} (h : r.ok) : (textF r).1.length ≤ r.rest.length := by
  have h2 := numF_keeps (e := 58) (least := 0) h
  rcases textF_ways (r := r) (r1 := (numF 58 0 r).2) (n := (numF 58 0 r).1) rfl _ rfl h with ⟨_, _, h⟩ | ⟨k, h1, _, ⟨_, h⟩ | ⟨_, _, _, h⟩ | ⟨h3, h4, _, h⟩⟩
  · rw [h]; exact Nat.zero_le _
  · rw [h]; exact Nat.zero_le _
  · rw [h]; exact Nat.zero_le _
  · rw [h]
    show ((numF 58 0 r).2.rest.take k).length ≤ _
    rw [List.length_take]
    omega
section
variable {α : Type} {one : RdV → α × RdV}
end
end Go.Proofs.YtjncmlglhegnaaaGreatDoor
namespace Go.Proofs.YtjncmlglhegnaaaGreatDoor
open Go.RowKit Go.Sort Go.Lib

def decodeF (s : List UInt8) : EntV × Bool := if goodD s = true then ((decE s).1, true) else (EntV.zero, false)
/-- an entry that was laid since -/
def EntF (w w' : World) (e : EntC) : Prop := SlF w w' 1 e.A e.v.seen.length (e.v.seen.map intC)
/-- what Decode and Next leave -/
def EntPost (w : World) (v : EntV) (r : Value) (e : Ending) (w' : World) : Prop := ∃ x : EntC, x.v = v ∧ e = .returned (.tuple #[.agg x.cells.toArray, r]) ∧ EntF w w' x ∧ Below w.heap.size w w'
def zeroC : EntC := ⟨.zero, none, 0⟩
theorem zeroC_post {w w' : World} (h : Below w.heap.size w w') (r : Value) : EntPost w .zero r (.returned (.tuple #[.agg #[.int .i64 0, .int .i64 0, .int .i64 0, .slice none 0 0, .string ⟨#[]⟩], r])) w' :=
  ⟨zeroC, rfl, rfl, ⟨Sl.nil_ w' 1 none, fun ad h => by cases h⟩, h⟩
theorem row_below {w W W' : World} {b : Nat} (hB : w.heap.size ≤ b) (h : Below w.heap.size w W) (g : W.grownBy W' (some b)) : Below w.heap.size w W' := h.trans (below_row hB h.size g)
set_option maxRecDepth 100000 in
set_option maxHeartbeats 16000000 in
theorem Decode_any (w : World) (hE : Env w.heap.size w) (s : List UInt8) (hsm : s.length ≤ 100000) (v : EntV × Bool) (hv : decodeF s = v) :
    Calls Tryz.prog 108 #[.string ⟨s.toArray⟩] w (EntPost w v.1 (.bool v.2)) := by
  obtain ⟨dev, r1, e1⟩ : ∃ a b, natF ⟨s, false⟩ = (a, b) := ⟨_, _, rfl⟩
  obtain ⟨no, r2, e2⟩ : ∃ a b, natF r1 = (a, b) := ⟨_, _, rfl⟩
  obtain ⟨day, r3, e3⟩ : ∃ a b, natF r2 = (a, b) := ⟨_, _, rfl⟩
  obtain ⟨seen, r4, e4⟩ : ∃ a b, intsF r3 = (a, b) := ⟨_, _, rfl⟩
  obtain ⟨text, r5, e5⟩ : ∃ a b, textF r4 = (a, b) := ⟨_, _, rfl⟩
  have hd : decE s = (⟨dev, no, day, seen, text⟩, r5) := by unfold decE; simp only [e1, e2, e3, e4, e5]
  have k0 : (⟨s, false⟩ : RdV).ok := ok_of rfl
  have k1 : r1.ok ∧ r1.rest.length ≤ s.length := by have h := numF_keeps (e := 59) (least := 0) k0; have h2 : numF 59 0 ⟨s, false⟩ = (dev, r1) := e1; rw [h2] at h; exact h
  have k2 : r2.ok ∧ r2.rest.length ≤ r1.rest.length := by have h := numF_keeps (e := 59) (least := 0) k1.1; have h2 : numF 59 0 r1 = (no, r2) := e2; rw [h2] at h; exact h
  have k3 : r3.ok ∧ r3.rest.length ≤ r2.rest.length := by have h := numF_keeps (e := 59) (least := 0) k2.1; have h2 : numF 59 0 r2 = (day, r3) := e3; rw [h2] at h; exact h
  have k4 : seen.length ≤ r3.rest.length + 1 ∧ r4.ok ∧ r4.rest.length ≤ r3.rest.length := by have h := itemsF_len intF_steps k3.1; have h2 : itemsF intF r3 = (seen, r4) := e4; rw [h2] at h; exact h
  have k5 : text.length ≤ r4.rest.length := by have h := textF_len k4.2.1; rw [e5] at h; exact h
  have l1 : r1.rest.length ≤ 100000 := by omega
  have l2 : r2.rest.length ≤ 100000 := by omega
  have l3 : r3.rest.length ≤ 100000 := by omega
  have l4 : r4.rest.length ≤ 100000 := by omega
  obtain ⟨d, hdn⟩ : ∃ d, doneB r5 = d := ⟨_, rfl⟩
  obtain ⟨q, hq⟩ : ∃ q, rightB ⟨dev, no, day, seen, text⟩ = q := ⟨_, rfl⟩
  have HV : Hid ((d && q) = true → v = (⟨dev, no, day, seen, text⟩, true)) := Lib.hid (fun h => by
    rw [← hv]; unfold decodeF goodD; rw [hd]; unfold doneB at hdn; rw [hdn, hq, if_pos h])
  have HV0 : Hid ((d && q) = false → v = (.zero, false)) := Lib.hid (fun h => by
    rw [← hv]; unfold decodeF goodD; rw [hd]; unfold doneB at hdn; rw [hdn, hq, if_neg (by rw [h]; simp)])
  have HN1 := Lib.hid (fun (W : World) (b : Nat) (h : RdAt W b ⟨s, false⟩) (g : Below w.heap.size w W) (hb : w.heap.size ≤ b) => NumM_any h (hE.below g) hb (by show s.length ≤ _; omega) _ e1)
  have HN2 := Lib.hid (fun (W : World) (b : Nat) (h : RdAt W b r1) (g : Below w.heap.size w W) (hb : w.heap.size ≤ b) => NumM_any h (hE.below g) hb (by omega) _ e2)
  have HN3 := Lib.hid (fun (W : World) (b : Nat) (h : RdAt W b r2) (g : Below w.heap.size w W) (hb : w.heap.size ≤ b) => NumM_any h (hE.below g) hb (by omega) _ e3)
  have HN4 := Lib.hid (fun (W : World) (b : Nat) (h : RdAt W b r3) (g : Below w.heap.size w W) (hb : w.heap.size ≤ b) => NumsM_any h (hE.below g) hb k3.1 (by omega) _ e4)
  have HN5 := Lib.hid (fun (W : World) (b : Nat) (h : RdAt W b r4) (g : Below w.heap.size w W) (hb : w.heap.size ≤ b) => Text_M h (hE.below g) hb k4.2.1 (by omega) _ e5)
  have HD := Lib.hid (fun (W : World) (b : Nat) (h : RdAt W b r5) => Done_any h d hdn)
  have HRT := Lib.hid (fun (W : World) (A : Option Addr) (c : Nat) (h : Sl W 1 A seen.length (seen.map intC)) => Right_any W ⟨⟨dev, no, day, seen, text⟩, A, c⟩ h (by show seen.length ≤ 1099511627776; omega) (by show text.length ≤ _; omega) q hq)
  have HB := Lib.hid (Below.refl w.heap.size w)
  simp only [EntC.cells] at HRT
  clear e1 e2 e3 e4 e5 hd k0 k1 k2 k3 k4 k5 l1 l2 l3 l4 hE hsm hv hdn hq
  go_enter Tryz.func108, Tryz.ntmps108
  go_wp2_with (fail)
  ((with_reducible refine (Open_any _ s).mono ?_); rintro _ w1 ⟨rfl, h1, hb1⟩)
  obtain ⟨hX, hbT⟩ := locs1 hb1
  obtain ⟨b, hb⟩ : ∃ b, b = (w.alloc (.cells #[.int .i64 0, .int .i64 0, .int .i64 0, .slice none 0 0, .string ⟨#[]⟩] 32)).heap.size := ⟨_, rfl⟩
  have hbs : b = w.heap.size + 1 := by rw [hb]; simp
  rw [← hb] at h1 ⊢
  have HBB := Lib.hid hbs
  have HB1 := Lib.hid hbT
  have hlt := Loc.lt h1
  have HH1 := Lib.hid h1
  have X := Lib.hid hX
  have HL1 := Lib.hid hlt
  clear hX hbT hb1 h1 hb hbs hlt
  go_wp2_with (fail)
  have a0 := HB1.out.alloc HB1.out.size (.cells #[.int .i64 0, .int .i64 0, .int .i64 0, .slice none 0 0, .string ⟨#[]⟩] 32)
  ((with_reducible refine (HN1.out _ b (HH1.out.alloc _) a0 (by have := HBB.out; omega)).mono ?_); rintro _ w2 ⟨rfl, h2, g2⟩)
  have HWB : Hid (w.heap.size ≤ b) := Lib.hid (by have := HBB.out; omega)
  have NX : Hid ((some b : Option Nat) ≠ some w.heap.size) := Lib.hid (fun e => by have := HBB.out; injection e with e; omega)
  have NY : Hid ((some b : Option Nat) ≠ some w1.heap.size) := Lib.hid (fun e => by have := HL1.out; injection e with e; omega)
  have NZ : Hid ((some w1.heap.size : Option Nat) ≠ some b) := Lib.hid (fun e => NY.out e.symm)
  have NW : Hid (w1.heap.size ≠ w.heap.size) := Lib.hid (by have := HBB.out; have := HL1.out; omega)
  have NV : Hid (w.heap.size ≤ w1.heap.size) := Lib.hid HB1.out.size
  have HB2 := Lib.hid (row_below HWB.out a0 g2)
  have X2 := Lib.hid ((X.out.alloc _).grown g2 NX.out)
  have Y2 := Lib.hid ((Loc.new_ w1 _ _).grown g2 NY.out)
  have H2 := Lib.hid h2
  clear a0 h2 g2 X HB1 HH1 HL1
  generalize w1.heap.size = y at *
  go_wp2_with (fail)
  ((with_reducible refine (HN2.out _ b H2.out HB2.out HWB.out).mono ?_); rintro _ w3 ⟨rfl, h3, g3⟩)
  have HB3 := Lib.hid (row_below HWB.out HB2.out g3)
  have X3 := Lib.hid (X2.out.grown g3 NX.out)
  have Y3 := Lib.hid (Y2.out.grown g3 NY.out)
  have H3 := Lib.hid h3
  clear h3 g3 X2 Y2 H2 HB2
  go_wp2_with (fail)
  ((with_reducible refine (HN3.out _ b H3.out HB3.out HWB.out).mono ?_); rintro _ w4 ⟨rfl, h4, g4⟩)
  have HB4 := Lib.hid (row_below HWB.out HB3.out g4)
  have X4 := Lib.hid (X3.out.grown g4 NX.out)
  have Y4 := Lib.hid (Y3.out.grown g4 NY.out)
  have H4 := Lib.hid h4
  clear h4 g4 X3 Y3 H3 HB3
  obtain ⟨zY4, kY4, fY4⟩ := Y4.out
  go_wp2_with (fail)
  clear zY4 kY4 fY4
  have H5 := Lib.hid (((H4.out.grown (grownBy_setCell w4 ⟨y, 0, none⟩ (.int .i64 dev)) NZ.out).grown (grownBy_setCell _ ⟨y, 1, none⟩ (.int .i64 no)) NZ.out).grown (grownBy_setCell _ ⟨y, 2, none⟩ (.int .i64 day)) NZ.out)
  have HB5 := Lib.hid (((HB4.out.setCell (p := ⟨y, 0, none⟩) NV.out (.int .i64 dev)).setCell (p := ⟨y, 1, none⟩) NV.out (.int .i64 no)).setCell (p := ⟨y, 2, none⟩) NV.out (.int .i64 day))
  have X5 := Lib.hid (((X4.out.far (p := ⟨y, 0, none⟩) NW.out (.int .i64 dev)).far (p := ⟨y, 1, none⟩) NW.out (.int .i64 no)).far (p := ⟨y, 2, none⟩) NW.out (.int .i64 day))
  have Y5 := Lib.hid (((Y4.out.set_ 0 (.int .i64 dev)).set_ 1 (.int .i64 no)).set_ 2 (.int .i64 day))
  clear H4 HB4 X4 Y4
  generalize (((w4.setCell ⟨y, 0, none⟩ (.int .i64 dev)).setCell ⟨y, 1, none⟩ (.int .i64 no)).setCell ⟨y, 2, none⟩ (.int .i64 day)) = w5 at *
  ((with_reducible refine (HN4.out _ b H5.out HB5.out HWB.out).mono ?_); rintro _ w6 ⟨A, c, rfl, h6, k6, g6⟩)
  simp only at h6 k6 g6 ⊢
  have hlb := Loc.lt H5.out
  have hly := Loc.lt Y5.out
  have F6 : Hid (∀ ad, A = some ad → b < ad.block ∧ y < ad.block ∧ w.heap.size < ad.block) := Lib.hid (fun ad e => by have h := h6.2 ad e; have := Loc.lt X5.out; omega)
  have S6 := Lib.hid h6.1
  have HB6 := Lib.hid (row_below HWB.out HB5.out g6)
  have X6 := Lib.hid (X5.out.grown g6 NX.out)
  have Y6 := Lib.hid (Y5.out.grown g6 NY.out)
  have H6 := Lib.hid k6
  clear h6 g6 k6 X5 Y5 H5 HB5 hlb hly
  go_wp2_with (fail)
  ((with_reducible refine (HN5.out _ b H6.out HB6.out HWB.out).mono ?_); rintro _ w7 ⟨rfl, h7, g7⟩)
  have HB7 := Lib.hid (row_below HWB.out HB6.out g7)
  have X7 := Lib.hid (X6.out.grown g7 NX.out)
  have Y7 := Lib.hid (Y6.out.grown g7 NY.out)
  have S7 := Lib.hid (S6.out.grown g7 (.inr fun ad e h => absurd (Option.some.inj h) (Nat.ne_of_lt (F6.out ad e).1)))
  have H7 := Lib.hid h7
  clear h7 g7 X6 Y6 H6 HB6 S6

  obtain ⟨zY7, kY7, fY7⟩ := Y7.out
  go_wp2_with (fail)
  clear zY7 kY7 fY7
  have H8 := Lib.hid ((H7.out.grown (grownBy_setCell w7 ⟨y, 3, none⟩ (.slice A seen.length c)) NZ.out).grown (grownBy_setCell _ ⟨y, 4, none⟩ (.string ⟨text.toArray⟩)) NZ.out)
  have HB8 := Lib.hid ((HB7.out.setCell (p := ⟨y, 3, none⟩) NV.out (.slice A seen.length c)).setCell (p := ⟨y, 4, none⟩) NV.out (.string ⟨text.toArray⟩))
  have X8 := Lib.hid ((X7.out.far (p := ⟨y, 3, none⟩) NW.out (.slice A seen.length c)).far (p := ⟨y, 4, none⟩) NW.out (.string ⟨text.toArray⟩))
  have Y8 := Lib.hid ((Y7.out.set_ 3 (.slice A seen.length c)).set_ 4 (.string ⟨text.toArray⟩))
  have S8 := Lib.hid ((S7.out.grown (grownBy_setCell w7 ⟨y, 3, none⟩ (.slice A seen.length c)) (.inr fun ad e h => absurd (Option.some.inj h) (Nat.ne_of_lt (F6.out ad e).2.1))).grown (grownBy_setCell _ ⟨y, 4, none⟩ (.string ⟨text.toArray⟩)) (.inr fun ad e h => absurd (Option.some.inj h) (Nat.ne_of_lt (F6.out ad e).2.1)))
  clear H7 HB7 X7 Y7 S7
  generalize ((w7.setCell ⟨y, 3, none⟩ (.slice A seen.length c)).setCell ⟨y, 4, none⟩ (.string ⟨text.toArray⟩)) = w8 at *
  have HD8 := Lib.hid (HD.out w8 b H8.out)
  have HR8 := Lib.hid (HRT.out w8 A c S8.out)
  clear HD HRT HN1 HN2 HN3 HN4 HN5
  cases d
  · have hv := HV0.out rfl
    subst hv
    ((with_reducible refine (HD8.out).mono ?_); rintro _ w9 ⟨rfl, hw9⟩; obtain rfl := hw9)
    obtain ⟨zX8, kX8, fX8⟩ := X8.out
    go_wp2_with (fail)
    refine bodyPost_ret (v := .tuple #[.agg #[.int .i64 0, .int .i64 0, .int .i64 0, .slice none 0 0, .string ⟨#[]⟩], .bool false]) (by simp [results, Tryz.results108, go_sem, *]) rfl ?_
    exact zeroC_post (((((HB8.out.setCell (p := ⟨w.heap.size, 0, none⟩) (Nat.le_refl _) (.int .i64 0)).setCell (p := ⟨w.heap.size, 1, none⟩) (Nat.le_refl _) (.int .i64 0)).setCell (p := ⟨w.heap.size, 2, none⟩) (Nat.le_refl _) (.int .i64 0)).setCell (p := ⟨w.heap.size, 3, none⟩) (Nat.le_refl _) (.slice none 0 0)).setCell (p := ⟨w.heap.size, 4, none⟩) (Nat.le_refl _) (.string ⟨#[]⟩)) _
  ((with_reducible refine (HD8.out).mono ?_); rintro _ w9 ⟨rfl, hw9⟩; obtain rfl := hw9)
  obtain ⟨zY8, kY8, fY8⟩ := Y8.out
  go_wp2_with (fail)
  clear zY8 kY8 fY8
  ((with_reducible refine (HR8.out).mono ?_); rintro _ w9 ⟨rfl, hb9⟩)
  have HB9 := Lib.hid (HB8.out.trans (hb9.mono HB8.out.size))
  have X9 := Lib.hid (X8.out.below hb9)
  have Y9 := Lib.hid (Y8.out.below hb9)
  have S9 := Lib.hid (S8.out.below hb9)
  clear hb9 X8 Y8 S8 HB8
  cases q
  · have hv := HV0.out rfl
    subst hv
    obtain ⟨zX9, kX9, fX9⟩ := X9.out
    obtain ⟨zY9, kY9, fY9⟩ := Y9.out
    go_wp2_with (fail)
    refine bodyPost_ret (v := .tuple #[.agg #[.int .i64 0, .int .i64 0, .int .i64 0, .slice none 0 0, .string ⟨#[]⟩], .bool false]) (by simp [results, Tryz.results108, go_sem, *]) rfl ?_
    exact zeroC_post (((((HB9.out.setCell (p := ⟨w.heap.size, 0, none⟩) (Nat.le_refl _) (.int .i64 0)).setCell (p := ⟨w.heap.size, 1, none⟩) (Nat.le_refl _) (.int .i64 0)).setCell (p := ⟨w.heap.size, 2, none⟩) (Nat.le_refl _) (.int .i64 0)).setCell (p := ⟨w.heap.size, 3, none⟩) (Nat.le_refl _) (.slice none 0 0)).setCell (p := ⟨w.heap.size, 4, none⟩) (Nat.le_refl _) (.string ⟨#[]⟩)) _
  · have hv := HV.out rfl
    subst hv
    obtain ⟨zX9, kX9, fX9⟩ := X9.out
    obtain ⟨zY9, kY9, fY9⟩ := Y9.out
    go_wp2_with (fail)
    refine bodyPost_ret (v := .tuple #[.agg #[.int .i64 dev, .int .i64 no, .int .i64 day, .slice A seen.length c, .string ⟨text.toArray⟩], .bool true]) (by simp [results, Tryz.results108, go_sem, *]) rfl ?_
    exact ⟨⟨⟨dev, no, day, seen, text⟩, A, c⟩, rfl, rfl, ⟨(((((S9.out.grown (grownBy_setCell w9 ⟨w.heap.size, 0, none⟩ (.int .i64 dev)) (.inr fun ad e h => absurd (Option.some.inj h) (Nat.ne_of_lt (F6.out ad e).2.2))).grown (grownBy_setCell _ ⟨w.heap.size, 1, none⟩ (.int .i64 no)) (.inr fun ad e h => absurd (Option.some.inj h) (Nat.ne_of_lt (F6.out ad e).2.2))).grown (grownBy_setCell _ ⟨w.heap.size, 2, none⟩ (.int .i64 day)) (.inr fun ad e h => absurd (Option.some.inj h) (Nat.ne_of_lt (F6.out ad e).2.2))).grown (grownBy_setCell _ ⟨w.heap.size, 3, none⟩ (.slice A seen.length c)) (.inr fun ad e h => absurd (Option.some.inj h) (Nat.ne_of_lt (F6.out ad e).2.2))).grown (grownBy_setCell _ ⟨w.heap.size, 4, none⟩ (.string ⟨text.toArray⟩)) (.inr fun ad e h => absurd (Option.some.inj h) (Nat.ne_of_lt (F6.out ad e).2.2))), fun ad e => Nat.le_of_lt (F6.out ad e).2.2⟩, (((((HB9.out.setCell (p := ⟨w.heap.size, 0, none⟩) (Nat.le_refl _) (.int .i64 dev)).setCell (p := ⟨w.heap.size, 1, none⟩) (Nat.le_refl _) (.int .i64 no)).setCell (p := ⟨w.heap.size, 2, none⟩) (Nat.le_refl _) (.int .i64 day)).setCell (p := ⟨w.heap.size, 3, none⟩) (Nat.le_refl _) (.slice A seen.length c)).setCell (p := ⟨w.heap.size, 4, none⟩) (Nat.le_refl _) (.string ⟨text.toArray⟩))⟩
end Go.Proofs.YtjncmlglhegnaaaGreatDoor
namespace Go.Proofs.YtjncmlglhegnaaaGreatDoor
open Go.RowKit Go.Sort Go.Lib

theorem infoEnt : (Tryz.prog.info? 32).map (fun i => (i.zero, i.size, i.bytes)) = some (some (.agg #[.int .i64 0, .int .i64 0, .int .i64 0, .slice none 0 0, .string ⟨#[]⟩]), 5, 64) := by kernel_rfl
theorem ents_len (ls : List EntC) : ∀ x ∈ ls.map EntC.cells, x.length = 5 := by
  intro x hx
  obtain ⟨l, _, rfl⟩ := List.mem_map.1 hx
  rfl
theorem ents_one (ls : List EntC) : ∀ x ∈ ls.map EntC.cells, ∀ u ∈ x, u.oneCell' = true := by
  intro x hx u hu
  obtain ⟨l, _, rfl⟩ := List.mem_map.1 hx
  simp only [EntC.cells, List.mem_cons, List.not_mem_nil, or_false] at hu
  rcases hu with rfl | rfl | rfl | rfl | rfl <;> rfl
theorem ints_len (ls : List Int) : ∀ x ∈ ls.map intC, x.length = 1 := by
  intro x hx
  obtain ⟨l, _, rfl⟩ := List.mem_map.1 hx
  rfl
theorem ints_one (ls : List Int) : ∀ x ∈ ls.map intC, ∀ u ∈ x, u.oneCell' = true := by
  intro x hx u hu
  obtain ⟨l, _, rfl⟩ := List.mem_map.1 hx
  simp only [intC, List.mem_cons, List.not_mem_nil, or_false] at hu
  subst hu
  rfl
theorem Sl.none0 {w : World} {size n : Nat} {xs : List (List Value)} (h : Sl w size none n xs) : n = 0 := by
  rcases Nat.eq_zero_or_pos n with h0 | h0
  · exact h0
  · obtain ⟨l, hl⟩ : ∃ x, xs[0]? = some x := ⟨_, List.getElem?_eq_getElem (by rw [h.1]; exact h0)⟩
    obtain ⟨b, o, he, _⟩ := h.2 0 l hl
    cases he
def Cloned (t : TypeId) (size : Nat) (w : World) (n : Nat) (xs : List (List Value)) (e : Ending) (w' : World) : Prop :=
  ∃ A c, e = .returned (.slice A n c) ∧ Own w' w.heap.size t size (.slice A n c) n xs ∧ Below w.heap.size w w'
set_option maxRecDepth 100000 in
set_option maxHeartbeats 1000000 in
theorem CloneE_any (A : Option Addr) (n c : Nat) (ls : List EntC) (w : World) (hs : Sl w 5 A n (ls.map EntC.cells)) (hn : n ≤ 1000) :
    Calls Tryz.prog 85 #[.slice A n c] w (Cloned 32 5 w n (ls.map EntC.cells)) := by
  obtain ⟨i0, hi0, hz0, hz1, hz2⟩ := info_parts infoEnt
  have HN := Lib.hid hn
  have hq := fun w : World => Lib.run_eql_slice_nil (P := Tryz.prog) w 22 32 A n c 0 0 Tryz.underlying22
  rcases A with _ | ad
  · have h0 : n = 0 := hs.none0
    have HS := Lib.hid hs
    clear hs hn
    subst h0
    go_enter Tryz.func85, Tryz.ntmps85
    go_wp2
    go_ret
    have hx := List.eq_nil_of_length_eq_zero HS.out.1
    exact ⟨none, 0, rfl, by rw [hx]; exact Own.nil_ _ _ _ _, Below.refl _ _⟩
  · have HS := Lib.hid hs
    clear hs hn
    go_enter Tryz.func85, Tryz.ntmps85
    go_wp2_with (at_builtin; refine wpList_append_sl _ rfl (.tmp 5) (.tmp 6) _ rfl w.heap.size 32 i0 _ 5 64 Tryz.underlying22 hi0 hz0 hz1 hz2 rfl (by omega) (.slice (some ⟨w.heap.size, 0, none⟩) 0 0) 0 [] rfl ⟨World.ownsRow_lit w #[] 0 (Nat.le_refl _) (by simp [maxLen]) rfl, by simp, rfl⟩ (some ad) n c (ls.map EntC.cells) rfl (HS.out.alloc _) (ents_len ls) (ents_one ls) (by have := HN.out; simp only [maxLen]; omega) (by have := HN.out; omega) (by simp) ?_; intro A1 c1 w1 hown1 hg1 hat1)
    go_ret
    rw [Nat.zero_add, List.nil_append] at hown1
    refine ⟨A1, c1, by simp, hown1, (below_alloc w _).trans (((Below.refl _ _).grown hg1 (by simp) (fun k hk => ?_)))⟩
    simp [Value.ownBlock] at hk
    omega
set_option maxRecDepth 100000 in
set_option maxHeartbeats 1000000 in
theorem CloneI_any (A : Option Addr) (n c : Nat) (ls : List Int) (w : World) (hs : Sl w 1 A n (ls.map intC)) (hn : n ≤ 1000000) :
    Calls Tryz.prog 72 #[.slice A n c] w (Cloned 3 1 w n (ls.map intC)) := by
  obtain ⟨i0, hi0, hz0, hz1, hz2⟩ := info_parts infoInt
  have HN := Lib.hid hn
  have hq := fun w : World => Lib.run_eql_slice_nil (P := Tryz.prog) w 30 3 A n c 0 0 Tryz.underlying30
  rcases A with _ | ad
  · have h0 : n = 0 := hs.none0
    have HS := Lib.hid hs
    clear hs hn
    subst h0
    go_enter Tryz.func72, Tryz.ntmps72
    go_wp2
    go_ret
    have hx := List.eq_nil_of_length_eq_zero HS.out.1
    exact ⟨none, 0, rfl, by rw [hx]; exact Own.nil_ _ _ _ _, Below.refl _ _⟩
  · have HS := Lib.hid hs
    clear hs hn
    go_enter Tryz.func72, Tryz.ntmps72
    go_wp2_with (at_builtin; refine wpList_append_sl _ rfl (.tmp 5) (.tmp 6) _ rfl w.heap.size 3 i0 _ 1 8 Tryz.underlying30 hi0 hz0 hz1 hz2 rfl (by omega) (.slice (some ⟨w.heap.size, 0, none⟩) 0 0) 0 [] rfl ⟨World.ownsRow_lit w #[] 0 (Nat.le_refl _) (by simp [maxLen]) rfl, by simp, rfl⟩ (some ad) n c (ls.map intC) rfl (HS.out.alloc _) (ints_len ls) (ints_one ls) (by have := HN.out; simp only [maxLen]; omega) (by have := HN.out; omega) (by simp) ?_; intro A1 c1 w1 hown1 hg1 hat1)
    go_ret
    rw [Nat.zero_add, List.nil_append] at hown1
    refine ⟨A1, c1, by simp, hown1, (below_alloc w _).trans (((Below.refl _ _).grown hg1 (by simp) (fun k hk => ?_)))⟩
    simp [Value.ownBlock] at hk
    omega
end Go.Proofs.YtjncmlglhegnaaaGreatDoor
namespace Go.Proofs.YtjncmlglhegnaaaGreatDoor
open Go.RowKit Go.Sort Go.Lib

def nextV (l : List EntV) (device day : Int) (seen : List Int) (text : List UInt8) : EntV := ⟨device, (l.length : Int), day, seen.set device.toNat (l.length : Int), text⟩
def nextF (l : List EntV) (device day : Int) (seen : List Int) (text : List UInt8) : EntV × Int :=
  if (decide (0 ≤ device) && decide (device ≤ 7)) = true ∧ seen.length = 8 then
    if checkF (l ++ [nextV l device day seen text]) = 0 then (nextV l device day seen text, 0) else (.zero, checkF (l ++ [nextV l device day seen text]))
  else (.zero, 1)
theorem map_set_intC (l : List Int) (k : Nat) (n : Int) : (l.map intC).set k [.int .i64 n] = (l.set k n).map intC := by rw [List.map_set]; rfl
theorem ChAt.snoc {w w3 : World} {A A3 : Option Addr} {n c3 base : Nat} {t : TypeId} {l : List EntC} {x : EntC} (h : ChAt w A n l) (hx : EntAt w x) (hl : x.v.seen.length ≤ 1099511627776 ∧ x.v.text.length ≤ 140737488351232)
    (ho : Own w3 base t 5 (.slice A3 (n + 1) c3) (n + 1) (l.map EntC.cells ++ [x.cells])) (hb : Below w.heap.size w w3) : ChAt w3 A3 (n + 1) (l ++ [x]) := by
  refine ⟨by have := Own.sl' ho; rw [List.map_append]; exact this, fun e he => ?_, fun e he => ?_⟩
  · rcases List.mem_append.1 he with he | he
    · exact (h.at_ e he).below hb
    · simp only [List.mem_singleton] at he; subst he; exact hx.below hb
  · rcases List.mem_append.1 he with he | he
    · exact h.len e he
    · simp only [List.mem_singleton] at he; subst he; exact hl
set_option maxRecDepth 100000 in
set_option maxHeartbeats 16000000 in
theorem Next_any (w : World) (A : Option Addr) (n c : Nat) (l : List EntC) (hs : ChAt w A n l) (hn : n ≤ 1000) (device day : Int) (As : Option Addr) (m cs : Nat) (seen : List Int) (hse : Sl w 1 As m (seen.map intC)) (text : List UInt8) (ht : text.length ≤ 140737488351232) (v : EntV × Int) (hv : nextF (vsOf l) device day seen text = v) :
    Calls Tryz.prog 126 #[.slice A n c, .int .i64 device, .int .i64 day, .slice As m cs, .string ⟨text.toArray⟩] w (EntPost w v.1 (.int .i64 v.2)) := by
  obtain ⟨b1, hb1⟩ : ∃ b1 : Bool, (decide (0 ≤ device) && decide (device ≤ 7)) = b1 := ⟨_, rfl⟩
  have H1 := Lib.hid (fun w => within_any w device 7 b1 hb1)
  have HB := Lib.hid (Below.refl w.heap.size w)
  have hm : seen.length = m := by simpa using hse.1
  have hll : l.length = n := by simpa using hs.sl.1
  unfold nextF at hv
  rw [hb1, hm] at hv
  cases b1
  · rw [if_neg (by simp)] at hv
    subst hv
    clear hb1 hs hse ht hm hll
    go_enter Tryz.func126, Tryz.ntmps126
    go_wp2_with (first | ((with_reducible refine (H1.out _).mono ?_); rintro _ w9 ⟨rfl, hw9⟩; obtain rfl := hw9))
    refine bodyPost_ret (v := .tuple #[.agg #[.int .i64 0, .int .i64 0, .int .i64 0, .slice none 0 0, .string ⟨#[]⟩], .int .i64 1]) (by simp [results, Tryz.results126, go_sem, World.cell?_alloc_at]) rfl ?_
    exact zeroC_post (HB.out.alloc (Nat.le_refl _) _) _
  by_cases h8 : m = 8
  case neg =>
    rw [if_neg (by simp [h8])] at hv
    subst hv
    have hi : ¬ ((m : Int) = 8) := by omega
    have hbn : ((m : Int) == 8) = false := by rw [beq_eq_false_iff_ne]; exact hi
    clear hb1 hs hse ht hm hll h8
    go_enter Tryz.func126, Tryz.ntmps126
    go_wp2_with (first | ((with_reducible refine (H1.out _).mono ?_); rintro _ w9 ⟨rfl, hw9⟩; obtain rfl := hw9))
    refine bodyPost_ret (v := .tuple #[.agg #[.int .i64 0, .int .i64 0, .int .i64 0, .slice none 0 0, .string ⟨#[]⟩], .int .i64 1]) (by simp [results, Tryz.results126, go_sem, World.cell?_alloc_at]) rfl ?_
    exact zeroC_post (HB.out.alloc (Nat.le_refl _) _) _
  subst h8
  rw [if_pos ⟨rfl, rfl⟩] at hv
  have hd : 0 ≤ device ∧ device ≤ 7 := by simpa using hb1
  obtain ⟨k, rfl⟩ : ∃ k : Nat, device = (k : Int) := ⟨device.toNat, by omega⟩
  have HCI := Lib.hid (fun o => CloneI_any As 8 cs seen (w.alloc o) (hse.alloc o) (by omega))
  have hki : (k : Int) < 8 := by omega
  have hk0 : (0 : Int) ≤ (k : Int) := by omega
  have HK : Hid (k < 8) := Lib.hid (by omega)
  have HS := Lib.hid hs
  have HN := Lib.hid hn
  have HT := Lib.hid ht
  have HV := Lib.hid hv
  have HM := Lib.hid hm
  have HL := Lib.hid hll
  clear hb1 hs hse ht hm hll hv hd hn
  go_enter Tryz.func126, Tryz.ntmps126
  go_wp2_with (first | ((with_reducible refine (H1.out _).mono ?_); rintro _ w9 ⟨rfl, hw9⟩; obtain rfl := hw9))
  ((with_reducible refine (HCI.out _).mono ?_); rintro _ w1 ⟨A1, c1, rfl, ho, hb1⟩)
  obtain ⟨hX, hbT⟩ := locs1 hb1
  have X := Lib.hid hX
  have HB1 := Lib.hid (HB.out.trans hbT)
  have HO := Lib.hid (ho.mono (base' := w.heap.size + 1) (by simp))
  clear hX hbT hb1 ho HB HCI H1
  obtain ⟨s0, hs0⟩ : ∃ x, seen[k]? = some x := ⟨_, List.getElem?_eq_getElem (by rw [HM.out]; exact HK.out)⟩
  obtain ⟨g, c', he, hgb, hgz, hcell2, hfz⟩ := HO.out.at_ (i := k) (x := [.int .i64 s0]) (by rw [List.getElem?_map, hs0]; rfl)
  injection he with he1 he2 he3
  subst he1 he3
  have e0 := hcell2 0 _ rfl
  rw [Nat.add_zero, Nat.mul_one] at e0
  have e1 : ∀ o, (w1.alloc o).cell? ⟨g, k, none⟩ = some (.int .i64 s0) := fun o => ((bcell (below_alloc w1 o)).1 _ _ hgz).trans e0
  have f1 : ∀ o, (w1.alloc o).frozen? ⟨g, k, none⟩ = false := fun o => ((bcell (below_alloc w1 o)).2 _ _ hgz).trans (hfz k)
  have HST := Lib.hid (fun o => (HO.out.alloc o).stored (i := k) (j := 0) (x := [.int .i64 s0]) (by rw [List.getElem?_map, hs0]; rfl) (by omega) (.int .i64 (n : Int)))
  clear hcell2 hs0 hfz e0
  go_wp2_with (fail)
  have HO1 : Hid (Own (w1.setCell ⟨g, k, none⟩ (.int .i64 (n : Int))) (w.heap.size + 1) 3 1 (.slice (some ⟨g, 0, none⟩) 8 c1) 8 ((seen.set k (n : Int)).map intC)) := Lib.hid (by
    obtain ⟨s1, hs1⟩ : ∃ x, seen[k]? = some x := ⟨_, List.getElem?_eq_getElem (by rw [HM.out]; exact HK.out)⟩
    have h := HO.out.stored (i := k) (j := 0) (x := [.int .i64 s1]) (by rw [List.getElem?_map, hs1]; rfl) (by omega) (.int .i64 (n : Int))
    rw [Nat.add_zero, Nat.mul_one] at h
    rw [← map_set_intC]
    exact h)
  have X1 := Lib.hid (X.out.far (p := ⟨g, k, none⟩) (Nat.ne_of_gt hgb) (.int .i64 (n : Int)))
  have HB2 := Lib.hid (HB1.out.setCell (p := ⟨g, k, none⟩) (Nat.le_of_lt hgb) (.int .i64 (n : Int)))
  have hsz : w1.heap.size = (w1.setCell ⟨g, k, none⟩ (.int .i64 (n : Int))).heap.size := by simp
  rw [hsz]
  clear hsz HST e1 f1 hgz HO X HB1
  generalize (w1.setCell ⟨g, k, none⟩ (.int .i64 (n : Int))) = W1 at *
  have HO2 := Lib.hid (HO1.out.alloc (.cells #[.int .i64 (k : Int), .int .i64 (n : Int), .int .i64 day, .slice (some ⟨g, 0, none⟩) 8 c1, .string ⟨text.toArray⟩] 32))
  have X2 := Lib.hid (X1.out.alloc (.cells #[.int .i64 (k : Int), .int .i64 (n : Int), .int .i64 day, .slice (some ⟨g, 0, none⟩) 8 c1, .string ⟨text.toArray⟩] 32))
  have Y2 := Lib.hid (Loc.new_ W1 #[.int .i64 (k : Int), .int .i64 (n : Int), .int .i64 day, .slice (some ⟨g, 0, none⟩) 8 c1, .string ⟨text.toArray⟩] 32)
  have HB3 := Lib.hid (HB2.out.alloc HB2.out.size (.cells #[.int .i64 (k : Int), .int .i64 (n : Int), .int .i64 day, .slice (some ⟨g, 0, none⟩) 8 c1, .string ⟨text.toArray⟩] 32))
  clear HO1 X1 HB2
  generalize W1.heap.size = y at *
  generalize W1.alloc (.cells #[.int .i64 (k : Int), .int .i64 (n : Int), .int .i64 day, .slice (some ⟨g, 0, none⟩) 8 c1, .string ⟨text.toArray⟩] 32) = W at *
  have HS2 := Lib.hid (HS.out.below HB3.out)
  obtain ⟨x, hx⟩ : ∃ x : EntC, x = ⟨⟨(k : Int), (n : Int), day, seen.set k (n : Int), text⟩, some ⟨g, 0, none⟩, c1⟩ := ⟨_, rfl⟩
  have hl8 : (seen.set k (n : Int)).length = 8 := by rw [List.length_set]; exact HM.out
  have hxc : x.cells = [.int .i64 (k : Int), .int .i64 (n : Int), .int .i64 day, .slice (some ⟨g, 0, none⟩) 8 c1, .string ⟨text.toArray⟩] := by subst hx; simp only [EntC.cells, hl8]
  have hxv : x.v = nextV (vsOf l) (k : Int) day seen text := by subst hx; unfold nextV; rw [vsOf_len, HL.out, Int.toNat_natCast]
  have HXA : Hid (EntAt W x) := Lib.hid (by have h := Own.sl' HO2.out; subst hx; unfold EntAt; simp only; rw [hl8]; exact h)
  have HXL : Hid (x.v.seen.length ≤ 1099511627776 ∧ x.v.text.length ≤ 140737488351232) := Lib.hid (by subst hx; simp only; rw [hl8]; exact ⟨by omega, HT.out⟩)
  obtain ⟨r, hr⟩ : ∃ r, checkF (vsOf (l ++ [x])) = r := ⟨_, rfl⟩
  have HV2 : Hid ((if r = 0 then (x.v, (0 : Int)) else (.zero, r)) = v) := Lib.hid (by
    have e : vsOf (l ++ [x]) = vsOf l ++ [x.v] := by unfold vsOf; rw [List.map_append]; rfl
    have h := HV.out
    rw [← hxv, ← e, hr] at h
    exact h)
  have HR := Lib.hid hr
  have HXC := Lib.hid hxc
  have HXF : Hid (x.A = some ⟨g, 0, none⟩ ∧ x.v.seen.length = 8 ∧ x.v.seen = seen.set k (n : Int)) := Lib.hid (by subst hx; exact ⟨rfl, hl8, rfl⟩)
  have HGB := Lib.hid hgb
  clear HS hx hl8 hxc hxv hr HV HK HM HT hgb hk0 hki
  obtain ⟨i0, hi0, hz0, hz1, hz2⟩ := info_parts infoEnt
  have HNEW := Lib.hid (Sl.new_ W 32 [.int .i64 (k : Int), .int .i64 (n : Int), .int .i64 day, .slice (some ⟨g, 0, none⟩) 8 c1, .string ⟨text.toArray⟩])
  obtain ⟨zX2, kX2, fX2⟩ := X2.out
  obtain ⟨zY2, kY2, fY2⟩ := Y2.out
  go_region_law (first
    | (refine step_append_sl _ (by rfl) (.tmp 38) (.tmp 40) _ (by rfl) _ _ _ _ 5 64 Tryz.underlying22 hi0 hz0 hz1 hz2 rfl (by omega) _ _ _ (by rfl) (by first | exact hown2 | exact hown2.alloc _) _ _ _ [[.int .i64 (k : Int), .int .i64 (n : Int), .int .i64 day, .slice (some ⟨g, 0, none⟩) 8 c1, .string ⟨text.toArray⟩]] (by rfl) (by first | exact HNEW.out.below (undrew hb2) | exact Sl.new_ _ _ _) (by simp) (by simp [Value.oneCell']) (by have := HN.out; simp only [maxLen]; omega) (by have := HN.out; omega) (by have := hb2.size; simp at this ⊢; omega) ?_
       intro A3 c3 w3 hown3 hg3 hat3
       have hb3 : Below W.heap.size W w3 := by
         first
           | exact hown2.below_grown (by first | omega | (simp <;> omega)) (by first | omega | (simp <;> omega)) hu hg3
           | exact (hown2.alloc _).below_grown (by first | omega | (simp <;> omega)) (by first | omega | (simp <;> omega)) (hu.alloc (by have := hu.size; omega) _) hg3
       have HCH := Lib.hid (HS2.out.snoc HXA.out HXL.out (by rw [HXC.out]; exact hown3) hb3))
    | (go_simp; go_at_call 65
       refine (Check_any w3 A3 (n + 1) c3 (l ++ [x]) HCH.out r HR.out).mono ?_
       rintro _ w4 ⟨rfl, hb4⟩)
    | (go_simp; go_at_call 85
       refine (CloneE_any A n c l _ (by first | exact Sl.drew HS2.out.sl | exact Sl.drew (HS2.out.sl.alloc _)) HN.out).mono ?_
       rintro e w2 ⟨A2, c2, rfl, hown2, hb2⟩
       have hu : Below W.heap.size W w2 := by
         refine Below.trans ?_ ((undrew hb2).mono (by first | omega | (simp <;> omega)))
         repeat (first | exact Below.refl _ _ | refine Below.alloc ?_ (by first | omega | (simp <;> omega)) _)
       have hwu := hu.size
       obtain ⟨zY3, kY3, fY3⟩ := Y2.out.below hu))
  all_goals
    have HB4 := Lib.hid (HB3.out.trans ((hb3.trans (hb4.mono hb3.size)).mono HB3.out.size))
    have X4 := Lib.hid ((X2.out.below hb3).below hb4)
    have Y4 := Lib.hid ((Y2.out.below hb3).below hb4)
    have O4 := Lib.hid ((HO2.out.below hb3).below hb4)
    clear zX2 kX2 fX2 zY2 kY2 fY2 zY3 kY3 fY3 hb4 hown3 hg3 hat3 hb2 hown2 hu hwu hb3
    obtain ⟨zX4, kX4, fX4⟩ := X4.out
    obtain ⟨zY4, kY4, fY4⟩ := Y4.out
    by_cases h0 : r = 0
    · have e := HV2.out
      rw [if_pos h0] at e
      subst e
      subst h0
      go_wp2_with (fail)
      refine bodyPost_ret (v := .tuple #[.agg #[.int .i64 (k : Int), .int .i64 (n : Int), .int .i64 day, .slice (some ⟨g, 0, none⟩) 8 c1, .string ⟨text.toArray⟩], .int .i64 0]) (by simp [results, Tryz.results126, go_sem, *]) rfl ?_
      have HF := (((((O4.out.setBelow (p := ⟨w.heap.size, 0, none⟩) (Nat.lt_succ_self _) (.int .i64 (k : Int))).setBelow (p := ⟨w.heap.size, 1, none⟩) (Nat.lt_succ_self _) (.int .i64 (n : Int))).setBelow (p := ⟨w.heap.size, 2, none⟩) (Nat.lt_succ_self _) (.int .i64 day)).setBelow (p := ⟨w.heap.size, 3, none⟩) (Nat.lt_succ_self _) (.slice (some ⟨g, 0, none⟩) 8 c1)).setBelow (p := ⟨w.heap.size, 4, none⟩) (Nat.lt_succ_self _) (.string ⟨text.toArray⟩))
      obtain ⟨f1, f2, f3⟩ := HXF.out
      refine ⟨x, rfl, by rw [HXC.out], ⟨?_, fun ad e => ?_⟩, (((((HB4.out.setCell (p := ⟨w.heap.size, 0, none⟩) (Nat.le_refl _) (.int .i64 (k : Int))).setCell (p := ⟨w.heap.size, 1, none⟩) (Nat.le_refl _) (.int .i64 (n : Int))).setCell (p := ⟨w.heap.size, 2, none⟩) (Nat.le_refl _) (.int .i64 day)).setCell (p := ⟨w.heap.size, 3, none⟩) (Nat.le_refl _) (.slice (some ⟨g, 0, none⟩) 8 c1)).setCell (p := ⟨w.heap.size, 4, none⟩) (Nat.le_refl _) (.string ⟨text.toArray⟩))⟩
      · have hq := Own.sl' HF
        rw [f2, f1, f3]
        exact hq
      · rw [f1] at e
        injection e with e
        subst e
        exact Nat.le_of_lt HGB.out
    · have e := HV2.out
      rw [if_neg h0] at e
      subst e
      have hrb : (r == 0) = false := by simpa using h0
      go_wp2_with (fail)
      refine bodyPost_ret (v := .tuple #[.agg #[.int .i64 0, .int .i64 0, .int .i64 0, .slice none 0 0, .string ⟨#[]⟩], .int .i64 r]) (by simp [results, Tryz.results126, go_sem, *]) rfl ?_
      exact zeroC_post (((((HB4.out.setCell (p := ⟨w.heap.size, 0, none⟩) (Nat.le_refl _) (.int .i64 0)).setCell (p := ⟨w.heap.size, 1, none⟩) (Nat.le_refl _) (.int .i64 0)).setCell (p := ⟨w.heap.size, 2, none⟩) (Nat.le_refl _) (.int .i64 0)).setCell (p := ⟨w.heap.size, 3, none⟩) (Nat.le_refl _) (.slice none 0 0)).setCell (p := ⟨w.heap.size, 4, none⟩) (Nat.le_refl _) (.string ⟨#[]⟩)) _
end Go.Proofs.YtjncmlglhegnaaaGreatDoor
