/- wire: how much a run of items reads; what a method of a reader leaves below a bound (plain Lean). -/
/- chain: Decode, walked. -/
/- chain: slices.Clone at ints and at entries, walked. -/
import Derived.Test.YtjncmlglhegnaaaGreatDoorWireQ
import Derived.Test.YtjncmlglhegnaaaGreatDoorChainLP
import Derived.Test.YtjncmlglhegnaaaGreatDoorChainA
import Derived.Deep.RegionLaw
import Derived.StillTactics
namespace Go.Proofs.YtjncmlglhegnaaaGreatDoor
open Go.RowKit Go.Lib

section
variable {α : Type} {one : RdV → α × RdV}
theorem runF_len (hs : Steps one) : ∀ (k : Nat) (r : RdV), r.ok → (runF one k r).1.length ≤ r.rest.length + 1 ∧ (runF one k r).2.ok ∧ (runF one k r).2.rest.length ≤ r.rest.length
  | 0, r, h => ⟨Nat.zero_le _, h, Nat.le_refl _⟩
  | k + 1, r, h => by
    unfold runF
    split
    · exact ⟨Nat.zero_le _, h, Nat.le_refl _⟩
    · obtain ⟨h1, h2⟩ := hs r h
      obtain ⟨h3, h4, h5⟩ := runF_len hs k (one r).2 h1
      rcases h2 with h2 | h2
      · simp only [List.length_cons]
        exact ⟨by omega, h4, by omega⟩
      · rw [h2] at h3 h4 h5 ⊢
        have hz : (runF one k RdV.fail).1 = [] := by cases k <;> simp [runF, RdV.fail]
        rw [hz]
        simp only [List.length_cons, List.length_nil]
        refine ⟨by omega, h4, ?_⟩
        have h6 : RdV.fail.rest.length = 0 := rfl
        omega
theorem itemsF_len (hs : Steps one) {r : RdV} (h : r.ok) : (itemsF one r).1.length ≤ r.rest.length + 1 ∧ (itemsF one r).2.ok ∧ (itemsF one r).2.rest.length ≤ r.rest.length := by
  obtain ⟨h1, h2⟩ := numF_keeps (e := 91) (least := 0) h
  obtain ⟨h3, h4, h5⟩ := runF_len hs (numF 91 0 r).1.toNat (numF 91 0 r).2 h1
  obtain ⟨h6, h7⟩ := closeF_keeps (e := 93) h4
  unfold itemsF
  split
  · exact ⟨Nat.zero_le _, h6, Nat.le_trans h7 (Nat.le_trans h5 h2)⟩
  · exact ⟨Nat.le_trans h3 (by omega), h6, Nat.le_trans h7 (Nat.le_trans h5 h2)⟩
end
theorem below_row {B b : Nat} {w w' : World} (hB : B ≤ b) (hs : B ≤ w.heap.size) (hg : w.grownBy w' (some b)) : Below B w w' := (Below.refl B w).grown hg hs fun k hk => by injection hk with hk; omega
theorem textF_len {r : RdV} (h : r.ok) : (textF r).1.length ≤ r.rest.length := by
  have h2 := numF_keeps (e := 58) (least := 0) h
  rcases textF_ways (r := r) (r1 := (numF 58 0 r).2) (n := (numF 58 0 r).1) rfl _ rfl h with ⟨_, _, h⟩ | ⟨k, h1, _, ⟨_, h⟩ | ⟨_, _, _, h⟩ | ⟨h3, h4, _, h⟩⟩
  · rw [h]; exact Nat.zero_le _
  · rw [h]; exact Nat.zero_le _
  · rw [h]; exact Nat.zero_le _
  · rw [h]
    show ((numF 58 0 r).2.rest.take k).length ≤ _
    rw [List.length_take]
    omega
section
variable {α : Type} {one : RdV → α × RdV}
end
end Go.Proofs.YtjncmlglhegnaaaGreatDoor
namespace Go.Proofs.YtjncmlglhegnaaaGreatDoor
open Go.RowKit Go.Sort Go.Lib

def decodeF (s : List UInt8) : EntV × Bool := if goodD s = true then ((decE s).1, true) else (EntV.zero, false)
/-- an entry that was laid since -/
def EntF (w w' : World) (e : EntC) : Prop := SlF w w' 1 e.A e.v.seen.length (e.v.seen.map intC)
/-- what Decode and Next leave -/
def EntPost (w : World) (v : EntV) (r : Value) (e : Ending) (w' : World) : Prop := ∃ x : EntC, x.v = v ∧ e = .returned (.tuple #[.agg x.cells.toArray, r]) ∧ EntF w w' x ∧ Below w.heap.size w w'
def zeroC : EntC := ⟨.zero, none, 0⟩
theorem zeroC_post {w w' : World} (h : Below w.heap.size w w') (r : Value) : EntPost w .zero r (.returned (.tuple #[.agg #[.int .i64 0, .int .i64 0, .int .i64 0, .slice none 0 0, .string ⟨#[]⟩], r])) w' :=
  ⟨zeroC, rfl, rfl, ⟨Sl.nil_ w' 1 none, fun ad h => by cases h⟩, h⟩
theorem row_below {w W W' : World} {b : Nat} (hB : w.heap.size ≤ b) (h : Below w.heap.size w W) (g : W.grownBy W' (some b)) : Below w.heap.size w W' := h.trans (below_row hB h.size g)
set_option maxRecDepth 100000 in
set_option maxHeartbeats 16000000 in
theorem Decode_any (w : World) (hE : Env w.heap.size w) (s : List UInt8) (hsm : s.length ≤ 100000) (v : EntV × Bool) (hv : decodeF s = v) :
    Calls Tryz.prog 108 #[.string ⟨s.toArray⟩] w (EntPost w v.1 (.bool v.2)) := by
  obtain ⟨dev, r1, e1⟩ : ∃ a b, natF ⟨s, false⟩ = (a, b) := ⟨_, _, rfl⟩
  obtain ⟨no, r2, e2⟩ : ∃ a b, natF r1 = (a, b) := ⟨_, _, rfl⟩
  obtain ⟨day, r3, e3⟩ : ∃ a b, natF r2 = (a, b) := ⟨_, _, rfl⟩
  obtain ⟨seen, r4, e4⟩ : ∃ a b, intsF r3 = (a, b) := ⟨_, _, rfl⟩
  obtain ⟨text, r5, e5⟩ : ∃ a b, textF r4 = (a, b) := ⟨_, _, rfl⟩
  have hd : decE s = (⟨dev, no, day, seen, text⟩, r5) := by unfold decE; simp only [e1, e2, e3, e4, e5]
  have k0 : (⟨s, false⟩ : RdV).ok := ok_of rfl
  have k1 : r1.ok ∧ r1.rest.length ≤ s.length := by have h := numF_keeps (e := 59) (least := 0) k0; have h2 : numF 59 0 ⟨s, false⟩ = (dev, r1) := e1; rw [h2] at h; exact h
  have k2 : r2.ok ∧ r2.rest.length ≤ r1.rest.length := by have h := numF_keeps (e := 59) (least := 0) k1.1; have h2 : numF 59 0 r1 = (no, r2) := e2; rw [h2] at h; exact h
  have k3 : r3.ok ∧ r3.rest.length ≤ r2.rest.length := by have h := numF_keeps (e := 59) (least := 0) k2.1; have h2 : numF 59 0 r2 = (day, r3) := e3; rw [h2] at h; exact h
  have k4 : seen.length ≤ r3.rest.length + 1 ∧ r4.ok ∧ r4.rest.length ≤ r3.rest.length := by have h := itemsF_len intF_steps k3.1; have h2 : itemsF intF r3 = (seen, r4) := e4; rw [h2] at h; exact h
  have k5 : text.length ≤ r4.rest.length := by have h := textF_len k4.2.1; rw [e5] at h; exact h
  have l1 : r1.rest.length ≤ 100000 := by omega
  have l2 : r2.rest.length ≤ 100000 := by omega
  have l3 : r3.rest.length ≤ 100000 := by omega
  have l4 : r4.rest.length ≤ 100000 := by omega
  obtain ⟨d, hdn⟩ : ∃ d, doneB r5 = d := ⟨_, rfl⟩
  obtain ⟨q, hq⟩ : ∃ q, rightB ⟨dev, no, day, seen, text⟩ = q := ⟨_, rfl⟩
  have HV : Hid ((d && q) = true → v = (⟨dev, no, day, seen, text⟩, true)) := Lib.hid (fun h => by
    rw [← hv]; unfold decodeF goodD; rw [hd]; unfold doneB at hdn; rw [hdn, hq, if_pos h])
  have HV0 : Hid ((d && q) = false → v = (.zero, false)) := Lib.hid (fun h => by
    rw [← hv]; unfold decodeF goodD; rw [hd]; unfold doneB at hdn; rw [hdn, hq, if_neg (by rw [h]; simp)])
  have HN1 := Lib.hid (fun (W : World) (b : Nat) (h : RdAt W b ⟨s, false⟩) (g : Below w.heap.size w W) (hb : w.heap.size ≤ b) => NumM_any h (hE.below g) hb (by show s.length ≤ _; omega) _ e1)
  have HN2 := Lib.hid (fun (W : World) (b : Nat) (h : RdAt W b r1) (g : Below w.heap.size w W) (hb : w.heap.size ≤ b) => NumM_any h (hE.below g) hb (by omega) _ e2)
  have HN3 := Lib.hid (fun (W : World) (b : Nat) (h : RdAt W b r2) (g : Below w.heap.size w W) (hb : w.heap.size ≤ b) => NumM_any h (hE.below g) hb (by omega) _ e3)
  have HN4 := Lib.hid (fun (W : World) (b : Nat) (h : RdAt W b r3) (g : Below w.heap.size w W) (hb : w.heap.size ≤ b) => NumsM_any h (hE.below g) hb k3.1 (by omega) _ e4)
  have HN5 := Lib.hid (fun (W : World) (b : Nat) (h : RdAt W b r4) (g : Below w.heap.size w W) (hb : w.heap.size ≤ b) => Text_M h (hE.below g) hb k4.2.1 (by omega) _ e5)
  have HD := Lib.hid (fun (W : World) (b : Nat) (h : RdAt W b r5) => Done_any h d hdn)
  have HRT := Lib.hid (fun (W : World) (A : Option Addr) (c : Nat) (h : Sl W 1 A seen.length (seen.map intC)) => Right_any W ⟨⟨dev, no, day, seen, text⟩, A, c⟩ h (by show seen.length ≤ 1099511627776; omega) (by show text.length ≤ _; omega) q hq)
  have HB := Lib.hid (Below.refl w.heap.size w)
  simp only [EntC.cells] at HRT
  clear e1 e2 e3 e4 e5 hd k0 k1 k2 k3 k4 k5 l1 l2 l3 l4 hE hsm hv hdn hq
  go_enter Tryz.func108, Tryz.ntmps108
  go_wp2_with (fail)
  ((with_reducible refine (Open_any _ s).mono ?_); rintro _ w1 ⟨rfl, h1, hb1⟩)
  obtain ⟨hX, hbT⟩ := locs1 hb1
  obtain ⟨b, hb⟩ : ∃ b, b = (w.alloc (.cells #[.int .i64 0, .int .i64 0, .int .i64 0, .slice none 0 0, .string ⟨#[]⟩] 32)).heap.size := ⟨_, rfl⟩
  have hbs : b = w.heap.size + 1 := by rw [hb]; simp
  rw [← hb] at h1 ⊢
  have HBB := Lib.hid hbs
  have HB1 := Lib.hid hbT
  have hlt := Loc.lt h1
  have HH1 := Lib.hid h1
  have X := Lib.hid hX
  have HL1 := Lib.hid hlt
  clear hX hbT hb1 h1 hb hbs hlt
  go_wp2_with (fail)
  have a0 := HB1.out.alloc HB1.out.size (.cells #[.int .i64 0, .int .i64 0, .int .i64 0, .slice none 0 0, .string ⟨#[]⟩] 32)
  ((with_reducible refine (HN1.out _ b (HH1.out.alloc _) a0 (by have := HBB.out; omega)).mono ?_); rintro _ w2 ⟨rfl, h2, g2⟩)
  have HWB : Hid (w.heap.size ≤ b) := Lib.hid (by have := HBB.out; omega)
  have NX : Hid ((some b : Option Nat) ≠ some w.heap.size) := Lib.hid (fun e => by have := HBB.out; injection e with e; omega)
  have NY : Hid ((some b : Option Nat) ≠ some w1.heap.size) := Lib.hid (fun e => by have := HL1.out; injection e with e; omega)
  have NZ : Hid ((some w1.heap.size : Option Nat) ≠ some b) := Lib.hid (fun e => NY.out e.symm)
  have NW : Hid (w1.heap.size ≠ w.heap.size) := Lib.hid (by have := HBB.out; have := HL1.out; omega)
  have NV : Hid (w.heap.size ≤ w1.heap.size) := Lib.hid HB1.out.size
  have HB2 := Lib.hid (row_below HWB.out a0 g2)
  have X2 := Lib.hid ((X.out.alloc _).grown g2 NX.out)
  have Y2 := Lib.hid ((Loc.new_ w1 _ _).grown g2 NY.out)
  have H2 := Lib.hid h2
  clear a0 h2 g2 X HB1 HH1 HL1
  generalize w1.heap.size = y at *
  go_wp2_with (fail)
  ((with_reducible refine (HN2.out _ b H2.out HB2.out HWB.out).mono ?_); rintro _ w3 ⟨rfl, h3, g3⟩)
  have HB3 := Lib.hid (row_below HWB.out HB2.out g3)
  have X3 := Lib.hid (X2.out.grown g3 NX.out)
  have Y3 := Lib.hid (Y2.out.grown g3 NY.out)
  have H3 := Lib.hid h3
  clear h3 g3 X2 Y2 H2 HB2
  go_wp2_with (fail)
  ((with_reducible refine (HN3.out _ b H3.out HB3.out HWB.out).mono ?_); rintro _ w4 ⟨rfl, h4, g4⟩)
  have HB4 := Lib.hid (row_below HWB.out HB3.out g4)
  have X4 := Lib.hid (X3.out.grown g4 NX.out)
  have Y4 := Lib.hid (Y3.out.grown g4 NY.out)
  have H4 := Lib.hid h4
  clear h4 g4 X3 Y3 H3 HB3
  obtain ⟨zY4, kY4, fY4⟩ := Y4.out
  go_wp2_with (fail)
  clear zY4 kY4 fY4
  have H5 := Lib.hid (((H4.out.grown (grownBy_setCell w4 ⟨y, 0, none⟩ (.int .i64 dev)) NZ.out).grown (grownBy_setCell _ ⟨y, 1, none⟩ (.int .i64 no)) NZ.out).grown (grownBy_setCell _ ⟨y, 2, none⟩ (.int .i64 day)) NZ.out)
  have HB5 := Lib.hid (((HB4.out.setCell (p := ⟨y, 0, none⟩) NV.out (.int .i64 dev)).setCell (p := ⟨y, 1, none⟩) NV.out (.int .i64 no)).setCell (p := ⟨y, 2, none⟩) NV.out (.int .i64 day))
  have X5 := Lib.hid (((X4.out.far (p := ⟨y, 0, none⟩) NW.out (.int .i64 dev)).far (p := ⟨y, 1, none⟩) NW.out (.int .i64 no)).far (p := ⟨y, 2, none⟩) NW.out (.int .i64 day))
  have Y5 := Lib.hid (((Y4.out.set_ 0 (.int .i64 dev)).set_ 1 (.int .i64 no)).set_ 2 (.int .i64 day))
  clear H4 HB4 X4 Y4
  generalize (((w4.setCell ⟨y, 0, none⟩ (.int .i64 dev)).setCell ⟨y, 1, none⟩ (.int .i64 no)).setCell ⟨y, 2, none⟩ (.int .i64 day)) = w5 at *
  ((with_reducible refine (HN4.out _ b H5.out HB5.out HWB.out).mono ?_); rintro _ w6 ⟨A, c, rfl, h6, k6, g6⟩)
  simp only at h6 k6 g6 ⊢
  have hlb := Loc.lt H5.out
  have hly := Loc.lt Y5.out
  have F6 : Hid (∀ ad, A = some ad → b < ad.block ∧ y < ad.block ∧ w.heap.size < ad.block) := Lib.hid (fun ad e => by have h := h6.2 ad e; have := Loc.lt X5.out; omega)
  have S6 := Lib.hid h6.1
  have HB6 := Lib.hid (row_below HWB.out HB5.out g6)
  have X6 := Lib.hid (X5.out.grown g6 NX.out)
  have Y6 := Lib.hid (Y5.out.grown g6 NY.out)
  have H6 := Lib.hid k6
  clear h6 g6 k6 X5 Y5 H5 HB5 hlb hly
  go_wp2_with (fail)
  ((with_reducible refine (HN5.out _ b H6.out HB6.out HWB.out).mono ?_); rintro _ w7 ⟨rfl, h7, g7⟩)
  have HB7 := Lib.hid (row_below HWB.out HB6.out g7)
  have X7 := Lib.hid (X6.out.grown g7 NX.out)
  have Y7 := Lib.hid (Y6.out.grown g7 NY.out)
  have S7 := Lib.hid (S6.out.grown g7 (.inr fun ad e h => absurd (Option.some.inj h) (Nat.ne_of_lt (F6.out ad e).1)))
  have H7 := Lib.hid h7
  clear h7 g7 X6 Y6 H6 HB6 S6

  obtain ⟨zY7, kY7, fY7⟩ := Y7.out
  go_wp2_with (fail)
  clear zY7 kY7 fY7
  have H8 := Lib.hid ((H7.out.grown (grownBy_setCell w7 ⟨y, 3, none⟩ (.slice A seen.length c)) NZ.out).grown (grownBy_setCell _ ⟨y, 4, none⟩ (.string ⟨text.toArray⟩)) NZ.out)
  have HB8 := Lib.hid ((HB7.out.setCell (p := ⟨y, 3, none⟩) NV.out (.slice A seen.length c)).setCell (p := ⟨y, 4, none⟩) NV.out (.string ⟨text.toArray⟩))
  have X8 := Lib.hid ((X7.out.far (p := ⟨y, 3, none⟩) NW.out (.slice A seen.length c)).far (p := ⟨y, 4, none⟩) NW.out (.string ⟨text.toArray⟩))
  have Y8 := Lib.hid ((Y7.out.set_ 3 (.slice A seen.length c)).set_ 4 (.string ⟨text.toArray⟩))
  have S8 := Lib.hid ((S7.out.grown (grownBy_setCell w7 ⟨y, 3, none⟩ (.slice A seen.length c)) (.inr fun ad e h => absurd (Option.some.inj h) (Nat.ne_of_lt (F6.out ad e).2.1))).grown (grownBy_setCell _ ⟨y, 4, none⟩ (.string ⟨text.toArray⟩)) (.inr fun ad e h => absurd (Option.some.inj h) (Nat.ne_of_lt (F6.out ad e).2.1)))
  clear H7 HB7 X7 Y7 S7
  generalize ((w7.setCell ⟨y, 3, none⟩ (.slice A seen.length c)).setCell ⟨y, 4, none⟩ (.string ⟨text.toArray⟩)) = w8 at *
  have HD8 := Lib.hid (HD.out w8 b H8.out)
  have HR8 := Lib.hid (HRT.out w8 A c S8.out)
  clear HD HRT HN1 HN2 HN3 HN4 HN5
  cases d
  · have hv := HV0.out rfl
    subst hv
    ((with_reducible refine (HD8.out).mono ?_); rintro _ w9 ⟨rfl, hw9⟩; obtain rfl := hw9)
    obtain ⟨zX8, kX8, fX8⟩ := X8.out
    go_wp2_with (fail)
    refine bodyPost_ret (v := .tuple #[.agg #[.int .i64 0, .int .i64 0, .int .i64 0, .slice none 0 0, .string ⟨#[]⟩], .bool false]) (by simp [results, Tryz.results108, go_sem, *]) rfl ?_
    exact zeroC_post (((((HB8.out.setCell (p := ⟨w.heap.size, 0, none⟩) (Nat.le_refl _) (.int .i64 0)).setCell (p := ⟨w.heap.size, 1, none⟩) (Nat.le_refl _) (.int .i64 0)).setCell (p := ⟨w.heap.size, 2, none⟩) (Nat.le_refl _) (.int .i64 0)).setCell (p := ⟨w.heap.size, 3, none⟩) (Nat.le_refl _) (.slice none 0 0)).setCell (p := ⟨w.heap.size, 4, none⟩) (Nat.le_refl _) (.string ⟨#[]⟩)) _
  ((with_reducible refine (HD8.out).mono ?_); rintro _ w9 ⟨rfl, hw9⟩; obtain rfl := hw9)
  obtain ⟨zY8, kY8, fY8⟩ := Y8.out
  go_wp2_with (fail)
  clear zY8 kY8 fY8
  ((with_reducible refine (HR8.out).mono ?_); rintro _ w9 ⟨rfl, hb9⟩)
  have HB9 := Lib.hid (HB8.out.trans (hb9.mono HB8.out.size))
  have X9 := Lib.hid (X8.out.below hb9)
  have Y9 := Lib.hid (Y8.out.below hb9)
  have S9 := Lib.hid (S8.out.below hb9)
  clear hb9 X8 Y8 S8 HB8
  cases q
  · have hv := HV0.out rfl
    subst hv
    obtain ⟨zX9, kX9, fX9⟩ := X9.out
    obtain ⟨zY9, kY9, fY9⟩ := Y9.out
    go_wp2_with (fail)
    refine bodyPost_ret (v := .tuple #[.agg #[.int .i64 0, .int .i64 0, .int .i64 0, .slice none 0 0, .string ⟨#[]⟩], .bool false]) (by simp [results, Tryz.results108, go_sem, *]) rfl ?_
    exact zeroC_post (((((HB9.out.setCell (p := ⟨w.heap.size, 0, none⟩) (Nat.le_refl _) (.int .i64 0)).setCell (p := ⟨w.heap.size, 1, none⟩) (Nat.le_refl _) (.int .i64 0)).setCell (p := ⟨w.heap.size, 2, none⟩) (Nat.le_refl _) (.int .i64 0)).setCell (p := ⟨w.heap.size, 3, none⟩) (Nat.le_refl _) (.slice none 0 0)).setCell (p := ⟨w.heap.size, 4, none⟩) (Nat.le_refl _) (.string ⟨#[]⟩)) _
  · have hv := HV.out rfl
    subst hv
    obtain ⟨zX9, kX9, fX9⟩ := X9.out
    obtain ⟨zY9, kY9, fY9⟩ := Y9.out
    go_wp2_with (fail)
    refine bodyPost_ret (v := .tuple #[.agg #[.int .i64 dev, .int .i64 no, .int .i64 day, .slice A seen.length c, .string ⟨text.toArray⟩], .bool true]) (by simp [results, Tryz.results108, go_sem, *]) rfl ?_
    exact ⟨⟨⟨dev, no, day, seen, text⟩, A, c⟩, rfl, rfl, ⟨(((((S9.out.grown (grownBy_setCell w9 ⟨w.heap.size, 0, none⟩ (.int .i64 dev)) (.inr fun ad e h => absurd (Option.some.inj h) (Nat.ne_of_lt (F6.out ad e).2.2))).grown (grownBy_setCell _ ⟨w.heap.size, 1, none⟩ (.int .i64 no)) (.inr fun ad e h => absurd (Option.some.inj h) (Nat.ne_of_lt (F6.out ad e).2.2))).grown (grownBy_setCell _ ⟨w.heap.size, 2, none⟩ (.int .i64 day)) (.inr fun ad e h => absurd (Option.some.inj h) (Nat.ne_of_lt (F6.out ad e).2.2))).grown (grownBy_setCell _ ⟨w.heap.size, 3, none⟩ (.slice A seen.length c)) (.inr fun ad e h => absurd (Option.some.inj h) (Nat.ne_of_lt (F6.out ad e).2.2))).grown (grownBy_setCell _ ⟨w.heap.size, 4, none⟩ (.string ⟨text.toArray⟩)) (.inr fun ad e h => absurd (Option.some.inj h) (Nat.ne_of_lt (F6.out ad e).2.2))), fun ad e => Nat.le_of_lt (F6.out ad e).2.2⟩, (((((HB9.out.setCell (p := ⟨w.heap.size, 0, none⟩) (Nat.le_refl _) (.int .i64 dev)).setCell (p := ⟨w.heap.size, 1, none⟩) (Nat.le_refl _) (.int .i64 no)).setCell (p := ⟨w.heap.size, 2, none⟩) (Nat.le_refl _) (.int .i64 day)).setCell (p := ⟨w.heap.size, 3, none⟩) (Nat.le_refl _) (.slice A seen.length c)).setCell (p := ⟨w.heap.size, 4, none⟩) (Nat.le_refl _) (.string ⟨text.toArray⟩))⟩
end Go.Proofs.YtjncmlglhegnaaaGreatDoor
namespace Go.Proofs.YtjncmlglhegnaaaGreatDoor
open Go.RowKit Go.Sort Go.Lib

theorem infoEnt : (Tryz.prog.info? 32).map (fun i => (i.zero, i.size, i.bytes)) = some (some (.agg #[.int .i64 0, .int .i64 0, .int .i64 0, .slice none 0 0, .string ⟨#[]⟩]), 5, 64) := by kernel_rfl
theorem ents_len (ls : List EntC) : ∀ x ∈ ls.map EntC.cells, x.length = 5 := by
  intro x hx
  obtain ⟨l, _, rfl⟩ := List.mem_map.1 hx
  rfl
theorem ents_one (ls : List EntC) : ∀ x ∈ ls.map EntC.cells, ∀ u ∈ x, u.oneCell' = true := by
  intro x hx u hu
  obtain ⟨l, _, rfl⟩ := List.mem_map.1 hx
  simp only [EntC.cells, List.mem_cons, List.not_mem_nil, or_false] at hu
  rcases hu with rfl | rfl | rfl | rfl | rfl <;> rfl
theorem ints_len (ls : List Int) : ∀ x ∈ ls.map intC, x.length = 1 := by
  intro x hx
  obtain ⟨l, _, rfl⟩ := List.mem_map.1 hx
  rfl
theorem ints_one (ls : List Int) : ∀ x ∈ ls.map intC, ∀ u ∈ x, u.oneCell' = true := by
  intro x hx u hu
  obtain ⟨l, _, rfl⟩ := List.mem_map.1 hx
  simp only [intC, List.mem_cons, List.not_mem_nil, or_false] at hu
  subst hu
  rfl
theorem Sl.none0 {w : World} {size n : Nat} {xs : List (List Value)} (h : Sl w size none n xs) : n = 0 := by
  rcases Nat.eq_zero_or_pos n with h0 | h0
  · exact h0
  · obtain ⟨l, hl⟩ : ∃ x, xs[0]? = some x := ⟨_, List.getElem?_eq_getElem (by rw [h.1]; exact h0)⟩
    obtain ⟨b, o, he, _⟩ := h.2 0 l hl
    cases he
def Cloned (t : TypeId) (size : Nat) (w : World) (n : Nat) (xs : List (List Value)) (e : Ending) (w' : World) : Prop :=
  ∃ A c, e = .returned (.slice A n c) ∧ Own w' w.heap.size t size (.slice A n c) n xs ∧ Below w.heap.size w w'
set_option maxRecDepth 100000 in
set_option maxHeartbeats 1000000 in
theorem CloneE_any (A : Option Addr) (n c : Nat) (ls : List EntC) (w : World) (hs : Sl w 5 A n (ls.map EntC.cells)) (hn : n ≤ 1000) :
    Calls Tryz.prog 85 #[.slice A n c] w (Cloned 32 5 w n (ls.map EntC.cells)) := by
  obtain ⟨i0, hi0, hz0, hz1, hz2⟩ := info_parts infoEnt
  have HN := Lib.hid hn
  have hq := fun w : World => Lib.run_eql_slice_nil (P := Tryz.prog) w 22 32 A n c 0 0 Tryz.underlying22
  rcases A with _ | ad
  · have h0 : n = 0 := hs.none0
    have HS := Lib.hid hs
    clear hs hn
    subst h0
    go_enter Tryz.func85, Tryz.ntmps85
    go_wp2
    go_ret
    have hx := List.eq_nil_of_length_eq_zero HS.out.1
    exact ⟨none, 0, rfl, by rw [hx]; exact Own.nil_ _ _ _ _, Below.refl _ _⟩
  · have HS := Lib.hid hs
    clear hs hn
    go_enter Tryz.func85, Tryz.ntmps85
    go_wp2_with (at_builtin; refine wpList_append_sl _ rfl (.tmp 5) (.tmp 6) _ rfl w.heap.size 32 i0 _ 5 64 Tryz.underlying22 hi0 hz0 hz1 hz2 rfl (by omega) (.slice (some ⟨w.heap.size, 0, none⟩) 0 0) 0 [] rfl ⟨World.ownsRow_lit w #[] 0 (Nat.le_refl _) (by simp [maxLen]) rfl, by simp, rfl⟩ (some ad) n c (ls.map EntC.cells) rfl (HS.out.alloc _) (ents_len ls) (ents_one ls) (by have := HN.out; simp only [maxLen]; omega) (by have := HN.out; omega) (by simp) ?_; intro A1 c1 w1 hown1 hg1 hat1)
    go_ret
    rw [Nat.zero_add, List.nil_append] at hown1
    refine ⟨A1, c1, by simp, hown1, (below_alloc w _).trans (((Below.refl _ _).grown hg1 (by simp) (fun k hk => ?_)))⟩
    simp [Value.ownBlock] at hk
    omega
set_option maxRecDepth 100000 in
set_option maxHeartbeats 1000000 in
theorem CloneI_any (A : Option Addr) (n c : Nat) (ls : List Int) (w : World) (hs : Sl w 1 A n (ls.map intC)) (hn : n ≤ 1000000) :
    Calls Tryz.prog 72 #[.slice A n c] w (Cloned 3 1 w n (ls.map intC)) := by
  obtain ⟨i0, hi0, hz0, hz1, hz2⟩ := info_parts infoInt
  have HN := Lib.hid hn
  have hq := fun w : World => Lib.run_eql_slice_nil (P := Tryz.prog) w 30 3 A n c 0 0 Tryz.underlying30
  rcases A with _ | ad
  · have h0 : n = 0 := hs.none0
    have HS := Lib.hid hs
    clear hs hn
    subst h0
    go_enter Tryz.func72, Tryz.ntmps72
    go_wp2
    go_ret
    have hx := List.eq_nil_of_length_eq_zero HS.out.1
    exact ⟨none, 0, rfl, by rw [hx]; exact Own.nil_ _ _ _ _, Below.refl _ _⟩
  · have HS := Lib.hid hs
    clear hs hn
    go_enter Tryz.func72, Tryz.ntmps72
    go_wp2_with (at_builtin; refine wpList_append_sl _ rfl (.tmp 5) (.tmp 6) _ rfl w.heap.size 3 i0 _ 1 8 Tryz.underlying30 hi0 hz0 hz1 hz2 rfl (by omega) (.slice (some ⟨w.heap.size, 0, none⟩) 0 0) 0 [] rfl ⟨World.ownsRow_lit w #[] 0 (Nat.le_refl _) (by simp [maxLen]) rfl, by simp, rfl⟩ (some ad) n c (ls.map intC) rfl (HS.out.alloc _) (ints_len ls) (ints_one ls) (by have := HN.out; simp only [maxLen]; omega) (by have := HN.out; omega) (by simp) ?_; intro A1 c1 w1 hown1 hg1 hat1)
    go_ret
    rw [Nat.zero_add, List.nil_append] at hown1
    refine ⟨A1, c1, by simp, hown1, (below_alloc w _).trans (((Below.refl _ _).grown hg1 (by simp) (fun k hk => ?_)))⟩
    simp [Value.ownBlock] at hk
    omega
end Go.Proofs.YtjncmlglhegnaaaGreatDoor
