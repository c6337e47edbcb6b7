/- kerbsideref02: survive, walked. -/
import Derived.Test.YthnechlnaacgfaaRefG
import Derived.Test.YthnechlnaacgfaaOrdL
namespace Go.Proofs.Ythnechlnaacgfaa
open Go.RowKit

section
variable {w w' : World} {F G : Nat → Prop} {B : Nat} {r : DV} {FA : Option Addr} {cf : Nat} {Q : Option Addr} {cq : Nat} {K : Option Addr} {ck : Nat}
set_option maxRecDepth 100000 in
set_option maxHeartbeats 4000000 in
theorem survive_ref (h : RefAt w F B r FA cf Q cq K ck) (hok : ROk r) (pf pn : Int) (hp0 : 0 ≤ pn) (hp1 : pn ≤ 262144) :
    Calls Try.prog 52 #[.pointer (some ⟨B, 0, none⟩), .agg #[.int .i64 pf, .int .i64 pn]] w fun e w' => e = .returned (.tuple #[]) ∧ RefToK F w B { r with files := surviveR r.files (pf, pn) } K ck w' := by
  have HX := Lib.hid (show surviveR r.files (pf, pn) = setL pf (if 64 * pn < (r.file pf).now.length then ⟨(r.file pf).now, putB (r.file pf).last (64 * pn).toNat (((r.file pf).now.drop (64 * pn).toNat).take 64)⟩ else r.file pf) r.files from rfl)
  have H := Lib.hid h
  have HG := Lib.hid (fun W (hW : RefAt W F B r FA cf Q cq K ck) => get_ref hW hok.few pf _ rfl)
  have HS := Lib.hid (fun W (hW : RefAt W F B r FA cf Q cq K ck) xn xl => set_ref hW hok.few pf ⟨xn, xl⟩)
  have hxok := hok.file pf
  clear h hok
  generalize hx : r.file pf = x at *
  obtain ⟨xn, xl⟩ := x
  simp only at HX HS HG hxok
  clear hx
  have hsl := strV_len xn
  have hw : IntKind.i64.wrap (64 * pn) = 64 * pn := IntWalk.i64_in _ (by omega)
  have HB0 := Lib.hid (below_alloc w (.cells #[.int .i64 pf, .int .i64 pn] 78))
  have LP0 := Lib.hid (Loc.new_ w #[.int .i64 pf, .int .i64 pn] 78)
  by_cases h3 : 64 * pn < (xn.length : Int)
  · rw [if_pos h3] at HX
    obtain ⟨a, ha⟩ : ∃ a : Nat, 64 * pn = (a : Int) := ⟨(64 * pn).toNat, by omega⟩
    have hapn : (64 * pn).toNat = a := by omega
    rw [hapn] at HX
    rw [ha] at h3
    have hal : a < xn.length := by omega
    have hxnl : xn.length ≤ 16777216 := hxok.1
    obtain ⟨t, ht⟩ : ∃ t, (xn.drop a).take 64 = t := ⟨_, rfl⟩
    rw [ht] at HX
    have htl : a + t.length ≤ 16777216 := by rw [← ht, List.length_take, List.length_drop]; omega
    have HP := Lib.hid (fun w1 => Put_ref w1 xl t a hxok.2 htl _ rfl)
    have hwr : IntKind.i64.wrap ((a : Int) + 64) = (a : Int) + 64 := IntWalk.i64_in _ (by omega)
    have hwa : IntKind.i64.wrap (a : Int) = (a : Int) := IntWalk.i64_in _ (by omega)
    obtain ⟨e, he⟩ : ∃ e : Nat, min (a + 64) xn.length = e := ⟨_, rfl⟩
    have hmin : (if (xn.length : Int) < (a : Int) + 64 then (xn.length : Int) else (a : Int) + 64) = (e : Int) := by split <;> omega
    have he1 : (a : Int) ≤ (e : Int) := by omega
    have he2 : (e : Int) ≤ (xn.length : Int) := by omega
    have hex : ByteArray.extract ⟨xn.toArray⟩ a e = ⟨t.toArray⟩ := by
      rw [extract_list, ← ht]
      congr 2
      rw [List.take_eq_take_iff, List.length_drop]
      omega
    clear he hal hapn ht
    go_enter Try.func52, Try.ntmps52
    go_wp2_with ((with_reducible refine (HG.out _ (H.out.below HB0.out)).mono ?_); rintro e1 w1 ⟨rfl, hb1⟩; have HB1 : Hid (Below w.heap.size w w1) := HB0.out.trans (hb1.mono HB0.out.size); have LP1 := Lib.hid (LP0.out.below hb1); clear hb1; obtain ⟨zP, kP, fP⟩ := LP1.out)
    have LP2 := Lib.hid (LP1.out.alloc (.cells #[.int .i64 pf, .string ⟨xn.toArray⟩, .string ⟨xl.toArray⟩] 65))
    have LF2 := Lib.hid (Loc.new_ w1 #[.int .i64 pf, .string ⟨xn.toArray⟩, .string ⟨xl.toArray⟩] 65)
    have HB2 := Lib.hid (HB1.out.alloc HB1.out.size (.cells #[.int .i64 pf, .string ⟨xn.toArray⟩, .string ⟨xl.toArray⟩] 65))
    have HZ : Hid (w.heap.size < w1.heap.size) := zP
    clear zP kP fP
    generalize w1.alloc (.cells #[.int .i64 pf, .string ⟨xn.toArray⟩, .string ⟨xl.toArray⟩] 65) = Y at *
    generalize w1.heap.size = bf at *
    refine wpTill.start (S := fun w' => w'.cell? ⟨w.heap.size, 1, none⟩ = some (.int .i64 pn) ∧ w'.cell? ⟨bf, 1, none⟩ = some (.string ⟨xn.toArray⟩)) (T := fun w' => w'.cell? ⟨bf, 2, none⟩ = some (.string ⟨xl.toArray⟩)) (m := 21) (by kernel_rfl) ?_
    have HS1 : Hid (Y.drew.cell? ⟨w.heap.size, 1, none⟩ = some (.int .i64 pn) ∧ Y.drew.cell? ⟨bf, 1, none⟩ = some (.string ⟨xn.toArray⟩)) := ⟨LP2.out.drew.cell 1, LF2.out.drew.cell 1⟩
    have HT1 : Hid (Y.drew.cell? ⟨bf, 2, none⟩ = some (.string ⟨xl.toArray⟩)) := LF2.out.drew.cell 2
    refine wpTill.take (i := 0) (v := ?_) (by rfl) rfl (by kernel_rfl) (by kernel_rfl) (by kernel_rfl) (by exact fun _ _ _ h => h) HS1.out (fun _ => HT1.out) (Or.inl ⟨by rfl, ?_⟩) ?_
    rotate_left
    · (intro w' hSw; (try dsimp only at hSw); go_simp; (try with_reducible rfl))
    (try simp only [Act.put, List.setIfInBounds_toArray, List.set_cons_zero, List.set_cons_succ])
    refine wpTill.takeT (i := 1) (v := ?_) (by rfl) rfl (by kernel_rfl) (by kernel_rfl) (by kernel_rfl) (by exact fun _ _ _ h => h) HS1.out HT1.out rfl (by kernel_rfl) (Or.inl ⟨by rfl, ?_⟩) ?_
    rotate_left
    · (intro w' hSw; (try dsimp only at hSw); go_simp; (try with_reducible rfl))
    (try simp only [Act.put, List.setIfInBounds_toArray, List.set_cons_zero, List.set_cons_succ])
    refine wpTill.take (i := 2) (v := ?_) (by rfl) rfl (by kernel_rfl) (by kernel_rfl) (by kernel_rfl) (by exact fun _ _ _ h => h) HS1.out (fun _ => HT1.out) (Or.inl ⟨by rfl, ?_⟩) ?_
    rotate_left
    · (intro w' hSw; (try dsimp only at hSw); go_simp; (try with_reducible rfl))
    (try simp only [Act.put, List.setIfInBounds_toArray, List.set_cons_zero, List.set_cons_succ])
    refine wpTill.take (i := 3) (v := ?_) (by rfl) rfl (by kernel_rfl) (by kernel_rfl) (by kernel_rfl) (by exact fun _ _ _ h => h) HS1.out (fun _ => HT1.out) (Or.inl ⟨by rfl, ?_⟩) ?_
    rotate_left
    · (intro w' hSw; (try dsimp only at hSw); go_simp; (try with_reducible rfl))
    (try simp only [Act.put, List.setIfInBounds_toArray, List.set_cons_zero, List.set_cons_succ])
    refine wpTill.take (i := 4) (v := ?_) (by rfl) rfl (by kernel_rfl) (by kernel_rfl) (by kernel_rfl) (by exact fun _ _ _ h => h) HS1.out (fun _ => HT1.out) (Or.inl ⟨by rfl, ?_⟩) ?_
    rotate_left
    · (intro w' hSw; (try dsimp only at hSw); go_simp; (try with_reducible rfl))
    (try simp only [Act.put, List.setIfInBounds_toArray, List.set_cons_zero, List.set_cons_succ])
    refine wpTill.take (i := 5) (v := ?_) (by rfl) rfl (by kernel_rfl) (by kernel_rfl) (by kernel_rfl) (by exact fun _ _ _ h => h) HS1.out (fun _ => HT1.out) (Or.inl ⟨by rfl, ?_⟩) ?_
    rotate_left
    · (intro w' hSw; (try dsimp only at hSw); go_simp; (try with_reducible rfl))
    (try simp only [Act.put, List.setIfInBounds_toArray, List.set_cons_zero, List.set_cons_succ])
    refine wpTill.take (i := 6) (v := ?_) (by rfl) rfl (by kernel_rfl) (by kernel_rfl) (by kernel_rfl) (by exact fun _ _ _ h => h) HS1.out (fun _ => HT1.out) (Or.inl ⟨by rfl, ?_⟩) ?_
    rotate_left
    · (intro w' hSw; (try dsimp only at hSw); go_simp; (try with_reducible rfl))
    (try simp only [Act.put, List.setIfInBounds_toArray, List.set_cons_zero, List.set_cons_succ])
    refine wpTill.take (i := 7) (v := ?_) (by rfl) rfl (by kernel_rfl) (by kernel_rfl) (by kernel_rfl) (by exact fun _ _ _ h => h) HS1.out (fun _ => HT1.out) (Or.inl ⟨by rfl, ?_⟩) ?_
    rotate_left
    · (intro w' hSw; (try dsimp only at hSw); go_simp; (try with_reducible rfl))
    (try simp only [Act.put, List.setIfInBounds_toArray, List.set_cons_zero, List.set_cons_succ])
    refine wpTill.take (i := 8) (v := ?_) (by rfl) rfl (by kernel_rfl) (by kernel_rfl) (by kernel_rfl) (by exact fun _ _ _ h => h) HS1.out (fun _ => HT1.out) (Or.inl ⟨by rfl, ?_⟩) ?_
    rotate_left
    · (intro w' hSw; (try dsimp only at hSw); go_simp; (try with_reducible rfl))
    (try simp only [Act.put, List.setIfInBounds_toArray, List.set_cons_zero, List.set_cons_succ])
    refine wpTill.take (i := 9) (v := ?_) (by rfl) rfl (by kernel_rfl) (by kernel_rfl) (by kernel_rfl) (by exact fun _ _ _ h => h) HS1.out (fun _ => HT1.out) (Or.inl ⟨by rfl, ?_⟩) ?_
    rotate_left
    · (intro w' hSw; (try dsimp only at hSw); go_simp; (try with_reducible rfl))
    (try simp only [Act.put, List.setIfInBounds_toArray, List.set_cons_zero, List.set_cons_succ])
    refine wpTill.take (i := 10) (v := ?_) (by rfl) rfl (by kernel_rfl) (by kernel_rfl) (by kernel_rfl) (by exact fun _ _ _ h => h) HS1.out (fun _ => HT1.out) (Or.inl ⟨by rfl, ?_⟩) ?_
    rotate_left
    · (intro w' hSw; (try dsimp only at hSw); go_simp; (try with_reducible rfl))
    (try simp only [Act.put, List.setIfInBounds_toArray, List.set_cons_zero, List.set_cons_succ])
    refine wpTill.take (i := 11) (v := ?_) (by rfl) rfl (by kernel_rfl) (by kernel_rfl) (by kernel_rfl) (by exact fun _ _ _ h => h) HS1.out (fun _ => HT1.out) (Or.inl ⟨by rfl, ?_⟩) ?_
    rotate_left
    · (intro w' hSw; (try dsimp only at hSw); go_simp; (try with_reducible rfl))
    (try simp only [Act.put, List.setIfInBounds_toArray, List.set_cons_zero, List.set_cons_succ])
    refine wpTill.take (i := 12) (v := ?_) (by rfl) rfl (by kernel_rfl) (by kernel_rfl) (by kernel_rfl) (by exact fun _ _ _ h => h) HS1.out (fun _ => HT1.out) (Or.inl ⟨by rfl, ?_⟩) ?_
    rotate_left
    · (intro w' hSw; (try dsimp only at hSw); go_simp; (try with_reducible rfl))
    (try simp only [Act.put, List.setIfInBounds_toArray, List.set_cons_zero, List.set_cons_succ])
    refine wpTill.take (i := 13) (v := ?_) (by rfl) rfl (by kernel_rfl) (by kernel_rfl) (by kernel_rfl) (by exact fun _ _ _ h => h) HS1.out (fun _ => HT1.out) (Or.inl ⟨by rfl, ?_⟩) ?_
    rotate_left
    · (intro w' hSw; (try dsimp only at hSw); go_simp; (try with_reducible rfl))
    (try simp only [Act.put, List.setIfInBounds_toArray, List.set_cons_zero, List.set_cons_succ])
    refine wpTill.take (i := 14) (v := ?_) (by rfl) rfl (by kernel_rfl) (by kernel_rfl) (by kernel_rfl) (by exact fun _ _ _ h => h) HS1.out (fun _ => HT1.out) (Or.inl ⟨by rfl, ?_⟩) ?_
    rotate_left
    · (intro w' hSw; (try dsimp only at hSw); go_simp; (try with_reducible rfl))
    (try simp only [Act.put, List.setIfInBounds_toArray, List.set_cons_zero, List.set_cons_succ])
    refine wpTill.take (i := 15) (v := ?_) (by rfl) rfl (by kernel_rfl) (by kernel_rfl) (by kernel_rfl) (by exact fun _ _ _ h => h) HS1.out (fun _ => HT1.out) (Or.inl ⟨by rfl, ?_⟩) ?_
    rotate_left
    · (intro w' hSw; (try dsimp only at hSw); go_simp; (try with_reducible rfl))
    (try simp only [Act.put, List.setIfInBounds_toArray, List.set_cons_zero, List.set_cons_succ])
    refine wpTill.take (i := 16) (v := ?_) (by rfl) rfl (by kernel_rfl) (by kernel_rfl) (by kernel_rfl) (by exact fun _ _ _ h => h) HS1.out (fun _ => HT1.out) (Or.inl ⟨by rfl, ?_⟩) ?_
    rotate_left
    · (intro w' hSw; (try dsimp only at hSw); go_simp; (try with_reducible rfl))
    (try simp only [Act.put, List.setIfInBounds_toArray, List.set_cons_zero, List.set_cons_succ])
    refine wpTill.take (i := 17) (v := ?_) (by rfl) rfl (by kernel_rfl) (by kernel_rfl) (by kernel_rfl) (by exact fun _ _ _ h => h) HS1.out (fun _ => HT1.out) (Or.inl ⟨by rfl, ?_⟩) ?_
    rotate_left
    · (intro w' hSw; (try dsimp only at hSw); go_simp; (try with_reducible rfl))
    (try simp only [Act.put, List.setIfInBounds_toArray, List.set_cons_zero, List.set_cons_succ])
    refine wpTill.take (i := 18) (v := ?_) (by rfl) rfl (by kernel_rfl) (by kernel_rfl) (by kernel_rfl) (by exact fun _ _ _ h => h) HS1.out (fun _ => HT1.out) (Or.inl ⟨by rfl, ?_⟩) ?_
    rotate_left
    · (intro w' hSw; (try dsimp only at hSw); go_simp; (try with_reducible rfl))
    (try simp only [Act.put, List.setIfInBounds_toArray, List.set_cons_zero, List.set_cons_succ])
    refine wpTill.step (i := 19) (by kernel_rfl) (by rfl) (fun K' hK => ?_)
    replace hK := Lib.hid hK
    go_simp
    (with_reducible refine (HP.out _).mono ?_)
    rintro e w4 ⟨rfl, hb4⟩
    have LF4 := Lib.hid (LF2.out.drew.below hb4)
    have LP4 := Lib.hid (LP2.out.drew.below hb4)
    have HB4 : Hid (Below w.heap.size w w4) := HB2.out.drew.trans (hb4.mono HB2.out.drew.size)
    clear hb4
    go_wp2_with (fail)
    refine hK.out _ _ ⟨LP4.out.cell 1, LF4.out.cell 1⟩ (fun _ => LF4.out.cell 2) ?_
    clear hK K'
    (try simp only [Act.put, List.setIfInBounds_toArray, List.set_cons_zero, List.set_cons_succ])
    refine wpTill.take (i := 20) (v := ?_) (by rfl) rfl (by kernel_rfl) (by kernel_rfl) (by kernel_rfl) (by exact fun _ _ _ h => h) ⟨LP4.out.cell 1, LF4.out.cell 1⟩ (fun _ => LF4.out.cell 2) (Or.inl ⟨by rfl, ?_⟩) ?_
    rotate_left
    · (intro w' hSw; (try dsimp only at hSw); go_simp; (try with_reducible rfl))
    (try simp only [Act.put, List.setIfInBounds_toArray, List.set_cons_zero, List.set_cons_succ])
    obtain ⟨zF, kF, fF⟩ := LF4.out
    refine wpTill.step (i := 21) (by kernel_rfl) (by rfl) (fun K' hK => ?_)
    replace hK := Lib.hid hK
    go_simp
    have LF5 := Lib.hid (LF4.out.set_ 2 (.string ⟨(putB xl a t).toArray⟩))
    have LP5 := Lib.hid (LP4.out.far (p := ⟨bf, 2, none⟩) (by have := HZ.out; simp; omega) (.string ⟨(putB xl a t).toArray⟩))
    have HB5 := Lib.hid (HB4.out.setCell (p := ⟨bf, 2, none⟩) (Nat.le_of_lt HZ.out) (.string ⟨(putB xl a t).toArray⟩))
    refine hK.out _ _ ⟨LP5.out.cell 1, LF5.out.cell 1⟩ (fun h => nomatch (show true = false from h)) ?_
    clear hK K'
    (try simp only [Act.put, List.setIfInBounds_toArray, List.set_cons_zero, List.set_cons_succ])
    refine wpTill.stop (by kernel_rfl) ?_ _
    clear HS1 HT1 HP zF kF fF LF4 LP4 HB4 hmin he1 he2 hex
    generalize w4.setCell ⟨bf, 2, none⟩ (.string ⟨(putB xl a t).toArray⟩) = Z at *
    obtain ⟨zF, kF, fF⟩ := LF5.out
    go_wp2_with ((with_reducible refine (HS.out _ (H.out.below HB5.out) xn (putB xl a t)).mono ?_); rintro e2 w3 ⟨rfl, h3⟩; have H3 : Hid (RefToK F w B _ K ck w3) := h3.from (Ext.same (Keeps.below HB5.out)))
    go_end0
    rw [HX.out]
    exact ⟨rfl, H3.out⟩
  · rw [if_neg h3] at HX
    go_enter Try.func52, Try.ntmps52
    go_wp2_with (first
      | ((with_reducible refine (HG.out _ (H.out.below HB0.out)).mono ?_); rintro e1 w1 ⟨rfl, hb1⟩; have HB1 : Hid (Below w.heap.size w w1) := HB0.out.trans (hb1.mono HB0.out.size); have LP1 := Lib.hid (LP0.out.below hb1); clear hb1; obtain ⟨zP, kP, fP⟩ := LP1.out)
      | ((with_reducible refine (HS.out _ (H.out.below (HB1.out.alloc HB1.out.size _)) xn xl).mono ?_); rintro e2 w3 ⟨rfl, h3⟩; have H3 : Hid (RefToK F w B _ K ck w3) := h3.from (Ext.same (Keeps.below (HB1.out.alloc HB1.out.size _)))))
    go_end0
    rw [HX.out]
    exact ⟨rfl, H3.out⟩
end
end Go.Proofs.Ythnechlnaacgfaa
