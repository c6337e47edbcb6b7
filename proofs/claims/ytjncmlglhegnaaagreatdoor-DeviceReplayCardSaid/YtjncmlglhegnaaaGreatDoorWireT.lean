/- wire: the reader's number, walked. -/
import Derived.Test.YtjncmlglhegnaaaGreatDoorWireS
import Derived.Test.YtjncmlglhegnaaaGreatDoorOrdL
import Derived.BigQuiet
import Derived.Deep.QuietTactic
import Derived.Deep.RegionHeld3
namespace Go.Proofs.YtjncmlglhegnaaaGreatDoor
open Go.RowKit Go.Sort Go.Lib


set_option maxRecDepth 100000 in
set_option maxHeartbeats 40000000 in
theorem number_any {B : Nat} {w : World} {b : Nat} {r : RdV} (h : RdAt w b r) (hE : Env B w) (hB : B ≤ b) (e : UInt8) (least : Int) (hl : r.rest.length ≤ 140737488351232) (x : Int × RdV) (hx : numF e least r = x) :
    Calls Tryz.prog 149 #[.pointer (some ⟨b, 0, none⟩), .int .u8 e.toNat, .int .i64 least] w (RdPost w b (.int .i64 x.1) x.2) := by
  obtain ⟨l, bd⟩ := r
  simp only at hl
  have H := Lib.hid h
  have HE := Lib.hid hE
  have HX := Lib.hid hx
  have hsz := str_size l
  obtain ⟨z, f1, f2⟩ := h
  obtain ⟨m, hm⟩ : ∃ m : Nat, min l.length 21 = m := ⟨_, rfl⟩
  have hex := str_ext l 0 m
  rw [List.drop_zero] at hex
  have htk : l.take m = l.take 21 := by rw [← hm, List.take_eq_take_iff]; omega
  rw [htk] at hex
  have hl2 : (l.length : Int) ≤ 140737488351232 := by omega
  have hmin : min (l.length : Int) 21 = (m : Int) := by omega
  have hml : (m : Int) ≤ (l.length : Int) := by omega
  have hm0 : (0 : Int) ≤ (m : Int) := by omega
  clear hx hE
  go_enter Tryz.func149, Tryz.ntmps149
  go_wp2_with (fail)
  go_quiet (fail)
  have HB0 := Lib.hid (bdrewN (Below.refl w.heap.size w) nq)
  have HEX := Lib.hid hex
  clear hex hm hmin hml hm0 htk
  have H1 := Lib.hid (H.out.below HB0.out)
  have HE1 := Lib.hid (HE.out.below ((HB0.out).mono (show B ≤ w.heap.size by omega)))
  generalize w.drewN nq = W at *
  clear f1 f2 z
  obtain ⟨z, f1, f2⟩ := H1.out
  obtain ⟨p, hp⟩ : ∃ p, placeOf e (l.take 21) = p := ⟨_, rfl⟩
  have HP := Lib.hid hp
  have hx := HX.out
  unfold numF at hx
  simp only [hp] at hx
  have HX2 := Lib.hid hx
  clear hx HX
  have hlh : (l.take 21).length ≤ 21 := by rw [List.length_take]; omega
  cases p with
  | none =>
    have HI := Lib.hid (index_any W (l.take 21) e (-1) (by rw [HP.out]))
    have hx := HX2.out
    simp only at hx
    subst hx
    have HF := Lib.hid (fail_any H1.out)
    generalize l.take 21 = hd at *
    clear hlh hp
    go_wp2_with (first | ((with_reducible refine (HI.out).mono ?_); rintro _ w3 ⟨rfl, hw3⟩; obtain rfl := hw3) | ((with_reducible refine (HF.out).mono ?_); rintro _ w4 ⟨rfl, h4, g4⟩; have H4 := Lib.hid h4; have G4 := Lib.hid (((grown_row b HB0.out)).trans g4); clear h4 g4))
    go_ret
    exact ⟨rfl, H4.out, G4.out⟩
  | some i =>
    have HI := Lib.hid (index_any W (l.take 21) e (i : Int) (by rw [HP.out]))
    obtain ⟨t, hpt, hil, _⟩ := placeOf_some HP.out
    have hi21 : i < 21 := by rw [List.length_take] at hil; omega
    have hill : i < l.length := by rw [List.length_take] at hil; omega
    have hszh : (⟨(l.take 21).toArray⟩ : ByteArray).size = (l.take 21).length := str_size _
    have hexh := str_ext (l.take 21) 0 i
    rw [List.drop_zero, List.take_take, Nat.min_eq_left (by omega)] at hexh
    have hex2 := str_ext l (i + 1) l.length
    rw [List.take_length] at hex2
    have hx := HX2.out
    simp only at hx
    have hii : (i : Int) < ((l.take 21).length : Int) := by omega
    have hii0 : (0 : Int) ≤ (i : Int) := by omega
    have hile : i ≤ (l.take 21).length := by omega
    have hii1 : (i : Int) < (l.length : Int) := by omega
    have hlti : (l.take i).length ≤ 21 := by rw [List.length_take]; omega
    have hi21' : (i : Int) < 21 := by omega
    clear hpt hil hp hi21 hill HX2
    by_cases hok : ∃ v, Lib.atoiAll (l.take i) = .ok v
    · obtain ⟨v, ha⟩ := hok
      rw [ha] at hx
      simp only at hx
      have hrng := atoiAll_rng ha
      have HA := Lib.hid (atoi_ok W (l.take i) (by omega) v ha)
      have HT := Lib.hid (fun W' (hb : Below W.heap.size W W') => itoa_any W' ((HE1.out.below (hb.mono (show B ≤ W.heap.size by omega))).isTab) v hrng.1 hrng.2)
      have HV := Lib.hid hx
      clear hx ha
      by_cases hv : Lib.itoa v = l.take i
      · rw [hv] at HT
        by_cases hvl : least ≤ v
        · have hx0 : x = (v, ⟨l.drop (i + 1), bd⟩) := by rw [← HV.out, if_pos ⟨hv, hvl⟩]
          subst hx0
          have H2 := Lib.hid (fun W' (hb : Below w.heap.size w W') => And.intro (H.out.below hb) (And.intro ((H.out.below hb).set1 (l.drop (i + 1))) ((grown_row b hb).trans (grownBy_setCell W' ⟨b, 0, none⟩ (.string ⟨(l.drop (i + 1)).toArray⟩)))))
          clear hv HV
          generalize l.take i = ti at *
          generalize l.take 21 = hd at *
          generalize l.drop (i + 1) = di at *
          clear hrng hlh hlti
          go_wp2_with (first | ((with_reducible refine (HI.out).mono ?_); rintro _ w3 ⟨rfl, hw3⟩; obtain rfl := hw3) | ((with_reducible refine (HA.out).mono ?_); rintro _ w3 ⟨rfl, hb3⟩; have HB3 := Lib.hid (HB0.out.trans (hb3.mono HB0.out.size)); have HT3 := Lib.hid (fun W' (hb : Below w3.heap.size w3 W') => HT.out W' (hb3.trans (hb.mono hb3.size))); clear hb3))
          refine wpTill.startN 15 (S := fun _ => True) (T := fun _ => True) (m := 99) rfl (by kernel_rfl) ?_
          refine wpTill.take (i := 0) (v := ?_) (by rfl) rfl (by kernel_rfl) (by kernel_rfl) (by kernel_rfl) (by exact fun _ _ _ h => h) trivial (fun _ => trivial) (Or.inl ⟨by rfl, ?_⟩) ?_
          rotate_left
          · (intro w' hSw; (try dsimp only at hSw); go_simp; (try with_reducible rfl))
          (try simp only [Act.put, List.setIfInBounds_toArray, List.set_cons_zero, List.set_cons_succ, List.getElem_toArray, List.getElem_cons_zero, List.getElem_cons_succ])
          refine wpTill.take (i := 1) (v := ?_) (by rfl) rfl (by kernel_rfl) (by kernel_rfl) (by kernel_rfl) (by exact fun _ _ _ h => h) trivial (fun _ => trivial) (Or.inl ⟨by rfl, ?_⟩) ?_
          rotate_left
          · (intro w' hSw; (try dsimp only at hSw); go_simp; (try with_reducible rfl))
          (try simp only [Act.put, List.setIfInBounds_toArray, List.set_cons_zero, List.set_cons_succ, List.getElem_toArray, List.getElem_cons_zero, List.getElem_cons_succ])
          refine wpTill.take (i := 2) (v := ?_) (by rfl) rfl (by kernel_rfl) (by kernel_rfl) (by kernel_rfl) (by exact fun _ _ _ h => h) trivial (fun _ => trivial) (Or.inl ⟨by rfl, ?_⟩) ?_
          rotate_left
          · (intro w' hSw; (try dsimp only at hSw); go_simp; (try with_reducible rfl))
          (try simp only [Act.put, List.setIfInBounds_toArray, List.set_cons_zero, List.set_cons_succ, List.getElem_toArray, List.getElem_cons_zero, List.getElem_cons_succ])
          refine wpTill.take (i := 3) (v := ?_) (by rfl) rfl (by kernel_rfl) (by kernel_rfl) (by kernel_rfl) (by exact fun _ _ _ h => h) trivial (fun _ => trivial) (Or.inl ⟨by rfl, ?_⟩) ?_
          rotate_left
          · (intro w' hSw; (try dsimp only at hSw); go_simp; (try with_reducible rfl))
          (try simp only [Act.put, List.setIfInBounds_toArray, List.set_cons_zero, List.set_cons_succ, List.getElem_toArray, List.getElem_cons_zero, List.getElem_cons_succ])
          refine wpTill.take (i := 5) (v := ?_) (by rfl) rfl (by kernel_rfl) (by kernel_rfl) (by kernel_rfl) (by exact fun _ _ _ h => h) trivial (fun _ => trivial) (Or.inl ⟨by rfl, ?_⟩) ?_
          rotate_left
          · (intro w' hSw; (try dsimp only at hSw); go_simp; (try with_reducible rfl))
          (try simp only [Act.put, List.setIfInBounds_toArray, List.set_cons_zero, List.set_cons_succ, List.getElem_toArray, List.getElem_cons_zero, List.getElem_cons_succ])
          refine wpTill.take (i := 6) (v := ?_) (by rfl) rfl (by kernel_rfl) (by kernel_rfl) (by kernel_rfl) (by exact fun _ _ _ h => h) trivial (fun _ => trivial) (Or.inl ⟨by rfl, ?_⟩) ?_
          rotate_left
          · (intro w' hSw; (try dsimp only at hSw); go_simp; (try with_reducible rfl))
          (try simp only [Act.put, List.setIfInBounds_toArray, List.set_cons_zero, List.set_cons_succ, List.getElem_toArray, List.getElem_cons_zero, List.getElem_cons_succ])
          refine wpTill.take (i := 7) (v := ?_) (by rfl) rfl (by kernel_rfl) (by kernel_rfl) (by kernel_rfl) (by exact fun _ _ _ h => h) trivial (fun _ => trivial) (Or.inl ⟨by rfl, ?_⟩) ?_
          rotate_left
          · (intro w' hSw; (try dsimp only at hSw); go_simp; (try with_reducible rfl))
          (try simp only [Act.put, List.setIfInBounds_toArray, List.set_cons_zero, List.set_cons_succ, List.getElem_toArray, List.getElem_cons_zero, List.getElem_cons_succ])
          refine wpTill.step (i := 4) (by kernel_rfl) (by rfl) (fun K' hK => ?_)
          replace hK := Lib.hid hK
          go_simp
          go_at_call 177
          ((with_reducible refine (HT3.out _ (Below.refl _ _).drew).mono ?_); rintro _ w7 ⟨rfl, hb7⟩)
          refine hK.out _ _ trivial (fun _ => trivial) ?_
          clear hK K'
          (try simp only [Act.put, List.setIfInBounds_toArray, List.set_cons_zero, List.set_cons_succ, List.getElem_toArray, List.getElem_cons_zero, List.getElem_cons_succ])
          refine wpTill.take (i := 8) (v := ?_) (by rfl) rfl (by kernel_rfl) (by kernel_rfl) (by kernel_rfl) (by exact fun _ _ _ h => h) trivial (fun _ => trivial) (Or.inl ⟨by rfl, ?_⟩) ?_
          rotate_left
          · (intro w' hSw; (try dsimp only at hSw); go_simp; (try with_reducible rfl))
          (try simp only [Act.put, List.setIfInBounds_toArray, List.set_cons_zero, List.set_cons_succ, List.getElem_toArray, List.getElem_cons_zero, List.getElem_cons_succ])
          refine wpTill.take (i := 9) (v := ?_) (by rfl) rfl (by kernel_rfl) (by kernel_rfl) (by kernel_rfl) (by exact fun _ _ _ h => h) trivial (fun _ => trivial) (Or.inl ⟨by rfl, ?_⟩) ?_
          rotate_left
          · (intro w' hSw; (try dsimp only at hSw); go_simp; (try with_reducible rfl))
          (try simp only [Act.put, List.setIfInBounds_toArray, List.set_cons_zero, List.set_cons_succ, List.getElem_toArray, List.getElem_cons_zero, List.getElem_cons_succ])
          refine wpTill.take (i := 10) (v := ?_) (by rfl) rfl (by kernel_rfl) (by kernel_rfl) (by kernel_rfl) (by exact fun _ _ _ h => h) trivial (fun _ => trivial) (Or.inl ⟨by rfl, ?_⟩) ?_
          rotate_left
          · (intro w' hSw; (try dsimp only at hSw); go_simp; (try with_reducible rfl))
          (try simp only [Act.put, List.setIfInBounds_toArray, List.set_cons_zero, List.set_cons_succ, List.getElem_toArray, List.getElem_cons_zero, List.getElem_cons_succ])
          refine wpTill.take (i := 11) (v := ?_) (by rfl) rfl (by kernel_rfl) (by kernel_rfl) (by kernel_rfl) (by exact fun _ _ _ h => h) trivial (fun _ => trivial) (Or.inl ⟨by rfl, ?_⟩) ?_
          rotate_left
          · (intro w' hSw; (try dsimp only at hSw); go_simp; (try with_reducible rfl))
          (try simp only [Act.put, List.setIfInBounds_toArray, List.set_cons_zero, List.set_cons_succ, List.getElem_toArray, List.getElem_cons_zero, List.getElem_cons_succ])
          refine wpTill.take (i := 12) (v := ?_) (by rfl) rfl (by kernel_rfl) (by kernel_rfl) (by kernel_rfl) (by exact fun _ _ _ h => h) trivial (fun _ => trivial) (Or.inl ⟨by rfl, ?_⟩) ?_
          rotate_left
          · (intro w' hSw; (try dsimp only at hSw); go_simp; (try with_reducible rfl))
          (try simp only [Act.put, List.setIfInBounds_toArray, List.set_cons_zero, List.set_cons_succ, List.getElem_toArray, List.getElem_cons_zero, List.getElem_cons_succ])
          refine wpTill.take (i := 13) (v := ?_) (by rfl) rfl (by kernel_rfl) (by kernel_rfl) (by kernel_rfl) (by exact fun _ _ _ h => h) trivial (fun _ => trivial) (Or.inl ⟨by rfl, ?_⟩) ?_
          rotate_left
          · (intro w' hSw; (try dsimp only at hSw); go_simp; (try with_reducible rfl))
          (try simp only [Act.put, List.setIfInBounds_toArray, List.set_cons_zero, List.set_cons_succ, List.getElem_toArray, List.getElem_cons_zero, List.getElem_cons_succ])
          refine wpTill.take (i := 14) (v := ?_) (by rfl) rfl (by kernel_rfl) (by kernel_rfl) (by kernel_rfl) (by exact fun _ _ _ h => h) trivial (fun _ => trivial) (Or.inl ⟨by rfl, ?_⟩) ?_
          rotate_left
          · (intro w' hSw; (try dsimp only at hSw); go_simp; (try with_reducible rfl))
          (try simp only [Act.put, List.setIfInBounds_toArray, List.set_cons_zero, List.set_cons_succ, List.getElem_toArray, List.getElem_cons_zero, List.getElem_cons_succ])
          refine wpTill.stop (by kernel_rfl) ?_ _
          have HB7 := Lib.hid (HB3.out.trans ((undrew hb7).mono HB3.out.size))
          clear hb7
          obtain ⟨h1, h2, g2⟩ := H2.out w7 HB7.out
          have K2 := Lib.hid h2
          have G2 := Lib.hid g2
          clear h2 g2 z f1 f2
          obtain ⟨z, f1, f2⟩ := h1
          go_wp2_with (fail)
          go_ret
          exact ⟨rfl, K2.out, G2.out⟩
        · have hx0 : x = (0, .fail) := by rw [← HV.out, if_neg (fun h => hvl h.2)]
          subst hx0
          have hvl' : v < least := by omega
          have HF := Lib.hid (fun W' (hb : Below w.heap.size w W') => fail_any (H.out.below hb))
          clear hv HV hvl
          generalize l.take i = ti at *
          generalize l.take 21 = hd at *
          generalize l.drop (i + 1) = di at *
          clear hrng hlh hlti hex2
          go_wp2_with (first | ((with_reducible refine (HI.out).mono ?_); rintro _ w3 ⟨rfl, hw3⟩; obtain rfl := hw3) | ((with_reducible refine (HA.out).mono ?_); rintro _ w3 ⟨rfl, hb3⟩; have HB3 := Lib.hid (HB0.out.trans (hb3.mono HB0.out.size)); have HT3 := Lib.hid (fun W' (hb : Below w3.heap.size w3 W') => HT.out W' (hb3.trans (hb.mono hb3.size))); clear hb3))
          refine wpTill.startN 15 (S := fun _ => True) (T := fun _ => True) (m := 99) rfl (by kernel_rfl) ?_
          refine wpTill.take (i := 0) (v := ?_) (by rfl) rfl (by kernel_rfl) (by kernel_rfl) (by kernel_rfl) (by exact fun _ _ _ h => h) trivial (fun _ => trivial) (Or.inl ⟨by rfl, ?_⟩) ?_
          rotate_left
          · (intro w' hSw; (try dsimp only at hSw); go_simp; (try with_reducible rfl))
          (try simp only [Act.put, List.setIfInBounds_toArray, List.set_cons_zero, List.set_cons_succ, List.getElem_toArray, List.getElem_cons_zero, List.getElem_cons_succ])
          refine wpTill.take (i := 1) (v := ?_) (by rfl) rfl (by kernel_rfl) (by kernel_rfl) (by kernel_rfl) (by exact fun _ _ _ h => h) trivial (fun _ => trivial) (Or.inl ⟨by rfl, ?_⟩) ?_
          rotate_left
          · (intro w' hSw; (try dsimp only at hSw); go_simp; (try with_reducible rfl))
          (try simp only [Act.put, List.setIfInBounds_toArray, List.set_cons_zero, List.set_cons_succ, List.getElem_toArray, List.getElem_cons_zero, List.getElem_cons_succ])
          refine wpTill.take (i := 2) (v := ?_) (by rfl) rfl (by kernel_rfl) (by kernel_rfl) (by kernel_rfl) (by exact fun _ _ _ h => h) trivial (fun _ => trivial) (Or.inl ⟨by rfl, ?_⟩) ?_
          rotate_left
          · (intro w' hSw; (try dsimp only at hSw); go_simp; (try with_reducible rfl))
          (try simp only [Act.put, List.setIfInBounds_toArray, List.set_cons_zero, List.set_cons_succ, List.getElem_toArray, List.getElem_cons_zero, List.getElem_cons_succ])
          refine wpTill.take (i := 3) (v := ?_) (by rfl) rfl (by kernel_rfl) (by kernel_rfl) (by kernel_rfl) (by exact fun _ _ _ h => h) trivial (fun _ => trivial) (Or.inl ⟨by rfl, ?_⟩) ?_
          rotate_left
          · (intro w' hSw; (try dsimp only at hSw); go_simp; (try with_reducible rfl))
          (try simp only [Act.put, List.setIfInBounds_toArray, List.set_cons_zero, List.set_cons_succ, List.getElem_toArray, List.getElem_cons_zero, List.getElem_cons_succ])
          refine wpTill.take (i := 5) (v := ?_) (by rfl) rfl (by kernel_rfl) (by kernel_rfl) (by kernel_rfl) (by exact fun _ _ _ h => h) trivial (fun _ => trivial) (Or.inl ⟨by rfl, ?_⟩) ?_
          rotate_left
          · (intro w' hSw; (try dsimp only at hSw); go_simp; (try with_reducible rfl))
          (try simp only [Act.put, List.setIfInBounds_toArray, List.set_cons_zero, List.set_cons_succ, List.getElem_toArray, List.getElem_cons_zero, List.getElem_cons_succ])
          refine wpTill.take (i := 6) (v := ?_) (by rfl) rfl (by kernel_rfl) (by kernel_rfl) (by kernel_rfl) (by exact fun _ _ _ h => h) trivial (fun _ => trivial) (Or.inl ⟨by rfl, ?_⟩) ?_
          rotate_left
          · (intro w' hSw; (try dsimp only at hSw); go_simp; (try with_reducible rfl))
          (try simp only [Act.put, List.setIfInBounds_toArray, List.set_cons_zero, List.set_cons_succ, List.getElem_toArray, List.getElem_cons_zero, List.getElem_cons_succ])
          refine wpTill.take (i := 7) (v := ?_) (by rfl) rfl (by kernel_rfl) (by kernel_rfl) (by kernel_rfl) (by exact fun _ _ _ h => h) trivial (fun _ => trivial) (Or.inl ⟨by rfl, ?_⟩) ?_
          rotate_left
          · (intro w' hSw; (try dsimp only at hSw); go_simp; (try with_reducible rfl))
          (try simp only [Act.put, List.setIfInBounds_toArray, List.set_cons_zero, List.set_cons_succ, List.getElem_toArray, List.getElem_cons_zero, List.getElem_cons_succ])
          refine wpTill.step (i := 4) (by kernel_rfl) (by rfl) (fun K' hK => ?_)
          replace hK := Lib.hid hK
          go_simp
          go_at_call 177
          ((with_reducible refine (HT3.out _ (Below.refl _ _).drew).mono ?_); rintro _ w7 ⟨rfl, hb7⟩)
          refine hK.out _ _ trivial (fun _ => trivial) ?_
          clear hK K'
          (try simp only [Act.put, List.setIfInBounds_toArray, List.set_cons_zero, List.set_cons_succ, List.getElem_toArray, List.getElem_cons_zero, List.getElem_cons_succ])
          refine wpTill.take (i := 8) (v := ?_) (by rfl) rfl (by kernel_rfl) (by kernel_rfl) (by kernel_rfl) (by exact fun _ _ _ h => h) trivial (fun _ => trivial) (Or.inl ⟨by rfl, ?_⟩) ?_
          rotate_left
          · (intro w' hSw; (try dsimp only at hSw); go_simp; (try with_reducible rfl))
          (try simp only [Act.put, List.setIfInBounds_toArray, List.set_cons_zero, List.set_cons_succ, List.getElem_toArray, List.getElem_cons_zero, List.getElem_cons_succ])
          refine wpTill.take (i := 9) (v := ?_) (by rfl) rfl (by kernel_rfl) (by kernel_rfl) (by kernel_rfl) (by exact fun _ _ _ h => h) trivial (fun _ => trivial) (Or.inl ⟨by rfl, ?_⟩) ?_
          rotate_left
          · (intro w' hSw; (try dsimp only at hSw); go_simp; (try with_reducible rfl))
          (try simp only [Act.put, List.setIfInBounds_toArray, List.set_cons_zero, List.set_cons_succ, List.getElem_toArray, List.getElem_cons_zero, List.getElem_cons_succ])
          refine wpTill.take (i := 10) (v := ?_) (by rfl) rfl (by kernel_rfl) (by kernel_rfl) (by kernel_rfl) (by exact fun _ _ _ h => h) trivial (fun _ => trivial) (Or.inl ⟨by rfl, ?_⟩) ?_
          rotate_left
          · (intro w' hSw; (try dsimp only at hSw); go_simp; (try with_reducible rfl))
          (try simp only [Act.put, List.setIfInBounds_toArray, List.set_cons_zero, List.set_cons_succ, List.getElem_toArray, List.getElem_cons_zero, List.getElem_cons_succ])
          refine wpTill.take (i := 11) (v := ?_) (by rfl) rfl (by kernel_rfl) (by kernel_rfl) (by kernel_rfl) (by exact fun _ _ _ h => h) trivial (fun _ => trivial) (Or.inl ⟨by rfl, ?_⟩) ?_
          rotate_left
          · (intro w' hSw; (try dsimp only at hSw); go_simp; (try with_reducible rfl))
          (try simp only [Act.put, List.setIfInBounds_toArray, List.set_cons_zero, List.set_cons_succ, List.getElem_toArray, List.getElem_cons_zero, List.getElem_cons_succ])
          refine wpTill.take (i := 12) (v := ?_) (by rfl) rfl (by kernel_rfl) (by kernel_rfl) (by kernel_rfl) (by exact fun _ _ _ h => h) trivial (fun _ => trivial) (Or.inl ⟨by rfl, ?_⟩) ?_
          rotate_left
          · (intro w' hSw; (try dsimp only at hSw); go_simp; (try with_reducible rfl))
          (try simp only [Act.put, List.setIfInBounds_toArray, List.set_cons_zero, List.set_cons_succ, List.getElem_toArray, List.getElem_cons_zero, List.getElem_cons_succ])
          refine wpTill.take (i := 13) (v := ?_) (by rfl) rfl (by kernel_rfl) (by kernel_rfl) (by kernel_rfl) (by exact fun _ _ _ h => h) trivial (fun _ => trivial) (Or.inl ⟨by rfl, ?_⟩) ?_
          rotate_left
          · (intro w' hSw; (try dsimp only at hSw); go_simp; (try with_reducible rfl))
          (try simp only [Act.put, List.setIfInBounds_toArray, List.set_cons_zero, List.set_cons_succ, List.getElem_toArray, List.getElem_cons_zero, List.getElem_cons_succ])
          refine wpTill.take (i := 14) (v := ?_) (by rfl) rfl (by kernel_rfl) (by kernel_rfl) (by kernel_rfl) (by exact fun _ _ _ h => h) trivial (fun _ => trivial) (Or.inl ⟨by rfl, ?_⟩) ?_
          rotate_left
          · (intro w' hSw; (try dsimp only at hSw); go_simp; (try with_reducible rfl))
          (try simp only [Act.put, List.setIfInBounds_toArray, List.set_cons_zero, List.set_cons_succ, List.getElem_toArray, List.getElem_cons_zero, List.getElem_cons_succ])
          refine wpTill.stop (by kernel_rfl) ?_ _
          have HB7 := Lib.hid (HB3.out.trans ((undrew hb7).mono HB3.out.size))
          clear hb7
          have HF7 := Lib.hid (HF.out w7 HB7.out)
          go_wp2_with ((with_reducible refine (HF7.out).mono ?_); rintro _ w4 ⟨rfl, h4, g4⟩; have H4 := Lib.hid h4; have G4 := Lib.hid (((grown_row b HB7.out)).trans g4); clear h4 g4)
          go_ret
          exact ⟨rfl, H4.out, G4.out⟩
      · have hx0 : x = (0, .fail) := by rw [← HV.out, if_neg (fun h => hv h.1)]
        subst hx0
        have hne : (Lib.itoa v == l.take i) = false := beq_eq_false_iff_ne.2 hv
        have HF := Lib.hid (fun W' (hb : Below w.heap.size w W') => fail_any (H.out.below hb))
        generalize Lib.itoa v = iv at *
        generalize l.take i = ti at *
        generalize l.take 21 = hd at *
        clear hrng hlh hlti hex2 hv
        go_wp2_with (first | ((with_reducible refine (HI.out).mono ?_); rintro _ w3 ⟨rfl, hw3⟩; obtain rfl := hw3) | ((with_reducible refine (HA.out).mono ?_); rintro _ w3 ⟨rfl, hb3⟩; have HB3 := Lib.hid (HB0.out.trans (hb3.mono HB0.out.size)); have HT3 := Lib.hid (fun W' (hb : Below w3.heap.size w3 W') => HT.out W' (hb3.trans (hb.mono hb3.size))); clear hb3))
        refine wpTill.startN 15 (S := fun _ => True) (T := fun _ => True) (m := 99) rfl (by kernel_rfl) ?_
        refine wpTill.take (i := 0) (v := ?_) (by rfl) rfl (by kernel_rfl) (by kernel_rfl) (by kernel_rfl) (by exact fun _ _ _ h => h) trivial (fun _ => trivial) (Or.inl ⟨by rfl, ?_⟩) ?_
        rotate_left
        · (intro w' hSw; (try dsimp only at hSw); go_simp; (try with_reducible rfl))
        (try simp only [Act.put, List.setIfInBounds_toArray, List.set_cons_zero, List.set_cons_succ, List.getElem_toArray, List.getElem_cons_zero, List.getElem_cons_succ])
        refine wpTill.take (i := 1) (v := ?_) (by rfl) rfl (by kernel_rfl) (by kernel_rfl) (by kernel_rfl) (by exact fun _ _ _ h => h) trivial (fun _ => trivial) (Or.inl ⟨by rfl, ?_⟩) ?_
        rotate_left
        · (intro w' hSw; (try dsimp only at hSw); go_simp; (try with_reducible rfl))
        (try simp only [Act.put, List.setIfInBounds_toArray, List.set_cons_zero, List.set_cons_succ, List.getElem_toArray, List.getElem_cons_zero, List.getElem_cons_succ])
        refine wpTill.take (i := 2) (v := ?_) (by rfl) rfl (by kernel_rfl) (by kernel_rfl) (by kernel_rfl) (by exact fun _ _ _ h => h) trivial (fun _ => trivial) (Or.inl ⟨by rfl, ?_⟩) ?_
        rotate_left
        · (intro w' hSw; (try dsimp only at hSw); go_simp; (try with_reducible rfl))
        (try simp only [Act.put, List.setIfInBounds_toArray, List.set_cons_zero, List.set_cons_succ, List.getElem_toArray, List.getElem_cons_zero, List.getElem_cons_succ])
        refine wpTill.take (i := 3) (v := ?_) (by rfl) rfl (by kernel_rfl) (by kernel_rfl) (by kernel_rfl) (by exact fun _ _ _ h => h) trivial (fun _ => trivial) (Or.inl ⟨by rfl, ?_⟩) ?_
        rotate_left
        · (intro w' hSw; (try dsimp only at hSw); go_simp; (try with_reducible rfl))
        (try simp only [Act.put, List.setIfInBounds_toArray, List.set_cons_zero, List.set_cons_succ, List.getElem_toArray, List.getElem_cons_zero, List.getElem_cons_succ])
        refine wpTill.take (i := 5) (v := ?_) (by rfl) rfl (by kernel_rfl) (by kernel_rfl) (by kernel_rfl) (by exact fun _ _ _ h => h) trivial (fun _ => trivial) (Or.inl ⟨by rfl, ?_⟩) ?_
        rotate_left
        · (intro w' hSw; (try dsimp only at hSw); go_simp; (try with_reducible rfl))
        (try simp only [Act.put, List.setIfInBounds_toArray, List.set_cons_zero, List.set_cons_succ, List.getElem_toArray, List.getElem_cons_zero, List.getElem_cons_succ])
        refine wpTill.take (i := 6) (v := ?_) (by rfl) rfl (by kernel_rfl) (by kernel_rfl) (by kernel_rfl) (by exact fun _ _ _ h => h) trivial (fun _ => trivial) (Or.inl ⟨by rfl, ?_⟩) ?_
        rotate_left
        · (intro w' hSw; (try dsimp only at hSw); go_simp; (try with_reducible rfl))
        (try simp only [Act.put, List.setIfInBounds_toArray, List.set_cons_zero, List.set_cons_succ, List.getElem_toArray, List.getElem_cons_zero, List.getElem_cons_succ])
        refine wpTill.take (i := 7) (v := ?_) (by rfl) rfl (by kernel_rfl) (by kernel_rfl) (by kernel_rfl) (by exact fun _ _ _ h => h) trivial (fun _ => trivial) (Or.inl ⟨by rfl, ?_⟩) ?_
        rotate_left
        · (intro w' hSw; (try dsimp only at hSw); go_simp; (try with_reducible rfl))
        (try simp only [Act.put, List.setIfInBounds_toArray, List.set_cons_zero, List.set_cons_succ, List.getElem_toArray, List.getElem_cons_zero, List.getElem_cons_succ])
        refine wpTill.step (i := 4) (by kernel_rfl) (by rfl) (fun K' hK => ?_)
        replace hK := Lib.hid hK
        go_simp
        go_at_call 177
        ((with_reducible refine (HT3.out _ (Below.refl _ _).drew).mono ?_); rintro _ w7 ⟨rfl, hb7⟩)
        refine hK.out _ _ trivial (fun _ => trivial) ?_
        clear hK K'
        (try simp only [Act.put, List.setIfInBounds_toArray, List.set_cons_zero, List.set_cons_succ, List.getElem_toArray, List.getElem_cons_zero, List.getElem_cons_succ])
        refine wpTill.take (i := 8) (v := ?_) (by rfl) rfl (by kernel_rfl) (by kernel_rfl) (by kernel_rfl) (by exact fun _ _ _ h => h) trivial (fun _ => trivial) (Or.inl ⟨by rfl, ?_⟩) ?_
        rotate_left
        · (intro w' hSw; (try dsimp only at hSw); go_simp; (try with_reducible rfl))
        (try simp only [Act.put, List.setIfInBounds_toArray, List.set_cons_zero, List.set_cons_succ, List.getElem_toArray, List.getElem_cons_zero, List.getElem_cons_succ])
        refine wpTill.take (i := 9) (v := ?_) (by rfl) rfl (by kernel_rfl) (by kernel_rfl) (by kernel_rfl) (by exact fun _ _ _ h => h) trivial (fun _ => trivial) (Or.inl ⟨by rfl, ?_⟩) ?_
        rotate_left
        · (intro w' hSw; (try dsimp only at hSw); go_simp; (try with_reducible rfl))
        (try simp only [Act.put, List.setIfInBounds_toArray, List.set_cons_zero, List.set_cons_succ, List.getElem_toArray, List.getElem_cons_zero, List.getElem_cons_succ])
        refine wpTill.take (i := 10) (v := ?_) (by rfl) rfl (by kernel_rfl) (by kernel_rfl) (by kernel_rfl) (by exact fun _ _ _ h => h) trivial (fun _ => trivial) (Or.inl ⟨by rfl, ?_⟩) ?_
        rotate_left
        · (intro w' hSw; (try dsimp only at hSw); go_simp; (try with_reducible rfl))
        (try simp only [Act.put, List.setIfInBounds_toArray, List.set_cons_zero, List.set_cons_succ, List.getElem_toArray, List.getElem_cons_zero, List.getElem_cons_succ])
        refine wpTill.take (i := 11) (v := undef) (by rfl) rfl (by kernel_rfl) (by kernel_rfl) (by kernel_rfl) (by exact fun _ _ _ h => h) trivial (fun _ => trivial) (Or.inr ⟨by rfl, rfl⟩) ?_
        (try simp only [Act.put, List.setIfInBounds_toArray, List.set_cons_zero, List.set_cons_succ, List.getElem_toArray, List.getElem_cons_zero, List.getElem_cons_succ])
        refine wpTill.take (i := 12) (v := undef) (by rfl) rfl (by kernel_rfl) (by kernel_rfl) (by kernel_rfl) (by exact fun _ _ _ h => h) trivial (fun _ => trivial) (Or.inr ⟨by rfl, rfl⟩) ?_
        (try simp only [Act.put, List.setIfInBounds_toArray, List.set_cons_zero, List.set_cons_succ, List.getElem_toArray, List.getElem_cons_zero, List.getElem_cons_succ])
        refine wpTill.take (i := 13) (v := undef) (by rfl) rfl (by kernel_rfl) (by kernel_rfl) (by kernel_rfl) (by exact fun _ _ _ h => h) trivial (fun _ => trivial) (Or.inr ⟨by rfl, rfl⟩) ?_
        (try simp only [Act.put, List.setIfInBounds_toArray, List.set_cons_zero, List.set_cons_succ, List.getElem_toArray, List.getElem_cons_zero, List.getElem_cons_succ])
        refine wpTill.take (i := 14) (v := ?_) (by rfl) rfl (by kernel_rfl) (by kernel_rfl) (by kernel_rfl) (by exact fun _ _ _ h => h) trivial (fun _ => trivial) (Or.inl ⟨by rfl, ?_⟩) ?_
        rotate_left
        · (intro w' hSw; (try dsimp only at hSw); go_simp; (try with_reducible rfl))
        (try simp only [Act.put, List.setIfInBounds_toArray, List.set_cons_zero, List.set_cons_succ, List.getElem_toArray, List.getElem_cons_zero, List.getElem_cons_succ])
        refine wpTill.stop (by kernel_rfl) ?_ _
        have HB7 := Lib.hid (HB3.out.trans ((undrew hb7).mono HB3.out.size))
        clear hb7
        have HF7 := Lib.hid (HF.out w7 HB7.out)
        go_wp2_with ((with_reducible refine (HF7.out).mono ?_); rintro _ w4 ⟨rfl, h4, g4⟩; have H4 := Lib.hid h4; have G4 := Lib.hid (((grown_row b HB7.out)).trans g4); clear h4 g4)
        go_ret
        exact ⟨rfl, H4.out, G4.out⟩
    · have hx0 : x = (0, .fail) := by
        rw [← hx]
        cases ha : Lib.atoiAll (l.take i) with
        | ok v => exact absurd ⟨v, ha⟩ hok
        | _ => rfl
      subst hx0
      have HA := Lib.hid (atoi_no W HE1.out (l.take i) (by omega) (fun v h => hok ⟨v, h⟩))
      have HF := Lib.hid (fun W' (hb : Below w.heap.size w W') => fail_any (H.out.below hb))
      generalize l.take i = ti at *
      generalize l.take 21 = hd at *
      clear hx hok hlh hlti hex2
      go_wp2_with (first | ((with_reducible refine (HI.out).mono ?_); rintro _ w3 ⟨rfl, hw3⟩; obtain rfl := hw3) | ((with_reducible refine (HA.out).mono ?_); rintro _ w3 ⟨nn, N, rfl, hb3⟩; have HB3 := Lib.hid (HB0.out.trans (hb3.mono HB0.out.size)); clear hb3))
      go_quiet (fail)
      have HB4 := Lib.hid (bdrewN HB3.out nq)
      generalize w3.drewN nq = W4 at *
      have HF4 := Lib.hid (HF.out W4 HB4.out)
      go_wp2_with ((with_reducible refine (HF4.out).mono ?_); rintro _ w4 ⟨rfl, h4, g4⟩; have H4 := Lib.hid h4; have G4 := Lib.hid (((grown_row b HB4.out)).trans g4); clear h4 g4)
      go_ret
      exact ⟨rfl, H4.out, G4.out⟩
end Go.Proofs.YtjncmlglhegnaaaGreatDoor
