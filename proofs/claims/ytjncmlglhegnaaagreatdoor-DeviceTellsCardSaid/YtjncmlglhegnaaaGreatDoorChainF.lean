/- wire: the reader's number, walked. -/
/- wire: the reader's Num, Int, Text, items at ints, Nums, walked (written by wip/gen_wirex.py). -/
/- chain: an entry in memory; within, the closure, ContainsFunc, Right, walked. -/
/- chain: Right, walked. -/
/- chain: slices.Equal at ints, Same, follows, walked. -/
/- chain: follows, walked. -/
/- chain: Check, walked. -/
/- chain: Convicts, Encode, walked. -/
import Derived.Test.YtjncmlglhegnaaaGreatDoorWireS
import Derived.Test.YtjncmlglhegnaaaGreatDoorOrdL
import Derived.BigQuiet
import Derived.Deep.QuietTactic
import Derived.Deep.RegionHeld3
import Derived.Test.YtjncmlglhegnaaaGreatDoorChainP
namespace Go.Proofs.YtjncmlglhegnaaaGreatDoor
open Go.RowKit Go.Sort Go.Lib


set_option maxRecDepth 100000 in
set_option maxHeartbeats 40000000 in
theorem number_any {B : Nat} {w : World} {b : Nat} {r : RdV} (h : RdAt w b r) (hE : Env B w) (hB : B ≤ b) (e : UInt8) (least : Int) (hl : r.rest.length ≤ 140737488351232) (x : Int × RdV) (hx : numF e least r = x) :
    Calls Tryz.prog 149 #[.pointer (some ⟨b, 0, none⟩), .int .u8 e.toNat, .int .i64 least] w (RdPost w b (.int .i64 x.1) x.2) := by
  obtain ⟨l, bd⟩ := r
  simp only at hl
  have H := Lib.hid h
  have HE := Lib.hid hE
  have HX := Lib.hid hx
  have hsz := str_size l
  obtain ⟨z, f1, f2⟩ := h
  obtain ⟨m, hm⟩ : ∃ m : Nat, min l.length 21 = m := ⟨_, rfl⟩
  have hex := str_ext l 0 m
  rw [List.drop_zero] at hex
  have htk : l.take m = l.take 21 := by rw [← hm, List.take_eq_take_iff]; omega
  rw [htk] at hex
  have hl2 : (l.length : Int) ≤ 140737488351232 := by omega
  have hmin : min (l.length : Int) 21 = (m : Int) := by omega
  have hml : (m : Int) ≤ (l.length : Int) := by omega
  have hm0 : (0 : Int) ≤ (m : Int) := by omega
  clear hx hE
  go_enter Tryz.func149, Tryz.ntmps149
  go_wp2_with (fail)
  go_quiet (fail)
  have HB0 := Lib.hid (bdrewN (Below.refl w.heap.size w) nq)
  have HEX := Lib.hid hex
  clear hex hm hmin hml hm0 htk
  have H1 := Lib.hid (H.out.below HB0.out)
  have HE1 := Lib.hid (HE.out.below ((HB0.out).mono (show B ≤ w.heap.size by omega)))
  generalize w.drewN nq = W at *
  clear f1 f2 z
  obtain ⟨z, f1, f2⟩ := H1.out
  obtain ⟨p, hp⟩ : ∃ p, placeOf e (l.take 21) = p := ⟨_, rfl⟩
  have HP := Lib.hid hp
  have hx := HX.out
  unfold numF at hx
  simp only [hp] at hx
  have HX2 := Lib.hid hx
  clear hx HX
  have hlh : (l.take 21).length ≤ 21 := by rw [List.length_take]; omega
  cases p with
  | none =>
    have HI := Lib.hid (index_any W (l.take 21) e (-1) (by rw [HP.out]))
    have hx := HX2.out
    simp only at hx
    subst hx
    have HF := Lib.hid (fail_any H1.out)
    generalize l.take 21 = hd at *
    clear hlh hp
    go_wp2_with (first | ((with_reducible refine (HI.out).mono ?_); rintro _ w3 ⟨rfl, hw3⟩; obtain rfl := hw3) | ((with_reducible refine (HF.out).mono ?_); rintro _ w4 ⟨rfl, h4, g4⟩; have H4 := Lib.hid h4; have G4 := Lib.hid (((grown_row b HB0.out)).trans g4); clear h4 g4))
    go_ret
    exact ⟨rfl, H4.out, G4.out⟩
  | some i =>
    have HI := Lib.hid (index_any W (l.take 21) e (i : Int) (by rw [HP.out]))
    obtain ⟨t, hpt, hil, _⟩ := placeOf_some HP.out
    have hi21 : i < 21 := by rw [List.length_take] at hil; omega
    have hill : i < l.length := by rw [List.length_take] at hil; omega
    have hszh : (⟨(l.take 21).toArray⟩ : ByteArray).size = (l.take 21).length := str_size _
    have hexh := str_ext (l.take 21) 0 i
    rw [List.drop_zero, List.take_take, Nat.min_eq_left (by omega)] at hexh
    have hex2 := str_ext l (i + 1) l.length
    rw [List.take_length] at hex2
    have hx := HX2.out
    simp only at hx
    have hii : (i : Int) < ((l.take 21).length : Int) := by omega
    have hii0 : (0 : Int) ≤ (i : Int) := by omega
    have hile : i ≤ (l.take 21).length := by omega
    have hii1 : (i : Int) < (l.length : Int) := by omega
    have hlti : (l.take i).length ≤ 21 := by rw [List.length_take]; omega
    have hi21' : (i : Int) < 21 := by omega
    clear hpt hil hp hi21 hill HX2
    by_cases hok : ∃ v, Lib.atoiAll (l.take i) = .ok v
    · obtain ⟨v, ha⟩ := hok
      rw [ha] at hx
      simp only at hx
      have hrng := atoiAll_rng ha
      have HA := Lib.hid (atoi_ok W (l.take i) (by omega) v ha)
      have HT := Lib.hid (fun W' (hb : Below W.heap.size W W') => itoa_any W' ((HE1.out.below (hb.mono (show B ≤ W.heap.size by omega))).isTab) v hrng.1 hrng.2)
      have HV := Lib.hid hx
      clear hx ha
      by_cases hv : Lib.itoa v = l.take i
      · rw [hv] at HT
        by_cases hvl : least ≤ v
        · have hx0 : x = (v, ⟨l.drop (i + 1), bd⟩) := by rw [← HV.out, if_pos ⟨hv, hvl⟩]
          subst hx0
          have H2 := Lib.hid (fun W' (hb : Below w.heap.size w W') => And.intro (H.out.below hb) (And.intro ((H.out.below hb).set1 (l.drop (i + 1))) ((grown_row b hb).trans (grownBy_setCell W' ⟨b, 0, none⟩ (.string ⟨(l.drop (i + 1)).toArray⟩)))))
          clear hv HV
          generalize l.take i = ti at *
          generalize l.take 21 = hd at *
          generalize l.drop (i + 1) = di at *
          clear hrng hlh hlti
          go_wp2_with (first | ((with_reducible refine (HI.out).mono ?_); rintro _ w3 ⟨rfl, hw3⟩; obtain rfl := hw3) | ((with_reducible refine (HA.out).mono ?_); rintro _ w3 ⟨rfl, hb3⟩; have HB3 := Lib.hid (HB0.out.trans (hb3.mono HB0.out.size)); have HT3 := Lib.hid (fun W' (hb : Below w3.heap.size w3 W') => HT.out W' (hb3.trans (hb.mono hb3.size))); clear hb3))
          refine wpTill.startN 15 (S := fun _ => True) (T := fun _ => True) (m := 99) rfl (by kernel_rfl) ?_
          refine wpTill.take (i := 0) (v := ?_) (by rfl) rfl (by kernel_rfl) (by kernel_rfl) (by kernel_rfl) (by exact fun _ _ _ h => h) trivial (fun _ => trivial) (Or.inl ⟨by rfl, ?_⟩) ?_
          rotate_left
          · (intro w' hSw; (try dsimp only at hSw); go_simp; (try with_reducible rfl))
          (try simp only [Act.put, List.setIfInBounds_toArray, List.set_cons_zero, List.set_cons_succ, List.getElem_toArray, List.getElem_cons_zero, List.getElem_cons_succ])
          refine wpTill.take (i := 1) (v := ?_) (by rfl) rfl (by kernel_rfl) (by kernel_rfl) (by kernel_rfl) (by exact fun _ _ _ h => h) trivial (fun _ => trivial) (Or.inl ⟨by rfl, ?_⟩) ?_
          rotate_left
          · (intro w' hSw; (try dsimp only at hSw); go_simp; (try with_reducible rfl))
          (try simp only [Act.put, List.setIfInBounds_toArray, List.set_cons_zero, List.set_cons_succ, List.getElem_toArray, List.getElem_cons_zero, List.getElem_cons_succ])
          refine wpTill.take (i := 2) (v := ?_) (by rfl) rfl (by kernel_rfl) (by kernel_rfl) (by kernel_rfl) (by exact fun _ _ _ h => h) trivial (fun _ => trivial) (Or.inl ⟨by rfl, ?_⟩) ?_
          rotate_left
          · (intro w' hSw; (try dsimp only at hSw); go_simp; (try with_reducible rfl))
          (try simp only [Act.put, List.setIfInBounds_toArray, List.set_cons_zero, List.set_cons_succ, List.getElem_toArray, List.getElem_cons_zero, List.getElem_cons_succ])
          refine wpTill.take (i := 3) (v := ?_) (by rfl) rfl (by kernel_rfl) (by kernel_rfl) (by kernel_rfl) (by exact fun _ _ _ h => h) trivial (fun _ => trivial) (Or.inl ⟨by rfl, ?_⟩) ?_
          rotate_left
          · (intro w' hSw; (try dsimp only at hSw); go_simp; (try with_reducible rfl))
          (try simp only [Act.put, List.setIfInBounds_toArray, List.set_cons_zero, List.set_cons_succ, List.getElem_toArray, List.getElem_cons_zero, List.getElem_cons_succ])
          refine wpTill.take (i := 5) (v := ?_) (by rfl) rfl (by kernel_rfl) (by kernel_rfl) (by kernel_rfl) (by exact fun _ _ _ h => h) trivial (fun _ => trivial) (Or.inl ⟨by rfl, ?_⟩) ?_
          rotate_left
          · (intro w' hSw; (try dsimp only at hSw); go_simp; (try with_reducible rfl))
          (try simp only [Act.put, List.setIfInBounds_toArray, List.set_cons_zero, List.set_cons_succ, List.getElem_toArray, List.getElem_cons_zero, List.getElem_cons_succ])
          refine wpTill.take (i := 6) (v := ?_) (by rfl) rfl (by kernel_rfl) (by kernel_rfl) (by kernel_rfl) (by exact fun _ _ _ h => h) trivial (fun _ => trivial) (Or.inl ⟨by rfl, ?_⟩) ?_
          rotate_left
          · (intro w' hSw; (try dsimp only at hSw); go_simp; (try with_reducible rfl))
          (try simp only [Act.put, List.setIfInBounds_toArray, List.set_cons_zero, List.set_cons_succ, List.getElem_toArray, List.getElem_cons_zero, List.getElem_cons_succ])
          refine wpTill.take (i := 7) (v := ?_) (by rfl) rfl (by kernel_rfl) (by kernel_rfl) (by kernel_rfl) (by exact fun _ _ _ h => h) trivial (fun _ => trivial) (Or.inl ⟨by rfl, ?_⟩) ?_
          rotate_left
          · (intro w' hSw; (try dsimp only at hSw); go_simp; (try with_reducible rfl))
          (try simp only [Act.put, List.setIfInBounds_toArray, List.set_cons_zero, List.set_cons_succ, List.getElem_toArray, List.getElem_cons_zero, List.getElem_cons_succ])
          refine wpTill.step (i := 4) (by kernel_rfl) (by rfl) (fun K' hK => ?_)
          replace hK := Lib.hid hK
          go_simp
          go_at_call 177
          ((with_reducible refine (HT3.out _ (Below.refl _ _).drew).mono ?_); rintro _ w7 ⟨rfl, hb7⟩)
          refine hK.out _ _ trivial (fun _ => trivial) ?_
          clear hK K'
          (try simp only [Act.put, List.setIfInBounds_toArray, List.set_cons_zero, List.set_cons_succ, List.getElem_toArray, List.getElem_cons_zero, List.getElem_cons_succ])
          refine wpTill.take (i := 8) (v := ?_) (by rfl) rfl (by kernel_rfl) (by kernel_rfl) (by kernel_rfl) (by exact fun _ _ _ h => h) trivial (fun _ => trivial) (Or.inl ⟨by rfl, ?_⟩) ?_
          rotate_left
          · (intro w' hSw; (try dsimp only at hSw); go_simp; (try with_reducible rfl))
          (try simp only [Act.put, List.setIfInBounds_toArray, List.set_cons_zero, List.set_cons_succ, List.getElem_toArray, List.getElem_cons_zero, List.getElem_cons_succ])
          refine wpTill.take (i := 9) (v := ?_) (by rfl) rfl (by kernel_rfl) (by kernel_rfl) (by kernel_rfl) (by exact fun _ _ _ h => h) trivial (fun _ => trivial) (Or.inl ⟨by rfl, ?_⟩) ?_
          rotate_left
          · (intro w' hSw; (try dsimp only at hSw); go_simp; (try with_reducible rfl))
          (try simp only [Act.put, List.setIfInBounds_toArray, List.set_cons_zero, List.set_cons_succ, List.getElem_toArray, List.getElem_cons_zero, List.getElem_cons_succ])
          refine wpTill.take (i := 10) (v := ?_) (by rfl) rfl (by kernel_rfl) (by kernel_rfl) (by kernel_rfl) (by exact fun _ _ _ h => h) trivial (fun _ => trivial) (Or.inl ⟨by rfl, ?_⟩) ?_
          rotate_left
          · (intro w' hSw; (try dsimp only at hSw); go_simp; (try with_reducible rfl))
          (try simp only [Act.put, List.setIfInBounds_toArray, List.set_cons_zero, List.set_cons_succ, List.getElem_toArray, List.getElem_cons_zero, List.getElem_cons_succ])
          refine wpTill.take (i := 11) (v := ?_) (by rfl) rfl (by kernel_rfl) (by kernel_rfl) (by kernel_rfl) (by exact fun _ _ _ h => h) trivial (fun _ => trivial) (Or.inl ⟨by rfl, ?_⟩) ?_
          rotate_left
          · (intro w' hSw; (try dsimp only at hSw); go_simp; (try with_reducible rfl))
          (try simp only [Act.put, List.setIfInBounds_toArray, List.set_cons_zero, List.set_cons_succ, List.getElem_toArray, List.getElem_cons_zero, List.getElem_cons_succ])
          refine wpTill.take (i := 12) (v := ?_) (by rfl) rfl (by kernel_rfl) (by kernel_rfl) (by kernel_rfl) (by exact fun _ _ _ h => h) trivial (fun _ => trivial) (Or.inl ⟨by rfl, ?_⟩) ?_
          rotate_left
          · (intro w' hSw; (try dsimp only at hSw); go_simp; (try with_reducible rfl))
          (try simp only [Act.put, List.setIfInBounds_toArray, List.set_cons_zero, List.set_cons_succ, List.getElem_toArray, List.getElem_cons_zero, List.getElem_cons_succ])
          refine wpTill.take (i := 13) (v := ?_) (by rfl) rfl (by kernel_rfl) (by kernel_rfl) (by kernel_rfl) (by exact fun _ _ _ h => h) trivial (fun _ => trivial) (Or.inl ⟨by rfl, ?_⟩) ?_
          rotate_left
          · (intro w' hSw; (try dsimp only at hSw); go_simp; (try with_reducible rfl))
          (try simp only [Act.put, List.setIfInBounds_toArray, List.set_cons_zero, List.set_cons_succ, List.getElem_toArray, List.getElem_cons_zero, List.getElem_cons_succ])
          refine wpTill.take (i := 14) (v := ?_) (by rfl) rfl (by kernel_rfl) (by kernel_rfl) (by kernel_rfl) (by exact fun _ _ _ h => h) trivial (fun _ => trivial) (Or.inl ⟨by rfl, ?_⟩) ?_
          rotate_left
          · (intro w' hSw; (try dsimp only at hSw); go_simp; (try with_reducible rfl))
          (try simp only [Act.put, List.setIfInBounds_toArray, List.set_cons_zero, List.set_cons_succ, List.getElem_toArray, List.getElem_cons_zero, List.getElem_cons_succ])
          refine wpTill.stop (by kernel_rfl) ?_ _
          have HB7 := Lib.hid (HB3.out.trans ((undrew hb7).mono HB3.out.size))
          clear hb7
          obtain ⟨h1, h2, g2⟩ := H2.out w7 HB7.out
          have K2 := Lib.hid h2
          have G2 := Lib.hid g2
          clear h2 g2 z f1 f2
          obtain ⟨z, f1, f2⟩ := h1
          go_wp2_with (fail)
          go_ret
          exact ⟨rfl, K2.out, G2.out⟩
        · have hx0 : x = (0, .fail) := by rw [← HV.out, if_neg (fun h => hvl h.2)]
          subst hx0
          have hvl' : v < least := by omega
          have HF := Lib.hid (fun W' (hb : Below w.heap.size w W') => fail_any (H.out.below hb))
          clear hv HV hvl
          generalize l.take i = ti at *
          generalize l.take 21 = hd at *
          generalize l.drop (i + 1) = di at *
          clear hrng hlh hlti hex2
          go_wp2_with (first | ((with_reducible refine (HI.out).mono ?_); rintro _ w3 ⟨rfl, hw3⟩; obtain rfl := hw3) | ((with_reducible refine (HA.out).mono ?_); rintro _ w3 ⟨rfl, hb3⟩; have HB3 := Lib.hid (HB0.out.trans (hb3.mono HB0.out.size)); have HT3 := Lib.hid (fun W' (hb : Below w3.heap.size w3 W') => HT.out W' (hb3.trans (hb.mono hb3.size))); clear hb3))
          refine wpTill.startN 15 (S := fun _ => True) (T := fun _ => True) (m := 99) rfl (by kernel_rfl) ?_
          refine wpTill.take (i := 0) (v := ?_) (by rfl) rfl (by kernel_rfl) (by kernel_rfl) (by kernel_rfl) (by exact fun _ _ _ h => h) trivial (fun _ => trivial) (Or.inl ⟨by rfl, ?_⟩) ?_
          rotate_left
          · (intro w' hSw; (try dsimp only at hSw); go_simp; (try with_reducible rfl))
          (try simp only [Act.put, List.setIfInBounds_toArray, List.set_cons_zero, List.set_cons_succ, List.getElem_toArray, List.getElem_cons_zero, List.getElem_cons_succ])
          refine wpTill.take (i := 1) (v := ?_) (by rfl) rfl (by kernel_rfl) (by kernel_rfl) (by kernel_rfl) (by exact fun _ _ _ h => h) trivial (fun _ => trivial) (Or.inl ⟨by rfl, ?_⟩) ?_
          rotate_left
          · (intro w' hSw; (try dsimp only at hSw); go_simp; (try with_reducible rfl))
          (try simp only [Act.put, List.setIfInBounds_toArray, List.set_cons_zero, List.set_cons_succ, List.getElem_toArray, List.getElem_cons_zero, List.getElem_cons_succ])
          refine wpTill.take (i := 2) (v := ?_) (by rfl) rfl (by kernel_rfl) (by kernel_rfl) (by kernel_rfl) (by exact fun _ _ _ h => h) trivial (fun _ => trivial) (Or.inl ⟨by rfl, ?_⟩) ?_
          rotate_left
          · (intro w' hSw; (try dsimp only at hSw); go_simp; (try with_reducible rfl))
          (try simp only [Act.put, List.setIfInBounds_toArray, List.set_cons_zero, List.set_cons_succ, List.getElem_toArray, List.getElem_cons_zero, List.getElem_cons_succ])
          refine wpTill.take (i := 3) (v := ?_) (by rfl) rfl (by kernel_rfl) (by kernel_rfl) (by kernel_rfl) (by exact fun _ _ _ h => h) trivial (fun _ => trivial) (Or.inl ⟨by rfl, ?_⟩) ?_
          rotate_left
          · (intro w' hSw; (try dsimp only at hSw); go_simp; (try with_reducible rfl))
          (try simp only [Act.put, List.setIfInBounds_toArray, List.set_cons_zero, List.set_cons_succ, List.getElem_toArray, List.getElem_cons_zero, List.getElem_cons_succ])
          refine wpTill.take (i := 5) (v := ?_) (by rfl) rfl (by kernel_rfl) (by kernel_rfl) (by kernel_rfl) (by exact fun _ _ _ h => h) trivial (fun _ => trivial) (Or.inl ⟨by rfl, ?_⟩) ?_
          rotate_left
          · (intro w' hSw; (try dsimp only at hSw); go_simp; (try with_reducible rfl))
          (try simp only [Act.put, List.setIfInBounds_toArray, List.set_cons_zero, List.set_cons_succ, List.getElem_toArray, List.getElem_cons_zero, List.getElem_cons_succ])
          refine wpTill.take (i := 6) (v := ?_) (by rfl) rfl (by kernel_rfl) (by kernel_rfl) (by kernel_rfl) (by exact fun _ _ _ h => h) trivial (fun _ => trivial) (Or.inl ⟨by rfl, ?_⟩) ?_
          rotate_left
          · (intro w' hSw; (try dsimp only at hSw); go_simp; (try with_reducible rfl))
          (try simp only [Act.put, List.setIfInBounds_toArray, List.set_cons_zero, List.set_cons_succ, List.getElem_toArray, List.getElem_cons_zero, List.getElem_cons_succ])
          refine wpTill.take (i := 7) (v := ?_) (by rfl) rfl (by kernel_rfl) (by kernel_rfl) (by kernel_rfl) (by exact fun _ _ _ h => h) trivial (fun _ => trivial) (Or.inl ⟨by rfl, ?_⟩) ?_
          rotate_left
          · (intro w' hSw; (try dsimp only at hSw); go_simp; (try with_reducible rfl))
          (try simp only [Act.put, List.setIfInBounds_toArray, List.set_cons_zero, List.set_cons_succ, List.getElem_toArray, List.getElem_cons_zero, List.getElem_cons_succ])
          refine wpTill.step (i := 4) (by kernel_rfl) (by rfl) (fun K' hK => ?_)
          replace hK := Lib.hid hK
          go_simp
          go_at_call 177
          ((with_reducible refine (HT3.out _ (Below.refl _ _).drew).mono ?_); rintro _ w7 ⟨rfl, hb7⟩)
          refine hK.out _ _ trivial (fun _ => trivial) ?_
          clear hK K'
          (try simp only [Act.put, List.setIfInBounds_toArray, List.set_cons_zero, List.set_cons_succ, List.getElem_toArray, List.getElem_cons_zero, List.getElem_cons_succ])
          refine wpTill.take (i := 8) (v := ?_) (by rfl) rfl (by kernel_rfl) (by kernel_rfl) (by kernel_rfl) (by exact fun _ _ _ h => h) trivial (fun _ => trivial) (Or.inl ⟨by rfl, ?_⟩) ?_
          rotate_left
          · (intro w' hSw; (try dsimp only at hSw); go_simp; (try with_reducible rfl))
          (try simp only [Act.put, List.setIfInBounds_toArray, List.set_cons_zero, List.set_cons_succ, List.getElem_toArray, List.getElem_cons_zero, List.getElem_cons_succ])
          refine wpTill.take (i := 9) (v := ?_) (by rfl) rfl (by kernel_rfl) (by kernel_rfl) (by kernel_rfl) (by exact fun _ _ _ h => h) trivial (fun _ => trivial) (Or.inl ⟨by rfl, ?_⟩) ?_
          rotate_left
          · (intro w' hSw; (try dsimp only at hSw); go_simp; (try with_reducible rfl))
          (try simp only [Act.put, List.setIfInBounds_toArray, List.set_cons_zero, List.set_cons_succ, List.getElem_toArray, List.getElem_cons_zero, List.getElem_cons_succ])
          refine wpTill.take (i := 10) (v := ?_) (by rfl) rfl (by kernel_rfl) (by kernel_rfl) (by kernel_rfl) (by exact fun _ _ _ h => h) trivial (fun _ => trivial) (Or.inl ⟨by rfl, ?_⟩) ?_
          rotate_left
          · (intro w' hSw; (try dsimp only at hSw); go_simp; (try with_reducible rfl))
          (try simp only [Act.put, List.setIfInBounds_toArray, List.set_cons_zero, List.set_cons_succ, List.getElem_toArray, List.getElem_cons_zero, List.getElem_cons_succ])
          refine wpTill.take (i := 11) (v := ?_) (by rfl) rfl (by kernel_rfl) (by kernel_rfl) (by kernel_rfl) (by exact fun _ _ _ h => h) trivial (fun _ => trivial) (Or.inl ⟨by rfl, ?_⟩) ?_
          rotate_left
          · (intro w' hSw; (try dsimp only at hSw); go_simp; (try with_reducible rfl))
          (try simp only [Act.put, List.setIfInBounds_toArray, List.set_cons_zero, List.set_cons_succ, List.getElem_toArray, List.getElem_cons_zero, List.getElem_cons_succ])
          refine wpTill.take (i := 12) (v := ?_) (by rfl) rfl (by kernel_rfl) (by kernel_rfl) (by kernel_rfl) (by exact fun _ _ _ h => h) trivial (fun _ => trivial) (Or.inl ⟨by rfl, ?_⟩) ?_
          rotate_left
          · (intro w' hSw; (try dsimp only at hSw); go_simp; (try with_reducible rfl))
          (try simp only [Act.put, List.setIfInBounds_toArray, List.set_cons_zero, List.set_cons_succ, List.getElem_toArray, List.getElem_cons_zero, List.getElem_cons_succ])
          refine wpTill.take (i := 13) (v := ?_) (by rfl) rfl (by kernel_rfl) (by kernel_rfl) (by kernel_rfl) (by exact fun _ _ _ h => h) trivial (fun _ => trivial) (Or.inl ⟨by rfl, ?_⟩) ?_
          rotate_left
          · (intro w' hSw; (try dsimp only at hSw); go_simp; (try with_reducible rfl))
          (try simp only [Act.put, List.setIfInBounds_toArray, List.set_cons_zero, List.set_cons_succ, List.getElem_toArray, List.getElem_cons_zero, List.getElem_cons_succ])
          refine wpTill.take (i := 14) (v := ?_) (by rfl) rfl (by kernel_rfl) (by kernel_rfl) (by kernel_rfl) (by exact fun _ _ _ h => h) trivial (fun _ => trivial) (Or.inl ⟨by rfl, ?_⟩) ?_
          rotate_left
          · (intro w' hSw; (try dsimp only at hSw); go_simp; (try with_reducible rfl))
          (try simp only [Act.put, List.setIfInBounds_toArray, List.set_cons_zero, List.set_cons_succ, List.getElem_toArray, List.getElem_cons_zero, List.getElem_cons_succ])
          refine wpTill.stop (by kernel_rfl) ?_ _
          have HB7 := Lib.hid (HB3.out.trans ((undrew hb7).mono HB3.out.size))
          clear hb7
          have HF7 := Lib.hid (HF.out w7 HB7.out)
          go_wp2_with ((with_reducible refine (HF7.out).mono ?_); rintro _ w4 ⟨rfl, h4, g4⟩; have H4 := Lib.hid h4; have G4 := Lib.hid (((grown_row b HB7.out)).trans g4); clear h4 g4)
          go_ret
          exact ⟨rfl, H4.out, G4.out⟩
      · have hx0 : x = (0, .fail) := by rw [← HV.out, if_neg (fun h => hv h.1)]
        subst hx0
        have hne : (Lib.itoa v == l.take i) = false := beq_eq_false_iff_ne.2 hv
        have HF := Lib.hid (fun W' (hb : Below w.heap.size w W') => fail_any (H.out.below hb))
        generalize Lib.itoa v = iv at *
        generalize l.take i = ti at *
        generalize l.take 21 = hd at *
        clear hrng hlh hlti hex2 hv
        go_wp2_with (first | ((with_reducible refine (HI.out).mono ?_); rintro _ w3 ⟨rfl, hw3⟩; obtain rfl := hw3) | ((with_reducible refine (HA.out).mono ?_); rintro _ w3 ⟨rfl, hb3⟩; have HB3 := Lib.hid (HB0.out.trans (hb3.mono HB0.out.size)); have HT3 := Lib.hid (fun W' (hb : Below w3.heap.size w3 W') => HT.out W' (hb3.trans (hb.mono hb3.size))); clear hb3))
        refine wpTill.startN 15 (S := fun _ => True) (T := fun _ => True) (m := 99) rfl (by kernel_rfl) ?_
        refine wpTill.take (i := 0) (v := ?_) (by rfl) rfl (by kernel_rfl) (by kernel_rfl) (by kernel_rfl) (by exact fun _ _ _ h => h) trivial (fun _ => trivial) (Or.inl ⟨by rfl, ?_⟩) ?_
        rotate_left
        · (intro w' hSw; (try dsimp only at hSw); go_simp; (try with_reducible rfl))
        (try simp only [Act.put, List.setIfInBounds_toArray, List.set_cons_zero, List.set_cons_succ, List.getElem_toArray, List.getElem_cons_zero, List.getElem_cons_succ])
        refine wpTill.take (i := 1) (v := ?_) (by rfl) rfl (by kernel_rfl) (by kernel_rfl) (by kernel_rfl) (by exact fun _ _ _ h => h) trivial (fun _ => trivial) (Or.inl ⟨by rfl, ?_⟩) ?_
        rotate_left
        · (intro w' hSw; (try dsimp only at hSw); go_simp; (try with_reducible rfl))
        (try simp only [Act.put, List.setIfInBounds_toArray, List.set_cons_zero, List.set_cons_succ, List.getElem_toArray, List.getElem_cons_zero, List.getElem_cons_succ])
        refine wpTill.take (i := 2) (v := ?_) (by rfl) rfl (by kernel_rfl) (by kernel_rfl) (by kernel_rfl) (by exact fun _ _ _ h => h) trivial (fun _ => trivial) (Or.inl ⟨by rfl, ?_⟩) ?_
        rotate_left
        · (intro w' hSw; (try dsimp only at hSw); go_simp; (try with_reducible rfl))
        (try simp only [Act.put, List.setIfInBounds_toArray, List.set_cons_zero, List.set_cons_succ, List.getElem_toArray, List.getElem_cons_zero, List.getElem_cons_succ])
        refine wpTill.take (i := 3) (v := ?_) (by rfl) rfl (by kernel_rfl) (by kernel_rfl) (by kernel_rfl) (by exact fun _ _ _ h => h) trivial (fun _ => trivial) (Or.inl ⟨by rfl, ?_⟩) ?_
        rotate_left
        · (intro w' hSw; (try dsimp only at hSw); go_simp; (try with_reducible rfl))
        (try simp only [Act.put, List.setIfInBounds_toArray, List.set_cons_zero, List.set_cons_succ, List.getElem_toArray, List.getElem_cons_zero, List.getElem_cons_succ])
        refine wpTill.take (i := 5) (v := ?_) (by rfl) rfl (by kernel_rfl) (by kernel_rfl) (by kernel_rfl) (by exact fun _ _ _ h => h) trivial (fun _ => trivial) (Or.inl ⟨by rfl, ?_⟩) ?_
        rotate_left
        · (intro w' hSw; (try dsimp only at hSw); go_simp; (try with_reducible rfl))
        (try simp only [Act.put, List.setIfInBounds_toArray, List.set_cons_zero, List.set_cons_succ, List.getElem_toArray, List.getElem_cons_zero, List.getElem_cons_succ])
        refine wpTill.take (i := 6) (v := ?_) (by rfl) rfl (by kernel_rfl) (by kernel_rfl) (by kernel_rfl) (by exact fun _ _ _ h => h) trivial (fun _ => trivial) (Or.inl ⟨by rfl, ?_⟩) ?_
        rotate_left
        · (intro w' hSw; (try dsimp only at hSw); go_simp; (try with_reducible rfl))
        (try simp only [Act.put, List.setIfInBounds_toArray, List.set_cons_zero, List.set_cons_succ, List.getElem_toArray, List.getElem_cons_zero, List.getElem_cons_succ])
        refine wpTill.take (i := 7) (v := ?_) (by rfl) rfl (by kernel_rfl) (by kernel_rfl) (by kernel_rfl) (by exact fun _ _ _ h => h) trivial (fun _ => trivial) (Or.inl ⟨by rfl, ?_⟩) ?_
        rotate_left
        · (intro w' hSw; (try dsimp only at hSw); go_simp; (try with_reducible rfl))
        (try simp only [Act.put, List.setIfInBounds_toArray, List.set_cons_zero, List.set_cons_succ, List.getElem_toArray, List.getElem_cons_zero, List.getElem_cons_succ])
        refine wpTill.step (i := 4) (by kernel_rfl) (by rfl) (fun K' hK => ?_)
        replace hK := Lib.hid hK
        go_simp
        go_at_call 177
        ((with_reducible refine (HT3.out _ (Below.refl _ _).drew).mono ?_); rintro _ w7 ⟨rfl, hb7⟩)
        refine hK.out _ _ trivial (fun _ => trivial) ?_
        clear hK K'
        (try simp only [Act.put, List.setIfInBounds_toArray, List.set_cons_zero, List.set_cons_succ, List.getElem_toArray, List.getElem_cons_zero, List.getElem_cons_succ])
        refine wpTill.take (i := 8) (v := ?_) (by rfl) rfl (by kernel_rfl) (by kernel_rfl) (by kernel_rfl) (by exact fun _ _ _ h => h) trivial (fun _ => trivial) (Or.inl ⟨by rfl, ?_⟩) ?_
        rotate_left
        · (intro w' hSw; (try dsimp only at hSw); go_simp; (try with_reducible rfl))
        (try simp only [Act.put, List.setIfInBounds_toArray, List.set_cons_zero, List.set_cons_succ, List.getElem_toArray, List.getElem_cons_zero, List.getElem_cons_succ])
        refine wpTill.take (i := 9) (v := ?_) (by rfl) rfl (by kernel_rfl) (by kernel_rfl) (by kernel_rfl) (by exact fun _ _ _ h => h) trivial (fun _ => trivial) (Or.inl ⟨by rfl, ?_⟩) ?_
        rotate_left
        · (intro w' hSw; (try dsimp only at hSw); go_simp; (try with_reducible rfl))
        (try simp only [Act.put, List.setIfInBounds_toArray, List.set_cons_zero, List.set_cons_succ, List.getElem_toArray, List.getElem_cons_zero, List.getElem_cons_succ])
        refine wpTill.take (i := 10) (v := ?_) (by rfl) rfl (by kernel_rfl) (by kernel_rfl) (by kernel_rfl) (by exact fun _ _ _ h => h) trivial (fun _ => trivial) (Or.inl ⟨by rfl, ?_⟩) ?_
        rotate_left
        · (intro w' hSw; (try dsimp only at hSw); go_simp; (try with_reducible rfl))
        (try simp only [Act.put, List.setIfInBounds_toArray, List.set_cons_zero, List.set_cons_succ, List.getElem_toArray, List.getElem_cons_zero, List.getElem_cons_succ])
        refine wpTill.take (i := 11) (v := undef) (by rfl) rfl (by kernel_rfl) (by kernel_rfl) (by kernel_rfl) (by exact fun _ _ _ h => h) trivial (fun _ => trivial) (Or.inr ⟨by rfl, rfl⟩) ?_
        (try simp only [Act.put, List.setIfInBounds_toArray, List.set_cons_zero, List.set_cons_succ, List.getElem_toArray, List.getElem_cons_zero, List.getElem_cons_succ])
        refine wpTill.take (i := 12) (v := undef) (by rfl) rfl (by kernel_rfl) (by kernel_rfl) (by kernel_rfl) (by exact fun _ _ _ h => h) trivial (fun _ => trivial) (Or.inr ⟨by rfl, rfl⟩) ?_
        (try simp only [Act.put, List.setIfInBounds_toArray, List.set_cons_zero, List.set_cons_succ, List.getElem_toArray, List.getElem_cons_zero, List.getElem_cons_succ])
        refine wpTill.take (i := 13) (v := undef) (by rfl) rfl (by kernel_rfl) (by kernel_rfl) (by kernel_rfl) (by exact fun _ _ _ h => h) trivial (fun _ => trivial) (Or.inr ⟨by rfl, rfl⟩) ?_
        (try simp only [Act.put, List.setIfInBounds_toArray, List.set_cons_zero, List.set_cons_succ, List.getElem_toArray, List.getElem_cons_zero, List.getElem_cons_succ])
        refine wpTill.take (i := 14) (v := ?_) (by rfl) rfl (by kernel_rfl) (by kernel_rfl) (by kernel_rfl) (by exact fun _ _ _ h => h) trivial (fun _ => trivial) (Or.inl ⟨by rfl, ?_⟩) ?_
        rotate_left
        · (intro w' hSw; (try dsimp only at hSw); go_simp; (try with_reducible rfl))
        (try simp only [Act.put, List.setIfInBounds_toArray, List.set_cons_zero, List.set_cons_succ, List.getElem_toArray, List.getElem_cons_zero, List.getElem_cons_succ])
        refine wpTill.stop (by kernel_rfl) ?_ _
        have HB7 := Lib.hid (HB3.out.trans ((undrew hb7).mono HB3.out.size))
        clear hb7
        have HF7 := Lib.hid (HF.out w7 HB7.out)
        go_wp2_with ((with_reducible refine (HF7.out).mono ?_); rintro _ w4 ⟨rfl, h4, g4⟩; have H4 := Lib.hid h4; have G4 := Lib.hid (((grown_row b HB7.out)).trans g4); clear h4 g4)
        go_ret
        exact ⟨rfl, H4.out, G4.out⟩
    · have hx0 : x = (0, .fail) := by
        rw [← hx]
        cases ha : Lib.atoiAll (l.take i) with
        | ok v => exact absurd ⟨v, ha⟩ hok
        | _ => rfl
      subst hx0
      have HA := Lib.hid (atoi_no W HE1.out (l.take i) (by omega) (fun v h => hok ⟨v, h⟩))
      have HF := Lib.hid (fun W' (hb : Below w.heap.size w W') => fail_any (H.out.below hb))
      generalize l.take i = ti at *
      generalize l.take 21 = hd at *
      clear hx hok hlh hlti hex2
      go_wp2_with (first | ((with_reducible refine (HI.out).mono ?_); rintro _ w3 ⟨rfl, hw3⟩; obtain rfl := hw3) | ((with_reducible refine (HA.out).mono ?_); rintro _ w3 ⟨nn, N, rfl, hb3⟩; have HB3 := Lib.hid (HB0.out.trans (hb3.mono HB0.out.size)); clear hb3))
      go_quiet (fail)
      have HB4 := Lib.hid (bdrewN HB3.out nq)
      generalize w3.drewN nq = W4 at *
      have HF4 := Lib.hid (HF.out W4 HB4.out)
      go_wp2_with ((with_reducible refine (HF4.out).mono ?_); rintro _ w4 ⟨rfl, h4, g4⟩; have H4 := Lib.hid h4; have G4 := Lib.hid (((grown_row b HB4.out)).trans g4); clear h4 g4)
      go_ret
      exact ⟨rfl, H4.out, G4.out⟩
end Go.Proofs.YtjncmlglhegnaaaGreatDoor
namespace Go.Proofs.YtjncmlglhegnaaaGreatDoor
open Go.RowKit Go.Sort Go.Lib

set_option maxRecDepth 100000 in
set_option maxHeartbeats 1000000 in
theorem NumM_any {B : Nat} {w : World} {b : Nat} {r : RdV} (h : RdAt w b r) (hE : Env B w) (hB : B ≤ b) (hl : r.rest.length ≤ 140737488351232) (x : Int × RdV) (hx : natF r = x) :
    Calls Tryz.prog 100 #[.pointer (some ⟨b, 0, none⟩)] w (RdPost w b (.int .i64 x.1) x.2) := by
  have HA : Hid (Calls Tryz.prog 149 #[.pointer (some ⟨b, 0, none⟩), .int .u8 59, .int .i64 0] w (RdPost w b (.int .i64 x.1) x.2)) := Lib.hid (number_any h hE hB 59 0 hl x hx)
  clear hx hl h hE
  go_enter Tryz.func100, Tryz.ntmps100
  go_wp2_with ((with_reducible refine (HA.out).mono ?_); rintro _ w1 ⟨rfl, h1, g1⟩; have H1 := Lib.hid h1; have G1 := Lib.hid g1; clear h1 g1)
  go_ret
  exact ⟨rfl, H1.out, G1.out⟩
set_option maxRecDepth 100000 in
set_option maxHeartbeats 1000000 in
theorem IntM_any {B : Nat} {w : World} {b : Nat} {r : RdV} (h : RdAt w b r) (hE : Env B w) (hB : B ≤ b) (hl : r.rest.length ≤ 140737488351232) (x : Int × RdV) (hx : intF r = x) :
    Calls Tryz.prog 193 #[.pointer (some ⟨b, 0, none⟩)] w (RdPost w b (.int .i64 x.1) x.2) := by
  have HA : Hid (Calls Tryz.prog 149 #[.pointer (some ⟨b, 0, none⟩), .int .u8 59, .int .i64 (-9223372036854775808)] w (RdPost w b (.int .i64 x.1) x.2)) := Lib.hid (number_any h hE hB 59 (-9223372036854775808) hl x hx)
  clear hx hl h hE
  go_enter Tryz.func193, Tryz.ntmps193
  go_wp2_with ((with_reducible refine (HA.out).mono ?_); rintro _ w1 ⟨rfl, h1, g1⟩; have H1 := Lib.hid h1; have G1 := Lib.hid g1; clear h1 g1)
  go_ret
  exact ⟨rfl, H1.out, G1.out⟩
set_option maxRecDepth 100000 in
set_option maxHeartbeats 2000000 in
theorem Text_M {B : Nat} {w : World} {b : Nat} {r : RdV} (h : RdAt w b r) (hE : Env B w) (hB : B ≤ b) (hok : r.ok) (hl : r.rest.length ≤ 140737488351232) (x : List UInt8 × RdV) (hx : textF r = x) :
    Calls Tryz.prog 154 #[.pointer (some ⟨b, 0, none⟩)] w (RdPost w b (.string ⟨x.1.toArray⟩) x.2) := by
  obtain ⟨n, r1, hn⟩ : ∃ n r1, numF 58 0 r = (n, r1) := ⟨_, _, rfl⟩
  have HA : Hid (Calls Tryz.prog 149 #[.pointer (some ⟨b, 0, none⟩), .int .u8 58, .int .i64 0] w (RdPost w b (.int .i64 n) r1)) := Lib.hid (number_any h hE hB 58 0 hl _ hn)
  have hk := (numF_keeps (e := 58) (least := 0) hok).2
  rw [hn] at hk
  simp only at hk
  have hw := textF_ways hn x hx hok
  obtain ⟨l, bd⟩ := r1
  simp only at hw hk
  have hl2 : l.length ≤ 140737488351232 := by omega
  clear hn hx hok hl h hk hE
  have hsz := str_size l
  rcases hw with ⟨h1, rfl, rfl⟩ | ⟨k, rfl, rfl, ⟨h1, rfl⟩ | ⟨h1, h2, h3, rfl⟩ | ⟨h1, h2, h3, rfl⟩⟩
  · obtain ⟨rfl, rfl⟩ : l = [] ∧ bd = true := by injection h1; exact ⟨‹_›, ‹_›⟩
    have H2 : Hid (∀ W, RdAt W b ⟨[], true⟩ → Calls Tryz.prog 191 #[.pointer (some ⟨b, 0, none⟩), .string ⟨#[44]⟩] (W.setCell ⟨b, 0, none⟩ (.string ByteArray.empty)) (RdPost (W.setCell ⟨b, 0, none⟩ (.string ByteArray.empty)) b (.tuple #[]) .fail)) := Lib.hid (fun W h => close_any (h.set1 []) 44 _ rfl)
    have HG := Lib.hid (fun W : World => grownBy_setCell W ⟨b, 0, none⟩ (.string ByteArray.empty))
    clear h1
    go_enter Tryz.func154, Tryz.ntmps154
    go_wp2_with (first | ((with_reducible refine (HA.out).mono ?_); rintro _ w1 ⟨rfl, h1, g1⟩; have K1 := Lib.hid (H2.out w1 h1); have G1 := Lib.hid (g1.trans (HG.out w1)); obtain ⟨z, f1, f2⟩ := h1; clear g1) | ((with_reducible refine (K1.out).mono ?_); rintro _ w3 ⟨rfl, h1, g1⟩; have K3 := Lib.hid h1; have G3 := Lib.hid (G1.out.trans g1); clear g1; obtain ⟨z3, k3, e3⟩ := h1; simp only [RdV.fail] at k3))
    go_ret
    exact ⟨rfl, K3.out, G3.out⟩
  · have hki : (l.length : Int) < (k : Int) := by omega
    clear h1
    go_enter Tryz.func154, Tryz.ntmps154
    go_wp2_with (first | ((with_reducible refine (HA.out).mono ?_); rintro _ w1 ⟨rfl, h1, g1⟩; have H1 := Lib.hid (fail_any h1); have G1 := Lib.hid g1; obtain ⟨z, f1, f2⟩ := h1; clear g1) | ((with_reducible refine (H1.out).mono ?_); rintro _ w3 ⟨rfl, h1, g1⟩; have K1 := Lib.hid h1; have G3 := Lib.hid (G1.out.trans g1); clear h1 g1))
    go_ret
    exact ⟨rfl, K1.out, G3.out⟩
  · have hki : (k : Int) ≤ (l.length : Int) := by omega
    have hkn : (0 : Int) ≤ (k : Int) := by omega
    have hex := str_ext l 0 k
    rw [List.drop_zero] at hex
    have hex2 := str_ext l k l.length
    rw [List.take_length] at hex2
    generalize hdk : l.drop k = dk at *
    have H2 : Hid (∀ W, RdAt W b ⟨l, false⟩ → Calls Tryz.prog 191 #[.pointer (some ⟨b, 0, none⟩), .string ⟨#[44]⟩] (W.setCell ⟨b, 0, none⟩ (.string ⟨dk.toArray⟩)) (RdPost (W.setCell ⟨b, 0, none⟩ (.string ⟨dk.toArray⟩)) b (.tuple #[]) .fail)) := Lib.hid (fun W h => close_any (h.set1 dk) 44 _ h2)
    have HG := Lib.hid (fun W : World => grownBy_setCell W ⟨b, 0, none⟩ (.string ⟨dk.toArray⟩))
    generalize l.take k = tk at *
    clear h1 h3 hdk
    clear h2
    go_enter Tryz.func154, Tryz.ntmps154
    go_wp2_with (first | ((with_reducible refine (HA.out).mono ?_); rintro _ w1 ⟨rfl, h1, g1⟩; have K1 := Lib.hid (H2.out w1 h1); have G1 := Lib.hid (g1.trans (HG.out w1)); obtain ⟨z, f1, f2⟩ := h1; clear g1) | ((with_reducible refine (K1.out).mono ?_); rintro _ w3 ⟨rfl, h1, g1⟩; have K3 := Lib.hid h1; have G3 := Lib.hid (G1.out.trans g1); clear g1; obtain ⟨z3, k3, e3⟩ := h1; simp only [RdV.fail] at k3))
    go_ret
    exact ⟨rfl, K3.out, G3.out⟩
  · have hki : (k : Int) ≤ (l.length : Int) := by omega
    have hkn : (0 : Int) ≤ (k : Int) := by omega
    have hex := str_ext l 0 k
    rw [List.drop_zero] at hex
    have hex2 := str_ext l k l.length
    rw [List.take_length] at hex2
    generalize hdk : l.drop k = dk at *
    have H2 : Hid (∀ W, RdAt W b ⟨l, false⟩ → Calls Tryz.prog 191 #[.pointer (some ⟨b, 0, none⟩), .string ⟨#[44]⟩] (W.setCell ⟨b, 0, none⟩ (.string ⟨dk.toArray⟩)) (RdPost (W.setCell ⟨b, 0, none⟩ (.string ⟨dk.toArray⟩)) b (.tuple #[]) (closeF 44 ⟨dk, false⟩))) := Lib.hid (fun W h => close_any (h.set1 dk) 44 _ rfl)
    have HG := Lib.hid (fun W : World => grownBy_setCell W ⟨b, 0, none⟩ (.string ⟨dk.toArray⟩))
    generalize closeF 44 ⟨dk, false⟩ = r3 at *
    obtain ⟨l3, b3⟩ := r3
    simp only at h2
    subst h2
    generalize l.take k = tk at *
    clear h1 h3 hdk
    go_enter Tryz.func154, Tryz.ntmps154
    go_wp2_with (first | ((with_reducible refine (HA.out).mono ?_); rintro _ w1 ⟨rfl, h1, g1⟩; have K1 := Lib.hid (H2.out w1 h1); have G1 := Lib.hid (g1.trans (HG.out w1)); obtain ⟨z, f1, f2⟩ := h1; clear g1) | ((with_reducible refine (K1.out).mono ?_); rintro _ w3 ⟨rfl, h1, g1⟩; have K3 := Lib.hid h1; have G3 := Lib.hid (G1.out.trans g1); clear g1; obtain ⟨z3, k3, e3⟩ := h1; simp only at k3))
    go_ret
    exact ⟨rfl, K3.out, G3.out⟩
set_option maxRecDepth 100000 in
set_option maxHeartbeats 4000000 in
theorem items_int {B : Nat} {w : World} {b : Nat} {r : RdV} (h : RdAt w b r) (hE : Env B w) (hB : B ≤ b) (hok : r.ok) (hl : r.rest.length ≤ 1099511627776) (x : List (Int) × RdV) (hx : itemsF intF r = x) :
    Calls Tryz.prog 192 #[.pointer (some ⟨b, 0, none⟩), .func (.func 193) #[.pointer (some ⟨b, 0, none⟩)] #[]] w (ListPost intC 1 w b x) := by
  obtain ⟨i0, hi0, hi1, hi2, hi3⟩ := info_parts infoInt
  obtain ⟨n, r1, hn⟩ : ∃ n r1, numF 91 0 r = (n, r1) := ⟨_, _, rfl⟩
  have HA : Hid (Calls Tryz.prog 149 #[.pointer (some ⟨b, 0, none⟩), .int .u8 91, .int .i64 0] w (RdPost w b (.int .i64 n) r1)) := Lib.hid (number_any h hE hB 91 0 (by omega) _ hn)
  obtain ⟨N, rfl, hok1, hl1, hN⟩ := nat_of_num hok hn
  have HW := Lib.hid (fun xs ri (hr : runF intF N r1 = (xs, ri)) ho => itemsF_ways (ri := ri) hn (by rw [Int.toNat_natCast]; exact hr) ho x hx)
  have hL : r1.rest.length ≤ 1099511627776 := by omega
  have HL := Lib.hid hL
  have HB := Lib.hid (Loc.lt h)
  have HNN := Lib.hid hN
  have HOK := Lib.hid hok1
  have HE := Lib.hid (fun W (g : w.grownBy W (some b)) => hE.grown hB (Nat.le_of_lt (Nat.lt_of_le_of_lt hB HB.out)) g)
  clear hn hok hl h hx hok1 hl1 hL hN hE
  go_enter Tryz.func192, Tryz.ntmps192
  go_wp2_with ((with_reducible refine (HA.out).mono ?_); rintro _ w1 ⟨rfl, h1, g1⟩; have H1 := Lib.hid h1; have G1 := Lib.hid g1; clear h1 g1)
  go_loopw [5, 6] (fun sv iv wr => ∃ (i m : Nat) (xs : List (Int)) (ri : RdV) (A : Option Addr) (c : Nat), i + m = N ∧ iv = .int .i64 (m : Int) ∧ sv = .slice A xs.length c ∧ RunAt intF N r1 i xs ri ∧ RdAt wr b ri ∧ w.grownBy wr (some b) ∧ Own wr w.heap.size 3 1 (.slice A xs.length c) xs.length (xs.map intC)) (fun _ i _ => (Go.RowKit.intOf i).toNat)
  case atStart => exact ⟨0, N, [], r1, none, 0, Nat.zero_add _, rfl, rfl, RunAt.start HOK.out, H1.out, G1.out, Own.nil_ _ _ _ _⟩
  case round =>
    obtain ⟨i, m, xs, ri, A, c, him, rfl, rfl, hrun, hrd, hg, hown⟩ := hrel
    obtain ⟨wo, rfl⟩ : ∃ wo : World, wo = wr := ⟨_, rfl⟩
    have HR := Lib.hid hrun
    have HD := Lib.hid hrd
    have HG := Lib.hid hg
    have HO := Lib.hid hown
    have HIM := Lib.hid him
    have HEO := Lib.hid (HE.out wo hg)
    clear hrun hg hown H1 G1 him
    obtain ⟨z, f1, f2⟩ := hrd
    obtain ⟨l, bd⟩ := ri
    simp only at f1
    by_cases hgo : 0 < m ∧ bd = false
    · obtain ⟨hlt, rfl⟩ := hgo
      have hiN : i < N := by have := HIM.out; omega
      obtain ⟨m2, rfl⟩ : ∃ m2, m = m2 + 1 := ⟨m - 1, by omega⟩
      obtain ⟨mi, hmi⟩ : ∃ mi : Int, ((m2 + 1 : Nat) : Int) = mi := ⟨_, rfl⟩
      have hm0 : 0 < mi := by omega
      have hfew := HR.out.few
      have hmore := HR.out.more rfl
      have hlim := HL.out
      have HN := Lib.hid (RunAt.next intF_steps HR.out hiN rfl)
      obtain ⟨⟨v, r2⟩, hone⟩ : ∃ y, intF ⟨l, false⟩ = y := ⟨_, rfl⟩
      have HC := Lib.hid (IntM_any HD.out HEO.out hB (by have := HR.out.more rfl; have := HL.out; show l.length ≤ _; simp only at *; omega) _ hone)
      rw [hone] at HN
      have HMI := Lib.hid hmi
      have HT1 : Hid (xs.length + 1 ≤ maxLen) := Lib.hid (by simp only [maxLen]; omega)
      have HT2 : Hid ((xs.length + 1) * 8 ≤ 140737488355328) := Lib.hid (by omega)
      have hwi : IntKind.i64.wrap (mi - 1) = (m2 : Int) := by rw [show mi - 1 = (m2 : Int) by omega]; exact IntWalk.i64_in _ (by have := HNN.out; have := HIM.out; omega)
      rw [hmi]
      clear hlt hfew hmore hlim hone hmi hiN
      go_wp2_with (first
        | ((with_reducible refine (HC.out).mono ?_); rintro _ w2 ⟨rfl, h2, g2⟩; have H2 := Lib.hid h2; have G2 := Lib.hid (HG.out.trans g2); have O2 := Lib.hid (HO.out.kept g2 (.inr (own_ne HO.out.1 HB.out))); have HZ := Lib.hid (Nat.le_trans HG.out.size g2.size); clear h2 g2)
        | (at_builtin
           have t3 := Nat.le_trans HZ.out (alloc_le w2 (.cells #[.int .i64 v] 3))
           have q1 := O2.out.alloc (.cells #[.int .i64 v] 3)
           have q2 := Sl.new_ w2 3 [.int .i64 v]
           have q3 : ∀ x ∈ [[(.int .i64 v : Value)]], x.length = 1 := by simp
           have q4 : ∀ x ∈ [[(.int .i64 v : Value)]], ∀ u ∈ x, u.oneCell' = true := by simp [Value.oneCell']
           refine wpList_append_sl _ rfl (.tmp 20) (.tmp 23) 30 rfl w.heap.size 3 i0 _ 1 8 Tryz.underlying30 hi0 hi1 hi2 hi3 rfl Nat.one_pos (.slice A xs.length c) xs.length _ rfl q1 (some ⟨w2.heap.size, 0, none⟩) 1 1 [[.int .i64 v]] rfl q2 q3 q4 HT1.out HT2.out t3 ?_
           intro A4 c4 w4 hown hg hat
           have O4 := Lib.hid hown
           have G4 := Lib.hid (grown_over (G2.out.trans (World.grownBy_alloc _ _ _)) q1 hg)
           have H4 := Lib.hid ((H2.out.alloc _).grown hg (own_ne q1.1 HB.out))
           clear hown hg hat q1 q2 q3 q4 t3))
      go_roundw
      case rel => exact ⟨i + 1, m2, xs ++ [v], r2, A4, c4, by have := HIM.out; omega, rfl, by simp, HN.out, H4.out, G4.out, by have h := O4.out; simp only [List.length_append, List.length_singleton, List.map_append, List.map_cons, List.map_nil]; exact h⟩
      case measure => have := HMI.out; simp [Go.RowKit.intOf]; omega
    · have hst : i = N ∨ bd = true := by
        cases bd
        · left; have : ¬ 0 < m := fun h => hgo ⟨h, rfl⟩; have := HIM.out; omega
        · exact .inr rfl
      have hx := HW.out _ _ (HR.out.stop hst) HR.out.ok
      clear hgo
      rcases hx with ⟨h1, rfl⟩ | ⟨h1, h2, h3, rfl⟩ | ⟨h1, h2, h3, hxe⟩
      · obtain ⟨rfl, rfl⟩ : l = [] ∧ bd = true := by injection h1; exact ⟨‹_›, ‹_›⟩
        have HC : Hid (Calls Tryz.prog 191 #[.pointer (some ⟨b, 0, none⟩), .string ⟨#[93]⟩] wo (RdPost wo b (.tuple #[]) .fail)) := Lib.hid (close_any HD.out 93 _ rfl)
        clear h1 hst
        by_cases hlt : 0 < m
        · have hki : (0 : Int) < (m : Int) := by omega
          clear hlt
          go_wp2_with ((with_reducible refine (HC.out).mono ?_); rintro _ w3 ⟨rfl, h1, g1⟩; have H3 := Lib.hid h1; have G3 := Lib.hid (HG.out.trans g1); clear g1; obtain ⟨z3, k3, e3⟩ := h1; simp only [RdV.fail] at k3)
          go_ret
          exact ⟨none, 0, rfl, SlF.nil_ _ _ _, H3.out, G3.out⟩
        · have hki : (m : Int) ≤ 0 := by omega
          clear hlt
          go_wp2_with ((with_reducible refine (HC.out).mono ?_); rintro _ w3 ⟨rfl, h1, g1⟩; have H3 := Lib.hid h1; have G3 := Lib.hid (HG.out.trans g1); clear g1; obtain ⟨z3, k3, e3⟩ := h1; simp only [RdV.fail] at k3)
          go_ret
          exact ⟨none, 0, rfl, SlF.nil_ _ _ _, H3.out, G3.out⟩
      · simp only at h1
        subst h1
        have hki : (m : Int) ≤ 0 := by have := HIM.out; rcases hst with h | h; omega; cases h
        have HC : Hid (Calls Tryz.prog 191 #[.pointer (some ⟨b, 0, none⟩), .string ⟨#[93]⟩] wo (RdPost wo b (.tuple #[]) .fail)) := Lib.hid (close_any HD.out 93 _ h3)
        clear h2 h3 hst
        go_wp2_with ((with_reducible refine (HC.out).mono ?_); rintro _ w3 ⟨rfl, h1, g1⟩; have H3 := Lib.hid h1; have G3 := Lib.hid (HG.out.trans g1); clear g1; obtain ⟨z3, k3, e3⟩ := h1; simp only [RdV.fail] at k3)
        go_ret
        exact ⟨none, 0, rfl, SlF.nil_ _ _ _, H3.out, G3.out⟩
      · simp only at h1
        subst h1
        have hki : (m : Int) ≤ 0 := by have := HIM.out; rcases hst with h | h; omega; cases h
        obtain ⟨r3, hr3⟩ : ∃ r3, closeF 93 ⟨l, false⟩ = r3 := ⟨_, rfl⟩
        have HC : Hid (Calls Tryz.prog 191 #[.pointer (some ⟨b, 0, none⟩), .string ⟨#[93]⟩] wo (RdPost wo b (.tuple #[]) r3)) := Lib.hid (close_any HD.out 93 _ hr3)
        rw [hr3] at h3 hxe
        subst hxe
        obtain ⟨l3, b3⟩ := r3
        simp only at h3
        subst h3
        clear h2 hst hr3
        go_wp2_with ((with_reducible refine (HC.out).mono ?_); rintro _ w3 ⟨rfl, h1, g1⟩; have H3 := Lib.hid h1; have G3 := Lib.hid (HG.out.trans g1); have O3 := Lib.hid (HO.out.kept g1 (.inr (own_ne HO.out.1 HB.out))); clear g1; obtain ⟨z3, k3, e3⟩ := h1; simp only at k3)
        go_ret
        exact ⟨A, c, rfl, ⟨Own.sl' O3.out, O3.out.fresh⟩, H3.out, G3.out⟩
set_option maxRecDepth 100000 in
set_option maxHeartbeats 1000000 in
theorem NumsM_any {B : Nat} {w : World} {b : Nat} {r : RdV} (h : RdAt w b r) (hE : Env B w) (hB : B ≤ b) (hok : r.ok) (hl : r.rest.length ≤ 1099511627776) (x : List (Int) × RdV) (hx : itemsF intF r = x) :
    Calls Tryz.prog 157 #[.pointer (some ⟨b, 0, none⟩)] w (ListPost intC 1 w b x) := by
  have HC := Lib.hid (items_int h hE hB hok hl x hx)
  clear hE hok hl hx h
  go_enter Tryz.func157, Tryz.ntmps157
  go_wp2_with ((with_reducible refine (HC.out).mono ?_); rintro _ w1 ⟨A, c, rfl, h1, h2, h3⟩; have H1 := Lib.hid h1; have H2 := Lib.hid h2; have H3 := Lib.hid h3; clear h1 h2 h3)
  go_ret
  exact ⟨A, c, rfl, H1.out, H2.out, H3.out⟩
end Go.Proofs.YtjncmlglhegnaaaGreatDoor
namespace Go.Proofs.YtjncmlglhegnaaaGreatDoor
open Go.RowKit Go.Sort Go.Lib

/-- an entry, with where its list lies -/
structure EntC where
  v : EntV
  A : Option Addr
  c : Nat
def EntC.cells (e : EntC) : List Value := [.int .i64 e.v.dev, .int .i64 e.v.no, .int .i64 e.v.day, .slice e.A e.v.seen.length e.c, .string ⟨e.v.text.toArray⟩]
/-- the entry's list lies in the world -/
def EntAt (w : World) (e : EntC) : Prop := Sl w 1 e.A e.v.seen.length (e.v.seen.map intC)
theorem EntAt.below {w w' : World} {e : EntC} (h : EntAt w e) (hb : Below w.heap.size w w') : EntAt w' e := Sl.below h hb
set_option maxRecDepth 100000 in
set_option maxHeartbeats 1000000 in
theorem within_any (w : World) (n m : Int) (r : Bool) (hr : (decide (0 ≤ n) && decide (n ≤ m)) = r) :
    Calls Tryz.prog 138 #[.int .i64 n, .int .i64 m] w fun e w' => e = .returned (.bool r) ∧ w = w' := by
  subst hr
  by_cases h0 : n < 0
  · have h1 : ¬ 0 ≤ n := by omega
    go_enter Tryz.func138, Tryz.ntmps138
    have hf : (decide (0 ≤ n) && decide (n ≤ m)) = false := by rw [decide_eq_false h1, Bool.false_and]
    rw [hf]
    clear hf h1
    go_wp2_with (fail)
    go_ret
    exact ⟨rfl, rfl⟩
  · have h1 : 0 ≤ n := by omega
    clear h0
    by_cases h2 : n ≤ m
    · go_enter Tryz.func138, Tryz.ntmps138
      go_wp2_with (fail)
      go_ret
      exact ⟨by simp [h1, h2], rfl⟩
    · have h3 : m < n := by omega
      go_enter Tryz.func138, Tryz.ntmps138
      go_wp2_with (fail)
      go_ret
      exact ⟨by simp [h1, h2], rfl⟩
def okS (n : Int) : Bool := decide (0 ≤ n) && decide (n ≤ 400)
set_option maxRecDepth 100000 in
set_option maxHeartbeats 1000000 in
theorem odd_any (w : World) (n : Int) (r : Bool) (hr : okS n = !r) :
    Calls Tryz.prog 137 #[.int .i64 n] w fun e w' => e = .returned (.bool r) ∧ w = w' := by
  have HC := Lib.hid (within_any w n 400 _ hr)
  clear hr
  go_enter Tryz.func137, Tryz.ntmps137
  go_wp2_with ((with_reducible refine (HC.out).mono ?_); rintro _ w9 ⟨rfl, hw9⟩; obtain rfl := hw9)
  go_ret
  exact ⟨by simp, rfl⟩
def firstOdd : List Int → Nat → Int
  | [], _ => -1
  | x :: l, i => if okS x = true then firstOdd l (i + 1) else (i : Int)
theorem firstOdd_in : ∀ (l : List Int) (i : Nat), (inSeen l = true → firstOdd l i = -1) ∧ (inSeen l = false → 0 ≤ firstOdd l i)
  | [], i => ⟨fun _ => rfl, fun h => by simp [inSeen] at h⟩
  | x :: l, i => by
    have h := firstOdd_in l (i + 1)
    simp only [firstOdd]
    by_cases hx : okS x = true
    · have e : inSeen (x :: l) = inSeen l := by
        unfold inSeen okS at *
        rw [List.all_cons, hx, Bool.true_and]
      rw [if_pos hx, e]
      exact h
    · have hx' : okS x = false := by simpa using hx
      have e : inSeen (x :: l) = false := by
        unfold inSeen okS at *
        rw [List.all_cons, hx', Bool.false_and]
      rw [if_neg hx, e]
      exact ⟨fun h => (by cases h), fun _ => by omega⟩
theorem drop_at' {l : List Int} {k : Nat} {x : Int} (h : l[k]? = some x) : l.drop k = x :: l.drop (k + 1) := by
  obtain ⟨h1, h2⟩ := List.getElem?_eq_some_iff.1 h
  rw [← h2, List.drop_eq_getElem_cons h1]
set_option maxRecDepth 100000 in
set_option maxHeartbeats 2000000 in
theorem IndexFunc_any (w : World) (A : Option Addr) (n c : Nat) (l : List Int) (hs : Sl w 1 A n (l.map intC)) (hn : n ≤ 1099511627776) (r : Int) (hr : firstOdd l 0 = r) :
    Calls Tryz.prog 179 #[.slice A n c, .func (.func 137) #[] #[]] w fun e w' => e = .returned (.int .i64 r) ∧ w = w' := by
  have hl : l.length = n := by simpa using hs.1
  have HS := Lib.hid hs
  have HL := Lib.hid hl
  have HR := Lib.hid hr
  have HN := Lib.hid hn
  have HO := Lib.hid (fun n r hr => odd_any w n r hr)
  clear hs hl hr hn
  go_enter Tryz.func179, Tryz.ntmps179
  go_wp2_with (fail)
  go_loop [8] (fun i => ∃ k : Nat, k ≤ n ∧ i = .int .i64 (k : Int) ∧ firstOdd (l.drop k) k = r) (fun i => n - (Go.RowKit.intOf i).toNat)
  case atStart => exact ⟨0, Nat.zero_le _, rfl, by rw [List.drop_zero]; exact HR.out⟩
  case round =>
    obtain ⟨k, hk, rfl, hf⟩ := hrel
    have HF := Lib.hid hf
    clear hf
    by_cases hlt : k < n
    · obtain ⟨x, hx⟩ : ∃ x, l[k]? = some x := ⟨_, List.getElem?_eq_getElem (by rw [HL.out]; exact hlt)⟩
      obtain ⟨b, o, rfl, hbl, c0⟩ := HS.out.at1 (k := k) (v := .int .i64 x) (by rw [List.getElem?_map, hx]; rfl)
      have hf := HF.out
      rw [drop_at' hx, firstOdd] at hf
      have hki : (k : Int) < (n : Int) := by omega
      have hk0 : (0 : Int) ≤ (k : Int) := by omega
      have HLT := Lib.hid hlt
      by_cases hok : okS x = true
      · rw [if_pos hok] at hf
        have HC := Lib.hid (HO.out x false (by rw [hok]; rfl))
        have HF2 := Lib.hid hf
        have hwk : IntKind.i64.wrap ((k : Int) + 1) = (k : Int) + 1 := IntWalk.i64_in _ (by have := HN.out; omega)
        clear hx hf hok hlt hk
        go_wp2_with ((with_reducible refine (HC.out).mono ?_); rintro _ w9 ⟨rfl, hw9⟩; obtain rfl := hw9)
        go_round
        case rel => exact ⟨k + 1, HLT.out, by go_num, HF2.out⟩
        case measure => have := HLT.out; simp [Go.RowKit.intOf]; omega
      · rw [if_neg hok] at hf
        have HC := Lib.hid (HO.out x true (by simpa using hok))
        have HF2 := Lib.hid hf
        clear hx hf hok hlt hk
        go_wp2_with ((with_reducible refine (HC.out).mono ?_); rintro _ w9 ⟨rfl, hw9⟩; obtain rfl := hw9)
        go_ret
        exact ⟨by rw [← HF2.out]; rfl, rfl⟩
    · obtain rfl : k = n := by omega
      have hki : (k : Int) ≤ (k : Int) := Int.le_refl _
      have hf := HF.out
      rw [List.drop_eq_nil_of_le (by rw [HL.out]; exact Nat.le_refl _), firstOdd] at hf
      have HF2 := Lib.hid hf
      clear hlt hk hf
      go_wp2_with (fail)
      go_ret
      exact ⟨by rw [← HF2.out]; rfl, rfl⟩
set_option maxRecDepth 100000 in
set_option maxHeartbeats 1000000 in
theorem ContainsFunc_any (w : World) (A : Option Addr) (n c : Nat) (l : List Int) (hs : Sl w 1 A n (l.map intC)) (hn : n ≤ 1099511627776) (r : Bool) (hr : inSeen l = !r) :
    Calls Tryz.prog 139 #[.slice A n c, .func (.func 137) #[] #[]] w fun e w' => e = .returned (.bool r) ∧ w = w' := by
  obtain ⟨i, hi⟩ : ∃ i, firstOdd l 0 = i := ⟨_, rfl⟩
  have HC := Lib.hid (IndexFunc_any w A n c l hs hn i hi)
  have hf := firstOdd_in l 0
  rw [hi, hr] at hf
  clear hs hn hr hi
  cases r
  · have hi : i = -1 := hf.1 rfl
    subst hi
    clear hf
    go_enter Tryz.func139, Tryz.ntmps139
    go_wp2_with ((with_reducible refine (HC.out).mono ?_); rintro _ w9 ⟨rfl, hw9⟩; obtain rfl := hw9)
    go_ret
    exact ⟨rfl, rfl⟩
  · have hi : 0 ≤ i := hf.2 rfl
    clear hf
    go_enter Tryz.func139, Tryz.ntmps139
    go_wp2_with ((with_reducible refine (HC.out).mono ?_); rintro _ w9 ⟨rfl, hw9⟩; obtain rfl := hw9)
    go_ret
    exact ⟨rfl, rfl⟩
end Go.Proofs.YtjncmlglhegnaaaGreatDoor
namespace Go.Proofs.YtjncmlglhegnaaaGreatDoor
open Go.RowKit Go.Sort Go.Lib

set_option maxRecDepth 100000 in
set_option maxHeartbeats 2000000 in
theorem Right_any (w : World) (e : EntC) (he : EntAt w e) (hn : e.v.seen.length ≤ 1099511627776) (hb : e.v.text.length ≤ 140737488351232) (r : Bool) (hr : rightB e.v = r) :
    Calls Tryz.prog 93 #[.agg e.cells.toArray] w fun x w' => x = .returned (.bool r) ∧ Below w.heap.size w w' := by
  obtain ⟨⟨dev, no, day, seen, text⟩, A, c⟩ := e
  simp only [EntC.cells, EntAt] at he hn hb ⊢
  have HB0 := Lib.hid (fun o => (Below.refl w.heap.size w).alloc (Nat.le_refl _) o)
  obtain ⟨b1, h1⟩ : ∃ b1 : Bool, (decide (0 ≤ dev) && decide (dev ≤ 7)) = b1 := ⟨_, rfl⟩
  obtain ⟨b2, h2⟩ : ∃ b2 : Bool, (decide (0 ≤ no) && decide (no ≤ 399)) = b2 := ⟨_, rfl⟩
  obtain ⟨b3, h3⟩ : ∃ b3 : Bool, (decide (0 ≤ day) && decide (day ≤ 100000)) = b3 := ⟨_, rfl⟩
  have H1 := Lib.hid (fun w => within_any w dev 7 b1 h1)
  have H2 := Lib.hid (fun w => within_any w no 399 b2 h2)
  have H3 := Lib.hid (fun w => within_any w day 100000 b3 h3)
  have hr2 : (b1 && b2 && b3 && decide (seen.length = 8) && inSeen seen && decide (seen[dev.toNat]? = some no) && decide (text.length ≤ 4000)) = r := by
    rw [← hr, ← h1, ← h2, ← h3]
    unfold rightB
    simp only [Bool.and_assoc]
  clear hr h2 h3
  have HR := Lib.hid hr2
  clear hr2
  have HS := Lib.hid he
  have HN := Lib.hid hn
  have HT := Lib.hid hb
  cases b1
  · clear h1 he hn hb
    go_enter Tryz.func93, Tryz.ntmps93
    go_wp2_with (first | ((with_reducible refine (H1.out _).mono ?_); rintro _ w9 ⟨rfl, hw9⟩; obtain rfl := hw9))
    go_ret
    exact ⟨by rw [← HR.out]; rfl, HB0.out _⟩
  cases b2
  · clear h1 he hn hb
    go_enter Tryz.func93, Tryz.ntmps93
    go_wp2_with (first | ((with_reducible refine (H1.out _).mono ?_); rintro _ w9 ⟨rfl, hw9⟩; obtain rfl := hw9) | ((with_reducible refine (H2.out _).mono ?_); rintro _ w9 ⟨rfl, hw9⟩; obtain rfl := hw9))
    go_ret
    exact ⟨by rw [← HR.out]; rfl, HB0.out _⟩
  cases b3
  · clear h1 he hn hb
    go_enter Tryz.func93, Tryz.ntmps93
    go_wp2_with (first | ((with_reducible refine (H1.out _).mono ?_); rintro _ w9 ⟨rfl, hw9⟩; obtain rfl := hw9) | ((with_reducible refine (H2.out _).mono ?_); rintro _ w9 ⟨rfl, hw9⟩; obtain rfl := hw9) | ((with_reducible refine (H3.out _).mono ?_); rintro _ w9 ⟨rfl, hw9⟩; obtain rfl := hw9))
    go_ret
    exact ⟨by rw [← HR.out]; rfl, HB0.out _⟩
  by_cases hlen : seen.length = 8
  · obtain ⟨b4, h4⟩ : ∃ b4 : Bool, inSeen seen = b4 := ⟨_, rfl⟩
    have HC := Lib.hid (fun o => ContainsFunc_any (w.alloc o) A seen.length c seen (he.alloc o) hn (!b4) (by rw [h4, Bool.not_not]))
    cases b4
    · have HR2 : Hid (false = r) := Lib.hid (by rw [← HR.out, h4]; simp)
      rw [hlen] at HC ⊢
      clear h1 he hn hb h4 hlen
      go_enter Tryz.func93, Tryz.ntmps93
      go_wp2_with (first | ((with_reducible refine (H1.out _).mono ?_); rintro _ w9 ⟨rfl, hw9⟩; obtain rfl := hw9) | ((with_reducible refine (H2.out _).mono ?_); rintro _ w9 ⟨rfl, hw9⟩; obtain rfl := hw9) | ((with_reducible refine (H3.out _).mono ?_); rintro _ w9 ⟨rfl, hw9⟩; obtain rfl := hw9) | ((with_reducible refine (HC.out _).mono ?_); rintro _ w9 ⟨rfl, hw9⟩; obtain rfl := hw9))
      go_ret
      exact ⟨by rw [← HR2.out]; rfl, HB0.out _⟩
    · have hd : 0 ≤ dev ∧ dev ≤ 7 := by simpa using h1
      obtain ⟨k, rfl⟩ : ∃ k : Nat, dev = (k : Int) := ⟨dev.toNat, by omega⟩
      obtain ⟨x, hx⟩ : ∃ x, seen[k]? = some x := ⟨_, List.getElem?_eq_getElem (by omega)⟩
      obtain ⟨b, o, rfl, hbl, c0⟩ := he.at1 (k := k) (v := .int .i64 x) (by rw [List.getElem?_map, hx]; rfl)
      have HR2 : Hid ((decide (x = no) && decide (text.length ≤ 4000)) = r) := Lib.hid (by rw [← HR.out, h4, Int.toNat_natCast, hx]; simp [hlen])
      rw [hlen] at HC ⊢
      have hk8 : (k : Int) < 8 := by omega
      have hk0 : (0 : Int) ≤ (k : Int) := by omega
      have c1 : ∀ o', (w.alloc o').cell? ⟨b, o + k, none⟩ = some (.int .i64 x) := fun o' => by rw [World.cell?_alloc_lt w o' _ hbl]; exact c0
      have hsz := str_size text
      by_cases hxn : x = no
      · by_cases ht : text.length ≤ 4000
        · have hti : (text.length : Int) ≤ 4000 := by omega
          have HR3 : Hid (true = r) := Lib.hid (by rw [← HR2.out]; simp [hxn, ht])
          subst hxn
          clear h1 he hn hb h4 hlen hx hd ht
          go_enter Tryz.func93, Tryz.ntmps93
          go_wp2_with (first | ((with_reducible refine (H1.out _).mono ?_); rintro _ w9 ⟨rfl, hw9⟩; obtain rfl := hw9) | ((with_reducible refine (H2.out _).mono ?_); rintro _ w9 ⟨rfl, hw9⟩; obtain rfl := hw9) | ((with_reducible refine (H3.out _).mono ?_); rintro _ w9 ⟨rfl, hw9⟩; obtain rfl := hw9) | ((with_reducible refine (HC.out _).mono ?_); rintro _ w9 ⟨rfl, hw9⟩; obtain rfl := hw9))
          go_quiet (fail)
          go_wp2_with (fail)
          go_ret
          exact ⟨by rw [← HR3.out]; rfl, bdrewN (HB0.out _) _⟩
        · have hti : decide ((text.length : Int) ≤ 4000) = false := decide_eq_false (by omega)
          have HR3 : Hid (false = r) := Lib.hid (by rw [← HR2.out]; simp [hxn, ht])
          subst hxn
          clear h1 he hn hb h4 hlen hx hd ht
          go_enter Tryz.func93, Tryz.ntmps93
          go_wp2_with (first | ((with_reducible refine (H1.out _).mono ?_); rintro _ w9 ⟨rfl, hw9⟩; obtain rfl := hw9) | ((with_reducible refine (H2.out _).mono ?_); rintro _ w9 ⟨rfl, hw9⟩; obtain rfl := hw9) | ((with_reducible refine (H3.out _).mono ?_); rintro _ w9 ⟨rfl, hw9⟩; obtain rfl := hw9) | ((with_reducible refine (HC.out _).mono ?_); rintro _ w9 ⟨rfl, hw9⟩; obtain rfl := hw9))
          go_quiet (fail)
          go_wp2_with (fail)
          go_ret
          exact ⟨by rw [← HR3.out, ← hti]; rfl, bdrewN (HB0.out _) _⟩
      · have HR3 : Hid (false = r) := Lib.hid (by rw [← HR2.out]; simp [hxn])
        have hxd : decide (x = no) = false := decide_eq_false hxn
        have hxb : (x == no) = false := by simpa using hxn
        clear h1 he hn hb h4 hlen hx hd
        go_enter Tryz.func93, Tryz.ntmps93
        go_wp2_with (first | ((with_reducible refine (H1.out _).mono ?_); rintro _ w9 ⟨rfl, hw9⟩; obtain rfl := hw9) | ((with_reducible refine (H2.out _).mono ?_); rintro _ w9 ⟨rfl, hw9⟩; obtain rfl := hw9) | ((with_reducible refine (H3.out _).mono ?_); rintro _ w9 ⟨rfl, hw9⟩; obtain rfl := hw9) | ((with_reducible refine (HC.out _).mono ?_); rintro _ w9 ⟨rfl, hw9⟩; obtain rfl := hw9))
        go_quiet (fail)
        go_wp2_with (fail)
        go_ret
        exact ⟨by rw [← HR3.out]; rfl, bdrewN (HB0.out _) _⟩
  · have hni : ¬ ((seen.length : Int) = 8) := by omega
    have hnb : ((seen.length : Int) == 8) = false := by simpa using hni
    have HR2 : Hid (false = r) := Lib.hid (by rw [← HR.out]; simp [hlen])
    clear h1 he hn hb hlen
    go_enter Tryz.func93, Tryz.ntmps93
    go_wp2_with (first | ((with_reducible refine (H1.out _).mono ?_); rintro _ w9 ⟨rfl, hw9⟩; obtain rfl := hw9) | ((with_reducible refine (H2.out _).mono ?_); rintro _ w9 ⟨rfl, hw9⟩; obtain rfl := hw9) | ((with_reducible refine (H3.out _).mono ?_); rintro _ w9 ⟨rfl, hw9⟩; obtain rfl := hw9))
    go_ret
    exact ⟨by rw [← HR2.out]; rfl, HB0.out _⟩
end Go.Proofs.YtjncmlglhegnaaaGreatDoor
namespace Go.Proofs.YtjncmlglhegnaaaGreatDoor
open Go.RowKit Go.Sort Go.Lib

theorem Sl.ints {w : World} {A : Option Addr} {n : Nat} {l : List Int} (h : Sl w 1 A n (l.map intC)) : l.length = n ∧ (n = 0 ∨ ∃ b o, A = some ⟨b, o, none⟩ ∧ b < w.heap.size ∧ ∀ j, j < l.length → w.cell? ⟨b, o + j, none⟩ = some (.int .i64 (l.getD j 0))) := by
  have hl : l.length = n := by simpa using h.1
  refine ⟨hl, ?_⟩
  rcases Nat.eq_zero_or_pos n with h0 | h0
  · exact .inl h0
  · refine .inr ?_
    have at_ : ∀ j, j < l.length → ∃ b o, A = some ⟨b, o, none⟩ ∧ b < w.heap.size ∧ w.cell? ⟨b, o + j, none⟩ = some (.int .i64 (l.getD j 0)) := fun j hj =>
      h.at1 (k := j) (v := .int .i64 (l.getD j 0)) (by rw [List.getElem?_map, List.getElem?_eq_getElem hj, List.getD_eq_getElem?_getD, List.getElem?_eq_getElem hj]; rfl)
    obtain ⟨b, o, hA, hb, _⟩ := at_ 0 (by omega)
    refine ⟨b, o, hA, hb, fun j hj => ?_⟩
    obtain ⟨b', o', hA', hb', hc⟩ := at_ j hj
    rw [hA] at hA'
    injection hA' with hA'
    injection hA' with e1 e2
    rw [e1, e2]
    exact hc
end Go.Proofs.YtjncmlglhegnaaaGreatDoor
namespace Go.Proofs.YtjncmlglhegnaaaGreatDoor
open Go.RowKit Go.Sort Go.Lib

theorem lessSome_drop {l m : List Int} {k : Nat} {x y : Int} (hx : l[k]? = some x) (hy : m[k]? = some y) : lessSome (l.drop k) (m.drop k) = (decide (y < x) || lessSome (l.drop (k + 1)) (m.drop (k + 1))) := by
  rw [drop_at' hx, drop_at' hy]
  rfl
set_option maxRecDepth 100000 in
set_option maxHeartbeats 2000000 in
theorem follows_any (w : World) (a b : EntC) (ha : EntAt w a) (hb : EntAt w b) (hn : a.v.seen.length = 8) (hm : b.v.seen.length = 8) (r : Int) (hr : followsF a.v b.v = r) :
    Calls Tryz.prog 109 #[.agg a.cells.toArray, .agg b.cells.toArray] w fun x w' => x = .returned (.int .i64 r) ∧ Below w.heap.size w w' := by
  obtain ⟨⟨d1, n1, y1, l1, t1⟩, A1, c1⟩ := a
  obtain ⟨⟨d2, n2, y2, l2, t2⟩, A2, c2⟩ := b
  simp only [EntC.cells, EntAt, followsF] at ha hb hn hm hr ⊢
  rw [hn, hm]
  have HB := Lib.hid (fun o o' => ((Below.refl w.heap.size w).alloc (Nat.le_refl _) o).alloc (by simp) o')
  by_cases hd : y2 < y1
  · rw [if_pos hd] at hr
    have HR := Lib.hid hr
    clear hr ha hb hn hm
    go_enter Tryz.func109, Tryz.ntmps109
    go_wp2_with (fail)
    go_ret
    exact ⟨by rw [← HR.out]; rfl, HB.out _ _⟩
  · have hd' : y1 ≤ y2 := by omega
    rw [if_neg hd] at hr
    have HR := Lib.hid hr
    have HA := Lib.hid ha
    have HB2 := Lib.hid hb
    have H1 := Lib.hid hn
    have H2 := Lib.hid hm
    clear hr ha hb hn hm hd
    go_enter Tryz.func109, Tryz.ntmps109
    go_wp2_with (fail)
    go_loop [15] (fun i => ∃ k : Nat, k ≤ 8 ∧ i = .int .i64 (k : Int) ∧ lessSome (l1.drop k) (l2.drop k) = lessSome l1 l2) (fun i => 8 - (Go.RowKit.intOf i).toNat)
    case atStart => exact ⟨0, Nat.zero_le _, rfl, rfl⟩
    case round =>
      obtain ⟨k, hk, rfl, hf⟩ := hrel
      have HF := Lib.hid hf
      clear hf
      by_cases hlt : k < 8
      · obtain ⟨x, hx⟩ : ∃ x, l1[k]? = some x := ⟨_, List.getElem?_eq_getElem (by have := H1.out; omega)⟩
        obtain ⟨y, hy⟩ : ∃ x, l2[k]? = some x := ⟨_, List.getElem?_eq_getElem (by have := H2.out; omega)⟩
        obtain ⟨b1, o1, rfl, hb1, e1⟩ := HA.out.at1 (k := k) (v := .int .i64 x) (by rw [List.getElem?_map, hx]; rfl)
        obtain ⟨b2, o2, rfl, hb2, e2⟩ := HB2.out.at1 (k := k) (v := .int .i64 y) (by rw [List.getElem?_map, hy]; rfl)
        have f1 : ∀ o o', ((w.alloc o).alloc o').cell? ⟨b1, o1 + k, none⟩ = some (.int .i64 x) := fun o o' => by
          rw [World.cell?_alloc_lt (w.alloc o) o' _ (by simp; omega), World.cell?_alloc_lt w o _ hb1]
          exact e1
        have f2 : ∀ o o', ((w.alloc o).alloc o').cell? ⟨b2, o2 + k, none⟩ = some (.int .i64 y) := fun o o' => by
          rw [World.cell?_alloc_lt (w.alloc o) o' _ (by simp; omega), World.cell?_alloc_lt w o _ hb2]
          exact e2
        have hki : (k : Int) < 8 := by omega
        have hk0 : (0 : Int) ≤ (k : Int) := by omega
        have HLT := Lib.hid hlt
        have hf := HF.out
        rw [lessSome_drop hx hy] at hf
        by_cases hxy : y < x
        · rw [decide_eq_true hxy, Bool.true_or] at hf
          have HF2 : Hid (7 = r) := Lib.hid (by rw [← HR.out, ← hf]; rfl)
          clear hlt hk hx hy hf e1 e2 hb1 hb2
          go_wp2_with (fail)
          go_ret
          exact ⟨by rw [← HF2.out]; rfl, HB.out _ _⟩
        · rw [decide_eq_false hxy, Bool.false_or] at hf
          have hxy' : x ≤ y := by omega
          have HF2 := Lib.hid hf
          have hwk : IntKind.i64.wrap ((k : Int) + 1) = (k : Int) + 1 := IntWalk.i64_in _ (by omega)
          clear hlt hk hx hy hf hxy e1 e2 hb1 hb2
          go_wp2_with (fail)
          go_round
          case rel => exact ⟨k + 1, HLT.out, by go_num, HF2.out⟩
          case measure => have := HLT.out; simp [Go.RowKit.intOf]; omega
      · obtain rfl : k = 8 := by omega
        have hf := HF.out
        rw [List.drop_eq_nil_of_le (by rw [H1.out]; exact Nat.le_refl _)] at hf
        have HF2 : Hid (0 = r) := Lib.hid (by rw [← HR.out, ← hf]; rfl)
        clear hlt hk hf
        go_wp2_with (fail)
        go_ret
        exact ⟨by rw [← HF2.out]; rfl, HB.out _ _⟩
end Go.Proofs.YtjncmlglhegnaaaGreatDoor
namespace Go.Proofs.YtjncmlglhegnaaaGreatDoor
open Go.RowKit Go.Sort Go.Lib

theorem ent_at {w : World} {A : Option Addr} {n k : Nat} {l : List EntC} {v : EntC} (h : Sl w 5 A n (l.map EntC.cells)) (hx : l[k]? = some v) : ∃ b o, A = some ⟨b, o, none⟩ ∧ b < w.heap.size ∧
    w.cell? ⟨b, o + k * 5, none⟩ = some (.int .i64 v.v.dev) ∧ w.cell? ⟨b, o + k * 5 + 1, none⟩ = some (.int .i64 v.v.no) ∧ w.cell? ⟨b, o + k * 5 + 2, none⟩ = some (.int .i64 v.v.day) ∧ w.cell? ⟨b, o + k * 5 + 3, none⟩ = some (.slice v.A v.v.seen.length v.c) ∧ w.cell? ⟨b, o + k * 5 + 4, none⟩ = some (.string ⟨v.v.text.toArray⟩) := by
  obtain ⟨b, o, hA, hb, hc⟩ := h.2 k v.cells (by rw [List.getElem?_map, hx]; rfl)
  exact ⟨b, o, hA, hb, hc 0 _ rfl, hc 1 _ rfl, hc 2 _ rfl, hc 3 _ rfl, hc 4 _ rfl⟩
theorem ent_is {w w' : World} {A : Option Addr} {n k b o : Nat} {l : List EntC} {v : EntC} (h : Sl w 5 A n (l.map EntC.cells)) (hx : l[k]? = some v) (hA : A = some ⟨b, o, none⟩) (hb : Below w.heap.size w w') : b < w'.heap.size ∧
    w'.cell? ⟨b, o + k * 5, none⟩ = some (.int .i64 v.v.dev) ∧ w'.cell? ⟨b, o + k * 5 + 1, none⟩ = some (.int .i64 v.v.no) ∧ w'.cell? ⟨b, o + k * 5 + 2, none⟩ = some (.int .i64 v.v.day) ∧ w'.cell? ⟨b, o + k * 5 + 3, none⟩ = some (.slice v.A v.v.seen.length v.c) ∧ w'.cell? ⟨b, o + k * 5 + 4, none⟩ = some (.string ⟨v.v.text.toArray⟩) := by
  obtain ⟨b2, o2, hA2, hb2, hc⟩ := ent_at (h.below hb) hx
  rw [hA] at hA2
  injection hA2 with hA2
  injection hA2 with h1 h2
  subst h1 h2
  exact ⟨hb2, hc⟩
/-- a list of entries in memory -/
structure ChAt (w : World) (A : Option Addr) (n : Nat) (l : List EntC) : Prop where
  sl : Sl w 5 A n (l.map EntC.cells)
  at_ : ∀ e ∈ l, EntAt w e
  len : ∀ e ∈ l, e.v.seen.length ≤ 1099511627776 ∧ e.v.text.length ≤ 140737488351232
theorem ChAt.below {w w' : World} {A : Option Addr} {n : Nat} {l : List EntC} (h : ChAt w A n l) (hb : Below w.heap.size w w') : ChAt w' A n l := ⟨h.sl.below hb, fun e he => (h.at_ e he).below hb, h.len⟩
def vsOf (l : List EntC) : List EntV := l.map (·.v)
theorem vsOf_at {l : List EntC} {k : Nat} {e : EntC} (h : l[k]? = some e) : (vsOf l)[k]? = some e.v := by unfold vsOf; rw [List.getElem?_map, h]; rfl
theorem vsOf_len (l : List EntC) : (vsOf l).length = l.length := by unfold vsOf; exact List.length_map ..
theorem scanE_step {f : Nat → Int} {k i : Nat} {r : Int} (h : scanE f (k + 1) i = r) : (f i = 0 ∧ scanE f k (i + 1) = r) ∨ (f i ≠ 0 ∧ f i = r) := by
  simp only [scanE] at h
  by_cases h0 : f i = 0
  · rw [if_pos h0] at h; exact .inl ⟨h0, h⟩
  · rw [if_neg h0] at h; exact .inr ⟨h0, h⟩
theorem errAt_arg {l : List EntV} {k : Nat} {x : EntV} (hx : l[k]? = some x) (hr : rightB x = false) : errAt l k = 1 := by
  unfold errAt
  rw [hx]
  simp only [hr, Bool.false_eq_true, if_false]
theorem errAt_is {l : List EntV} {k : Nat} {x e : EntV} (hx : l[k]? = some x) (hr : rightB x = true) (h0 : l[0]? = some e) : errAt l k = if e.dev = x.dev then (if (k : Int) < x.no then 23 else if x.no < (k : Int) then 5 else (match k with | 0 => 0 | j + 1 => match l[j]? with | none => 0 | some p => followsF p x)) else 21 := by
  have hh : l.head?.map (·.dev) = some e.dev := by
    cases l with
    | nil => simp at h0
    | cons a t => simp at h0; subst h0; rfl
  unfold errAt
  rw [hx, hh]
  simp only [hr, if_true, Option.some.injEq]
  cases k <;> rfl
theorem errAt_owner {l : List EntV} {k : Nat} {x e : EntV} (hx : l[k]? = some x) (hr : rightB x = true) (h0 : l[0]? = some e) (h : e.dev ≠ x.dev) : errAt l k = 21 := by
  rw [errAt_is hx hr h0, if_neg h]
theorem errAt_gap {l : List EntV} {k : Nat} {x e : EntV} (hx : l[k]? = some x) (hr : rightB x = true) (h0 : l[0]? = some e) (h : e.dev = x.dev) (h1 : (k : Int) < x.no) : errAt l k = 23 := by
  rw [errAt_is hx hr h0, if_pos h, if_pos h1]
theorem errAt_twice {l : List EntV} {k : Nat} {x e : EntV} (hx : l[k]? = some x) (hr : rightB x = true) (h0 : l[0]? = some e) (h : e.dev = x.dev) (h1 : x.no < (k : Int)) : errAt l k = 5 := by
  rw [errAt_is hx hr h0, if_pos h, if_neg (by omega), if_pos h1]
theorem errAt_first {l : List EntV} {x e : EntV} (hx : l[0]? = some x) (hr : rightB x = true) (h0 : l[0]? = some e) (h : e.dev = x.dev) (h1 : x.no = 0) : errAt l 0 = 0 := by
  rw [errAt_is hx hr h0, if_pos h, if_neg (by omega), if_neg (by omega)]
theorem errAt_next {l : List EntV} {m : Nat} {x e p : EntV} (hx : l[m + 1]? = some x) (hr : rightB x = true) (h0 : l[0]? = some e) (h : e.dev = x.dev) (h1 : x.no = ((m + 1 : Nat) : Int)) (hp : l[m]? = some p) : errAt l (m + 1) = followsF p x := by
  rw [errAt_is hx hr h0, if_pos h, if_neg (by omega), if_neg (by omega)]
  simp only [hp]
theorem errAt_right {l : List EntV} {k : Nat} {x : EntV} (hx : l[k]? = some x) (h : errAt l k = 0) : RightE x := ((errAt_zero hx).1 h).right
/-- the first entries have no error -/
def FirstOk (l : List EntV) (k : Nat) : Prop := ∀ j, j < k → errAt l j = 0
theorem FirstOk.next {l : List EntV} {k : Nat} (h : FirstOk l k) (h1 : errAt l k = 0) : FirstOk l (k + 1) := fun j hj => by
  rcases Nat.lt_or_ge j k with h2 | h2
  · exact h j h2
  · obtain rfl : j = k := by omega
    exact h1
set_option maxRecDepth 100000 in
set_option maxHeartbeats 8000000 in
theorem Check_any (w : World) (A : Option Addr) (n c : Nat) (l : List EntC) (hs : ChAt w A n l) (r : Int) (hr : checkF (vsOf l) = r) :
    Calls Tryz.prog 65 #[.slice A n c] w fun x w' => x = .returned (.int .i64 r) ∧ Below w.heap.size w w' := by
  have hll : l.length = n := by simpa using hs.sl.1
  have hr2 := hr
  unfold checkF at hr2
  rw [vsOf_len, hll] at hr2
  by_cases hn : 400 < n
  · rw [if_pos hn] at hr2
    have hni : 400 < (n : Int) := by omega
    clear hs hr hn
    have HR := Lib.hid hr2
    clear hr2
    go_enter Tryz.func65, Tryz.ntmps65
    go_wp2_with (fail)
    go_ret
    exact ⟨by rw [← HR.out]; rfl, Below.refl _ _⟩
  rw [if_neg hn] at hr2
  have hni : (n : Int) ≤ 400 := by omega
  have HN := Lib.hid hni
  have HL := Lib.hid hll
  have HS := Lib.hid hs
  have HR := Lib.hid hr2
  clear hll hr hr2 hs hn
  go_enter Tryz.func65, Tryz.ntmps65
  go_wp2_with (fail)
  go_loopw [11] (fun iv wr => ∃ k : Nat, k ≤ n ∧ iv = .int .i64 (k : Int) ∧ Below w.heap.size w wr ∧ FirstOk (vsOf l) k ∧ scanE (errAt (vsOf l)) (n - k) k = r) (fun i _ => n - (Go.RowKit.intOf i).toNat)
  case atStart => exact ⟨0, Nat.zero_le _, rfl, Below.refl _ _, fun j hj => absurd hj (Nat.not_lt_zero _), HR.out⟩
  case round =>
    obtain ⟨k, hk, rfl, hb, hz, hf⟩ := hrel
    obtain ⟨wo, rfl⟩ : ∃ wo : World, wo = wr := ⟨_, rfl⟩
    have HB := Lib.hid hb
    have HZ := Lib.hid hz
    have HF := Lib.hid hf
    clear hb hf hz
    by_cases hlt : k < n
    · obtain ⟨x, hx⟩ : ∃ v, l[k]? = some v := ⟨_, List.getElem?_eq_getElem (by rw [HL.out]; exact hlt)⟩
      obtain ⟨e0, h0⟩ : ∃ v, l[0]? = some v := ⟨_, List.getElem?_eq_getElem (by rw [HL.out]; omega)⟩
      have HO := Lib.hid (HS.out.below HB.out)
      obtain ⟨b, o, rfl, hbl, c0, c1, c2, c3, c4⟩ := ent_at HO.out.sl hx
      have hki : (k : Int) < (n : Int) := by omega
      have hk0 : (0 : Int) ≤ (k : Int) := by omega
      have HX := Lib.hid hx
      have H0 := Lib.hid h0
      have HLT := Lib.hid hlt
      have hf := HF.out
      rw [show n - k = (n - (k + 1)) + 1 by omega] at hf
      have HW := Lib.hid (scanE_step hf)
      obtain ⟨br, hbr⟩ : ∃ br, rightB x.v = br := ⟨_, rfl⟩
      have HC := Lib.hid (fun W (hb : Below wo.heap.size wo W) => Right_any W x ((HO.out.at_ x (List.mem_of_getElem? HX.out)).below hb) (HO.out.len x (List.mem_of_getElem? HX.out)).1 (HO.out.len x (List.mem_of_getElem? HX.out)).2 br hbr)
      have HBR := Lib.hid hbr
      obtain ⟨⟨dev, no, day, seen, text⟩, Ax, cx⟩ := x
      simp only [EntC.cells] at HC c0 c1 c2 c3 c4
      simp only at hbr
      clear h0 hf hlt hk HF
      go_wp2_with (fail)
      ((with_reducible refine (HC.out _ ((Below.refl wo.heap.size wo).alloc (Nat.le_refl _) _)).mono ?_); rintro _ w1 ⟨rfl, hb1⟩)
      obtain ⟨hX, hbT⟩ := locs1 hb1
      have X := Lib.hid hX
      clear hX
      replace HB := Lib.hid (HB.out.trans (hbT.mono HB.out.size))
      replace HO := Lib.hid (HO.out.below hbT)
      clear hbT hb1 
      have HBL := Lib.hid (Below.refl w1.heap.size w1)
      clear c0 c1 c2 c3 c4 hbl
      cases br
      · have e1 := errAt_arg (vsOf_at hx) hbr
        have HF2 : Hid (1 = r) := Lib.hid (by rcases HW.out with ⟨h, _⟩ | ⟨_, h⟩ <;> omega)
        clear hx hbr e1
        go_wp2_with (fail)
        go_ret
        exact ⟨by rw [← HF2.out]; rfl, HB.out⟩
      obtain ⟨hbl, d0, d1, d2, d3, d4⟩ := ent_is HO.out.sl H0.out rfl HBL.out
      rw [Nat.zero_mul, Nat.add_zero] at d0
      by_cases hd : e0.v.dev = dev
      case neg =>
        have e1 := errAt_owner (vsOf_at hx) hbr (vsOf_at H0.out) hd
        have HF2 : Hid (21 = r) := Lib.hid (by rcases HW.out with ⟨h, _⟩ | ⟨_, h⟩ <;> omega)
        have hdb : (dev == e0.v.dev) = false := by rw [beq_eq_false_iff_ne]; exact fun h => hd h.symm
        have hdn : ¬ dev = e0.v.dev := fun h => hd h.symm
        clear hx hbr e1 hd d1 d2 d3 d4
        obtain ⟨zX, kX, fX⟩ := X.out
        go_wp2_with (fail)
        go_quiet (fail)
        go_wp2_with (fail)
        go_ret
        exact ⟨by rw [← HF2.out]; rfl, bdrewN HB.out _⟩
      by_cases hg : (k : Int) < no
      · have e1 := errAt_gap (vsOf_at hx) hbr (vsOf_at H0.out) hd hg
        have HF2 : Hid (23 = r) := Lib.hid (by rcases HW.out with ⟨h, _⟩ | ⟨_, h⟩ <;> omega)
        rw [hd] at d0
        clear hx hbr e1 hd d1 d2 d3 d4
        obtain ⟨zX, kX, fX⟩ := X.out
        go_wp2_with (fail)
        go_quiet (fail)
        go_wp2_with (fail)
        go_ret
        exact ⟨by rw [← HF2.out]; rfl, bdrewN HB.out _⟩
      have hg1 : no ≤ (k : Int) := by omega
      by_cases ht : no < (k : Int)
      · have e1 := errAt_twice (vsOf_at hx) hbr (vsOf_at H0.out) hd ht
        have HF2 : Hid (5 = r) := Lib.hid (by rcases HW.out with ⟨h, _⟩ | ⟨_, h⟩ <;> omega)
        rw [hd] at d0
        clear hx hbr e1 hd d1 d2 d3 d4 hg
        obtain ⟨zX, kX, fX⟩ := X.out
        go_wp2_with (fail)
        go_quiet (fail)
        go_wp2_with (fail)
        go_ret
        exact ⟨by rw [← HF2.out]; rfl, bdrewN HB.out _⟩
      obtain rfl : no = (k : Int) := by omega
      have hwk : IntKind.i64.wrap ((k : Int) + 1) = (k : Int) + 1 := IntWalk.i64_in _ (by have := HN.out; omega)
      by_cases hz : k = 0
      · have e1 : errAt (vsOf l) k = 0 := by subst hz; exact errAt_first (vsOf_at hx) hbr (vsOf_at H0.out) hd rfl
        have HF2 : Hid (scanE (errAt (vsOf l)) (n - (k + 1)) (k + 1) = r) := Lib.hid (by rcases HW.out with ⟨_, h⟩ | ⟨h, _⟩ <;> first | exact h | exact absurd e1 h)
        have HE1 := Lib.hid e1
        have hz2 : (k : Int) ≤ 0 := by omega
        rw [hd] at d0
        clear hx hbr e1 hd d1 d2 d3 d4 hg hz ht
        obtain ⟨zX, kX, fX⟩ := X.out
        go_wp2_with (fail)
        go_quiet (fail)
        go_wp2_with (fail)
        go_roundw
        case rel => exact ⟨k + 1, HLT.out, by go_num, bdrewN HB.out _, HZ.out.next HE1.out, HF2.out⟩
        case measure => have := HLT.out; simp [Go.RowKit.intOf]; omega
      obtain ⟨m, hm⟩ : ∃ m, k = m + 1 := ⟨k - 1, by omega⟩
      obtain ⟨p, hp⟩ : ∃ v, l[m]? = some v := ⟨_, List.getElem?_eq_getElem (by have := HLT.out; rw [HL.out]; omega)⟩
      have hpr : RightE p.v := errAt_right (vsOf_at hp) (HZ.out m (by omega))
      have hxr : RightE ⟨dev, (k : Int), day, seen, text⟩ := rightB_true.1 hbr
      have e1 : errAt (vsOf l) k = followsF p.v ⟨dev, (k : Int), day, seen, text⟩ := by
        subst hm
        exact errAt_next (vsOf_at hx) hbr (vsOf_at H0.out) hd rfl (vsOf_at hp)
      obtain ⟨ff, hff⟩ : ∃ ff, followsF p.v ⟨dev, (k : Int), day, seen, text⟩ = ff := ⟨_, rfl⟩
      rw [hff] at e1
      have HFO := Lib.hid (fun W (hb : Below w1.heap.size w1 W) => follows_any W p ⟨⟨dev, (k : Int), day, seen, text⟩, Ax, cx⟩ ((HO.out.at_ p (List.mem_of_getElem? hp)).below hb) ((HO.out.at_ _ (List.mem_of_getElem? hx)).below hb) hpr.len hxr.len ff hff)
      obtain ⟨_, p0, p1, p2, p3, p4⟩ := ent_is HO.out.sl hp rfl HBL.out
      have HP := Lib.hid (fun q => ent_is HO.out.sl hp rfl (bdrewN HBL.out q))
      simp only [EntC.cells] at HFO
      have hwm : IntKind.i64.wrap ((k : Int) - 1) = (m : Int) := by rw [IntWalk.i64_in _ (by have := HN.out; have := HLT.out; omega)]; omega
      have hkz : 0 < (k : Int) := by omega
      have hmn : (m : Int) < (n : Int) := by have := HLT.out; omega
      have hm0 : (0 : Int) ≤ (m : Int) := by omega
      have HM := Lib.hid hm
      have HE1 := Lib.hid e1
      rw [hd] at d0
      clear hx hbr e1 hd d1 d2 d3 d4 hg hz ht hm hp hpr hxr hff
      obtain ⟨zX, kX, fX⟩ := X.out
      go_wp2_with (fail)
      go_quiet (fail)
      have HBq := Lib.hid (bdrewN HBL.out nq)
      have HBr := Lib.hid (bdrewN HB.out nq)
      have XQ := Lib.hid (X.out.drewN nq)
      clear zX kX fX p0 p1 p2 p3 p4 hbl d0
      obtain ⟨hbl, p0, p1, p2, p3, p4⟩ := HP.out nq
      generalize w1.drewN nq = W1 at *
      obtain ⟨zXQ, kXQ, fXQ⟩ := XQ.out
      go_wp2_with (fail)
      go_region_with ((with_reducible refine (HFO.out _ ?hs1).mono ?_); (case hs1 => first | exact HBq.out | exact HBq.out.drew); rintro _ w2 ⟨rfl, hb2⟩)
      all_goals
        have HB2 := Lib.hid (HBr.out.trans ((Below.trans (Below.refl W1.heap.size W1).drew (by assumption)).mono HBr.out.size))
        clear zXQ kXQ fXQ p0 p1 p2 p3 p4 hbl hb2
        by_cases hf0 : ff = 0
        · have e1 := HE1.out
          rw [hf0] at e1
          have HF2 : Hid (scanE (errAt (vsOf l)) (n - (k + 1)) (k + 1) = r) := Lib.hid (by rcases HW.out with ⟨_, h⟩ | ⟨h, _⟩ <;> first | exact h | exact absurd e1 h)
          have HE2 := Lib.hid e1
          subst hf0
          clear e1
          go_wp2_with (fail)
          go_roundw
          case rel => exact ⟨k + 1, HLT.out, by go_num, HB2.out, HZ.out.next HE2.out, HF2.out⟩
          case measure => have := HLT.out; simp [Go.RowKit.intOf]; omega
        · have HF2 : Hid (ff = r) := Lib.hid (by rcases HW.out with ⟨h, _⟩ | ⟨_, h⟩; · exact absurd (HE1.out.symm.trans h) hf0
                                                 · exact HE1.out.symm.trans h)
          have hfb : (ff == 0) = false := by simpa using hf0
          go_wp2_with (fail)
          go_ret
          exact ⟨by rw [← HF2.out]; rfl, HB2.out⟩
    · obtain rfl : k = n := by omega
      have hki : (k : Int) ≤ (k : Int) := Int.le_refl _
      have hf := HF.out
      rw [Nat.sub_self] at hf
      have HF2 : Hid (0 = r) := Lib.hid hf
      clear hlt hk hf
      go_wp2_with (fail)
      go_ret
      exact ⟨by rw [← HF2.out]; rfl, HB.out⟩
end Go.Proofs.YtjncmlglhegnaaaGreatDoor
namespace Go.Proofs.YtjncmlglhegnaaaGreatDoor
open Go.RowKit Go.Sort Go.Lib

end Go.Proofs.YtjncmlglhegnaaaGreatDoor
