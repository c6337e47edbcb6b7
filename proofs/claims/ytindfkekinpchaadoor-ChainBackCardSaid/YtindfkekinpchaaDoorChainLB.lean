/- kerbsidelaw46: ChainBack, walked (under way). -/
import Derived.Test.YtindfkekinpchaaDoorChainLA
namespace Go.Proofs.YtindfkekinpchaaDoor
open Go.RowKit Go.Sort Go.Lib

set_option maxRecDepth 100000 in
set_option maxHeartbeats 16000000 in
theorem back_any (w : World) (hE : Env w.heap.size w) (e : EntC) (he : EntAt w e) (s : List UInt8) (hs : s.length ≤ maxLen) :
    Calls Tryd.prog 3 #[.agg e.cells.toArray, .string ⟨s.toArray⟩] w fun x w' => x = .returned (.bool true) ∧ Below w.heap.size w w' := by
  have HSA := Lib.hid (fun W (hb : Below w.heap.size w W) => sane_any W ((hE.below hb).up hb.size))
  have HE := Lib.hid (fun W (hb : Below w.heap.size w W) => (hE.below hb).up hb.size)
  have HAT := Lib.hid (fun W (hb : Below w.heap.size w W) => he.below hb)
  obtain ⟨p, hp⟩ : ∃ p, plainB e.v = p := ⟨_, rfl⟩
  have HP := Lib.hid (fun W => Plain_any W e p hp)
  have HB := Lib.hid (Below.refl w.heap.size w)
  have hsz := str_size s
  have HPV := Lib.hid hp
  obtain ⟨⟨dev, no, day, seen, text⟩, A, c⟩ := e
  simp only [EntC.cells] at HP ⊢
  clear hE he hp
  cases p
  · clear hs
    go_enter Tryd.func3, Tryd.ntmps3
    go_wp2_with (fail)
    ((with_reducible refine (HSA.out _ (HB.out.alloc (Nat.le_refl _) _)).mono ?_); rintro _ w1 ⟨rfl, hb1⟩)
    obtain ⟨hX, hbT⟩ := locs1 hb1
    have X := Lib.hid hX
    clear hX
    replace HB := Lib.hid (HB.out.trans (hbT.mono HB.out.size))
    clear hbT hb1 
    obtain ⟨zX, kX, fX⟩ := X.out
    go_wp2_with (fail)
    ((with_reducible refine (HP.out _).mono ?_); rintro _ w2 ⟨rfl, hb2⟩)
    have hbT := hb2
    replace HB := Lib.hid (HB.out.trans (hbT.mono HB.out.size))
    replace X := Lib.hid (X.out.below hbT)
    clear hbT hb2 zX kX fX
    go_wp2_with (fail)
    go_ret
    exact ⟨rfl, HB.out⟩
  by_cases h5 : 500 < (s.length : Int)
  · clear hs
    go_enter Tryd.func3, Tryd.ntmps3
    go_wp2_with (fail)
    ((with_reducible refine (HSA.out _ (HB.out.alloc (Nat.le_refl _) _)).mono ?_); rintro _ w1 ⟨rfl, hb1⟩)
    obtain ⟨hX, hbT⟩ := locs1 hb1
    have X := Lib.hid hX
    clear hX
    replace HB := Lib.hid (HB.out.trans (hbT.mono HB.out.size))
    clear hbT hb1 
    obtain ⟨zX, kX, fX⟩ := X.out
    go_wp2_with (fail)
    ((with_reducible refine (HP.out _).mono ?_); rintro _ w2 ⟨rfl, hb2⟩)
    have hbT := hb2
    replace HB := Lib.hid (HB.out.trans (hbT.mono HB.out.size))
    replace X := Lib.hid (X.out.below hbT)
    clear hbT hb2 zX kX fX
    go_wp2_with (fail)
    go_ret
    exact ⟨rfl, HB.out⟩
  have h5' : (s.length : Int) ≤ 500 := by omega
  clear h5 hs
  go_enter Tryd.func3, Tryd.ntmps3
  go_wp2_with (fail)
  ((with_reducible refine (HSA.out _ (HB.out.alloc (Nat.le_refl _) _)).mono ?_); rintro _ w1 ⟨rfl, hb1⟩)
  obtain ⟨hX, hbT⟩ := locs1 hb1
  have X := Lib.hid hX
  clear hX
  replace HB := Lib.hid (HB.out.trans (hbT.mono HB.out.size))
  clear hbT hb1 
  obtain ⟨zX, kX, fX⟩ := X.out
  go_wp2_with (fail)
  ((with_reducible refine (HP.out _).mono ?_); rintro _ w2 ⟨rfl, hb2⟩)
  have hbT := hb2
  replace HB := Lib.hid (HB.out.trans (hbT.mono HB.out.size))
  replace X := Lib.hid (X.out.below hbT)
  clear hbT hb2 zX kX fX
  obtain ⟨zX, kX, fX⟩ := X.out
  obtain ⟨⟨t, ok⟩, hen⟩ : ∃ t, encodeF ⟨dev, no, day, seen, text⟩ = t := ⟨_, rfl⟩
  have hpl := HPV.out
  unfold plainB at hpl
  simp only [Bool.and_eq_true, Bool.or_eq_true, decide_eq_true_eq] at hpl
  have ht : t.length ≤ 100000 ∧ (ok = true → decodeF t = (⟨dev, no, day, seen, text⟩, true)) ∧ rightB ⟨dev, no, day, seen, text⟩ = ok ∧ (ok = false → t = []) := by
    unfold encodeF at hen
    split at hen
    · rename_i hr
      injection hen with h1 h2
      subst h1 h2
      exact ⟨encE_len (rightB_true.1 hr) (by show text.length ≤ _; omega), fun _ => decodeF_enc hr, hr, fun h => by cases h⟩
    · rename_i hr
      injection hen with h1 h2
      subst h1 h2
      exact ⟨by simp, (fun h => by cases h), (by simpa using hr), fun _ => rfl⟩
  have HEN := Lib.hid (fun W (hb : Below w.heap.size w W) => Encode_any W (HE.out W hb) (Nat.le_refl _) ⟨⟨dev, no, day, seen, text⟩, A, c⟩ (HAT.out W hb) ⟨by show seen.length ≤ _; omega, by show text.length ≤ _; omega⟩ (t, ok) hen)
  have HRI := Lib.hid (fun W (hb : Below w.heap.size w W) => Right_any W ⟨⟨dev, no, day, seen, text⟩, A, c⟩ (HAT.out W hb) (by show seen.length ≤ _; omega) (by show text.length ≤ _; omega) ok ht.2.2.1)
  obtain ⟨⟨y, is⟩, hde⟩ : ∃ v, decodeF t = v := ⟨_, rfl⟩
  have HDE := Lib.hid (fun W (hb : Below w.heap.size w W) => Decode_any W (HE.out W hb) t ht.1 (y, is) hde)
  simp only [EntC.cells] at HEN HRI
  have HTT := Lib.hid ht
  have HLN : Hid (seen.length ≤ 12) := Lib.hid hpl.1
  obtain ⟨⟨v2, can⟩, hd2⟩ : ∃ v, decodeF s = v := ⟨_, rfl⟩
  have HD2 := Lib.hid (fun W (hb : Below w.heap.size w W) => Decode_any W (HE.out W hb) s (by omega) (v2, can) hd2)
  have HV2 := Lib.hid hd2
  have HDV := Lib.hid hde
  clear hpl hen ht hde hd2
  go_wp2_with (fail)
  ((with_reducible refine (HEN.out _ HB.out).mono ?_); rintro _ w3 ⟨rfl, hb3⟩)
  have hbT := hb3
  replace HB := Lib.hid (HB.out.trans (hbT.mono HB.out.size))
  replace X := Lib.hid (X.out.below hbT)
  clear hbT hb3 zX kX fX
  go_wp2_with (fail)
  ((with_reducible refine (HDE.out _ HB.out).mono ?_); rintro _ w4 ⟨⟨⟨zd, zn, zy, zs, zt⟩, zA, zc⟩, hz, rfl, hzs, hb4⟩; simp only [EntC.cells]; have HZ := Lib.hid hz; have Z4 := Lib.hid hzs.1; clear hz hzs)
  have hbT := hb4
  replace HB := Lib.hid (HB.out.trans (hbT.mono HB.out.size))
  replace X := Lib.hid (X.out.below hbT)
  clear hbT hb4 
  obtain ⟨zX, kX, fX⟩ := X.out
  go_wp2_with (fail)
  ((with_reducible refine (HRI.out _ (HB.out.alloc HB.out.size _)).mono ?_); rintro _ w5 ⟨rfl, hb5⟩)
  obtain ⟨hZ, hbT⟩ := locs1 hb5
  have Z := Lib.hid hZ
  clear hZ
  replace HB := Lib.hid (HB.out.trans (hbT.mono HB.out.size))
  replace X := Lib.hid (X.out.below hbT)
  replace Z4 := Lib.hid (Z4.out.below hbT)
  clear hbT hb5 zX kX fX
  cases ok
  · obtain rfl : t = [] := HTT.out.2.2.2 rfl
    obtain ⟨zX, kX, fX⟩ := X.out
    obtain ⟨zZ, kZ, fZ⟩ := Z.out
    go_wp2_with (fail)
    ((with_reducible refine (HD2.out _ HB.out).mono ?_); rintro _ w7 ⟨⟨⟨ud, un, uy, us, ut⟩, uA, uc⟩, hu, rfl, hus, hb7⟩; simp only [EntC.cells]; have HU := Lib.hid hu; have U := Lib.hid hus.1; clear hu hus)
    have hbT := hb7
    replace HB := Lib.hid (HB.out.trans (hbT.mono HB.out.size))
    replace X := Lib.hid (X.out.below hbT)
    replace Z4 := Lib.hid (Z4.out.below hbT)
    replace Z := Lib.hid (Z.out.below hbT)
    clear hbT hb7 zX kX fX zZ kZ fZ
    cases can
    · have hzv := (decodeF_no HV2.out).symm.trans HU.out.symm
      simp only [EntV.zero, EntV.mk.injEq] at hzv
      obtain ⟨rfl, rfl, rfl, rfl, rfl⟩ := hzv
      have HSZ : Hid (∀ W : World, Sl W 1 uA 0 [] → Calls Tryd.prog 13 #[.agg #[.int .i64 0, .int .i64 0, .int .i64 0, .slice uA 0 uc, .string ⟨#[]⟩], .agg #[.int .i64 0, .int .i64 0, .int .i64 0, .slice none 0 0, .string ⟨#[]⟩]] W fun x w' => x = .returned (.bool true) ∧ Below W.heap.size W w') := Lib.hid (fun W hz => RSame_any W ⟨⟨0, 0, 0, [], []⟩, uA, uc⟩ ⟨⟨0, 0, 0, [], []⟩, none, 0⟩ hz (Sl.nil_ W 1 none) (by show 0 ≤ _; omega) true (sameB_true.2 rfl))
      go_wp2_with (fail)
      ((with_reducible refine (HSZ.out _ (U.out.alloc _)).mono ?_); rintro _ w70 ⟨rfl, hb70⟩)
      obtain ⟨_, hbT⟩ := locs1 hb70
      replace HB := Lib.hid (HB.out.trans (hbT.mono HB.out.size))
      replace X := Lib.hid (X.out.below hbT)
      replace Z4 := Lib.hid (Z4.out.below hbT)
      replace Z := Lib.hid (Z.out.below hbT)
      replace U := Lib.hid (U.out.below hbT)
      clear hbT hb70 
      go_wp2_with (fail)
      go_ret
      exact ⟨rfl, HB.out⟩
    · have hv2 : decodeF s = (⟨ud, un, uy, us, ut⟩, true) := by rw [HV2.out]; exact congrArg (fun q => (q, true)) HU.out.symm
      obtain ⟨hq1, hq2⟩ := decodeF_was hv2
      have hqr := rightB_true.1 hq2
      have hq3 : us.length ≤ 1099511627776 ∧ ut.length ≤ 140737488351232 := by
        have h1 := hqr.len
        have h2 := hqr.txt
        simp only at h1 h2
        omega
      have HEU := Lib.hid (fun W (hb : Below w.heap.size w W) (hu : Sl W 1 uA us.length (us.map intC)) => Encode_any W (HE.out W hb) (Nat.le_refl _) ⟨⟨ud, un, uy, us, ut⟩, uA, uc⟩ hu hq3 (s, true) hq1)
      have HRU := Lib.hid (fun W (hu : Sl W 1 uA us.length (us.map intC)) => Right_any W ⟨⟨ud, un, uy, us, ut⟩, uA, uc⟩ hu hq3.1 hq3.2 true hq2)
      simp only [EntC.cells] at HEU HRU
      clear hv2 hq1 hq2 hqr hq3
      go_wp2_with (fail)
      ((with_reducible refine (HEU.out _ (HB.out.alloc HB.out.size _) (U.out.alloc _)).mono ?_); rintro _ w71 ⟨rfl, hb71⟩)
      obtain ⟨hQ, hbT⟩ := locs1 hb71
      have Q := Lib.hid hQ
      clear hQ
      replace HB := Lib.hid (HB.out.trans (hbT.mono HB.out.size))
      replace X := Lib.hid (X.out.below hbT)
      replace Z4 := Lib.hid (Z4.out.below hbT)
      replace Z := Lib.hid (Z.out.below hbT)
      replace U := Lib.hid (U.out.below hbT)
      clear hbT hb71 
      obtain ⟨zQ, kQ, fQ⟩ := Q.out
      go_wp2_with (fail)
      ((with_reducible refine (HRU.out _ U.out).mono ?_); rintro _ w72 ⟨rfl, hb72⟩)
      have hbT := hb72
      replace HB := Lib.hid (HB.out.trans (hbT.mono HB.out.size))
      replace X := Lib.hid (X.out.below hbT)
      replace Z4 := Lib.hid (Z4.out.below hbT)
      replace Z := Lib.hid (Z.out.below hbT)
      replace U := Lib.hid (U.out.below hbT)
      replace Q := Lib.hid (Q.out.below hbT)
      clear hbT hb72 zQ kQ fQ
      go_wp2_with (fail)
      go_ret
      exact ⟨rfl, HB.out⟩
  · have hyi := HDV.out.symm.trans (HTT.out.2.1 rfl)
    injection hyi with hy1 hy2
    subst hy2
    have hzv := HZ.out
    rw [hy1] at hzv
    simp only [EntV.mk.injEq] at hzv
    obtain ⟨rfl, rfl, rfl, rfl, rfl⟩ := hzv
    have HSM := Lib.hid (fun W (hb : Below w.heap.size w W) (hz : Sl W 1 zA zs.length (zs.map intC)) => RSame_any W ⟨⟨zd, zn, zy, zs, zt⟩, A, c⟩ ⟨⟨zd, zn, zy, zs, zt⟩, zA, zc⟩ (HAT.out W hb) hz (by show zs.length ≤ _; have := HLN.out; omega) true (sameB_true.2 rfl))
    simp only [EntC.cells] at HSM
    obtain ⟨zX, kX, fX⟩ := X.out
    obtain ⟨zZ, kZ, fZ⟩ := Z.out
    go_wp2_with (fail)
    ((with_reducible refine (HSM.out _ HB.out Z4.out).mono ?_); rintro _ w6 ⟨rfl, hb6⟩)
    have hbT := hb6
    replace HB := Lib.hid (HB.out.trans (hbT.mono HB.out.size))
    replace X := Lib.hid (X.out.below hbT)
    replace Z4 := Lib.hid (Z4.out.below hbT)
    replace Z := Lib.hid (Z.out.below hbT)
    clear hbT hb6 zX kX fX zZ kZ fZ
    go_wp2_with (fail)
    ((with_reducible refine (HD2.out _ HB.out).mono ?_); rintro _ w8 ⟨⟨⟨ud, un, uy, us, ut⟩, uA, uc⟩, hu, rfl, hus, hb8⟩; simp only [EntC.cells]; have HU := Lib.hid hu; have U := Lib.hid hus.1; clear hu hus)
    have hbT := hb8
    replace HB := Lib.hid (HB.out.trans (hbT.mono HB.out.size))
    replace X := Lib.hid (X.out.below hbT)
    replace Z4 := Lib.hid (Z4.out.below hbT)
    replace Z := Lib.hid (Z.out.below hbT)
    clear hbT hb8 
    cases can
    · have hzv := (decodeF_no HV2.out).symm.trans HU.out.symm
      simp only [EntV.zero, EntV.mk.injEq] at hzv
      obtain ⟨rfl, rfl, rfl, rfl, rfl⟩ := hzv
      have HSZ : Hid (∀ W : World, Sl W 1 uA 0 [] → Calls Tryd.prog 13 #[.agg #[.int .i64 0, .int .i64 0, .int .i64 0, .slice uA 0 uc, .string ⟨#[]⟩], .agg #[.int .i64 0, .int .i64 0, .int .i64 0, .slice none 0 0, .string ⟨#[]⟩]] W fun x w' => x = .returned (.bool true) ∧ Below W.heap.size W w') := Lib.hid (fun W hz => RSame_any W ⟨⟨0, 0, 0, [], []⟩, uA, uc⟩ ⟨⟨0, 0, 0, [], []⟩, none, 0⟩ hz (Sl.nil_ W 1 none) (by show 0 ≤ _; omega) true (sameB_true.2 rfl))
      go_wp2_with (fail)
      ((with_reducible refine (HSZ.out _ (U.out.alloc _)).mono ?_); rintro _ w80 ⟨rfl, hb80⟩)
      obtain ⟨_, hbT⟩ := locs1 hb80
      replace HB := Lib.hid (HB.out.trans (hbT.mono HB.out.size))
      replace X := Lib.hid (X.out.below hbT)
      replace Z4 := Lib.hid (Z4.out.below hbT)
      replace Z := Lib.hid (Z.out.below hbT)
      replace U := Lib.hid (U.out.below hbT)
      clear hbT hb80 
      go_wp2_with (fail)
      go_ret
      exact ⟨rfl, HB.out⟩
    · have hv2 : decodeF s = (⟨ud, un, uy, us, ut⟩, true) := by rw [HV2.out]; exact congrArg (fun q => (q, true)) HU.out.symm
      obtain ⟨hq1, hq2⟩ := decodeF_was hv2
      have hqr := rightB_true.1 hq2
      have hq3 : us.length ≤ 1099511627776 ∧ ut.length ≤ 140737488351232 := by
        have h1 := hqr.len
        have h2 := hqr.txt
        simp only at h1 h2
        omega
      have HEU := Lib.hid (fun W (hb : Below w.heap.size w W) (hu : Sl W 1 uA us.length (us.map intC)) => Encode_any W (HE.out W hb) (Nat.le_refl _) ⟨⟨ud, un, uy, us, ut⟩, uA, uc⟩ hu hq3 (s, true) hq1)
      have HRU := Lib.hid (fun W (hu : Sl W 1 uA us.length (us.map intC)) => Right_any W ⟨⟨ud, un, uy, us, ut⟩, uA, uc⟩ hu hq3.1 hq3.2 true hq2)
      simp only [EntC.cells] at HEU HRU
      clear hv2 hq1 hq2 hqr hq3
      go_wp2_with (fail)
      ((with_reducible refine (HEU.out _ (HB.out.alloc HB.out.size _) (U.out.alloc _)).mono ?_); rintro _ w81 ⟨rfl, hb81⟩)
      obtain ⟨hQ, hbT⟩ := locs1 hb81
      have Q := Lib.hid hQ
      clear hQ
      replace HB := Lib.hid (HB.out.trans (hbT.mono HB.out.size))
      replace X := Lib.hid (X.out.below hbT)
      replace Z4 := Lib.hid (Z4.out.below hbT)
      replace Z := Lib.hid (Z.out.below hbT)
      replace U := Lib.hid (U.out.below hbT)
      clear hbT hb81 
      obtain ⟨zQ, kQ, fQ⟩ := Q.out
      go_wp2_with (fail)
      ((with_reducible refine (HRU.out _ U.out).mono ?_); rintro _ w82 ⟨rfl, hb82⟩)
      have hbT := hb82
      replace HB := Lib.hid (HB.out.trans (hbT.mono HB.out.size))
      replace X := Lib.hid (X.out.below hbT)
      replace Z4 := Lib.hid (Z4.out.below hbT)
      replace Z := Lib.hid (Z.out.below hbT)
      replace U := Lib.hid (U.out.below hbT)
      replace Q := Lib.hid (Q.out.below hbT)
      clear hbT hb82 zQ kQ fQ
      go_wp2_with (fail)
      go_ret
      exact ⟨rfl, HB.out⟩
end Go.Proofs.YtindfkekinpchaaDoor
