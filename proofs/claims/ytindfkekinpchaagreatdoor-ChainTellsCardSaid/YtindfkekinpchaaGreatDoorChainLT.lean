/- kerbsidelaw46: ChainTells, walked. -/
import Derived.Test.YtindfkekinpchaaGreatDoorChainRE
import Derived.Test.YtindfkekinpchaaGreatDoorChainLA
namespace Go.Proofs.YtindfkekinpchaaGreatDoor
open Go.RowKit Go.Sort Go.Lib

theorem plainLen {x : EntV} (h : plainB x = true) : x.seen.length ≤ 12 ∧ x.text.length ≤ 4010 := by
  unfold plainB at h
  simp only [Bool.and_eq_true, Bool.or_eq_true, decide_eq_true_eq] at h
  omega
theorem chAt_of {w : World} {A : Option Addr} {n : Nat} {l : List EntC} (hs : Sl w 5 A n (l.map EntC.cells)) (ha : ∀ e ∈ l, EntAt w e) (hp : ∀ x ∈ l, plainB x.v = true) : ChAt w A n l :=
  ⟨hs, ha, fun e he => by have := plainLen (hp e he); omega⟩
theorem few20 (w : World) (A : Option Addr) (n c : Nat) (l : List EntC) (hs : Sl w 5 A n (l.map EntC.cells)) : Calls Tryz.prog 5 #[.slice A n c, .int .i64 20] w (FewPost w l 20) := Few_any w A n c l hs 20 (by omega)
theorem nextF_len {l : List EntV} {device day : Int} {known : List Int} {text : List UInt8} {v : EntV × Int} (h : nextF l device day known text = v) : v.1.seen.length ≤ known.length := by
  subst h
  unfold nextF
  split
  · split
    · show (known.set _ _).length ≤ _
      rw [List.length_set]
      exact Nat.le_refl _
    · exact Nat.zero_le _
  · exact Nat.zero_le _
theorem decodeF_len {s : List UInt8} {z : EntV × Bool} (h : decodeF s = z) : z.1.seen.length ≤ 8 := by
  subst h
  unfold decodeF
  split
  · rename_i h
    have := (enc_decE h).2.len
    show (decE s).1.seen.length ≤ 8
    omega
  · exact Nat.zero_le _

set_option maxRecDepth 100000 in
set_option maxHeartbeats 64000000 in
theorem chainTells_any (w : World) (hE : Env w.heap.size w) (A : Option Addr) (n c : Nat) (l : List EntC) (hs : Sl w 5 A n (l.map EntC.cells)) (ha : ∀ e ∈ l, EntAt w e) (e : EntC) (he : EntAt w e) (f : EntC) (hf : EntAt w f) (s : List UInt8) (hsl : s.length ≤ maxLen) (device day : Int) (B : Option Addr) (m d : Nat) (known : List Int) (hk : Sl w 1 B m (known.map intC)) :
    Calls Tryz.prog 3 #[.slice A n c, .agg e.cells.toArray, .agg f.cells.toArray, .string ⟨s.toArray⟩, .int .i64 device, .int .i64 day, .slice B m d] w fun x w' => x = .returned (.bool true) ∧ Below w.heap.size w w' := by
  have HSA := Lib.hid (fun W (hb : Below w.heap.size w W) => sane_any W ((hE.below hb).up hb.size))
  have HE := Lib.hid (fun W (hb : Below w.heap.size w W) => (hE.below hb).up hb.size)
  have HFW := Lib.hid (fun W (hb : Below w.heap.size w W) => few20 W A n c l (hs.below hb))
  have HS := Lib.hid hs
  have HA := Lib.hid ha
  have hll : l.length = n := by simpa using hs.1
  have HL := Lib.hid hll
  have HKN := Lib.hid hk
  have HEA := Lib.hid (fun W (hb : Below w.heap.size w W) => he.below hb)
  have HFA := Lib.hid (fun W (hb : Below w.heap.size w W) => hf.below hb)
  obtain ⟨pe, hpe⟩ : ∃ p, plainB e.v = p := ⟨_, rfl⟩
  obtain ⟨pf, hpf⟩ : ∃ p, plainB f.v = p := ⟨_, rfl⟩
  have HPE := Lib.hid (fun W => Plain_any W e pe hpe)
  have HPF := Lib.hid (fun W => Plain_any W f pf hpf)
  have HPEV := Lib.hid hpe
  have HPFV := Lib.hid hpf
  have HB := Lib.hid (Below.refl w.heap.size w)
  have hsz := str_size s
  simp only [EntC.cells] at HPE HPF ⊢
  clear hE hs ha hll hk he hf hpe hpf hsl
  go_enter Tryz.func3, Tryz.ntmps3
  go_wp2_with (fail)
  ((with_reducible refine (HSA.out _ ((HB.out.alloc (Nat.le_refl _) _).alloc (by simp) _)).mono ?_); rintro _ w1 ⟨rfl, hb1⟩)
  obtain ⟨hX, hY, hbT⟩ := locs2 hb1
  have X := Lib.hid hX
  have Y := Lib.hid hY
  clear hX hY
  replace HB := Lib.hid (HB.out.trans (hbT.mono HB.out.size))
  clear hbT hb1 
  obtain ⟨zX, kX, fX⟩ := X.out
  obtain ⟨zY, kY, fY⟩ := Y.out
  go_wp2_with (fail)
  ((with_reducible refine (HFW.out _ HB.out).mono ?_); rintro _ w2 ⟨few, rfl, hfew, hb2⟩; have HFE := Lib.hid hfew; clear hfew)
  have hbT := hb2
  replace HB := Lib.hid (HB.out.trans (hbT.mono HB.out.size))
  replace X := Lib.hid (X.out.below hbT)
  replace Y := Lib.hid (Y.out.below hbT)
  clear hbT hb2 zX kX fX zY kY fY
  cases few
  · obtain ⟨zX, kX, fX⟩ := X.out
    obtain ⟨zY, kY, fY⟩ := Y.out
    go_wp2_with (fail)
    go_ret
    exact ⟨rfl, HB.out⟩
  obtain ⟨hpl, hln⟩ := HFE.out rfl
  have HCH := Lib.hid (chAt_of HS.out HA.out hpl)
  have HN : Hid (n ≤ 420) := Lib.hid (by have := HL.out; omega)
  clear HFE hpl hln HS HA
  obtain ⟨zX, kX, fX⟩ := X.out
  obtain ⟨zY, kY, fY⟩ := Y.out
  go_wp2_with (fail)
  ((with_reducible refine (HPE.out _).mono ?_); rintro _ w3 ⟨rfl, hb3⟩)
  have hbT := hb3
  replace HB := Lib.hid (HB.out.trans (hbT.mono HB.out.size))
  replace X := Lib.hid (X.out.below hbT)
  replace Y := Lib.hid (Y.out.below hbT)
  clear hbT hb3 zX kX fX zY kY fY
  cases pe
  · obtain ⟨zX, kX, fX⟩ := X.out
    obtain ⟨zY, kY, fY⟩ := Y.out
    go_wp2_with (fail)
    go_ret
    exact ⟨rfl, HB.out⟩
  obtain ⟨zX, kX, fX⟩ := X.out
  obtain ⟨zY, kY, fY⟩ := Y.out
  go_wp2_with (fail)
  ((with_reducible refine (HPF.out _).mono ?_); rintro _ w4 ⟨rfl, hb4⟩)
  have hbT := hb4
  replace HB := Lib.hid (HB.out.trans (hbT.mono HB.out.size))
  replace X := Lib.hid (X.out.below hbT)
  replace Y := Lib.hid (Y.out.below hbT)
  clear hbT hb4 zX kX fX zY kY fY
  cases pf
  · obtain ⟨zX, kX, fX⟩ := X.out
    obtain ⟨zY, kY, fY⟩ := Y.out
    go_wp2_with (fail)
    go_ret
    exact ⟨rfl, HB.out⟩
  by_cases h5 : 500 < (s.length : Int)
  · go_wp2_with (fail)
    go_ret
    exact ⟨rfl, HB.out⟩
  have h5' : (s.length : Int) ≤ 500 := by omega
  by_cases h12 : 12 < (m : Int)
  · clear h5
    go_wp2_with (fail)
    go_ret
    exact ⟨rfl, HB.out⟩
  have h12' : (m : Int) ≤ 12 := by omega
  have HSL : Hid (s.length ≤ 500) := Lib.hid (by omega)
  clear h5 h12 HPE HPF
  have HLE := Lib.hid (plainLen HPEV.out)
  have HLF := Lib.hid (plainLen HPFV.out)
  obtain ⟨v, hv⟩ : ∃ v, nextF (vsOf l) device day known s = v := ⟨_, rfl⟩
  obtain ⟨t, ht⟩ : ∃ t, encodeF e.v = t := ⟨_, rfl⟩
  obtain ⟨z, hz⟩ : ∃ z, decodeF s = z := ⟨_, rfl⟩
  obtain ⟨r, hr⟩ : ∃ r, checkF (vsOf l) = r := ⟨_, rfl⟩
  obtain ⟨re, hre⟩ : ∃ r, rightB e.v = r := ⟨_, rfl⟩
  obtain ⟨sm, hsm⟩ : ∃ r, sameB e.v f.v = r := ⟨_, rfl⟩
  obtain ⟨cv, hcv⟩ : ∃ r, convictsB e.v f.v = r := ⟨_, rfl⟩
  have C1 := Lib.hid (fun W (hb : Below w.heap.size w W) => Next_any W A n c l (HCH.out.below hb) (by have := HN.out; omega) device day B m d known (HKN.out.below hb) s (by have := HSL.out; omega) v hv)
  have C2 := Lib.hid (fun W (hb : Below w.heap.size w W) => RNext_any W A n c l (HCH.out.below hb) (by have := HN.out; omega) device day B m d known (HKN.out.below hb) s (by have := HSL.out; omega) v hv)
  have C3 := Lib.hid (fun W (hb : Below w.heap.size w W) => Encode_any W (HE.out W hb) (Nat.le_refl _) e (HEA.out W hb) (by have := HLE.out; omega) t ht)
  have C4 := Lib.hid (fun W (hb : Below w.heap.size w W) => REncode_any W e (HEA.out W hb) (by have := HLE.out; omega) t ht)
  have C5 := Lib.hid (fun W (hb : Below w.heap.size w W) => Decode_any W (HE.out W hb) s (by have := HSL.out; omega) z hz)
  have C6 := Lib.hid (fun W => RDecode_any W s (by have := HSL.out; omega) z hz)
  have C7 := Lib.hid (fun W (hb : Below w.heap.size w W) => Check_any W A n c l (HCH.out.below hb) r hr)
  have C8 := Lib.hid (fun W (hb : Below w.heap.size w W) => RCheck_any W A n c l (HCH.out.below hb) r hr)
  have C9 := Lib.hid (fun W (hb : Below w.heap.size w W) => Right_any W e (HEA.out W hb) (by have := HLE.out; omega) (by have := HLE.out; omega) re hre)
  have C10 := Lib.hid (fun W (hb : Below w.heap.size w W) => RRight_any W e (HEA.out W hb) re hre)
  have C11 := Lib.hid (fun W (hb : Below w.heap.size w W) => Same_any W e f (HEA.out W hb) (HFA.out W hb) (by have := HLE.out; omega) (by have := HLF.out; omega) sm hsm)
  have C12 := Lib.hid (fun W (hb : Below w.heap.size w W) => RSame_any W e f (HEA.out W hb) (HFA.out W hb) (by have := HLE.out; omega) sm hsm)
  have C13 := Lib.hid (fun W (hb : Below w.heap.size w W) => Convicts_any W e f (HEA.out W hb) (HFA.out W hb) (by have := HLE.out; omega) (by have := HLF.out; omega) cv hcv)
  have C14 := Lib.hid (fun W (hb : Below w.heap.size w W) => RConvicts_any W e f (HEA.out W hb) (HFA.out W hb) (by have := HLE.out; omega) cv hcv)
  have C15 := Lib.hid (fun (W : World) (x y : EntC) (hx : EntAt W x) (hy : EntAt W y) (hxy : x.v = y.v) (hl : x.v.seen.length ≤ 1099511627776) => RSame_any W x y hx hy hl true (sameB_true.2 hxy))
  have hkl : known.length = m := by simpa using HKN.out.1
  have HV := Lib.hid (nextF_len hv)
  have HZ := Lib.hid (decodeF_len hz)
  have HKL : Hid (known.length ≤ 12) := Lib.hid (by omega)
  clear hkl
  simp only [EntC.cells] at C3 C4 C9 C10 C11 C12 C13 C14 C15
  clear hv ht hz hr hre hsm hcv
  go_wp2_with (fail)
  ((with_reducible refine (C1.out _ HB.out).mono ?_); rintro _ w5 ⟨x1, hx1, rfl, hxf, hb5⟩; simp only [EntC.cells]; have V1 := Lib.hid hx1; have S1 : Hid (EntAt w5 x1) := Lib.hid hxf.1; clear hx1 hxf)
  have hbT := hb5
  replace HB := Lib.hid (HB.out.trans (hbT.mono HB.out.size))
  replace X := Lib.hid (X.out.below hbT)
  replace Y := Lib.hid (Y.out.below hbT)
  clear hbT hb5 
  go_wp2_with (fail)
  ((with_reducible refine (C2.out _ (HB.out.alloc HB.out.size _)).mono ?_); rintro _ w6 ⟨x2, hx2, rfl, hxf, hb6⟩; simp only [EntC.cells]; have V2 := Lib.hid hx2; have S2 : Hid (EntAt w6 x2) := Lib.hid hxf.1; clear hx2 hxf)
  obtain ⟨hX1, hbT⟩ := locs1 hb6
  have X1 := Lib.hid hX1
  clear hX1
  replace HB := Lib.hid (HB.out.trans (hbT.mono HB.out.size))
  replace X := Lib.hid (X.out.below hbT)
  replace Y := Lib.hid (Y.out.below hbT)
  replace S1 := Lib.hid (S1.out.below hbT)
  clear hbT hb6 
  obtain ⟨zX, kX, fX⟩ := X.out
  obtain ⟨zY, kY, fY⟩ := Y.out
  go_wp2_with (fail)
  ((with_reducible refine (C3.out _ (HB.out.alloc HB.out.size _)).mono ?_); rintro _ w7 ⟨rfl, hb7⟩)
  obtain ⟨hX2, hbT⟩ := locs1 hb7
  have X2 := Lib.hid hX2
  clear hX2
  replace HB := Lib.hid (HB.out.trans (hbT.mono HB.out.size))
  replace X := Lib.hid (X.out.below hbT)
  replace Y := Lib.hid (Y.out.below hbT)
  replace S1 := Lib.hid (S1.out.below hbT)
  replace X1 := Lib.hid (X1.out.below hbT)
  replace S2 := Lib.hid (S2.out.below hbT)
  clear hbT hb7 zX kX fX zY kY fY
  obtain ⟨zX, kX, fX⟩ := X.out
  obtain ⟨zY, kY, fY⟩ := Y.out
  go_wp2_with (fail)
  ((with_reducible refine (C4.out _ HB.out).mono ?_); rintro _ w8 ⟨rfl, hb8⟩)
  have hbT := hb8
  replace HB := Lib.hid (HB.out.trans (hbT.mono HB.out.size))
  replace X := Lib.hid (X.out.below hbT)
  replace Y := Lib.hid (Y.out.below hbT)
  replace S1 := Lib.hid (S1.out.below hbT)
  replace X1 := Lib.hid (X1.out.below hbT)
  replace S2 := Lib.hid (S2.out.below hbT)
  replace X2 := Lib.hid (X2.out.below hbT)
  clear hbT hb8 zX kX fX zY kY fY
  go_wp2_with (fail)
  ((with_reducible refine (C5.out _ HB.out).mono ?_); rintro _ w9 ⟨x3, hx3, rfl, hxf, hb9⟩; simp only [EntC.cells]; have V3 := Lib.hid hx3; have S3 : Hid (EntAt w9 x3) := Lib.hid hxf.1; clear hx3 hxf)
  have hbT := hb9
  replace HB := Lib.hid (HB.out.trans (hbT.mono HB.out.size))
  replace X := Lib.hid (X.out.below hbT)
  replace Y := Lib.hid (Y.out.below hbT)
  replace S1 := Lib.hid (S1.out.below hbT)
  replace X1 := Lib.hid (X1.out.below hbT)
  replace S2 := Lib.hid (S2.out.below hbT)
  replace X2 := Lib.hid (X2.out.below hbT)
  clear hbT hb9 
  go_wp2_with (fail)
  ((with_reducible refine (C6.out _).mono ?_); rintro _ w10 ⟨x4, hx4, rfl, hxf, hb10⟩; simp only [EntC.cells]; have V4 := Lib.hid hx4; have S4 : Hid (EntAt w10 x4) := Lib.hid hxf.1; clear hx4 hxf)
  obtain ⟨hX3, hbT⟩ := locs1 hb10
  have X3 := Lib.hid hX3
  clear hX3
  replace HB := Lib.hid (HB.out.trans (hbT.mono HB.out.size))
  replace X := Lib.hid (X.out.below hbT)
  replace Y := Lib.hid (Y.out.below hbT)
  replace S1 := Lib.hid (S1.out.below hbT)
  replace X1 := Lib.hid (X1.out.below hbT)
  replace S2 := Lib.hid (S2.out.below hbT)
  replace X2 := Lib.hid (X2.out.below hbT)
  replace S3 := Lib.hid (S3.out.below hbT)
  clear hbT hb10 
  obtain ⟨zX1, kX1, fX1⟩ := X1.out
  obtain ⟨zX2, kX2, fX2⟩ := X2.out
  go_wp2_with (fail)
  ((with_reducible refine (C15.out _ x1 x2 (S1.out.below (below_alloc _ _)) (S2.out.below (below_alloc _ _)) (V1.out.trans V2.out.symm) (by rw [V1.out]; have := HV.out; have := HKL.out; omega)).mono ?_); rintro _ w11 ⟨rfl, hb11⟩)
  obtain ⟨hX4, hbT⟩ := locs1 hb11
  have X4 := Lib.hid hX4
  clear hX4
  replace HB := Lib.hid (HB.out.trans (hbT.mono HB.out.size))
  replace X := Lib.hid (X.out.below hbT)
  replace Y := Lib.hid (Y.out.below hbT)
  replace S1 := Lib.hid (S1.out.below hbT)
  replace X1 := Lib.hid (X1.out.below hbT)
  replace S2 := Lib.hid (S2.out.below hbT)
  replace X2 := Lib.hid (X2.out.below hbT)
  replace S3 := Lib.hid (S3.out.below hbT)
  replace X3 := Lib.hid (X3.out.below hbT)
  replace S4 := Lib.hid (S4.out.below hbT)
  clear hbT hb11 zX1 kX1 fX1 zX2 kX2 fX2
  obtain ⟨zX3, kX3, fX3⟩ := X3.out
  obtain ⟨zX4, kX4, fX4⟩ := X4.out
  go_wp2_with (fail)
  ((with_reducible refine (C15.out _ x3 x4 S3.out S4.out (V3.out.trans V4.out.symm) (by rw [V3.out]; have := HZ.out; omega)).mono ?_); rintro _ W ⟨rfl, hb12⟩)
  have hbT := hb12
  replace HB := Lib.hid (HB.out.trans (hbT.mono HB.out.size))
  replace X := Lib.hid (X.out.below hbT)
  replace Y := Lib.hid (Y.out.below hbT)
  replace S1 := Lib.hid (S1.out.below hbT)
  replace X1 := Lib.hid (X1.out.below hbT)
  replace S2 := Lib.hid (S2.out.below hbT)
  replace X2 := Lib.hid (X2.out.below hbT)
  replace S3 := Lib.hid (S3.out.below hbT)
  replace X3 := Lib.hid (X3.out.below hbT)
  replace S4 := Lib.hid (S4.out.below hbT)
  replace X4 := Lib.hid (X4.out.below hbT)
  clear hbT hb12 zX3 kX3 fX3 zX4 kX4 fX4
  have hS : ∀ w', Below W.heap.size W w' → _ := fun w' hb => And.intro ((X.out.below hb).cell 0) (And.intro ((X.out.below hb).cell 1) (And.intro ((X.out.below hb).cell 2) (And.intro ((X.out.below hb).cell 3) (And.intro ((X.out.below hb).cell 4) (And.intro ((Y.out.below hb).cell 0) (And.intro ((Y.out.below hb).cell 1) (And.intro ((Y.out.below hb).cell 2) (And.intro ((Y.out.below hb).cell 3) (And.intro ((Y.out.below hb).cell 4) hb)))))))))
  have HSS := Lib.hid hS
  clear hS
  obtain ⟨zX, kX, fX⟩ := X.out
  obtain ⟨zY, kY, fY⟩ := Y.out
  go_upto_region 12 with (fail)
  have hB7 := Below.refl W.heap.size W
  go_region_held3 (fun w' => w'.cell? ⟨w.heap.size, 0, none⟩ = some (.int .i64 e.v.dev) ∧ w'.cell? ⟨w.heap.size, 1, none⟩ = some (.int .i64 e.v.no) ∧ w'.cell? ⟨w.heap.size, 2, none⟩ = some (.int .i64 e.v.day) ∧ w'.cell? ⟨w.heap.size, 3, none⟩ = some (.slice e.A e.v.seen.length e.c) ∧ w'.cell? ⟨w.heap.size, 4, none⟩ = some (.string ⟨e.v.text.toArray⟩) ∧ w'.cell? ⟨w.heap.size + 1, 0, none⟩ = some (.int .i64 f.v.dev) ∧ w'.cell? ⟨w.heap.size + 1, 1, none⟩ = some (.int .i64 f.v.no) ∧ w'.cell? ⟨w.heap.size + 1, 2, none⟩ = some (.int .i64 f.v.day) ∧ w'.cell? ⟨w.heap.size + 1, 3, none⟩ = some (.slice f.A f.v.seen.length f.c) ∧ w'.cell? ⟨w.heap.size + 1, 4, none⟩ = some (.string ⟨f.v.text.toArray⟩) ∧ Below W.heap.size W w')
      (first | exact HSS.out _ hB7 | (refine HSS.out _ ?_; repeat (first | exact hB7 | exact Below.refl _ _ | refine Below.drew ?_ | refine Below.alloc ?_ (by first | exact Nat.le_refl _ | exact hB7.size | (simp <;> omega)) _ | refine Below.setCell ?_ (by first | exact Nat.le_refl _ | exact hB7.size | (simp <;> omega)) _)))
      (first
        | ((with_reducible refine (C7.out _ ?hs1).mono ?_)
           (case hs1 => exact HB.out.trans (Below.mono (by go_split_ands; assumption) HB.out.size))
           rintro _ w3 ⟨rfl, hbF⟩
           have hB7 : Below W.heap.size W w3 := by go_split_ands; exact Below.trans (by assumption) (hbF.mono (Below.size (by assumption))))
        | ((with_reducible refine (C8.out _ ?hs1).mono ?_)
           (case hs1 => exact HB.out.trans (Below.mono (by go_split_ands; assumption) HB.out.size))
           rintro _ w3 ⟨rfl, hbF⟩
           have hB7 : Below W.heap.size W w3 := by go_split_ands; exact Below.trans (by assumption) (hbF.mono (Below.size (by assumption))))
        | ((with_reducible refine (C9.out _ ?hs1).mono ?_)
           (case hs1 => exact HB.out.trans (Below.mono (by go_split_ands; assumption) HB.out.size))
           rintro _ w3 ⟨rfl, hbF⟩
           have hB7 : Below W.heap.size W w3 := by go_split_ands; exact Below.trans (by assumption) (hbF.mono (Below.size (by assumption))))
        | ((with_reducible refine (C10.out _ ?hs1).mono ?_)
           (case hs1 => exact HB.out.trans (Below.mono (by go_split_ands; assumption) HB.out.size))
           rintro _ w3 ⟨rfl, hbF⟩
           have hB7 : Below W.heap.size W w3 := by go_split_ands; exact Below.trans (by assumption) (hbF.mono (Below.size (by assumption))))
        | ((with_reducible refine (C11.out _ ?hs1).mono ?_)
           (case hs1 => exact HB.out.trans (Below.mono (by go_split_ands; assumption) HB.out.size))
           rintro _ w3 ⟨rfl, hbF⟩
           have hB7 : Below W.heap.size W w3 := by go_split_ands; exact Below.trans (by assumption) (hbF.mono (Below.size (by assumption))))
        | ((with_reducible refine (C12.out _ ?hs1).mono ?_)
           (case hs1 => exact HB.out.trans (Below.mono (by go_split_ands; assumption) HB.out.size))
           rintro _ w3 ⟨rfl, hbF⟩
           have hB7 : Below W.heap.size W w3 := by go_split_ands; exact Below.trans (by assumption) (hbF.mono (Below.size (by assumption))))
        | ((with_reducible refine (C13.out _ ?hs1).mono ?_)
           (case hs1 => exact HB.out.trans (Below.mono (by go_split_ands; assumption) HB.out.size))
           rintro _ w3 ⟨rfl, hbF⟩
           have hB7 : Below W.heap.size W w3 := by go_split_ands; exact Below.trans (by assumption) (hbF.mono (Below.size (by assumption))))
        | ((with_reducible refine (C14.out _ ?hs1).mono ?_)
           (case hs1 => exact HB.out.trans (Below.mono (by go_split_ands; assumption) HB.out.size))
           rintro _ w3 ⟨rfl, hbF⟩
           have hB7 : Below W.heap.size W w3 := by go_split_ands; exact Below.trans (by assumption) (hbF.mono (Below.size (by assumption)))))
  have HB9 := Lib.hid (HB.out.trans (hB7.mono HB.out.size))
  clear hB7
  go_wp2_with (fail)
  go_ret
  exact ⟨rfl, HB9.out⟩
end Go.Proofs.YtindfkekinpchaaGreatDoor
