/- kerbsidelaw01: WireBack, walked. -/
import Derived.Test.YtmceahmngifcgaaDoorWireLD
namespace Go.Proofs.YtmceahmngifcgaaDoor
open Go.RowKit Go.Sort Go.Lib

def encsL (l : List ValC) : List UInt8 := (l.map fun v => (wvOf v).enc).flatten
theorem encsL_take {l : List ValC} {k : Nat} {v : ValC} (h : l[k]? = some v) : encsL (l.take (k + 1)) = encsL (l.take k) ++ (wvOf v).enc := by
  unfold encsL
  rw [take_succ' h]
  simp
theorem encsL_drop {l : List ValC} {k : Nat} {v : ValC} (h : l[k]? = some v) : encsL (l.drop k) = (wvOf v).enc ++ encsL (l.drop (k + 1)) := by
  unfold encsL
  obtain ⟨h1, h2⟩ := List.getElem?_eq_some_iff.1 h
  rw [List.drop_eq_getElem_cons h1, h2]
  simp
theorem encsL_len {l : List ValC} (hl : l.length ≤ 20) (h : ∀ v ∈ l, (wvOf v).enc.length ≤ 1000000) (k : Nat) : (encsL (l.take k)).length ≤ 20000000 ∧ (encsL (l.drop k)).length ≤ 20000000 := by
  have h1 := flat_le (fun v => (wvOf v).enc) 1000000 (l.take k) fun v hv => h v (List.mem_of_mem_take hv)
  have h2 := flat_le (fun v => (wvOf v).enc) 1000000 (l.drop k) fun v hv => h v (List.mem_of_mem_drop hv)
  rw [List.length_take] at h1
  rw [List.length_drop] at h2
  unfold encsL
  constructor
  · refine Nat.le_trans h1 ?_
    have : min k l.length ≤ 20 := by omega
    omega
  · refine Nat.le_trans h2 ?_
    have : l.length - k ≤ 20 := by omega
    omega
set_option maxRecDepth 100000 in
set_option maxHeartbeats 32000000 in
theorem back_any (w : World) (hE : Env w.heap.size w) (A : Option Addr) (n c : Nat) (l : List ValC) (hs : Sl w 5 A n (l.map ValC.cells)) (hl : ∀ u ∈ l, u.ok ∧ ValAt w u) (tl : List UInt8) (htl : tl.length ≤ maxLen) :
    Calls Tryd.prog 8 #[.slice A n c, .string ⟨tl.toArray⟩] w fun e w' => e = .returned (.bool true) ∧ Below w.heap.size w w' := by
  have hll : l.length = n := by simpa using hs.1
  have HSM := Lib.hid (small_any w hE (Nat.le_refl _))
  have HE := Lib.hid (fun W (hb : Below w.heap.size w W) => hE.below hb)
  have HSL := Lib.hid (fun W (hb : Below w.heap.size w W) => hs.below hb)
  have HF := Lib.hid (fun W (hb : Below w.heap.size w W) => few_any W A n c l (hs.below hb) (fun u hu => (hl u hu).2.below hb))
  have HO := Lib.hid hl
  have HL := Lib.hid hll
  have HS := Lib.hid hs
  have hszt := str_size tl
  have HB := Lib.hid (Below.refl w.heap.size w)
  unfold maxLen at htl
  clear hE hs hl hll
  go_enter Tryd.func8, Tryd.ntmps8
  go_wp2_with (fail)
  ((with_reducible refine (HSM.out).mono ?_); rintro _ w1 ⟨rfl, hb1⟩)
  have hbT := hb1
  replace HB := Lib.hid (HB.out.trans (hbT.mono HB.out.size))
  clear hbT hb1 
  go_wp2_with (fail)
  ((with_reducible refine (HF.out _ HB.out).mono ?_); rintro _ w2 ⟨k, rfl, hk, hb2⟩)
  have hbT := hb2
  replace HB := Lib.hid (HB.out.trans (hbT.mono HB.out.size))
  clear hbT hb2 
  have HK := Lib.hid hk
  clear hk
  cases k
  · clear htl
    go_wp2_with (fail)
    go_ret
    exact ⟨rfl, HB.out⟩
  by_cases h400 : 400 < (tl.length : Int)
  · clear htl
    go_wp2_with (fail)
    go_ret
    exact ⟨rfl, HB.out⟩
  have h4 : (tl.length : Int) ≤ 400 := by omega
  have HFW := Lib.hid (HK.out rfl)
  have hn20 : n ≤ 20 := by have := HFW.out.1; rw [HL.out] at this; exact this
  have HLEN := Lib.hid (fun k => encsL_len HFW.out.1 (fun v hv => wv_len (HO.out v hv).1 (HFW.out.2 v hv)) k)
  have HN20 := Lib.hid hn20
  clear h400 HK htl hn20
  go_wp2_with (fail)
  go_loopw [6, 7] (fun sv iv wr => ∃ k : Nat, k ≤ n ∧ iv = .int .i64 (k : Int) ∧ sv = .string ⟨(encsL (l.take k)).toArray⟩ ∧ Below w.heap.size w wr) (fun _ i _ => n - (Go.RowKit.intOf i).toNat)
  case atStart => exact ⟨0, Nat.zero_le _, rfl, by simp [encsL], HB.out⟩
  case round =>
    obtain ⟨k, hk, rfl, rfl, hb⟩ := hrel
    obtain ⟨wo, rfl⟩ : ∃ wo : World, wo = wr := ⟨_, rfl⟩
    have HBO := Lib.hid hb
    clear hb HB
    by_cases hlt : k < n
    · obtain ⟨v, hx⟩ : ∃ v, l[k]? = some v := ⟨_, List.getElem?_eq_getElem (by rw [HL.out]; exact hlt)⟩
      have hvm := List.mem_of_getElem? hx
      obtain ⟨b, o, rfl, hbl, c0, c1, c2, c3, c4⟩ := val_at (HSL.out wo HBO.out) hx
      obtain ⟨q, hq⟩ : ∃ q, (wvOf v).enc = q := ⟨_, rfl⟩
      have HC := Lib.hid (write_any wo (HE.out wo HBO.out) HBO.out.size v (HO.out v hvm).1 ((HO.out v hvm).2.below HBO.out) (HFW.out.2 v hvm) q hq)
      have hq1 := wv_len (HO.out v hvm).1 (HFW.out.2 v hvm)
      rw [hq] at hq1
      have hs1 := (HLEN.out k).1
      have HNX := Lib.hid (encsL_take hx)
      rw [hq] at HNX
      obtain ⟨s, hsq⟩ : ∃ s, encsL (l.take k) = s := ⟨_, rfl⟩
      rw [hsq] at hs1 HNX
      rw [hsq]
      have b2 : s.length + q.length ≤ 9223372036854775807 := by omega
      have z3 : (⟨s.toArray⟩ : ByteArray).size = s.length := str_size s
      have z4 : (⟨q.toArray⟩ : ByteArray).size = q.length := str_size q
      have z5 := str_app s q
      have hki : (k : Int) < (n : Int) := by omega
      have hk0 : (0 : Int) ≤ (k : Int) := by omega
      have HLT := Lib.hid hlt
      have hwk : IntKind.i64.wrap ((k : Int) + 1) = (k : Int) + 1 := IntWalk.i64_in _ (by have := HN20.out; omega)
      clear hx hvm hq hq1 hs1 hsq hlt hk
      go_wp2_with ((with_reducible refine (HC.out).mono ?_); rintro _ w3 ⟨rfl, hb3⟩; have HB3 := Lib.hid (HBO.out.trans (hb3.mono HBO.out.size)); clear hb3)
      go_roundw
      case rel => exact ⟨k + 1, HLT.out, by go_num, by rw [HNX.out], HB3.out⟩
      case measure => have := HLT.out; simp [Go.RowKit.intOf]; omega
    · obtain rfl : k = n := by omega
      have hki : (k : Int) ≤ (k : Int) := Int.le_refl _
      have hs1 := (HLEN.out k).1
      have htk : l.take k = l := List.take_of_length_le (by rw [HL.out]; exact Nat.le_refl _)
      rw [htk] at hs1
      rw [htk]
      obtain ⟨s, hsq⟩ : ∃ s, encsL l = s := ⟨_, rfl⟩
      rw [hsq] at hs1
      rw [hsq]
      have b2 : s.length + tl.length ≤ 9223372036854775807 := by omega
      have z3 : (⟨s.toArray⟩ : ByteArray).size = s.length := str_size s
      have z5 := str_app s tl
      have HSQ := Lib.hid hsq
      have HOP := Lib.hid (fun W => Open_any W (s ++ tl))
      have HBB := Lib.hid HBO.out.size
      clear hlt hk hs1 htk hsq
      go_wp2_with (fail)
      ((with_reducible refine (HOP.out _).mono ?_); rintro _ w4 ⟨rfl, h4r, hb4⟩)
      have HB4 := Lib.hid (HBO.out.trans (hb4.mono HBO.out.size))
      have H4 := Lib.hid h4r
      clear hb4 h4r
      obtain ⟨b, hbe⟩ : ∃ b, wo.heap.size = b := ⟨_, rfl⟩
      rw [hbe] at H4 HBB
      rw [hbe]
      clear hbe z3 z5 b2
      go_wp2_with (fail)
      go_loopw [9] (fun iv wr => ∃ j : Nat, j ≤ k ∧ iv = .int .i64 (j : Int) ∧ RdAt wr b ⟨encsL (l.drop j) ++ tl, false⟩ ∧ Below w.heap.size w wr) (fun i _ => k - (Go.RowKit.intOf i).toNat)
      case atStart => exact ⟨0, Nat.zero_le _, rfl, by rw [List.drop_zero, HSQ.out]; exact H4.out, HB4.out⟩
      case round =>
        obtain ⟨j, hj, rfl, hrd, hb⟩ := hrel
        obtain ⟨wp, rfl⟩ : ∃ wp : World, wp = wr := ⟨_, rfl⟩
        have HBP := Lib.hid hb
        have HR := Lib.hid hrd
        clear hb hrd H4 HB4
        by_cases hlt : j < k
        · obtain ⟨v, hx⟩ : ∃ v, l[j]? = some v := ⟨_, List.getElem?_eq_getElem (by rw [HL.out]; exact hlt)⟩
          have hvm := List.mem_of_getElem? hx
          obtain ⟨b', o, rfl, hbl, c0, c1, c2, c3, c4⟩ := val_at (HSL.out wp HBP.out) hx
          have hvo := (HO.out v hvm).1
          have hvf := HFW.out.2 v hvm
          have hdl := (HLEN.out j).2
          have HQ := Lib.hid (equal_any HR.out (HE.out wp HBP.out) HBB.out (ok_of rfl) (by show (encsL (l.drop j) ++ tl).length ≤ _; rw [List.length_append]; omega) v hvo hvf (fun W hb => (HO.out v hvm).2.below (HBP.out.trans hb)))
          have hrd := readF_read (wv_ok hvo hvf) (encsL (l.drop (j + 1)) ++ tl)
          rw [← List.append_assoc, ← encsL_drop hx] at hrd
          have HRD := Lib.hid hrd
          have hki : (j : Int) < (k : Int) := by omega
          have hk0 : (0 : Int) ≤ (j : Int) := by omega
          have HLT := Lib.hid hlt
          have hwk : IntKind.i64.wrap ((j : Int) + 1) = (j : Int) + 1 := IntWalk.i64_in _ (by have := HN20.out; omega)
          clear hx hvm hvo hvf hdl hrd hlt hj
          go_wp2_with (fail)
          ((with_reducible refine (HQ.out).mono ?_); rintro _ w5 ⟨⟨k2, rfl, hk2⟩, h5, g5⟩)
          have hkt : k2 = true := hk2.2 (by rw [HRD.out])
          subst hkt
          have H5 := Lib.hid h5
          rw [HRD.out] at H5
          have HB5 := Lib.hid (HBP.out.trans (below_row HBB.out HBP.out.size g5))
          clear hk2 h5 g5
          go_wp2_with (fail)
          go_roundw
          case rel => exact ⟨j + 1, HLT.out, by go_num, H5.out, HB5.out⟩
          case measure => have := HLT.out; simp [Go.RowKit.intOf]; omega
        · obtain rfl : j = k := by omega
          have hki : (j : Int) ≤ (j : Int) := Int.le_refl _
          have hdr : l.drop j = [] := List.drop_eq_nil_of_le (by rw [HL.out]; exact Nat.le_refl _)
          have hr0 := HR.out
          rw [hdr] at hr0
          have H0 : Hid (RdAt wp b ⟨tl, false⟩) := Lib.hid (by simpa [encsL] using hr0)
          clear hlt hj hdr hr0
          have HLF := Lib.hid (Left_any H0.out (tl.length : Int) rfl)
          have HRS := Lib.hid (Rest_any H0.out tl rfl)
          by_cases htl : tl = []
          · subst htl
            have HDN := Lib.hid (Done_any H0.out true rfl)
            go_wp2_with (fail)
            ((with_reducible refine (HLF.out).mono ?_); rintro _ w9 ⟨rfl, hw9⟩; obtain rfl := hw9)
            go_wp2_with (fail)
            ((with_reducible refine (HDN.out).mono ?_); rintro _ w9 ⟨rfl, hw9⟩; obtain rfl := hw9)
            go_wp2_with (fail)
            ((with_reducible refine (HRS.out).mono ?_); rintro _ w6 ⟨rfl, h6, g6⟩)
            have HD2 := Lib.hid (Done_any h6 true rfl)
            have HL2 := Lib.hid (Left_any h6 0 rfl)
            have HB6 := Lib.hid (HBP.out.trans (below_row HBB.out HBP.out.size g6))
            clear h6 g6
            go_wp2_with (first | ((with_reducible refine (HD2.out).mono ?_); rintro _ w9 ⟨rfl, hw9⟩; obtain rfl := hw9) | ((with_reducible refine (HL2.out).mono ?_); rintro _ w9 ⟨rfl, hw9⟩; obtain rfl := hw9))
            go_ret
            exact ⟨rfl, HB6.out⟩
          · have HDN := Lib.hid (Done_any H0.out false (by simp [doneB, htl]))
            have hie : tl.isEmpty = false := by
              cases tl with
              | nil => exact absurd rfl htl
              | cons => rfl
            go_wp2_with (fail)
            ((with_reducible refine (HLF.out).mono ?_); rintro _ w9 ⟨rfl, hw9⟩; obtain rfl := hw9)
            go_wp2_with (fail)
            ((with_reducible refine (HDN.out).mono ?_); rintro _ w9 ⟨rfl, hw9⟩; obtain rfl := hw9)
            go_wp2_with (fail)
            ((with_reducible refine (HRS.out).mono ?_); rintro _ w6 ⟨rfl, h6, g6⟩)
            have HD2 := Lib.hid (Done_any h6 true rfl)
            have HL2 := Lib.hid (Left_any h6 0 rfl)
            have HB6 := Lib.hid (HBP.out.trans (below_row HBB.out HBP.out.size g6))
            clear h6 g6
            go_wp2_with (first | ((with_reducible refine (HD2.out).mono ?_); rintro _ w9 ⟨rfl, hw9⟩; obtain rfl := hw9) | ((with_reducible refine (HL2.out).mono ?_); rintro _ w9 ⟨rfl, hw9⟩; obtain rfl := hw9))
            go_ret
            exact ⟨rfl, HB6.out⟩
end Go.Proofs.YtmceahmngifcgaaDoor
