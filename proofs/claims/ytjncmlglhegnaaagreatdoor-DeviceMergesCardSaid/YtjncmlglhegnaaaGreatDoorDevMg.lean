/- kerbsidelaw49: a World whose last crash is behind it can be opened, and hands over, in plain Lean; the list of all that was handed over. -/
/- kerbsidelaw49: what two devices hand over counts as a whole, in plain Lean. -/
/- kerbsidelaw49: DeviceMerges, walked. -/
import Derived.Test.YtjncmlglhegnaaaGreatDoorDevWB
import Derived.BigQuiet
import Derived.Test.YtjncmlglhegnaaaGreatDoorMrgR0
import Derived.Test.YtjncmlglhegnaaaGreatDoorMrgN0
import Derived.Deep.DeepCutAuto
namespace Go.Proofs.YtjncmlglhegnaaaGreatDoor
open Go.RowKit Go.Sort Go.Lib

section
variable {w0 w w' : World} {Rs : List Res} {W : Nat} {v : WorV}
/-- what a World handed over last, and that it may go on being seen -/
theorem Sep.worHand (h : Sep w0 w (worR W v :: Rs)) : ∃ (l : LsC), vsOf l.es = v.handed ∧ l.at_ w ∧ (∃ B px vd vl vt, Loc w W (worX B px v.number v.units l.val vd vl vt v.spent)) ∧ SeenAt v.ex w ∧ l.es.length ≤ l.c ∧ Sep w0 w (worR W { v with ex := v.ex ++ l.es } :: Rs) := by
  obtain ⟨⟨B, X, LH, LD, LL, LT⟩, ⟨hH, hD, hL, hT⟩, hq⟩ := h.worPart
  have hs := hq.sw.sees
  refine ⟨LH, hH, hs.1.1, ⟨B, _, _, _, _, hq.loc⟩, hs.1.2.1, hs.1.2.2, ?_⟩
  exact Sep.worPack ⟨B, X, LH, LD, LL, LT⟩ ⟨hH, hD, hL, hT⟩ (hq.sw.seesTurn (ψ := WorI.sees ⟨B, X, LH, LD, LL, LT⟩ (v.ex ++ LH.es)) fun Y hY => ⟨⟨hY.1.1, (fun e he => by
    rcases List.mem_append.1 he with g | g
    · exact hY.1.2.1 e g
    · exact hY.1.1.at_ e g), hY.1.2.2⟩, hY.2⟩).sw
end
section
variable {P : Program} {w : World}
end
end Go.Proofs.YtjncmlglhegnaaaGreatDoor
namespace Go.Proofs.YtjncmlglhegnaaaGreatDoor
open Go.RowKit Go.Sort Go.Lib

theorem zed8_getD {d e : Nat} {n : Int} (hd : d < 8) : (zed8.set d n).getD e 0 = if e = d then n else 0 := by
  by_cases he : e < 8
  · rw [List.getD_eq_getElem?_getD, List.getElem?_set]
    by_cases h : d = e
    · subst h
      rw [if_pos rfl, if_pos (by simpa [zed8] using hd), if_pos rfl]
      rfl
    · rw [if_neg h, if_neg (fun g => h g.symm)]
      have hz : ∀ k : Nat, k < 8 → zed8[k]? = some 0 := by decide
      rw [hz e he]
      rfl
  · rw [List.getD_eq_getElem?_getD, List.getElem?_eq_none (by simp [zed8]; omega), if_neg (by omega)]
    rfl
/-- a device's entries, that saw nothing of others -/
structure Alone (d : Nat) (P : List EntV) : Prop where
  chain : checkF P = 0
  dev : ∀ e ∈ P, e.dev = (d : Int)
  seen : ∀ e ∈ P, e.seen = zed8.set d e.no
theorem ownF_same {P : List EntV} {d : Int} (h : ∀ e ∈ P, e.dev = d) : ownF P d = P := by
  unfold ownF
  rw [List.filter_eq_self]
  exact fun e he => decide_eq_true (h e he)
theorem ownF_none {P : List EntV} {d e : Int} (h : ∀ x ∈ P, x.dev = d) (hd : d ≠ e) : ownF P e = [] := by
  unfold ownF
  rw [List.filter_eq_nil_iff]
  intro x hx hc
  exact hd ((h x hx).symm.trans (of_decide_eq_true hc))
theorem ownF_app (P Q : List EntV) (d : Int) : ownF (P ++ Q) d = ownF P d ++ ownF Q d := by unfold ownF; rw [List.filter_append]
theorem alone_see {d : Nat} {P : List EntV} (h : Alone d P) (hd : d < 8) {i : Nat} {x : EntV} (hx : P[i]? = some x) {e k : Nat} (he : e < 8) (hk : (k : Int) < x.seen.getD e 0) : ∃ (j : Nat) (y : EntV), j < i ∧ P[j]? = some y ∧ y.dev = (e : Int) ∧ y.no = (k : Int) := by
  rw [h.seen x (List.mem_of_getElem? hx), zed8_getD hd] at hk
  split at hk
  · rename_i hed
    subst hed
    have hno := (check_at h.chain hx).no
    obtain ⟨hi, _⟩ := List.getElem?_eq_some_iff.1 hx
    obtain ⟨y, hy⟩ : ∃ y, P[k]? = some y := ⟨_, List.getElem?_eq_getElem (by omega)⟩
    exact ⟨k, y, by omega, hy, h.dev y (List.mem_of_getElem? hy), (check_at h.chain hy).no⟩
  · omega
theorem hon_two {c d : Nat} {P Q : List EntV} (hP : Alone c P) (hQ : Alone d Q) (hc : c < 8) (hd : d < 8) (hcd : c ≠ d) : Hon (P ++ Q) := by
  refine ⟨fun x hx => ?_, fun i j x y hx hy hdv hno => ?_, fun i x hx e he k hk => ?_, fun e he => ?_⟩
  · rcases List.mem_append.1 hx with h | h
    · exact checkF_right hP.chain x h
    · exact checkF_right hQ.chain x h
  · by_cases hi : i < P.length
    · rw [List.getElem?_append_left hi] at hx
      by_cases hj : j < P.length
      · rw [List.getElem?_append_left hj] at hy
        have h1 := (check_at hP.chain hx).no
        have h2 := (check_at hP.chain hy).no
        omega
      · rw [List.getElem?_append_right (by omega)] at hy
        have h1 := hP.dev x (List.mem_of_getElem? hx)
        have h2 := hQ.dev y (List.mem_of_getElem? hy)
        omega
    · rw [List.getElem?_append_right (by omega)] at hx
      by_cases hj : j < P.length
      · rw [List.getElem?_append_left hj] at hy
        have h1 := hQ.dev x (List.mem_of_getElem? hx)
        have h2 := hP.dev y (List.mem_of_getElem? hy)
        omega
      · rw [List.getElem?_append_right (by omega)] at hy
        have h1 := (check_at hQ.chain hx).no
        have h2 := (check_at hQ.chain hy).no
        omega
  · by_cases hi : i < P.length
    · rw [List.getElem?_append_left hi] at hx
      obtain ⟨j, y, h1, h2, h3⟩ := alone_see hP hc hx he hk
      exact ⟨j, y, h1, by rw [List.getElem?_append_left (by omega)]; exact h2, h3⟩
    · rw [List.getElem?_append_right (by omega)] at hx
      obtain ⟨j, y, h1, h2, h3⟩ := alone_see hQ hd hx he hk
      exact ⟨P.length + j, y, by omega, by rw [List.getElem?_append_right (by omega), Nat.add_sub_cancel_left]; exact h2, h3⟩
  · rw [ownF_app]
    by_cases h1 : e = c
    · subst h1
      rw [ownF_same hP.dev, ownF_none hQ.dev (by omega), List.append_nil]
      exact hP.chain
    · by_cases h2 : e = d
      · subst h2
        rw [ownF_none hP.dev (by omega), ownF_same hQ.dev, List.nil_append]
        exact hQ.chain
      · rw [ownF_none hP.dev (by omega), ownF_none hQ.dev (by omega)]
        rfl
/-- what the law asks of the joined lists -/
theorem two_whole {P Q : List EntV} (hP : Alone 0 P) (hQ : Alone 7 Q) (k : Nat) :
    joinF (joinF (Q ++ P.take k) ++ P) = joinF (P ++ Q) ∧ (ordF (joinF (P ++ Q))).2.length = P.length + Q.length ∧ (ordF (joinF (P ++ Q))).1.getD 0 0 = P.length ∧ (ordF (joinF (P ++ Q))).1.getD 7 0 = Q.length ∧ forkO (joinF (P ++ Q)) = [] ∧ missF (joinF (joinF (P ++ Q))) = [] ∧ (joinF (P ++ Q)).length ≤ P.length + Q.length := by
  have hH := hon_two hP hQ (by decide) (by decide) (by decide)
  have hm : ∀ x, x ∈ joinF (P ++ Q) ↔ x ∈ P ++ Q := fun x => ⟨fun h => (mem_joinF.1 h).1, fun h => mem_joinF.2 ⟨h, hH.right x h⟩⟩
  have hw : ∀ d : Nat, d < 8 → (ordF (joinF (P ++ Q))).1.getD d 0 = (ownF (P ++ Q) (d : Int)).length := fun d hd => by
    rw [Closed.heads hH (Closed.self hH) hd, own_whole hH (Closed.self hH) hd fun x hx _ => (hm x).2 hx]
  refine ⟨joinF_congr fun x hx => ?_, ?_, ?_, ?_, hH.forks hm, hH.miss hm, ?_⟩
  · rw [List.mem_append, mem_joinF, List.mem_append, List.mem_append]
    constructor
    · rintro (⟨h | h, _⟩ | h)
      · exact .inr h
      · exact .inl (List.mem_of_mem_take h)
      · exact .inl h
    · rintro (h | h)
      · exact .inr h
      · exact .inl ⟨.inl h, hx⟩
  · rw [hH.order_len hm, List.length_append]
  · rw [hw 0 (by decide), ownF_app, ownF_same (by simpa using hP.dev), ownF_none hQ.dev (by decide), List.append_nil]
  · rw [hw 7 (by decide), ownF_app, ownF_none hP.dev (by decide), ownF_same (by simpa using hQ.dev), List.nil_append]
  · have := joinF_len (P ++ Q)
    rw [List.length_append] at this
    exact this
/-- what a World has handed over -/
theorem WC.alone {i : Nat} {d : DV} {number units : Int} {handed durable last torn : List EntV} {spent : Int} {jo : Option JV} (h : WC i d number units handed durable last torn spent jo) : Alone number.toNat handed ∧ handed.length ≤ i := by
  have hp : handed <+: last ++ torn := (h.hand.trans h.dur).trans (List.prefix_append _ _)
  refine ⟨⟨?_, fun e he => ?_, fun e he => h.seen e (hp.mem he)⟩, ?_⟩
  · rw [List.prefix_iff_eq_take.1 hp]; exact check_take h.chain _
  · rw [h.dev e (hp.mem he)]; exact (Int.toNat_of_nonneg h.n0).symm
  · have h1 := hp.length_le
    have h2 := h.len
    rw [List.length_append] at h1
    omega
end Go.Proofs.YtjncmlglhegnaaaGreatDoor
namespace Go.Proofs.YtjncmlglhegnaaaGreatDoor
open Go.RowKit Go.Sort Go.Lib

set_option maxRecDepth 100000 in
set_option maxHeartbeats 64000000 in
theorem deviceMerges_any (w : World) (hE : Env w.heap.size w) (A : Option Addr) (n c : Nat) (l : List ActE) (hs : Sl w 5 A n (l.map ActE.cells)) (hok : ∀ a ∈ l, a.ok) (hks : ActsAtE w l) (A' : Option Addr) (n' c' : Nat) (l' : List ActE) (hs' : Sl w 5 A' n' (l'.map ActE.cells)) (hok' : ∀ a ∈ l', a.ok) (hks' : ActsAtE w l') (u : Int) :
    Calls Tryz.prog 7 #[.slice A n c, .slice A' n' c', .int .i64 u] w fun e w' => e = .returned (.bool true) ∧ Below w.heap.size w w' := by
  have HE := Lib.hid hE
  have HSA := Lib.hid (sane_any w hE)
  have HS := Lib.hid hs
  have HOK := Lib.hid hok
  have HKS := Lib.hid hks
  have HS' := Lib.hid hs'
  have HOK' := Lib.hid hok'
  have HKS' := Lib.hid hks'
  have hll : l.length = n := by simpa using hs.1
  have HL := Lib.hid hll
  have hll' : l'.length = n' := by simpa using hs'.1
  have HL' := Lib.hid hll'
  have HFI := Lib.hid (fun W (hb : Below w.heap.size w W) => fine_any49 W A n c l (hs.below hb) u)
  have HFI' := Lib.hid (fun W (hb : Below w.heap.size w W) => fine_any49 W A' n' c' l' (hs'.below hb) u)
  clear hE hs hok hks hll hs' hok' hks' hll'
  go_enter Tryz.func7, Tryz.ntmps7
  go_wp2_with (fail)
  ((with_reducible refine (HSA.out).mono ?_); rintro _ w1 ⟨rfl, hb1⟩)
  have HB := Lib.hid hb1
  clear hb1 HSA
  go_wp2_with (fail)
  ((with_reducible refine (HFI.out _ HB.out).mono ?_); rintro _ _ ⟨r, rfl, hr, rfl⟩)
  have HR := Lib.hid hr
  clear hr
  cases r
  · go_wp2_with (fail)
    go_ret
    exact ⟨rfl, HB.out⟩
  go_wp2_with (fail)
  ((with_reducible refine (HFI'.out _ HB.out).mono ?_); rintro _ _ ⟨r, rfl, hr, rfl⟩)
  have HR' := Lib.hid hr
  clear hr
  cases r
  · go_wp2_with (fail)
    go_ret
    exact ⟨rfl, HB.out⟩
  obtain ⟨hfew, hu1, hu2⟩ := HR.out (by simp)
  obtain ⟨hfew', _, _⟩ := HR'.out (by simp)
  have HF := Lib.hid hfew
  have HF' := Lib.hid hfew'
  have HU := Lib.hid (And.intro hu1 hu2)
  clear hfew hfew' hu1 hu2 HR HR' HFI HFI'
  have HN : Hid (n ≤ 25) := Lib.hid (by have := HF.out.2; rw [HL.out] at this; exact this)
  have HN' : Hid (n' ≤ 25) := Lib.hid (by have := HF'.out.2; rw [HL'.out] at this; exact this)
  have HBG := Lib.hid (begin_all (Sep.of_below HB.out) HE.out 0 u (by decide) (by decide) HU.out.1 HU.out.2)
  go_wp2_with (fail)
  ((with_reducible refine (HBG.out).mono ?_); rintro _ w2 ⟨W1, v1, rfl, hI1, hn1, hu1, _, _, _, h2⟩)
  have HI1 := Lib.hid hI1
  have HV1 := Lib.hid (And.intro hn1 hu1)
  have HBG2 := Lib.hid (begin_all h2 HE.out 7 u (by decide) (by decide) HU.out.1 HU.out.2)
  clear hI1 hn1 hu1 h2 HBG HB
  go_wp2_with (fail)
  ((with_reducible refine (HBG2.out).mono ?_); rintro _ w3 ⟨W2, v2, rfl, hI2, hn2, hu2, _, _, _, h3⟩)
  have HI2 := Lib.hid hI2
  have HV2 := Lib.hid (And.intro hn2 hu2)
  have HQ3 := Lib.hid h3.sw
  clear hI2 hn2 hu2 h3 HBG2
  go_wp2_with (fail)
  go_loopw [10] (fun iv wr => ∃ (k : Nat) (v : WorV), k ≤ n ∧ iv = .int .i64 (k : Int) ∧ WI k v ∧ v.number = 0 ∧ v.units = u ∧ Sep w wr (worR W1 v :: worR W2 v2 :: [])) (fun iv _ => n - (Go.RowKit.intOf iv).toNat)
  case atStart => exact ⟨0, v1, Nat.zero_le _, rfl, HI1.out, HV1.out.1, HV1.out.2, HQ3.out⟩
  case round =>
    obtain ⟨k, v, hk, rfl, hI, hvn, hvu, hq⟩ := hrel
    obtain ⟨wo, rfl⟩ : ∃ wo : World, wo = wr := ⟨_, rfl⟩
    have HI := Lib.hid hI
    have HVN := Lib.hid (And.intro hvn hvu)
    have HQ := Lib.hid hq
    clear hI hvn hvu hq HQ3 HI1 HV1
    obtain ⟨lh, hlh, hlat, ⟨B', px, vd, vl, vt, hloc⟩, _, _, _⟩ := HQ.out.worHand
    obtain ⟨zW, kW, fW⟩ := hloc
    clear hlh hlat
    by_cases hlt : k < n
    · obtain ⟨a, ha⟩ : ∃ v, l[k]? = some v := ⟨_, List.getElem?_eq_getElem (by rw [HL.out]; exact hlt)⟩
      have HMA := Lib.hid (List.mem_of_getElem? ha)
      obtain ⟨ba, oa, rfl, hbl, d0, d1, d2, d3, d4⟩ := act_at (HS.out.below HQ.out.base) ha
      have hki : (k : Int) < (n : Int) := by omega
      have hk0 : (0 : Int) ≤ (k : Int) := by omega
      have hwk : IntKind.i64.wrap ((k : Int) + 1) = (k : Int) + 1 := IntWalk.i64_in _ (by have := HN.out; omega)
      have HLT := Lib.hid hlt
      have HDO := Lib.hid (do_all HQ.out HE.out HI.out (by have := HN.out; omega) a (HOK.out a HMA.out) (HF.out.1 a HMA.out) (HKS.out a HMA.out))
      simp only [actX] at HDO
      clear ha hlt hk
      go_wp2_with (fail)
      clear zW kW fW d0 d1 d2 d3 d4 hbl
      ((with_reducible refine (HDO.out).mono ?_); rintro _ w4 ⟨v', rfl, hI', hdr, hq'⟩)
      have HI' := Lib.hid hI'
      have HDR := Lib.hid hdr
      have HQ' := Lib.hid hq'
      clear hI' hdr hq' HDO HQ
      go_wp2_with (fail)
      go_roundw
      case rel => exact ⟨k + 1, v', HLT.out, by go_num, HI'.out, HDR.out.num.trans HVN.out.1, HDR.out.units.trans HVN.out.2, HQ'.out⟩
      case measure => have := HLT.out; simp [Go.RowKit.intOf]; omega
    · obtain rfl : k = n := by omega
      have hki : ¬ ((k : Int) < (k : Int)) := by omega
      clear hlt hk
      go_wp2_with (fail)
      clear zW kW fW
      go_loopw [11] (fun iv wr => ∃ (j : Nat) (z : WorV), j ≤ n' ∧ iv = .int .i64 (j : Int) ∧ WI j z ∧ z.number = 7 ∧ z.units = u ∧ Sep w wr (worR W2 z :: worR W1 v :: [])) (fun iv _ => n' - (Go.RowKit.intOf iv).toNat)
      case atStart => exact ⟨0, v2, Nat.zero_le _, rfl, HI2.out, HV2.out.1, HV2.out.2, HQ.out.sw⟩
      case round =>
        obtain ⟨j, z, hj, rfl, hI, hvn, hvu, hq⟩ := hrel
        obtain ⟨wp, rfl⟩ : ∃ wp : World, wp = wr := ⟨_, rfl⟩
        have HJ := Lib.hid hI
        have HZN := Lib.hid (And.intro hvn hvu)
        have HP := Lib.hid hq
        clear hI hvn hvu hq HQ HI2 HV2
        obtain ⟨lh, hlh, hlat, ⟨B', px, vd, vl, vt, hloc⟩, _, hcap, _⟩ := HP.out.worHand
        obtain ⟨lg, hlg, hgat, ⟨B2, px2, vd2, vl2, vt2, hloc2⟩, _, hcap2, _⟩ := HP.out.sw.worHand
        have HLH := Lib.hid hlh
        have HLG := Lib.hid hlg
        have HLAT : Hid (ChAt wp lh.A lh.es.length lh.es) := Lib.hid hlat
        have HGAT : Hid (ChAt wp lg.A lg.es.length lg.es) := Lib.hid hgat
        have HLC := Lib.hid hloc
        have HGC := Lib.hid hloc2
        have HCAP := Lib.hid hcap2
        clear hlh hlg hlat hgat hcap hcap2
        obtain ⟨zW, kW, fW⟩ := hloc
        obtain ⟨zV, kV, fV⟩ := hloc2
        by_cases hlt : j < n'
        · obtain ⟨a, ha⟩ : ∃ v, l'[j]? = some v := ⟨_, List.getElem?_eq_getElem (by rw [HL'.out]; exact hlt)⟩
          have HMA := Lib.hid (List.mem_of_getElem? ha)
          obtain ⟨ba, oa, rfl, hbl, d0, d1, d2, d3, d4⟩ := act_at (HS'.out.below HP.out.base) ha
          have hki : (j : Int) < (n' : Int) := by omega
          have hk0 : (0 : Int) ≤ (j : Int) := by omega
          have hwk : IntKind.i64.wrap ((j : Int) + 1) = (j : Int) + 1 := IntWalk.i64_in _ (by have := HN'.out; omega)
          have HLT := Lib.hid hlt
          have HDO := Lib.hid (do_all HP.out HE.out HJ.out (by have := HN'.out; omega) a (HOK'.out a HMA.out) (HF'.out.1 a HMA.out) (HKS'.out a HMA.out))
          simp only [actX] at HDO
          clear ha hlt hj
          go_wp2_with (fail)
          clear zW kW fW zV kV fV d0 d1 d2 d3 d4 hbl
          ((with_reducible refine (HDO.out).mono ?_); rintro _ w4 ⟨v', rfl, hI', hdr, hq'⟩)
          have HI' := Lib.hid hI'
          have HDR := Lib.hid hdr
          have HQ' := Lib.hid hq'
          clear hI' hdr hq' HDO HP
          go_wp2_with (fail)
          go_roundw
          case rel => exact ⟨j + 1, v', HLT.out, by go_num, HI'.out, HDR.out.num.trans HZN.out.1, HDR.out.units.trans HZN.out.2, HQ'.out⟩
          case measure => have := HLT.out; simp [Go.RowKit.intOf]; omega
        · obtain rfl : j = n' := by omega
          have hki : ¬ ((j : Int) < (j : Int)) := by omega
          clear hlt hj
          have hAl := HI.out.core.alone
          have hBl := HJ.out.core.alone
          rw [HVN.out.1, ← HLG.out] at hAl
          rw [HZN.out.1, ← HLH.out] at hBl
          obtain ⟨m1, hm1⟩ : ∃ m1, lg.es.length = m1 := ⟨_, rfl⟩
          obtain ⟨m2, hm2⟩ : ∃ m2, lh.es.length = m2 := ⟨_, rfl⟩
          have hl1 : (vsOf lg.es).length = m1 := by rw [vsOf_len, hm1]
          have hl2 : (vsOf lh.es).length = m2 := by rw [vsOf_len, hm2]
          have hm1n : m1 ≤ 25 := by rw [← hl1]; have := hAl.2; have := HN.out; omega
          have hm2n : m2 ≤ 25 := by rw [← hl2]; have := hBl.2; have := HN'.out; omega
          have htw := two_whole hAl.1 hBl.1 (m1 / 2)
          rw [hl1, hl2] at htw
          have HTW := Lib.hid htw
          have HM := Lib.hid (And.intro hm1n hm2n)
          have HBP := Lib.hid HP.out.base
          rw [hm1] at HGAT HCAP
          rw [hm2] at HLAT
          simp only [LsC.val, hm1, hm2] at HLC HGC kW kV
          clear hAl hBl hl1 hl2 hm1n hm2n htw hm1 hm2
          have HSS : Hid (∀ W', Below wp.heap.size wp W' → W'.cell? ⟨W1, 4, none⟩ = some (.slice lg.A m1 lg.c) ∧ W'.cell? ⟨W2, 4, none⟩ = some (.slice lh.A m2 lh.c)) := Lib.hid fun W' hb => ⟨(HGC.out.below hb).cell 4, (HLC.out.below hb).cell 4⟩
          have HEV := Lib.hid (fun W' (hb : Below wp.heap.size wp W') => (⟨HE.out.below (HBP.out.trans (hb.mono HBP.out.size)), Nat.le_trans HBP.out.size hb.size⟩ : Env w.heap.size W' ∧ w.heap.size ≤ W'.heap.size))
          have HB := Lib.hid (Below.refl wp.heap.size wp)
          obtain ⟨J, hJ⟩ : ∃ J, joinF (vsOf lg.es ++ vsOf lh.es) = J := ⟨_, rfl⟩
          have HJE := Lib.hid hJ
          rw [hJ] at HTW
          have HJL : Hid (J.length ≤ 50) := Lib.hid (by have h1 := HTW.out.2.2.2.2.2.2; have := HM.out; omega)
          clear hJ
          go_upto_region 16 with (fail)
          refine wpTill.startN 10 (S := (fun w' => w'.cell? ⟨W1, 4, none⟩ = some (.slice lg.A m1 lg.c) ∧ w'.cell? ⟨W2, 4, none⟩ = some (.slice lh.A m2 lh.c))) (T := fun _ => True) (m := 300) rfl (by kernel_rfl) ?_
          replace HB := Lib.hid HB.out.drew
          generalize wp.drew = wz at *
          refine wpTill.take (i := 0) (v := ?_) (by rfl) rfl (by kernel_rfl) (by kernel_rfl) (by kernel_rfl) (by exact fun _ _ _ h => h) (HSS.out _ HB.out) (fun _ => trivial) (Or.inl ⟨by rfl, ?_⟩) ?_
          rotate_left
          · (intro w' hSw; (try dsimp only at hSw); go_simp; (try with_reducible rfl))
          (try simp only [Act.put, List.setIfInBounds_toArray, List.set_cons_zero, List.set_cons_succ, List.getElem_toArray, List.getElem_cons_zero, List.getElem_cons_succ])
          refine wpTill.take (i := 1) (v := ?_) (by rfl) rfl (by kernel_rfl) (by kernel_rfl) (by kernel_rfl) (by exact fun _ _ _ h => h) (HSS.out _ HB.out) (fun _ => trivial) (Or.inl ⟨by rfl, ?_⟩) ?_
          rotate_left
          · (intro w' hSw; (try dsimp only at hSw); go_simp; (try with_reducible rfl))
          (try simp only [Act.put, List.setIfInBounds_toArray, List.set_cons_zero, List.set_cons_succ, List.getElem_toArray, List.getElem_cons_zero, List.getElem_cons_succ])
          refine wpTill.take (i := 2) (v := ?_) (by rfl) rfl (by kernel_rfl) (by kernel_rfl) (by kernel_rfl) (by exact fun _ _ _ h => h) (HSS.out _ HB.out) (fun _ => trivial) (Or.inl ⟨by rfl, ?_⟩) ?_
          rotate_left
          · (intro w' hSw; (try dsimp only at hSw); go_simp; (try with_reducible rfl))
          (try simp only [Act.put, List.setIfInBounds_toArray, List.set_cons_zero, List.set_cons_succ, List.getElem_toArray, List.getElem_cons_zero, List.getElem_cons_succ])
          refine wpTill.take (i := 3) (v := ?_) (by rfl) rfl (by kernel_rfl) (by kernel_rfl) (by kernel_rfl) (by exact fun _ _ _ h => h) (HSS.out _ HB.out) (fun _ => trivial) (Or.inl ⟨by rfl, ?_⟩) ?_
          rotate_left
          · (intro w' hSw; (try dsimp only at hSw); go_simp; (try with_reducible rfl))
          (try simp only [Act.put, List.setIfInBounds_toArray, List.set_cons_zero, List.set_cons_succ, List.getElem_toArray, List.getElem_cons_zero, List.getElem_cons_succ])
          refine wpTill.take (i := 4) (v := ?_) (by rfl) rfl (by kernel_rfl) (by kernel_rfl) (by kernel_rfl) (by exact fun _ _ _ h => h) (HSS.out _ HB.out) (fun _ => trivial) (Or.inl ⟨by rfl, ?_⟩) ?_
          rotate_left
          · (intro w' hSw; (try dsimp only at hSw); go_simp; (try with_reducible rfl))
          (try simp only [Act.put, List.setIfInBounds_toArray, List.set_cons_zero, List.set_cons_succ, List.getElem_toArray, List.getElem_cons_zero, List.getElem_cons_succ])
          refine wpTill.take (i := 5) (v := ?_) (by rfl) rfl (by kernel_rfl) (by kernel_rfl) (by kernel_rfl) (by exact fun _ _ _ h => h) (HSS.out _ HB.out) (fun _ => trivial) (Or.inl ⟨by rfl, ?_⟩) ?_
          rotate_left
          · (intro w' hSw; (try dsimp only at hSw); go_simp; (try with_reducible rfl))
          (try simp only [Act.put, List.setIfInBounds_toArray, List.set_cons_zero, List.set_cons_succ, List.getElem_toArray, List.getElem_cons_zero, List.getElem_cons_succ])
          refine wpTill.take (i := 6) (v := ?_) (by rfl) rfl (by kernel_rfl) (by kernel_rfl) (by kernel_rfl) (by exact fun _ _ _ h => h) (HSS.out _ HB.out) (fun _ => trivial) (Or.inl ⟨by rfl, ?_⟩) ?_
          rotate_left
          · (intro w' hSw; (try dsimp only at hSw); go_simp; (try with_reducible rfl))
          (try simp only [Act.put, List.setIfInBounds_toArray, List.set_cons_zero, List.set_cons_succ, List.getElem_toArray, List.getElem_cons_zero, List.getElem_cons_succ])
          refine wpTill.take (i := 7) (v := ?_) (by rfl) rfl (by kernel_rfl) (by kernel_rfl) (by kernel_rfl) (by exact fun _ _ _ h => h) (HSS.out _ HB.out) (fun _ => trivial) (Or.inl ⟨by rfl, ?_⟩) ?_
          rotate_left
          · (intro w' hSw; (try dsimp only at hSw); go_simp; (try with_reducible rfl))
          (try simp only [Act.put, List.setIfInBounds_toArray, List.set_cons_zero, List.set_cons_succ, List.getElem_toArray, List.getElem_cons_zero, List.getElem_cons_succ])
          have HJN := Lib.hid (Join_any wz (HEV.out _ HB.out).1 (HEV.out _ HB.out).2 lg.A lh.A m1 m2 lg.c lh.c lg.es lh.es (HGAT.out.below HB.out) (HLAT.out.below HB.out) (by have := HM.out; omega) (by have := HM.out; omega))
          refine wpTill.step (i := 8) (by kernel_rfl) (by rfl) (fun K' hK => ?_)
          replace hK := Lib.hid hK
          go_simp
          go_at_call 50
          ((with_reducible refine (HJN.out).mono ?_); rintro _ wJ ⟨Aa, ca, la, rfl, hca, hva, hbJ⟩)
          rw [HJE.out] at hca hva ⊢
          have HCA := Lib.hid hca
          have HVA := Lib.hid hva
          replace HB := Lib.hid (HB.out.trans (hbJ.mono HB.out.size))
          clear hca hva hbJ HJN
          refine hK.out _ _ (HSS.out _ HB.out) (fun _ => trivial) ?_
          clear hK K'
          (try simp only [Act.put, List.setIfInBounds_toArray, List.set_cons_zero, List.set_cons_succ, List.getElem_toArray, List.getElem_cons_zero, List.getElem_cons_succ])
          refine wpTill.take (i := 9) (v := ?_) (by rfl) rfl (by kernel_rfl) (by kernel_rfl) (by kernel_rfl) (by exact fun _ _ _ h => h) (HSS.out _ HB.out) (fun _ => trivial) (Or.inl ⟨by rfl, ?_⟩) ?_
          rotate_left
          · (intro w' hSw; (try dsimp only at hSw); go_simp; (try with_reducible rfl))
          (try simp only [Act.put, List.setIfInBounds_toArray, List.set_cons_zero, List.set_cons_succ, List.getElem_toArray, List.getElem_cons_zero, List.getElem_cons_succ])
          refine wpTill.stop (by kernel_rfl) ?_ _
          clear zW kW fW zV kV fV
          obtain ⟨zW, kW, fW⟩ := HLC.out.below HB.out
          obtain ⟨zV, kV, fV⟩ := HGC.out.below HB.out
          obtain ⟨k2, hk2⟩ : ∃ k2, m1 / 2 = k2 := ⟨_, rfl⟩
          have HK2 : Hid (k2 ≤ m1) := Lib.hid (by omega)
          have hq1 : (m1 : Int) / 2 = (k2 : Int) := by omega
          have hq2 : (m1 : Int).tdiv 2 = (k2 : Int) := by rw [Int.tdiv_eq_ediv_of_nonneg (by omega)]; exact hq1
          have hw1 : IntKind.i64.wrap (m1 : Int) = (m1 : Int) := IntWalk.i64_in _ (by have := HM.out; omega)
          have hw2 : IntKind.i64.wrap (k2 : Int) = (k2 : Int) := IntWalk.i64_in _ (by have := HM.out; omega)
          have hkc : (k2 : Int) ≤ (lg.c : Int) := by have := HCAP.out; omega
          have hk0 : (0 : Int) ≤ (k2 : Int) := by omega
          have hkm : (k2 : Int) ≤ (m1 : Int) := by omega
          have hkt : ((k2 : Int)).toNat = k2 := by omega
          rw [hk2] at HTW
          clear hk2
          go_upto_region 17 with (fail)
          refine wpTill.startN 22 (S := (fun w' => w'.cell? ⟨W1, 4, none⟩ = some (.slice lg.A m1 lg.c) ∧ w'.cell? ⟨W2, 4, none⟩ = some (.slice lh.A m2 lh.c))) (T := fun _ => True) (m := 300) rfl (by kernel_rfl) ?_
          replace HB := Lib.hid HB.out.drew
          replace HCA := Lib.hid (HCA.out.below (Below.drew (Below.refl _ _)))
          generalize wJ.drew = wz at *
          refine wpTill.take (i := 0) (v := ?_) (by rfl) rfl (by kernel_rfl) (by kernel_rfl) (by kernel_rfl) (by exact fun _ _ _ h => h) (HSS.out _ HB.out) (fun _ => trivial) (Or.inl ⟨by rfl, ?_⟩) ?_
          rotate_left
          · (intro w' hSw; (try dsimp only at hSw); go_simp; (try with_reducible rfl))
          (try simp only [Act.put, List.setIfInBounds_toArray, List.set_cons_zero, List.set_cons_succ, List.getElem_toArray, List.getElem_cons_zero, List.getElem_cons_succ])
          refine wpTill.take (i := 1) (v := ?_) (by rfl) rfl (by kernel_rfl) (by kernel_rfl) (by kernel_rfl) (by exact fun _ _ _ h => h) (HSS.out _ HB.out) (fun _ => trivial) (Or.inl ⟨by rfl, ?_⟩) ?_
          rotate_left
          · (intro w' hSw; (try dsimp only at hSw); go_simp; (try with_reducible rfl))
          (try simp only [Act.put, List.setIfInBounds_toArray, List.set_cons_zero, List.set_cons_succ, List.getElem_toArray, List.getElem_cons_zero, List.getElem_cons_succ])
          refine wpTill.take (i := 2) (v := ?_) (by rfl) rfl (by kernel_rfl) (by kernel_rfl) (by kernel_rfl) (by exact fun _ _ _ h => h) (HSS.out _ HB.out) (fun _ => trivial) (Or.inl ⟨by rfl, ?_⟩) ?_
          rotate_left
          · (intro w' hSw; (try dsimp only at hSw); go_simp; (try with_reducible rfl))
          (try simp only [Act.put, List.setIfInBounds_toArray, List.set_cons_zero, List.set_cons_succ, List.getElem_toArray, List.getElem_cons_zero, List.getElem_cons_succ])
          refine wpTill.take (i := 3) (v := ?_) (by rfl) rfl (by kernel_rfl) (by kernel_rfl) (by kernel_rfl) (by exact fun _ _ _ h => h) (HSS.out _ HB.out) (fun _ => trivial) (Or.inl ⟨by rfl, ?_⟩) ?_
          rotate_left
          · (intro w' hSw; (try dsimp only at hSw); go_simp; (try with_reducible rfl))
          (try simp only [Act.put, List.setIfInBounds_toArray, List.set_cons_zero, List.set_cons_succ, List.getElem_toArray, List.getElem_cons_zero, List.getElem_cons_succ])
          refine wpTill.take (i := 4) (v := ?_) (by rfl) rfl (by kernel_rfl) (by kernel_rfl) (by kernel_rfl) (by exact fun _ _ _ h => h) (HSS.out _ HB.out) (fun _ => trivial) (Or.inl ⟨by rfl, ?_⟩) ?_
          rotate_left
          · (intro w' hSw; (try dsimp only at hSw); go_simp; (try with_reducible rfl))
          (try simp only [Act.put, List.setIfInBounds_toArray, List.set_cons_zero, List.set_cons_succ, List.getElem_toArray, List.getElem_cons_zero, List.getElem_cons_succ])
          refine wpTill.take (i := 5) (v := ?_) (by rfl) rfl (by kernel_rfl) (by kernel_rfl) (by kernel_rfl) (by exact fun _ _ _ h => h) (HSS.out _ HB.out) (fun _ => trivial) (Or.inl ⟨by rfl, ?_⟩) ?_
          rotate_left
          · (intro w' hSw; (try dsimp only at hSw); go_simp; (try with_reducible rfl))
          (try simp only [Act.put, List.setIfInBounds_toArray, List.set_cons_zero, List.set_cons_succ, List.getElem_toArray, List.getElem_cons_zero, List.getElem_cons_succ])
          refine wpTill.take (i := 6) (v := ?_) (by rfl) rfl (by kernel_rfl) (by kernel_rfl) (by kernel_rfl) (by exact fun _ _ _ h => h) (HSS.out _ HB.out) (fun _ => trivial) (Or.inl ⟨by rfl, ?_⟩) ?_
          rotate_left
          · (intro w' hSw; (try dsimp only at hSw); go_simp; (try with_reducible rfl))
          (try simp only [Act.put, List.setIfInBounds_toArray, List.set_cons_zero, List.set_cons_succ, List.getElem_toArray, List.getElem_cons_zero, List.getElem_cons_succ])
          refine wpTill.take (i := 7) (v := ?_) (by rfl) rfl (by kernel_rfl) (by kernel_rfl) (by kernel_rfl) (by exact fun _ _ _ h => h) (HSS.out _ HB.out) (fun _ => trivial) (Or.inl ⟨by rfl, ?_⟩) ?_
          rotate_left
          · (intro w' hSw; (try dsimp only at hSw); go_simp; (try with_reducible rfl))
          (try simp only [Act.put, List.setIfInBounds_toArray, List.set_cons_zero, List.set_cons_succ, List.getElem_toArray, List.getElem_cons_zero, List.getElem_cons_succ])
          refine wpTill.take (i := 8) (v := ?_) (by rfl) rfl (by kernel_rfl) (by kernel_rfl) (by kernel_rfl) (by exact fun _ _ _ h => h) (HSS.out _ HB.out) (fun _ => trivial) (Or.inl ⟨by rfl, ?_⟩) ?_
          rotate_left
          · (intro w' hSw; (try dsimp only at hSw); go_simp; (try with_reducible rfl))
          (try simp only [Act.put, List.setIfInBounds_toArray, List.set_cons_zero, List.set_cons_succ, List.getElem_toArray, List.getElem_cons_zero, List.getElem_cons_succ])
          refine wpTill.take (i := 9) (v := ?_) (by rfl) rfl (by kernel_rfl) (by kernel_rfl) (by kernel_rfl) (by exact fun _ _ _ h => h) (HSS.out _ HB.out) (fun _ => trivial) (Or.inl ⟨by rfl, ?_⟩) ?_
          rotate_left
          · (intro w' hSw; (try dsimp only at hSw); go_simp; (try with_reducible rfl))
          (try simp only [Act.put, List.setIfInBounds_toArray, List.set_cons_zero, List.set_cons_succ, List.getElem_toArray, List.getElem_cons_zero, List.getElem_cons_succ])
          refine wpTill.take (i := 10) (v := ?_) (by rfl) rfl (by kernel_rfl) (by kernel_rfl) (by kernel_rfl) (by exact fun _ _ _ h => h) (HSS.out _ HB.out) (fun _ => trivial) (Or.inl ⟨by rfl, ?_⟩) ?_
          rotate_left
          · (intro w' hSw; (try dsimp only at hSw); go_simp; (try with_reducible rfl))
          (try simp only [Act.put, List.setIfInBounds_toArray, List.set_cons_zero, List.set_cons_succ, List.getElem_toArray, List.getElem_cons_zero, List.getElem_cons_succ])
          refine wpTill.take (i := 11) (v := ?_) (by rfl) rfl (by kernel_rfl) (by kernel_rfl) (by kernel_rfl) (by exact fun _ _ _ h => h) (HSS.out _ HB.out) (fun _ => trivial) (Or.inl ⟨by rfl, ?_⟩) ?_
          rotate_left
          · (intro w' hSw; (try dsimp only at hSw); go_simp; (try with_reducible rfl))
          (try simp only [Act.put, List.setIfInBounds_toArray, List.set_cons_zero, List.set_cons_succ, List.getElem_toArray, List.getElem_cons_zero, List.getElem_cons_succ])
          refine wpTill.take (i := 12) (v := ?_) (by rfl) rfl (by kernel_rfl) (by kernel_rfl) (by kernel_rfl) (by exact fun _ _ _ h => h) (HSS.out _ HB.out) (fun _ => trivial) (Or.inl ⟨by rfl, ?_⟩) ?_
          rotate_left
          · (intro w' hSw; (try dsimp only at hSw); go_simp; (try with_reducible rfl))
          (try simp only [Act.put, List.setIfInBounds_toArray, List.set_cons_zero, List.set_cons_succ, List.getElem_toArray, List.getElem_cons_zero, List.getElem_cons_succ])
          refine wpTill.take (i := 13) (v := ?_) (by rfl) rfl (by kernel_rfl) (by kernel_rfl) (by kernel_rfl) (by exact fun _ _ _ h => h) (HSS.out _ HB.out) (fun _ => trivial) (Or.inl ⟨by rfl, ?_⟩) ?_
          rotate_left
          · (intro w' hSw; (try dsimp only at hSw); go_simp; (try with_reducible rfl))
          (try simp only [Act.put, List.setIfInBounds_toArray, List.set_cons_zero, List.set_cons_succ, List.getElem_toArray, List.getElem_cons_zero, List.getElem_cons_succ])
          refine wpTill.take (i := 14) (v := ?_) (by rfl) rfl (by kernel_rfl) (by kernel_rfl) (by kernel_rfl) (by exact fun _ _ _ h => h) (HSS.out _ HB.out) (fun _ => trivial) (Or.inl ⟨by rfl, ?_⟩) ?_
          rotate_left
          · (intro w' hSw; (try dsimp only at hSw); go_simp; (try with_reducible rfl))
          (try simp only [Act.put, List.setIfInBounds_toArray, List.set_cons_zero, List.set_cons_succ, List.getElem_toArray, List.getElem_cons_zero, List.getElem_cons_succ])
          refine wpTill.take (i := 16) (v := ?_) (by rfl) rfl (by kernel_rfl) (by kernel_rfl) (by kernel_rfl) (by exact fun _ _ _ h => h) (HSS.out _ HB.out) (fun _ => trivial) (Or.inl ⟨by rfl, ?_⟩) ?_
          rotate_left
          · (intro w' hSw; (try dsimp only at hSw); go_simp; (try with_reducible rfl))
          (try simp only [Act.put, List.setIfInBounds_toArray, List.set_cons_zero, List.set_cons_succ, List.getElem_toArray, List.getElem_cons_zero, List.getElem_cons_succ])
          refine wpTill.take (i := 17) (v := ?_) (by rfl) rfl (by kernel_rfl) (by kernel_rfl) (by kernel_rfl) (by exact fun _ _ _ h => h) (HSS.out _ HB.out) (fun _ => trivial) (Or.inl ⟨by rfl, ?_⟩) ?_
          rotate_left
          · (intro w' hSw; (try dsimp only at hSw); go_simp; (try with_reducible rfl))
          (try simp only [Act.put, List.setIfInBounds_toArray, List.set_cons_zero, List.set_cons_succ, List.getElem_toArray, List.getElem_cons_zero, List.getElem_cons_succ])
          refine wpTill.take (i := 18) (v := ?_) (by rfl) rfl (by kernel_rfl) (by kernel_rfl) (by kernel_rfl) (by exact fun _ _ _ h => h) (HSS.out _ HB.out) (fun _ => trivial) (Or.inl ⟨by rfl, ?_⟩) ?_
          rotate_left
          · (intro w' hSw; (try dsimp only at hSw); go_simp; (try with_reducible rfl))
          (try simp only [Act.put, List.setIfInBounds_toArray, List.set_cons_zero, List.set_cons_succ, List.getElem_toArray, List.getElem_cons_zero, List.getElem_cons_succ])
          refine wpTill.take (i := 19) (v := ?_) (by rfl) rfl (by kernel_rfl) (by kernel_rfl) (by kernel_rfl) (by exact fun _ _ _ h => h) (HSS.out _ HB.out) (fun _ => trivial) (Or.inl ⟨by rfl, ?_⟩) ?_
          rotate_left
          · (intro w' hSw; (try dsimp only at hSw); go_simp; (try with_reducible rfl))
          (try simp only [Act.put, List.setIfInBounds_toArray, List.set_cons_zero, List.set_cons_succ, List.getElem_toArray, List.getElem_cons_zero, List.getElem_cons_succ])
          have HJN := Lib.hid (Join_any wz (HEV.out _ HB.out).1 (HEV.out _ HB.out).2 lh.A lg.A m2 k2 lh.c lg.c lh.es (lg.es.take k2) (HLAT.out.below HB.out) ((HGAT.out.part HB.out ((HGAT.out.below HB.out).sl.head HK2.out |> fun h => by rwa [← List.map_take] at h) (fun x hx => List.mem_of_mem_take hx))) (by have := HM.out; omega) (by have := HM.out; have := HK2.out; omega))
          refine wpTill.step (i := 15) (by kernel_rfl) (by rfl) (fun K' hK => ?_)
          replace hK := Lib.hid hK
          go_simp
          go_at_call 50
          ((with_reducible refine (HJN.out).mono ?_); rintro _ wK ⟨Ab, cb, lb, rfl, hcb, hvb, hbJ⟩)
          have HVB := Lib.hid hvb
          have HCB := Lib.hid hcb
          replace HCA := Lib.hid (HCA.out.below hbJ)
          replace HB := Lib.hid (HB.out.trans (hbJ.mono HB.out.size))
          clear hcb hvb hbJ HJN
          refine hK.out _ _ (HSS.out _ HB.out) (fun _ => trivial) ?_
          clear hK K'
          (try simp only [Act.put, List.setIfInBounds_toArray, List.set_cons_zero, List.set_cons_succ, List.getElem_toArray, List.getElem_cons_zero, List.getElem_cons_succ])
          have HLB : Hid ((joinF (vsOf lh.es ++ vsOf (lg.es.take k2))).length ≤ 50) := Lib.hid (by
            have h1 := joinF_len (vsOf lh.es ++ vsOf (lg.es.take k2))
            rw [List.length_append, vsOf_len, vsOf_len, List.length_take] at h1
            have h2 : lh.es.length = m2 := by simpa using HLAT.out.sl.1
            have := HM.out
            omega)
          have HJN := Lib.hid (Join_any wK (HEV.out _ HB.out).1 (HEV.out _ HB.out).2 Ab lg.A _ m1 cb lg.c lb lg.es HCB.out (HGAT.out.below HB.out) (by have := HLB.out; omega) (by have := HM.out; omega))
          refine wpTill.step (i := 20) (by kernel_rfl) (by rfl) (fun K' hK => ?_)
          replace hK := Lib.hid hK
          go_simp
          go_at_call 50
          ((with_reducible refine (HJN.out).mono ?_); rintro _ wL ⟨Ac, cc, lc, rfl, hcc, hvc, hbJ⟩)
          have hjj : joinF (vsOf lb ++ vsOf lg.es) = J := by
            rw [HVB.out]
            have e : vsOf (lg.es.take k2) = (vsOf lg.es).take k2 := by unfold vsOf; rw [List.map_take]
            rw [e]
            exact HTW.out.1
          rw [hjj] at hcc hvc ⊢
          have HCC := Lib.hid hcc
          have HVC := Lib.hid hvc
          replace HCA := Lib.hid (HCA.out.below hbJ)
          replace HB := Lib.hid (HB.out.trans (hbJ.mono HB.out.size))
          clear hcc hvc hbJ HJN hjj HCB HVB HLB
          refine hK.out _ _ (HSS.out _ HB.out) (fun _ => trivial) ?_
          clear hK K'
          (try simp only [Act.put, List.setIfInBounds_toArray, List.set_cons_zero, List.set_cons_succ, List.getElem_toArray, List.getElem_cons_zero, List.getElem_cons_succ])
          refine wpTill.take (i := 21) (v := ?_) (by rfl) rfl (by kernel_rfl) (by kernel_rfl) (by kernel_rfl) (by exact fun _ _ _ h => h) (HSS.out _ HB.out) (fun _ => trivial) (Or.inl ⟨by rfl, ?_⟩) ?_
          rotate_left
          · (intro w' hSw; (try dsimp only at hSw); go_simp; (try with_reducible rfl))
          (try simp only [Act.put, List.setIfInBounds_toArray, List.set_cons_zero, List.set_cons_succ, List.getElem_toArray, List.getElem_cons_zero, List.getElem_cons_succ])
          refine wpTill.stop (by kernel_rfl) ?_ _
          have HOR := Lib.hid (Order_any wL (HEV.out _ HB.out).1 (HEV.out _ HB.out).2 Aa J.length ca la HCA.out (by have := HJL.out; omega))
          clear zW kW fW zV kV fV hq1 hq2 hw1 hw2 hkc hk0 hkm hkt
          go_wp2_with (fail)
          ((with_reducible refine (HOR.out).mono ?_); rintro _ wM ⟨Ax, cx, lx, rfl, _, _, hbJ⟩)
          rw [HVA.out, HTW.out.2.1]
          replace HCA := Lib.hid (HCA.out.below hbJ)
          replace HCC := Lib.hid (HCC.out.below hbJ)
          replace HB := Lib.hid (HB.out.trans (hbJ.mono HB.out.size))
          clear hbJ HOR
          have HHD := Lib.hid (Heads_any wM (HEV.out _ HB.out).1 (HEV.out _ HB.out).2 Aa J.length ca la HCA.out (by have := HJL.out; omega))
          go_wp2_with (fail)
          ((with_reducible refine (HHD.out).mono ?_); rintro _ wN ⟨gH, rfl, hown, hbJ⟩)
          rw [HVA.out] at hown
          have hh0 := HTW.out.2.2.1
          have hh7 := HTW.out.2.2.2.1
          have hl8 : (ordF J).1.length = 8 := by have := hown.sl'.1; simpa using this
          have h0e : (ordF J).1[0]? = some m1 := by rw [List.getD_eq_getElem?_getD] at hh0; rw [List.getElem?_eq_getElem (by omega)] at hh0 ⊢; simpa using hh0
          have h7e : (ordF J).1[7]? = some m2 := by rw [List.getD_eq_getElem?_getD] at hh7; rw [List.getElem?_eq_getElem (by omega)] at hh7 ⊢; simpa using hh7
          have hcl : wN.cell? ⟨gH, 0, none⟩ = some (.int .i64 (m1 : Int)) ∧ wN.cell? ⟨gH, 7, none⟩ = some (.int .i64 (m2 : Int)) := by
            obtain ⟨b1, o1, e1, _, q1⟩ := hown.sl'.2 0 (natC m1) (by rw [List.getElem?_map, h0e]; rfl)
            obtain ⟨b2, o2, e2, _, q2⟩ := hown.sl'.2 7 (natC m2) (by rw [List.getElem?_map, h7e]; rfl)
            injection e1 with e1
            injection e1 with g1 g2
            injection e2 with e2
            injection e2 with g3 g4
            subst g1 g2 g3 g4
            exact ⟨q1 0 _ rfl, q2 0 _ rfl⟩
          have HCL : Hid (∀ W', Below wN.heap.size wN W' → W'.cell? ⟨gH, 0, none⟩ = some (.int .i64 (m1 : Int)) ∧ W'.cell? ⟨gH, 7, none⟩ = some (.int .i64 (m2 : Int))) := Lib.hid fun W' hb => by
            have hlt : gH < wN.heap.size := by
              obtain ⟨b1, o1, e1, hb1, _⟩ := hown.sl'.2 0 (natC m1) (by rw [List.getElem?_map, h0e]; rfl)
              injection e1 with e1
              injection e1 with g1 g2
              rw [g1]; exact hb1
            exact ⟨(World.cell?_of_block (w := wN) (a := ⟨gH, 0, none⟩) (hb.block gH hlt)).trans hcl.1, (World.cell?_of_block (w := wN) (a := ⟨gH, 7, none⟩) (hb.block gH hlt)).trans hcl.2⟩
          replace HCA := Lib.hid (HCA.out.below hbJ)
          replace HCC := Lib.hid (HCC.out.below hbJ)
          replace HB := Lib.hid (HB.out.trans (hbJ.mono HB.out.size))
          have HBN := Lib.hid (Below.refl wN.heap.size wN)
          clear hbJ HHD hown hh0 hh7 hl8 h0e h7e hcl
          have HSL : Hid (IntKind.i64.wrap ((m1 : Int) + (m2 : Int)) = (m1 : Int) + (m2 : Int)) := Lib.hid (IntWalk.i64_in _ (by have := HM.out; omega))
          have hsl := HSL.out
          have hne : (((m1 + m2 : Nat) : Int) != (m1 : Int) + (m2 : Int)) = false := by simp
          go_upto_region 20 with (fail)
          refine wpTill.startN 25 (S := (fun w' => w'.cell? ⟨W1, 4, none⟩ = some (.slice lg.A m1 lg.c) ∧ w'.cell? ⟨W2, 4, none⟩ = some (.slice lh.A m2 lh.c) ∧ w'.cell? ⟨gH, 0, none⟩ = some (.int .i64 (m1 : Int)) ∧ w'.cell? ⟨gH, 7, none⟩ = some (.int .i64 (m2 : Int)))) (T := fun _ => True) (m := 300) rfl (by kernel_rfl) ?_
          replace HB := Lib.hid HB.out.drew
          replace HBN := Lib.hid HBN.out.drew
          replace HCA := Lib.hid (HCA.out.below (Below.drew (Below.refl _ _)))
          replace HCC := Lib.hid (HCC.out.below (Below.drew (Below.refl _ _)))
          generalize wN.drew = wz at *
          refine wpTill.take (i := 0) (v := ?_) (by rfl) rfl (by kernel_rfl) (by kernel_rfl) (by kernel_rfl) (by exact fun _ _ _ h => h) ⟨(HSS.out _ HB.out).1, (HSS.out _ HB.out).2, (HCL.out _ HBN.out).1, (HCL.out _ HBN.out).2⟩ (fun _ => trivial) (Or.inl ⟨by rfl, ?_⟩) ?_
          rotate_left
          · (intro w' hSw; (try dsimp only at hSw); go_simp; (try with_reducible rfl))
          (try simp only [Act.put, List.setIfInBounds_toArray, List.set_cons_zero, List.set_cons_succ, List.getElem_toArray, List.getElem_cons_zero, List.getElem_cons_succ])
          refine wpTill.take (i := 1) (v := ?_) (by rfl) rfl (by kernel_rfl) (by kernel_rfl) (by kernel_rfl) (by exact fun _ _ _ h => h) ⟨(HSS.out _ HB.out).1, (HSS.out _ HB.out).2, (HCL.out _ HBN.out).1, (HCL.out _ HBN.out).2⟩ (fun _ => trivial) (Or.inl ⟨by rfl, ?_⟩) ?_
          rotate_left
          · (intro w' hSw; (try dsimp only at hSw); go_simp; (try with_reducible rfl))
          (try simp only [Act.put, List.setIfInBounds_toArray, List.set_cons_zero, List.set_cons_succ, List.getElem_toArray, List.getElem_cons_zero, List.getElem_cons_succ])
          have HSC := Lib.hid (SameChain_any wz Aa Ac J.length ca J.length cc la lc HCA.out HCC.out (by have := HJL.out; omega) true (decide_eq_true (by rw [HVA.out, HVC.out])))
          refine wpTill.step (i := 2) (by kernel_rfl) (by rfl) (fun K' hK => ?_)
          replace hK := Lib.hid hK
          go_simp
          go_at_call 35
          ((with_reducible refine (HSC.out).mono ?_); rintro _ wO ⟨rfl, hbJ⟩)
          replace HCA := Lib.hid (HCA.out.below hbJ)
          replace HB := Lib.hid (HB.out.trans (hbJ.mono HB.out.size))
          replace HBN := Lib.hid (HBN.out.trans (hbJ.mono HBN.out.size))
          clear hbJ HSC HCC
          refine hK.out _ _ ⟨(HSS.out _ HB.out).1, (HSS.out _ HB.out).2, (HCL.out _ HBN.out).1, (HCL.out _ HBN.out).2⟩ (fun _ => trivial) ?_
          clear hK K'
          (try simp only [Act.put, List.setIfInBounds_toArray, List.set_cons_zero, List.set_cons_succ, List.getElem_toArray, List.getElem_cons_zero, List.getElem_cons_succ])
          refine wpTill.take (i := 3) (v := ?_) (by rfl) rfl (by kernel_rfl) (by kernel_rfl) (by kernel_rfl) (by exact fun _ _ _ h => h) ⟨(HSS.out _ HB.out).1, (HSS.out _ HB.out).2, (HCL.out _ HBN.out).1, (HCL.out _ HBN.out).2⟩ (fun _ => trivial) (Or.inl ⟨by rfl, ?_⟩) ?_
          rotate_left
          · (intro w' hSw; (try dsimp only at hSw); go_simp; (try with_reducible rfl))
          (try simp only [Act.put, List.setIfInBounds_toArray, List.set_cons_zero, List.set_cons_succ, List.getElem_toArray, List.getElem_cons_zero, List.getElem_cons_succ])
          refine wpTill.take (i := 4) (v := ?_) (by rfl) rfl (by kernel_rfl) (by kernel_rfl) (by kernel_rfl) (by exact fun _ _ _ h => h) ⟨(HSS.out _ HB.out).1, (HSS.out _ HB.out).2, (HCL.out _ HBN.out).1, (HCL.out _ HBN.out).2⟩ (fun _ => trivial) (Or.inl ⟨by rfl, ?_⟩) ?_
          rotate_left
          · (intro w' hSw; (try dsimp only at hSw); go_simp; (try with_reducible rfl))
          (try simp only [Act.put, List.setIfInBounds_toArray, List.set_cons_zero, List.set_cons_succ, List.getElem_toArray, List.getElem_cons_zero, List.getElem_cons_succ])
          refine wpTill.take (i := 5) (v := ?_) (by rfl) rfl (by kernel_rfl) (by kernel_rfl) (by kernel_rfl) (by exact fun _ _ _ h => h) ⟨(HSS.out _ HB.out).1, (HSS.out _ HB.out).2, (HCL.out _ HBN.out).1, (HCL.out _ HBN.out).2⟩ (fun _ => trivial) (Or.inl ⟨by rfl, ?_⟩) ?_
          rotate_left
          · (intro w' hSw; (try dsimp only at hSw); go_simp; (try with_reducible rfl))
          (try simp only [Act.put, List.setIfInBounds_toArray, List.set_cons_zero, List.set_cons_succ, List.getElem_toArray, List.getElem_cons_zero, List.getElem_cons_succ])
          refine wpTill.take (i := 6) (v := ?_) (by rfl) rfl (by kernel_rfl) (by kernel_rfl) (by kernel_rfl) (by exact fun _ _ _ h => h) ⟨(HSS.out _ HB.out).1, (HSS.out _ HB.out).2, (HCL.out _ HBN.out).1, (HCL.out _ HBN.out).2⟩ (fun _ => trivial) (Or.inl ⟨by rfl, ?_⟩) ?_
          rotate_left
          · (intro w' hSw; (try dsimp only at hSw); go_simp; (try with_reducible rfl))
          (try simp only [Act.put, List.setIfInBounds_toArray, List.set_cons_zero, List.set_cons_succ, List.getElem_toArray, List.getElem_cons_zero, List.getElem_cons_succ])
          refine wpTill.take (i := 7) (v := ?_) (by rfl) rfl (by kernel_rfl) (by kernel_rfl) (by kernel_rfl) (by exact fun _ _ _ h => h) ⟨(HSS.out _ HB.out).1, (HSS.out _ HB.out).2, (HCL.out _ HBN.out).1, (HCL.out _ HBN.out).2⟩ (fun _ => trivial) (Or.inl ⟨by rfl, ?_⟩) ?_
          rotate_left
          · (intro w' hSw; (try dsimp only at hSw); go_simp; (try with_reducible rfl))
          (try simp only [Act.put, List.setIfInBounds_toArray, List.set_cons_zero, List.set_cons_succ, List.getElem_toArray, List.getElem_cons_zero, List.getElem_cons_succ])
          refine wpTill.take (i := 8) (v := ?_) (by rfl) rfl (by kernel_rfl) (by kernel_rfl) (by kernel_rfl) (by exact fun _ _ _ h => h) ⟨(HSS.out _ HB.out).1, (HSS.out _ HB.out).2, (HCL.out _ HBN.out).1, (HCL.out _ HBN.out).2⟩ (fun _ => trivial) (Or.inl ⟨by rfl, ?_⟩) ?_
          rotate_left
          · (intro w' hSw; (try dsimp only at hSw); go_simp; (try with_reducible rfl))
          (try simp only [Act.put, List.setIfInBounds_toArray, List.set_cons_zero, List.set_cons_succ, List.getElem_toArray, List.getElem_cons_zero, List.getElem_cons_succ])
          refine wpTill.take (i := 9) (v := ?_) (by rfl) rfl (by kernel_rfl) (by kernel_rfl) (by kernel_rfl) (by exact fun _ _ _ h => h) ⟨(HSS.out _ HB.out).1, (HSS.out _ HB.out).2, (HCL.out _ HBN.out).1, (HCL.out _ HBN.out).2⟩ (fun _ => trivial) (Or.inl ⟨by rfl, ?_⟩) ?_
          rotate_left
          · (intro w' hSw; (try dsimp only at hSw); go_simp; (try with_reducible rfl))
          (try simp only [Act.put, List.setIfInBounds_toArray, List.set_cons_zero, List.set_cons_succ, List.getElem_toArray, List.getElem_cons_zero, List.getElem_cons_succ])
          refine wpTill.take (i := 10) (v := ?_) (by rfl) rfl (by kernel_rfl) (by kernel_rfl) (by kernel_rfl) (by exact fun _ _ _ h => h) ⟨(HSS.out _ HB.out).1, (HSS.out _ HB.out).2, (HCL.out _ HBN.out).1, (HCL.out _ HBN.out).2⟩ (fun _ => trivial) (Or.inl ⟨by rfl, ?_⟩) ?_
          rotate_left
          · (intro w' hSw; (try dsimp only at hSw); go_simp; (try with_reducible rfl))
          (try simp only [Act.put, List.setIfInBounds_toArray, List.set_cons_zero, List.set_cons_succ, List.getElem_toArray, List.getElem_cons_zero, List.getElem_cons_succ])
          refine wpTill.take (i := 11) (v := ?_) (by rfl) rfl (by kernel_rfl) (by kernel_rfl) (by kernel_rfl) (by exact fun _ _ _ h => h) ⟨(HSS.out _ HB.out).1, (HSS.out _ HB.out).2, (HCL.out _ HBN.out).1, (HCL.out _ HBN.out).2⟩ (fun _ => trivial) (Or.inl ⟨by rfl, ?_⟩) ?_
          rotate_left
          · (intro w' hSw; (try dsimp only at hSw); go_simp; (try with_reducible rfl))
          (try simp only [Act.put, List.setIfInBounds_toArray, List.set_cons_zero, List.set_cons_succ, List.getElem_toArray, List.getElem_cons_zero, List.getElem_cons_succ])
          refine wpTill.take (i := 12) (v := ?_) (by rfl) rfl (by kernel_rfl) (by kernel_rfl) (by kernel_rfl) (by exact fun _ _ _ h => h) ⟨(HSS.out _ HB.out).1, (HSS.out _ HB.out).2, (HCL.out _ HBN.out).1, (HCL.out _ HBN.out).2⟩ (fun _ => trivial) (Or.inl ⟨by rfl, ?_⟩) ?_
          rotate_left
          · (intro w' hSw; (try dsimp only at hSw); go_simp; (try with_reducible rfl))
          (try simp only [Act.put, List.setIfInBounds_toArray, List.set_cons_zero, List.set_cons_succ, List.getElem_toArray, List.getElem_cons_zero, List.getElem_cons_succ])
          refine wpTill.take (i := 13) (v := ?_) (by rfl) rfl (by kernel_rfl) (by kernel_rfl) (by kernel_rfl) (by exact fun _ _ _ h => h) ⟨(HSS.out _ HB.out).1, (HSS.out _ HB.out).2, (HCL.out _ HBN.out).1, (HCL.out _ HBN.out).2⟩ (fun _ => trivial) (Or.inl ⟨by rfl, ?_⟩) ?_
          rotate_left
          · (intro w' hSw; (try dsimp only at hSw); go_simp; (try with_reducible rfl))
          (try simp only [Act.put, List.setIfInBounds_toArray, List.set_cons_zero, List.set_cons_succ, List.getElem_toArray, List.getElem_cons_zero, List.getElem_cons_succ])
          refine wpTill.take (i := 14) (v := ?_) (by rfl) rfl (by kernel_rfl) (by kernel_rfl) (by kernel_rfl) (by exact fun _ _ _ h => h) ⟨(HSS.out _ HB.out).1, (HSS.out _ HB.out).2, (HCL.out _ HBN.out).1, (HCL.out _ HBN.out).2⟩ (fun _ => trivial) (Or.inl ⟨by rfl, ?_⟩) ?_
          rotate_left
          · (intro w' hSw; (try dsimp only at hSw); go_simp; (try with_reducible rfl))
          (try simp only [Act.put, List.setIfInBounds_toArray, List.set_cons_zero, List.set_cons_succ, List.getElem_toArray, List.getElem_cons_zero, List.getElem_cons_succ])
          refine wpTill.take (i := 15) (v := ?_) (by rfl) rfl (by kernel_rfl) (by kernel_rfl) (by kernel_rfl) (by exact fun _ _ _ h => h) ⟨(HSS.out _ HB.out).1, (HSS.out _ HB.out).2, (HCL.out _ HBN.out).1, (HCL.out _ HBN.out).2⟩ (fun _ => trivial) (Or.inl ⟨by rfl, ?_⟩) ?_
          rotate_left
          · (intro w' hSw; (try dsimp only at hSw); go_simp; (try with_reducible rfl))
          (try simp only [Act.put, List.setIfInBounds_toArray, List.set_cons_zero, List.set_cons_succ, List.getElem_toArray, List.getElem_cons_zero, List.getElem_cons_succ])
          refine wpTill.take (i := 16) (v := ?_) (by rfl) rfl (by kernel_rfl) (by kernel_rfl) (by kernel_rfl) (by exact fun _ _ _ h => h) ⟨(HSS.out _ HB.out).1, (HSS.out _ HB.out).2, (HCL.out _ HBN.out).1, (HCL.out _ HBN.out).2⟩ (fun _ => trivial) (Or.inl ⟨by rfl, ?_⟩) ?_
          rotate_left
          · (intro w' hSw; (try dsimp only at hSw); go_simp; (try with_reducible rfl))
          (try simp only [Act.put, List.setIfInBounds_toArray, List.set_cons_zero, List.set_cons_succ, List.getElem_toArray, List.getElem_cons_zero, List.getElem_cons_succ])
          refine wpTill.take (i := 17) (v := ?_) (by rfl) rfl (by kernel_rfl) (by kernel_rfl) (by kernel_rfl) (by exact fun _ _ _ h => h) ⟨(HSS.out _ HB.out).1, (HSS.out _ HB.out).2, (HCL.out _ HBN.out).1, (HCL.out _ HBN.out).2⟩ (fun _ => trivial) (Or.inl ⟨by rfl, ?_⟩) ?_
          rotate_left
          · (intro w' hSw; (try dsimp only at hSw); go_simp; (try with_reducible rfl))
          (try simp only [Act.put, List.setIfInBounds_toArray, List.set_cons_zero, List.set_cons_succ, List.getElem_toArray, List.getElem_cons_zero, List.getElem_cons_succ])
          refine wpTill.take (i := 18) (v := ?_) (by rfl) rfl (by kernel_rfl) (by kernel_rfl) (by kernel_rfl) (by exact fun _ _ _ h => h) ⟨(HSS.out _ HB.out).1, (HSS.out _ HB.out).2, (HCL.out _ HBN.out).1, (HCL.out _ HBN.out).2⟩ (fun _ => trivial) (Or.inl ⟨by rfl, ?_⟩) ?_
          rotate_left
          · (intro w' hSw; (try dsimp only at hSw); go_simp; (try with_reducible rfl))
          (try simp only [Act.put, List.setIfInBounds_toArray, List.set_cons_zero, List.set_cons_succ, List.getElem_toArray, List.getElem_cons_zero, List.getElem_cons_succ])
          refine wpTill.take (i := 19) (v := ?_) (by rfl) rfl (by kernel_rfl) (by kernel_rfl) (by kernel_rfl) (by exact fun _ _ _ h => h) ⟨(HSS.out _ HB.out).1, (HSS.out _ HB.out).2, (HCL.out _ HBN.out).1, (HCL.out _ HBN.out).2⟩ (fun _ => trivial) (Or.inl ⟨by rfl, ?_⟩) ?_
          rotate_left
          · (intro w' hSw; (try dsimp only at hSw); go_simp; (try with_reducible rfl))
          (try simp only [Act.put, List.setIfInBounds_toArray, List.set_cons_zero, List.set_cons_succ, List.getElem_toArray, List.getElem_cons_zero, List.getElem_cons_succ])
          refine wpTill.take (i := 20) (v := ?_) (by rfl) rfl (by kernel_rfl) (by kernel_rfl) (by kernel_rfl) (by exact fun _ _ _ h => h) ⟨(HSS.out _ HB.out).1, (HSS.out _ HB.out).2, (HCL.out _ HBN.out).1, (HCL.out _ HBN.out).2⟩ (fun _ => trivial) (Or.inl ⟨by rfl, ?_⟩) ?_
          rotate_left
          · (intro w' hSw; (try dsimp only at hSw); go_simp; (try with_reducible rfl))
          (try simp only [Act.put, List.setIfInBounds_toArray, List.set_cons_zero, List.set_cons_succ, List.getElem_toArray, List.getElem_cons_zero, List.getElem_cons_succ])
          refine wpTill.take (i := 21) (v := ?_) (by rfl) rfl (by kernel_rfl) (by kernel_rfl) (by kernel_rfl) (by exact fun _ _ _ h => h) ⟨(HSS.out _ HB.out).1, (HSS.out _ HB.out).2, (HCL.out _ HBN.out).1, (HCL.out _ HBN.out).2⟩ (fun _ => trivial) (Or.inl ⟨by rfl, ?_⟩) ?_
          rotate_left
          · (intro w' hSw; (try dsimp only at hSw); go_simp; (try with_reducible rfl))
          (try simp only [Act.put, List.setIfInBounds_toArray, List.set_cons_zero, List.set_cons_succ, List.getElem_toArray, List.getElem_cons_zero, List.getElem_cons_succ])
          refine wpTill.take (i := 22) (v := ?_) (by rfl) rfl (by kernel_rfl) (by kernel_rfl) (by kernel_rfl) (by exact fun _ _ _ h => h) ⟨(HSS.out _ HB.out).1, (HSS.out _ HB.out).2, (HCL.out _ HBN.out).1, (HCL.out _ HBN.out).2⟩ (fun _ => trivial) (Or.inl ⟨by rfl, ?_⟩) ?_
          rotate_left
          · (intro w' hSw; (try dsimp only at hSw); go_simp; (try with_reducible rfl))
          (try simp only [Act.put, List.setIfInBounds_toArray, List.set_cons_zero, List.set_cons_succ, List.getElem_toArray, List.getElem_cons_zero, List.getElem_cons_succ])
          refine wpTill.take (i := 23) (v := ?_) (by rfl) rfl (by kernel_rfl) (by kernel_rfl) (by kernel_rfl) (by exact fun _ _ _ h => h) ⟨(HSS.out _ HB.out).1, (HSS.out _ HB.out).2, (HCL.out _ HBN.out).1, (HCL.out _ HBN.out).2⟩ (fun _ => trivial) (Or.inl ⟨by rfl, ?_⟩) ?_
          rotate_left
          · (intro w' hSw; (try dsimp only at hSw); go_simp; (try with_reducible rfl))
          (try simp only [Act.put, List.setIfInBounds_toArray, List.set_cons_zero, List.set_cons_succ, List.getElem_toArray, List.getElem_cons_zero, List.getElem_cons_succ])
          refine wpTill.take (i := 24) (v := ?_) (by rfl) rfl (by kernel_rfl) (by kernel_rfl) (by kernel_rfl) (by exact fun _ _ _ h => h) ⟨(HSS.out _ HB.out).1, (HSS.out _ HB.out).2, (HCL.out _ HBN.out).1, (HCL.out _ HBN.out).2⟩ (fun _ => trivial) (Or.inl ⟨by rfl, ?_⟩) ?_
          rotate_left
          · (intro w' hSw; (try dsimp only at hSw); go_simp; (try with_reducible rfl))
          (try simp only [Act.put, List.setIfInBounds_toArray, List.set_cons_zero, List.set_cons_succ, List.getElem_toArray, List.getElem_cons_zero, List.getElem_cons_succ])
          refine wpTill.stop (by kernel_rfl) ?_ _
          clear hsl hne
          go_upto_region 22 with (fail)
          refine wpTill.startN 36 (S := (fun w' => w'.cell? ⟨W1, 4, none⟩ = some (.slice lg.A m1 lg.c) ∧ w'.cell? ⟨W2, 4, none⟩ = some (.slice lh.A m2 lh.c) ∧ w'.cell? ⟨gH, 0, none⟩ = some (.int .i64 (m1 : Int)) ∧ w'.cell? ⟨gH, 7, none⟩ = some (.int .i64 (m2 : Int)))) (T := fun _ => True) (m := 300) rfl (by kernel_rfl) ?_
          replace HB := Lib.hid HB.out.drew
          replace HBN := Lib.hid HBN.out.drew
          replace HCA := Lib.hid (HCA.out.below (Below.drew (Below.refl _ _)))
          generalize wO.drew = wz2 at *
          refine wpTill.take (i := 0) (v := ?_) (by rfl) rfl (by kernel_rfl) (by kernel_rfl) (by kernel_rfl) (by exact fun _ _ _ h => h) ⟨(HSS.out _ HB.out).1, (HSS.out _ HB.out).2, (HCL.out _ HBN.out).1, (HCL.out _ HBN.out).2⟩ (fun _ => trivial) (Or.inl ⟨by rfl, ?_⟩) ?_
          rotate_left
          · (intro w' hSw; (try dsimp only at hSw); go_simp; (try with_reducible rfl))
          (try simp only [Act.put, List.setIfInBounds_toArray, List.set_cons_zero, List.set_cons_succ, List.getElem_toArray, List.getElem_cons_zero, List.getElem_cons_succ])
          refine wpTill.take (i := 1) (v := ?_) (by rfl) rfl (by kernel_rfl) (by kernel_rfl) (by kernel_rfl) (by exact fun _ _ _ h => h) ⟨(HSS.out _ HB.out).1, (HSS.out _ HB.out).2, (HCL.out _ HBN.out).1, (HCL.out _ HBN.out).2⟩ (fun _ => trivial) (Or.inl ⟨by rfl, ?_⟩) ?_
          rotate_left
          · (intro w' hSw; (try dsimp only at hSw); go_simp; (try with_reducible rfl))
          (try simp only [Act.put, List.setIfInBounds_toArray, List.set_cons_zero, List.set_cons_succ, List.getElem_toArray, List.getElem_cons_zero, List.getElem_cons_succ])
          refine wpTill.take (i := 2) (v := ?_) (by rfl) rfl (by kernel_rfl) (by kernel_rfl) (by kernel_rfl) (by exact fun _ _ _ h => h) ⟨(HSS.out _ HB.out).1, (HSS.out _ HB.out).2, (HCL.out _ HBN.out).1, (HCL.out _ HBN.out).2⟩ (fun _ => trivial) (Or.inl ⟨by rfl, ?_⟩) ?_
          rotate_left
          · (intro w' hSw; (try dsimp only at hSw); go_simp; (try with_reducible rfl))
          (try simp only [Act.put, List.setIfInBounds_toArray, List.set_cons_zero, List.set_cons_succ, List.getElem_toArray, List.getElem_cons_zero, List.getElem_cons_succ])
          refine wpTill.take (i := 3) (v := ?_) (by rfl) rfl (by kernel_rfl) (by kernel_rfl) (by kernel_rfl) (by exact fun _ _ _ h => h) ⟨(HSS.out _ HB.out).1, (HSS.out _ HB.out).2, (HCL.out _ HBN.out).1, (HCL.out _ HBN.out).2⟩ (fun _ => trivial) (Or.inl ⟨by rfl, ?_⟩) ?_
          rotate_left
          · (intro w' hSw; (try dsimp only at hSw); go_simp; (try with_reducible rfl))
          (try simp only [Act.put, List.setIfInBounds_toArray, List.set_cons_zero, List.set_cons_succ, List.getElem_toArray, List.getElem_cons_zero, List.getElem_cons_succ])
          refine wpTill.take (i := 4) (v := ?_) (by rfl) rfl (by kernel_rfl) (by kernel_rfl) (by kernel_rfl) (by exact fun _ _ _ h => h) ⟨(HSS.out _ HB.out).1, (HSS.out _ HB.out).2, (HCL.out _ HBN.out).1, (HCL.out _ HBN.out).2⟩ (fun _ => trivial) (Or.inl ⟨by rfl, ?_⟩) ?_
          rotate_left
          · (intro w' hSw; (try dsimp only at hSw); go_simp; (try with_reducible rfl))
          (try simp only [Act.put, List.setIfInBounds_toArray, List.set_cons_zero, List.set_cons_succ, List.getElem_toArray, List.getElem_cons_zero, List.getElem_cons_succ])
          refine wpTill.take (i := 5) (v := ?_) (by rfl) rfl (by kernel_rfl) (by kernel_rfl) (by kernel_rfl) (by exact fun _ _ _ h => h) ⟨(HSS.out _ HB.out).1, (HSS.out _ HB.out).2, (HCL.out _ HBN.out).1, (HCL.out _ HBN.out).2⟩ (fun _ => trivial) (Or.inl ⟨by rfl, ?_⟩) ?_
          rotate_left
          · (intro w' hSw; (try dsimp only at hSw); go_simp; (try with_reducible rfl))
          (try simp only [Act.put, List.setIfInBounds_toArray, List.set_cons_zero, List.set_cons_succ, List.getElem_toArray, List.getElem_cons_zero, List.getElem_cons_succ])
          refine wpTill.take (i := 6) (v := ?_) (by rfl) rfl (by kernel_rfl) (by kernel_rfl) (by kernel_rfl) (by exact fun _ _ _ h => h) ⟨(HSS.out _ HB.out).1, (HSS.out _ HB.out).2, (HCL.out _ HBN.out).1, (HCL.out _ HBN.out).2⟩ (fun _ => trivial) (Or.inl ⟨by rfl, ?_⟩) ?_
          rotate_left
          · (intro w' hSw; (try dsimp only at hSw); go_simp; (try with_reducible rfl))
          (try simp only [Act.put, List.setIfInBounds_toArray, List.set_cons_zero, List.set_cons_succ, List.getElem_toArray, List.getElem_cons_zero, List.getElem_cons_succ])
          refine wpTill.take (i := 7) (v := ?_) (by rfl) rfl (by kernel_rfl) (by kernel_rfl) (by kernel_rfl) (by exact fun _ _ _ h => h) ⟨(HSS.out _ HB.out).1, (HSS.out _ HB.out).2, (HCL.out _ HBN.out).1, (HCL.out _ HBN.out).2⟩ (fun _ => trivial) (Or.inl ⟨by rfl, ?_⟩) ?_
          rotate_left
          · (intro w' hSw; (try dsimp only at hSw); go_simp; (try with_reducible rfl))
          (try simp only [Act.put, List.setIfInBounds_toArray, List.set_cons_zero, List.set_cons_succ, List.getElem_toArray, List.getElem_cons_zero, List.getElem_cons_succ])
          refine wpTill.take (i := 8) (v := ?_) (by rfl) rfl (by kernel_rfl) (by kernel_rfl) (by kernel_rfl) (by exact fun _ _ _ h => h) ⟨(HSS.out _ HB.out).1, (HSS.out _ HB.out).2, (HCL.out _ HBN.out).1, (HCL.out _ HBN.out).2⟩ (fun _ => trivial) (Or.inl ⟨by rfl, ?_⟩) ?_
          rotate_left
          · (intro w' hSw; (try dsimp only at hSw); go_simp; (try with_reducible rfl))
          (try simp only [Act.put, List.setIfInBounds_toArray, List.set_cons_zero, List.set_cons_succ, List.getElem_toArray, List.getElem_cons_zero, List.getElem_cons_succ])
          refine wpTill.take (i := 9) (v := ?_) (by rfl) rfl (by kernel_rfl) (by kernel_rfl) (by kernel_rfl) (by exact fun _ _ _ h => h) ⟨(HSS.out _ HB.out).1, (HSS.out _ HB.out).2, (HCL.out _ HBN.out).1, (HCL.out _ HBN.out).2⟩ (fun _ => trivial) (Or.inl ⟨by rfl, ?_⟩) ?_
          rotate_left
          · (intro w' hSw; (try dsimp only at hSw); go_simp; (try with_reducible rfl))
          (try simp only [Act.put, List.setIfInBounds_toArray, List.set_cons_zero, List.set_cons_succ, List.getElem_toArray, List.getElem_cons_zero, List.getElem_cons_succ])
          refine wpTill.take (i := 10) (v := ?_) (by rfl) rfl (by kernel_rfl) (by kernel_rfl) (by kernel_rfl) (by exact fun _ _ _ h => h) ⟨(HSS.out _ HB.out).1, (HSS.out _ HB.out).2, (HCL.out _ HBN.out).1, (HCL.out _ HBN.out).2⟩ (fun _ => trivial) (Or.inl ⟨by rfl, ?_⟩) ?_
          rotate_left
          · (intro w' hSw; (try dsimp only at hSw); go_simp; (try with_reducible rfl))
          (try simp only [Act.put, List.setIfInBounds_toArray, List.set_cons_zero, List.set_cons_succ, List.getElem_toArray, List.getElem_cons_zero, List.getElem_cons_succ])
          refine wpTill.take (i := 11) (v := ?_) (by rfl) rfl (by kernel_rfl) (by kernel_rfl) (by kernel_rfl) (by exact fun _ _ _ h => h) ⟨(HSS.out _ HB.out).1, (HSS.out _ HB.out).2, (HCL.out _ HBN.out).1, (HCL.out _ HBN.out).2⟩ (fun _ => trivial) (Or.inl ⟨by rfl, ?_⟩) ?_
          rotate_left
          · (intro w' hSw; (try dsimp only at hSw); go_simp; (try with_reducible rfl))
          (try simp only [Act.put, List.setIfInBounds_toArray, List.set_cons_zero, List.set_cons_succ, List.getElem_toArray, List.getElem_cons_zero, List.getElem_cons_succ])
          refine wpTill.take (i := 12) (v := ?_) (by rfl) rfl (by kernel_rfl) (by kernel_rfl) (by kernel_rfl) (by exact fun _ _ _ h => h) ⟨(HSS.out _ HB.out).1, (HSS.out _ HB.out).2, (HCL.out _ HBN.out).1, (HCL.out _ HBN.out).2⟩ (fun _ => trivial) (Or.inl ⟨by rfl, ?_⟩) ?_
          rotate_left
          · (intro w' hSw; (try dsimp only at hSw); go_simp; (try with_reducible rfl))
          (try simp only [Act.put, List.setIfInBounds_toArray, List.set_cons_zero, List.set_cons_succ, List.getElem_toArray, List.getElem_cons_zero, List.getElem_cons_succ])
          refine wpTill.take (i := 13) (v := ?_) (by rfl) rfl (by kernel_rfl) (by kernel_rfl) (by kernel_rfl) (by exact fun _ _ _ h => h) ⟨(HSS.out _ HB.out).1, (HSS.out _ HB.out).2, (HCL.out _ HBN.out).1, (HCL.out _ HBN.out).2⟩ (fun _ => trivial) (Or.inl ⟨by rfl, ?_⟩) ?_
          rotate_left
          · (intro w' hSw; (try dsimp only at hSw); go_simp; (try with_reducible rfl))
          (try simp only [Act.put, List.setIfInBounds_toArray, List.set_cons_zero, List.set_cons_succ, List.getElem_toArray, List.getElem_cons_zero, List.getElem_cons_succ])
          refine wpTill.take (i := 14) (v := ?_) (by rfl) rfl (by kernel_rfl) (by kernel_rfl) (by kernel_rfl) (by exact fun _ _ _ h => h) ⟨(HSS.out _ HB.out).1, (HSS.out _ HB.out).2, (HCL.out _ HBN.out).1, (HCL.out _ HBN.out).2⟩ (fun _ => trivial) (Or.inl ⟨by rfl, ?_⟩) ?_
          rotate_left
          · (intro w' hSw; (try dsimp only at hSw); go_simp; (try with_reducible rfl))
          (try simp only [Act.put, List.setIfInBounds_toArray, List.set_cons_zero, List.set_cons_succ, List.getElem_toArray, List.getElem_cons_zero, List.getElem_cons_succ])
          refine wpTill.take (i := 15) (v := ?_) (by rfl) rfl (by kernel_rfl) (by kernel_rfl) (by kernel_rfl) (by exact fun _ _ _ h => h) ⟨(HSS.out _ HB.out).1, (HSS.out _ HB.out).2, (HCL.out _ HBN.out).1, (HCL.out _ HBN.out).2⟩ (fun _ => trivial) (Or.inl ⟨by rfl, ?_⟩) ?_
          rotate_left
          · (intro w' hSw; (try dsimp only at hSw); go_simp; (try with_reducible rfl))
          (try simp only [Act.put, List.setIfInBounds_toArray, List.set_cons_zero, List.set_cons_succ, List.getElem_toArray, List.getElem_cons_zero, List.getElem_cons_succ])
          refine wpTill.take (i := 16) (v := ?_) (by rfl) rfl (by kernel_rfl) (by kernel_rfl) (by kernel_rfl) (by exact fun _ _ _ h => h) ⟨(HSS.out _ HB.out).1, (HSS.out _ HB.out).2, (HCL.out _ HBN.out).1, (HCL.out _ HBN.out).2⟩ (fun _ => trivial) (Or.inl ⟨by rfl, ?_⟩) ?_
          rotate_left
          · (intro w' hSw; (try dsimp only at hSw); go_simp; (try with_reducible rfl))
          (try simp only [Act.put, List.setIfInBounds_toArray, List.set_cons_zero, List.set_cons_succ, List.getElem_toArray, List.getElem_cons_zero, List.getElem_cons_succ])
          refine wpTill.take (i := 17) (v := ?_) (by rfl) rfl (by kernel_rfl) (by kernel_rfl) (by kernel_rfl) (by exact fun _ _ _ h => h) ⟨(HSS.out _ HB.out).1, (HSS.out _ HB.out).2, (HCL.out _ HBN.out).1, (HCL.out _ HBN.out).2⟩ (fun _ => trivial) (Or.inl ⟨by rfl, ?_⟩) ?_
          rotate_left
          · (intro w' hSw; (try dsimp only at hSw); go_simp; (try with_reducible rfl))
          (try simp only [Act.put, List.setIfInBounds_toArray, List.set_cons_zero, List.set_cons_succ, List.getElem_toArray, List.getElem_cons_zero, List.getElem_cons_succ])
          refine wpTill.take (i := 18) (v := ?_) (by rfl) rfl (by kernel_rfl) (by kernel_rfl) (by kernel_rfl) (by exact fun _ _ _ h => h) ⟨(HSS.out _ HB.out).1, (HSS.out _ HB.out).2, (HCL.out _ HBN.out).1, (HCL.out _ HBN.out).2⟩ (fun _ => trivial) (Or.inl ⟨by rfl, ?_⟩) ?_
          rotate_left
          · (intro w' hSw; (try dsimp only at hSw); go_simp; (try with_reducible rfl))
          (try simp only [Act.put, List.setIfInBounds_toArray, List.set_cons_zero, List.set_cons_succ, List.getElem_toArray, List.getElem_cons_zero, List.getElem_cons_succ])
          refine wpTill.take (i := 19) (v := ?_) (by rfl) rfl (by kernel_rfl) (by kernel_rfl) (by kernel_rfl) (by exact fun _ _ _ h => h) ⟨(HSS.out _ HB.out).1, (HSS.out _ HB.out).2, (HCL.out _ HBN.out).1, (HCL.out _ HBN.out).2⟩ (fun _ => trivial) (Or.inl ⟨by rfl, ?_⟩) ?_
          rotate_left
          · (intro w' hSw; (try dsimp only at hSw); go_simp; (try with_reducible rfl))
          (try simp only [Act.put, List.setIfInBounds_toArray, List.set_cons_zero, List.set_cons_succ, List.getElem_toArray, List.getElem_cons_zero, List.getElem_cons_succ])
          refine wpTill.take (i := 20) (v := ?_) (by rfl) rfl (by kernel_rfl) (by kernel_rfl) (by kernel_rfl) (by exact fun _ _ _ h => h) ⟨(HSS.out _ HB.out).1, (HSS.out _ HB.out).2, (HCL.out _ HBN.out).1, (HCL.out _ HBN.out).2⟩ (fun _ => trivial) (Or.inl ⟨by rfl, ?_⟩) ?_
          rotate_left
          · (intro w' hSw; (try dsimp only at hSw); go_simp; (try with_reducible rfl))
          (try simp only [Act.put, List.setIfInBounds_toArray, List.set_cons_zero, List.set_cons_succ, List.getElem_toArray, List.getElem_cons_zero, List.getElem_cons_succ])
          refine wpTill.take (i := 21) (v := ?_) (by rfl) rfl (by kernel_rfl) (by kernel_rfl) (by kernel_rfl) (by exact fun _ _ _ h => h) ⟨(HSS.out _ HB.out).1, (HSS.out _ HB.out).2, (HCL.out _ HBN.out).1, (HCL.out _ HBN.out).2⟩ (fun _ => trivial) (Or.inl ⟨by rfl, ?_⟩) ?_
          rotate_left
          · (intro w' hSw; (try dsimp only at hSw); go_simp; (try with_reducible rfl))
          (try simp only [Act.put, List.setIfInBounds_toArray, List.set_cons_zero, List.set_cons_succ, List.getElem_toArray, List.getElem_cons_zero, List.getElem_cons_succ])
          refine wpTill.take (i := 22) (v := ?_) (by rfl) rfl (by kernel_rfl) (by kernel_rfl) (by kernel_rfl) (by exact fun _ _ _ h => h) ⟨(HSS.out _ HB.out).1, (HSS.out _ HB.out).2, (HCL.out _ HBN.out).1, (HCL.out _ HBN.out).2⟩ (fun _ => trivial) (Or.inl ⟨by rfl, ?_⟩) ?_
          rotate_left
          · (intro w' hSw; (try dsimp only at hSw); go_simp; (try with_reducible rfl))
          (try simp only [Act.put, List.setIfInBounds_toArray, List.set_cons_zero, List.set_cons_succ, List.getElem_toArray, List.getElem_cons_zero, List.getElem_cons_succ])
          refine wpTill.take (i := 23) (v := ?_) (by rfl) rfl (by kernel_rfl) (by kernel_rfl) (by kernel_rfl) (by exact fun _ _ _ h => h) ⟨(HSS.out _ HB.out).1, (HSS.out _ HB.out).2, (HCL.out _ HBN.out).1, (HCL.out _ HBN.out).2⟩ (fun _ => trivial) (Or.inl ⟨by rfl, ?_⟩) ?_
          rotate_left
          · (intro w' hSw; (try dsimp only at hSw); go_simp; (try with_reducible rfl))
          (try simp only [Act.put, List.setIfInBounds_toArray, List.set_cons_zero, List.set_cons_succ, List.getElem_toArray, List.getElem_cons_zero, List.getElem_cons_succ])
          refine wpTill.take (i := 24) (v := ?_) (by rfl) rfl (by kernel_rfl) (by kernel_rfl) (by kernel_rfl) (by exact fun _ _ _ h => h) ⟨(HSS.out _ HB.out).1, (HSS.out _ HB.out).2, (HCL.out _ HBN.out).1, (HCL.out _ HBN.out).2⟩ (fun _ => trivial) (Or.inl ⟨by rfl, ?_⟩) ?_
          rotate_left
          · (intro w' hSw; (try dsimp only at hSw); go_simp; (try with_reducible rfl))
          (try simp only [Act.put, List.setIfInBounds_toArray, List.set_cons_zero, List.set_cons_succ, List.getElem_toArray, List.getElem_cons_zero, List.getElem_cons_succ])
          have HFK := Lib.hid (Forks_any wz2 (HEV.out _ HB.out).1 (HEV.out _ HB.out).2 Aa J.length ca la HCA.out (by have := HJL.out; omega) [] (by rw [HVA.out]; exact HTW.out.2.2.2.2.1))
          refine wpTill.step (i := 25) (by kernel_rfl) (by rfl) (fun K' hK => ?_)
          replace hK := Lib.hid hK
          go_simp
          go_at_call 49
          ((with_reducible refine (HFK.out).mono ?_); rintro _ wP ⟨Af, cf, rfl, _, hbJ⟩)
          replace HCA := Lib.hid (HCA.out.below hbJ)
          replace HB := Lib.hid (HB.out.trans (hbJ.mono HB.out.size))
          replace HBN := Lib.hid (HBN.out.trans (hbJ.mono HBN.out.size))
          clear hbJ HFK
          simp only [List.length_nil]
          refine hK.out _ _ ⟨(HSS.out _ HB.out).1, (HSS.out _ HB.out).2, (HCL.out _ HBN.out).1, (HCL.out _ HBN.out).2⟩ (fun _ => trivial) ?_
          clear hK K'
          (try simp only [Act.put, List.setIfInBounds_toArray, List.set_cons_zero, List.set_cons_succ, List.getElem_toArray, List.getElem_cons_zero, List.getElem_cons_succ])
          refine wpTill.take (i := 26) (v := ?_) (by rfl) rfl (by kernel_rfl) (by kernel_rfl) (by kernel_rfl) (by exact fun _ _ _ h => h) ⟨(HSS.out _ HB.out).1, (HSS.out _ HB.out).2, (HCL.out _ HBN.out).1, (HCL.out _ HBN.out).2⟩ (fun _ => trivial) (Or.inl ⟨by rfl, ?_⟩) ?_
          rotate_left
          · (intro w' hSw; (try dsimp only at hSw); go_simp; (try with_reducible rfl))
          (try simp only [Act.put, List.setIfInBounds_toArray, List.set_cons_zero, List.set_cons_succ, List.getElem_toArray, List.getElem_cons_zero, List.getElem_cons_succ])
          refine wpTill.take (i := 27) (v := ?_) (by rfl) rfl (by kernel_rfl) (by kernel_rfl) (by kernel_rfl) (by exact fun _ _ _ h => h) ⟨(HSS.out _ HB.out).1, (HSS.out _ HB.out).2, (HCL.out _ HBN.out).1, (HCL.out _ HBN.out).2⟩ (fun _ => trivial) (Or.inl ⟨by rfl, ?_⟩) ?_
          rotate_left
          · (intro w' hSw; (try dsimp only at hSw); go_simp; (try with_reducible rfl))
          (try simp only [Act.put, List.setIfInBounds_toArray, List.set_cons_zero, List.set_cons_succ, List.getElem_toArray, List.getElem_cons_zero, List.getElem_cons_succ])
          refine wpTill.take (i := 28) (v := ?_) (by rfl) rfl (by kernel_rfl) (by kernel_rfl) (by kernel_rfl) (by exact fun _ _ _ h => h) ⟨(HSS.out _ HB.out).1, (HSS.out _ HB.out).2, (HCL.out _ HBN.out).1, (HCL.out _ HBN.out).2⟩ (fun _ => trivial) (Or.inl ⟨by rfl, ?_⟩) ?_
          rotate_left
          · (intro w' hSw; (try dsimp only at hSw); go_simp; (try with_reducible rfl))
          (try simp only [Act.put, List.setIfInBounds_toArray, List.set_cons_zero, List.set_cons_succ, List.getElem_toArray, List.getElem_cons_zero, List.getElem_cons_succ])
          refine wpTill.take (i := 29) (v := ?_) (by rfl) rfl (by kernel_rfl) (by kernel_rfl) (by kernel_rfl) (by exact fun _ _ _ h => h) ⟨(HSS.out _ HB.out).1, (HSS.out _ HB.out).2, (HCL.out _ HBN.out).1, (HCL.out _ HBN.out).2⟩ (fun _ => trivial) (Or.inl ⟨by rfl, ?_⟩) ?_
          rotate_left
          · (intro w' hSw; (try dsimp only at hSw); go_simp; (try with_reducible rfl))
          (try simp only [Act.put, List.setIfInBounds_toArray, List.set_cons_zero, List.set_cons_succ, List.getElem_toArray, List.getElem_cons_zero, List.getElem_cons_succ])
          refine wpTill.take (i := 30) (v := ?_) (by rfl) rfl (by kernel_rfl) (by kernel_rfl) (by kernel_rfl) (by exact fun _ _ _ h => h) ⟨(HSS.out _ HB.out).1, (HSS.out _ HB.out).2, (HCL.out _ HBN.out).1, (HCL.out _ HBN.out).2⟩ (fun _ => trivial) (Or.inl ⟨by rfl, ?_⟩) ?_
          rotate_left
          · (intro w' hSw; (try dsimp only at hSw); go_simp; (try with_reducible rfl))
          (try simp only [Act.put, List.setIfInBounds_toArray, List.set_cons_zero, List.set_cons_succ, List.getElem_toArray, List.getElem_cons_zero, List.getElem_cons_succ])
          have HMI := Lib.hid (Missing_any wP (HEV.out _ HB.out).1 (HEV.out _ HB.out).2 Aa J.length ca la HCA.out (by have := HJL.out; omega) [] (by rw [HVA.out]; exact HTW.out.2.2.2.2.2.1))
          refine wpTill.step (i := 31) (by kernel_rfl) (by rfl) (fun K' hK => ?_)
          replace hK := Lib.hid hK
          go_simp
          go_at_call 53
          ((with_reducible refine (HMI.out).mono ?_); rintro _ wQ ⟨Ag, cg, rfl, _, hbJ⟩)
          replace HB := Lib.hid (HB.out.trans (hbJ.mono HB.out.size))
          replace HBN := Lib.hid (HBN.out.trans (hbJ.mono HBN.out.size))
          clear hbJ HMI
          simp only [List.length_nil]
          refine hK.out _ _ ⟨(HSS.out _ HB.out).1, (HSS.out _ HB.out).2, (HCL.out _ HBN.out).1, (HCL.out _ HBN.out).2⟩ (fun _ => trivial) ?_
          clear hK K'
          (try simp only [Act.put, List.setIfInBounds_toArray, List.set_cons_zero, List.set_cons_succ, List.getElem_toArray, List.getElem_cons_zero, List.getElem_cons_succ])
          refine wpTill.take (i := 32) (v := ?_) (by rfl) rfl (by kernel_rfl) (by kernel_rfl) (by kernel_rfl) (by exact fun _ _ _ h => h) ⟨(HSS.out _ HB.out).1, (HSS.out _ HB.out).2, (HCL.out _ HBN.out).1, (HCL.out _ HBN.out).2⟩ (fun _ => trivial) (Or.inl ⟨by rfl, ?_⟩) ?_
          rotate_left
          · (intro w' hSw; (try dsimp only at hSw); go_simp; (try with_reducible rfl))
          (try simp only [Act.put, List.setIfInBounds_toArray, List.set_cons_zero, List.set_cons_succ, List.getElem_toArray, List.getElem_cons_zero, List.getElem_cons_succ])
          refine wpTill.take (i := 33) (v := ?_) (by rfl) rfl (by kernel_rfl) (by kernel_rfl) (by kernel_rfl) (by exact fun _ _ _ h => h) ⟨(HSS.out _ HB.out).1, (HSS.out _ HB.out).2, (HCL.out _ HBN.out).1, (HCL.out _ HBN.out).2⟩ (fun _ => trivial) (Or.inl ⟨by rfl, ?_⟩) ?_
          rotate_left
          · (intro w' hSw; (try dsimp only at hSw); go_simp; (try with_reducible rfl))
          (try simp only [Act.put, List.setIfInBounds_toArray, List.set_cons_zero, List.set_cons_succ, List.getElem_toArray, List.getElem_cons_zero, List.getElem_cons_succ])
          refine wpTill.take (i := 34) (v := ?_) (by rfl) rfl (by kernel_rfl) (by kernel_rfl) (by kernel_rfl) (by exact fun _ _ _ h => h) ⟨(HSS.out _ HB.out).1, (HSS.out _ HB.out).2, (HCL.out _ HBN.out).1, (HCL.out _ HBN.out).2⟩ (fun _ => trivial) (Or.inl ⟨by rfl, ?_⟩) ?_
          rotate_left
          · (intro w' hSw; (try dsimp only at hSw); go_simp; (try with_reducible rfl))
          (try simp only [Act.put, List.setIfInBounds_toArray, List.set_cons_zero, List.set_cons_succ, List.getElem_toArray, List.getElem_cons_zero, List.getElem_cons_succ])
          refine wpTill.take (i := 35) (v := ?_) (by rfl) rfl (by kernel_rfl) (by kernel_rfl) (by kernel_rfl) (by exact fun _ _ _ h => h) ⟨(HSS.out _ HB.out).1, (HSS.out _ HB.out).2, (HCL.out _ HBN.out).1, (HCL.out _ HBN.out).2⟩ (fun _ => trivial) (Or.inl ⟨by rfl, ?_⟩) ?_
          rotate_left
          · (intro w' hSw; (try dsimp only at hSw); go_simp; (try with_reducible rfl))
          (try simp only [Act.put, List.setIfInBounds_toArray, List.set_cons_zero, List.set_cons_succ, List.getElem_toArray, List.getElem_cons_zero, List.getElem_cons_succ])
          refine wpTill.stop (by kernel_rfl) ?_ _
          go_wp2_with (fail)
          go_ret
          exact ⟨rfl, HBP.out.trans (HB.out.mono HBP.out.size)⟩
end Go.Proofs.YtjncmlglhegnaaaGreatDoor
