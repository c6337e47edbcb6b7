/- kerbsidelaw03: JournalStays, walked. -/
import Derived.Test.YtniiahmpdkgplaaDoorJrnS
import Derived.Test.YtniiahmpdkgplaaDoorJrnL
import Derived.Deep.DeepCutAuto
import Derived.Deep.LoopGhost
import Derived.BigQuiet
namespace Go.Proofs.YtniiahmpdkgplaaDoor
open Go.RowKit Go.Sort Go.Lib

/-- LastI, with no crash to come -/
structure StayI (f : Int) (i : Nat) (d : DV) (all sure : List (List UInt8)) (jo : Option JV) : Prop where
  last : LastI f i d all sure jo
  armed : d.armed = 0
namespace StayI
variable {f : Int} {i : Nat} {d : DV} {all sure : List (List UInt8)} {j : JV} {jo : Option JV}
theorem up (h : StayI f i d all sure jo) : StayI f (i + 1) d all sure jo := ⟨h.last.up, h.armed⟩
theorem lose (h : StayI f i d all sure jo) (n : Int) (hn : n ≤ 9223372036854775807) : StayI f i (LoseF d n) all sure jo := ⟨h.last.lose n hn, h.armed⟩
theorem again (h : StayI f i d all sure jo) (keep : List Int) : StayI f i (StartF (crashF d keep)) all sure none :=
  ⟨(h.last.crash keep).start, by
    show (crashF d keep).armed = 0
    unfold crashF
    split
    · exact h.armed
    · rfl⟩
theorem again_lost (d : DV) (keep : List Int) : (StartF (crashF d keep)).lost = d.lost ∧ (StartF (crashF d keep)).down = false := by
  refine ⟨?_, rfl⟩
  show (crashF d keep).lost = d.lost
  unfold crashF
  split <;> rfl
theorem append (h : StayI f i d all sure (some j)) (h0 : 0 ≤ f) (h1 : f < 16) (hi : i ≤ 3000) {t : List UInt8} (ht : t.length ≤ 200) :
    ∃ d' j' e, appendJ d j t = (d', j', e) ∧
      ((e = 7 ∧ d' = d ∧ j' = j) ∨
       (e = 0 ∧ j'.recs = j.recs ++ [t] ∧ StayI f (i + 1) d' (all ++ [t]) sure (some j'))) := by
  obtain ⟨hj, hjt, hjl⟩ := h.last.jou j rfl
  refine ⟨(appendJ d j t).1, (appendJ d j t).2.1, (appendJ d j t).2.2, rfl, ?_⟩
  rcases append_ways h.last.file hj h0 h1 ht (by have := h.last.len; omega) with ⟨_, e⟩ | ⟨_, e, e2, _, e4, e5, _, e6⟩ | ⟨_, _, _, _, _, _, e6⟩
  · left; rw [e]; exact ⟨rfl, rfl, rfl⟩
  · right
    refine ⟨e, e2, ⟨e4, by rw [List.length_append]; have := h.last.len; simp; omega, fun j' hj' => ?_⟩, e6 h.armed⟩
    cases hj'
    exact ⟨e5, by rw [e2]; exact hjt.app (Tiny.one ht), by rw [e2, List.length_append]; simp; omega⟩
  · exact absurd h.armed e6
theorem sync (h : StayI f i d all sure (some j)) (h0 : 0 ≤ f) (h1 : f < 16) :
    ∃ d' j' e, syncJ d j = (d', j', e) ∧ j'.recs = j.recs ∧
      ((e = 0 ∧ j.recs = all ∧ StayI f i d' all all (some j')) ∨
       (e ≠ 0 ∧ StayI f i d' all sure (some j'))) := by
  obtain ⟨hj, hjt, hjl⟩ := h.last.jou j rfl
  refine ⟨(syncJ d j).1, (syncJ d j).2.1, (syncJ d j).2.2, rfl, ?_⟩
  rcases syncJ_ways h.last.file hj h0 h1 with ⟨_, e⟩ | ⟨hb, e, e2, _, _, e4, e5, _, e6⟩ | ⟨_, e, e2, _, e4, e5, e6⟩
  · rw [e]; exact ⟨rfl, .inr ⟨(by decide : (7 : Int) ≠ 0), h⟩⟩
  · refine ⟨by rw [e2], .inl ⟨e, (hj.whole hb).2.1, ⟨e4, h.last.len, fun j' hj' => ?_⟩, e6 h.armed⟩⟩
    cases hj'
    rw [e2]
    exact ⟨e5, hjt, hjl⟩
  · refine ⟨e2, .inr ⟨by rcases e with e | e <;> rw [e] <;> decide, ⟨e4, h.last.len, fun j' hj' => ?_⟩, e6 h.armed⟩⟩
    cases hj'
    exact ⟨e5, by rw [e2]; exact hjt, by rw [e2]; exact hjl⟩
theorem open_ (h : StayI f i d all sure jo) (h0 : 0 ≤ f) (h1 : f < 16) (hi : i ≤ 3000) :
    (∃ d' j', openJ d f = (d', some j', 0) ∧ j'.recs <+: all ∧ sure <+: j'.recs ∧ StayI f i d' j'.recs j'.recs (some j') ∧ d'.lost = d.lost) ∨
    (∃ d' e, openJ d f = (d', none, e) ∧ StayI f i d' all sure none ∧ (d.lost = 0 → d.down = true)) := by
  rcases open_ways h.last.file h0 h1 (by have := h.last.len; omega) with ⟨j, R, e, _, e2, _, e3, e4, e5, e6, e7, e8, _⟩ | ⟨e, e1, _, e3, e4, e5⟩
  · left
    subst e2
    have hl := e3.length_le
    refine ⟨(openJ d f).1, j, by rw [← e], e3, e4, ⟨⟨e5, by have := h.last.len; omega, fun j' hj' => ?_⟩, e8 h.armed⟩, e7⟩
    cases hj'
    exact ⟨e6, h.last.file.tiny.pre e3, by have := h.last.len; omega⟩
  · right
    exact ⟨(openJ d f).1, e, by rw [← e1], ⟨⟨e3, h.last.len, fun _ e => by cases e⟩, e4 h.armed⟩, e5 h.armed⟩
/-- what is durable as a whole is read again as a whole -/
theorem open_all (h : StayI f i d all all jo) (h0 : 0 ≤ f) (h1 : f < 16) (hi : i ≤ 3000) (hl : d.lost = 0) (hd : d.down = false) :
    ∃ d' j', openJ d f = (d', some j', 0) ∧ j'.recs = all ∧ StayI f i d' all all (some j') ∧ d'.lost = 0 := by
  rcases h.open_ h0 h1 hi with ⟨d', j', e, e1, e2, e3, e4⟩ | ⟨d', e, _, _, e2⟩
  · have hr : j'.recs = all := e1.eq_of_length (Nat.le_antisymm e1.length_le e2.length_le)
    rw [hr] at e3
    exact ⟨d', j', e, hr, e3, by rw [e4, hl]⟩
  · rw [e2 hl] at hd
    cases hd
theorem new (f : Int) : StayI f 0 newD [] [] none := ⟨LastI.new f, rfl⟩
end StayI
def jOptS (B J : Nat) : Option JV → List Res
  | none => []
  | some j => [jourR B J j]
def jPtrS (J : Nat) : Option JV → Value
  | none => .pointer none
  | some _ => .pointer (some ⟨J, 0, none⟩)
theorem Sep.noJS {w0 w : World} {R1 : Res} {B J : Nat} : ∀ {jo : Option JV}, Sep w0 w (R1 :: jOptS B J jo) → Sep w0 w [R1]
  | none, h => h
  | some _, h => h.sw.drop
set_option maxRecDepth 100000 in
set_option maxHeartbeats 16000000 in
theorem journalStays_any (w : World) (hE : Env w.heap.size w) (A : Option Addr) (n c : Nat) (l : List OpC) (hs : Sl w 4 A n (l.map OpC.cells)) (hn : n ≤ maxLen) (hok : ∀ a ∈ l, a.ok) (hks : OpsAt w l) (AS : Option Addr) (ns cs : Nat) (ls : List (List UInt8)) (hss : Sl w 1 AS ns (ls.map strC)) (hns : ns ≤ maxLen)
    (A1 : Option Addr) (c1 : Nat) (k1 : List Int) (hk1 : Sl w 1 A1 k1.length (k1.map fun k => [.int .i64 k])) (A2 : Option Addr) (c2 : Nat) (k2 : List Int) (hk2 : Sl w 1 A2 k2.length (k2.map fun k => [.int .i64 k])) :
    Calls Tryd.prog 5 #[.slice A n c, .slice AS ns cs, .slice A1 k1.length c1, .slice A2 k2.length c2] w fun e w' => e = .returned (.bool true) ∧ Below w.heap.size w w' := by
  have HE := Lib.hid hE
  have HOP := Lib.hid hs
  have HSS := Lib.hid hss
  have HK1 := Lib.hid hk1
  have HK2 := Lib.hid hk2
  have HOK := Lib.hid hok
  have HKS := Lib.hid hks
  have hll : l.length = n := by have := hs.1; simpa using this
  have hls : ls.length = ns := by have := hss.1; simpa using this
  have HL := Lib.hid hll
  have HLS := Lib.hid hls
  have HFEW := Lib.hid (fun W (hb : Below w.heap.size w W) r hr => few_any W A n c l (hs.below hb) hn r hr)
  have HTX := Lib.hid (fun W (hb : Below w.heap.size w W) r hr => texts_any W AS ns cs ls (hss.below hb) hns r hr)
  obtain ⟨m1, hm1⟩ : ∃ m, k1.length = m := ⟨_, rfl⟩
  obtain ⟨m2, hm2⟩ : ∃ m, k2.length = m := ⟨_, rfl⟩
  rw [hm1, hm2]
  have HM1 := Lib.hid hm1
  have HM2 := Lib.hid hm2
  clear hE hs hss hk1 hk2 hok hks hll hls hn hns hm1 hm2
  go_enter Tryd.func5, Tryd.ntmps5
  go_wp2_with (fail)
  ((with_reducible refine (small_any w HE.out).mono ?_); rintro _ w1 ⟨rfl, hb⟩)
  have HB := Lib.hid hb
  clear hb
  cases hfw : fewOps l
  case false =>
    go_wp2_with (fail)
    ((with_reducible refine (HFEW.out _ HB.out false hfw).mono ?_); rintro _ _ ⟨rfl, rfl⟩)
    go_wp2_with (fail)
    go_ret
    exact ⟨rfl, HB.out⟩
  cases htw : textsB ls
  case false =>
    go_wp2_with (fail)
    ((with_reducible refine (HFEW.out _ HB.out true hfw).mono ?_); rintro _ _ ⟨rfl, rfl⟩)
    go_wp2_with (fail)
    ((with_reducible refine (HTX.out _ HB.out false htw).mono ?_); rintro _ _ ⟨rfl, rfl⟩)
    go_wp2_with (fail)
    go_ret
    exact ⟨rfl, HB.out⟩
  by_cases hq1 : 50 < (m1 : Int)
  · go_wp2_with (fail)
    ((with_reducible refine (HFEW.out _ HB.out true hfw).mono ?_); rintro _ _ ⟨rfl, rfl⟩)
    go_wp2_with (fail)
    ((with_reducible refine (HTX.out _ HB.out true htw).mono ?_); rintro _ _ ⟨rfl, rfl⟩)
    go_wp2_with (fail)
    go_ret
    exact ⟨rfl, HB.out⟩
  have HQ1 : Hid (m1 ≤ 50) := Lib.hid (by omega)
  have hq1' : (m1 : Int) ≤ 50 := by have := HQ1.out; omega
  clear hq1
  by_cases hq2 : 50 < (m2 : Int)
  · go_wp2_with (fail)
    ((with_reducible refine (HFEW.out _ HB.out true hfw).mono ?_); rintro _ _ ⟨rfl, rfl⟩)
    go_wp2_with (fail)
    ((with_reducible refine (HTX.out _ HB.out true htw).mono ?_); rintro _ _ ⟨rfl, rfl⟩)
    go_wp2_with (fail)
    go_ret
    exact ⟨rfl, HB.out⟩
  have HQ2 : Hid (m2 ≤ 50) := Lib.hid (by omega)
  have hq2' : (m2 : Int) ≤ 50 := by have := HQ2.out; omega
  clear hq2
  go_wp2_with (fail)
  ((with_reducible refine (HFEW.out _ HB.out true hfw).mono ?_); rintro _ _ ⟨rfl, rfl⟩)
  go_wp2_with (fail)
  ((with_reducible refine (HTX.out _ HB.out true htw).mono ?_); rintro _ _ ⟨rfl, rfl⟩)
  go_wp2_with (fail)
  ((with_reducible refine (New_sep (Sep.of_below HB.out)).mono ?_); rintro e w2 ⟨B, rfl, h1⟩)
  have H2 := Lib.hid h1
  clear h1
  obtain ⟨d1, j1, hop, hL1⟩ : ∃ d1 j1, openJ newD 0 = (d1, some j1, 0) ∧ StayI 0 0 d1 [] [] (some j1) := by
    obtain ⟨d', j', h1, _, h3, _⟩ := (StayI.new 0).open_all (by decide) (by decide) (by decide) rfl rfl
    exact ⟨d', j', h1, h3⟩
  have HOP1 := Lib.hid hop
  have HL1 := Lib.hid hL1
  clear hop hL1
  go_wp2_with (fail)
  ((with_reducible refine (Open_sep H2.out HE.out 0 _ HOP1.out).mono ?_); rintro e w3 ⟨J, rfl, h1⟩)
  have H3 := Lib.hid h1
  clear h1
  obtain ⟨hfa, hfn⟩ : (∀ a ∈ l, a.few) ∧ n ≤ 25 := by
    rw [fewOps, Bool.and_eq_true, decide_eq_true_iff, decide_eq_true_iff, HL.out] at hfw
    exact hfw
  obtain ⟨hta, htn⟩ : (∀ a ∈ ls, a.length ≤ 200) ∧ ns ≤ 8 := by
    rw [textsB, Bool.and_eq_true, decide_eq_true_iff, decide_eq_true_iff, HLS.out] at htw
    exact htw
  have HFA := Lib.hid hfa
  have HFN := Lib.hid hfn
  have HTA := Lib.hid hta
  have HTN := Lib.hid htn
  clear hfw htw hfa hfn hta htn hq1' hq2'
  go_wp2_with (fail)
  go_loopg [11, 13] n (fun gk jv iv wr => ∃ (k : Nat) (d : DV) (all sure : List (List UInt8)) (jo : Option JV) (J : Nat), gk + k = n ∧ jv = jPtrS J jo ∧ iv = .int .i64 (k : Int) ∧ StayI 0 k d all sure jo ∧ Sep w wr (diskR B d :: jOptS B J jo))
  case atStart =>
    exact ⟨0, d1, [], [], some j1, J, by omega, rfl, rfl, HL1.out, H3.out.sw⟩
  case round =>
    obtain ⟨k, d, all, sure, jo, J, hgk, rfl, rfl, hLI, hS⟩ := hrel
    obtain ⟨wo, rfl⟩ : ∃ wo : World, wo = wr := ⟨_, rfl⟩
    have HLI := Lib.hid hLI
    have HS := Lib.hid hS
    have HGK := Lib.hid hgk
    clear hLI hS hgk H3 H2 HL1 HOP1 HB HFEW HTX
    by_cases hlt : k < n
    case pos =>
      as_aux_lemma =>
      obtain ⟨a, ha⟩ : ∃ a, l[k]? = some a := ⟨_, List.getElem?_eq_getElem (by rw [HL.out]; exact hlt)⟩
      obtain ⟨b, o, rfl, hbl, hcell⟩ := (HOP.out.below HS.out.base).2 k a.cells (by rw [List.getElem?_map, ha]; rfl)
      have HA := Lib.hid (List.mem_of_getElem? ha)
      have HO1 := Lib.hid (HFA.out a HA.out).1
      have HO2 := Lib.hid (HFA.out a HA.out).2
      have HO4 := Lib.hid (HKS.out a HA.out)
      have HON := Lib.hid (HOK.out a HA.out).2.2
      clear ha
      obtain ⟨kd, os, on, okp, oA, oc⟩ := a
      simp only at HO1 HO2 HO4 HON
      have q0 : wo.cell? ⟨b, o + k * 4, none⟩ = some (.int .i64 kd) := hcell 0 _ rfl
      have q1 : wo.cell? ⟨b, o + k * 4 + 1, none⟩ = some (.string ⟨os.toArray⟩) := hcell 1 _ rfl
      have q2 : wo.cell? ⟨b, o + k * 4 + 2, none⟩ = some (.int .i64 on) := hcell 2 _ rfl
      have q3 : wo.cell? ⟨b, o + k * 4 + 3, none⟩ = some (.slice oA okp.length oc) := hcell 3 _ rfl
      have hki : (k : Int) < (n : Int) := by omega
      have HLT := Lib.hid hlt
      have HK3 : Hid (k ≤ 3000) := Lib.hid (by have := HFN.out; have := HLT.out; omega)
      have HK4 : Hid (k ≤ 4000) := Lib.hid (by have := HFN.out; have := HLT.out; omega)
      have hwk : IntKind.i64.wrap ((k : Int) + 1) = (k : Int) + 1 := IntWalk.i64_in _ (by have := HFN.out; have := HLT.out; omega)
      clear hcell hlt
      by_cases h0 : kd = 0
      · subst h0
        cases jo with
        | none =>
          have hjp : jPtrS J none = .pointer none := rfl
          go_wp2_with (fail)
          go_roundg (n - (k + 1))
          case measure => have := HLT.out; have := HGK.out; omega
          case rel => exact ⟨k + 1, d, all, sure, none, J, by have := HLT.out; omega, rfl, by go_num, HLI.out.up, HS.out⟩
        | some j =>
          have hjp : jPtrS J (some j) = .pointer (some ⟨J, 0, none⟩) := rfl
          have HS3 : Hid (Sep w wo (jourR B J j :: diskR B d :: [])) := Lib.hid (HS.out.sw)
          obtain ⟨d3, j3, e3, hr3, hcase⟩ := HLI.out.append (by decide) (by decide) HK3.out HO1.out
          have HAP := Lib.hid (Append_sep HS3.out HE.out (HLI.out.last.jbytes HK4.out).1 (HLI.out.last.jbytes HK4.out).2 os (by have := HO1.out; omega) _ hr3)
          have HCASE := Lib.hid hcase
          clear hr3 hcase
          go_wp2_with (fail)
          ((with_reducible refine (HAP.out).mono ?_); rintro _ w6 ⟨rfl, h6⟩)
          have H6 := Lib.hid h6
          clear h6
          go_wp2_with (fail)
          go_roundg (n - (k + 1))
          case measure => have := HLT.out; have := HGK.out; omega
          case rel =>
            rcases HCASE.out with ⟨_, hd, hj⟩ | ⟨_, _, hL3⟩
            · exact ⟨k + 1, d3, all, sure, some j3, J, by have := HLT.out; omega, rfl, by go_num, by rw [hd, hj]; exact HLI.out.up, H6.out.sw⟩
            · exact ⟨k + 1, d3, all ++ [os], sure, some j3, J, by have := HLT.out; omega, rfl, by go_num, hL3, H6.out.sw⟩
      by_cases h1 : kd = 1
      · subst h1
        cases jo with
        | none =>
          have hjp : jPtrS J none = .pointer none := rfl
          go_wp2_with (fail)
          go_roundg (n - (k + 1))
          case measure => have := HLT.out; have := HGK.out; omega
          case rel => exact ⟨k + 1, d, all, sure, none, J, by have := HLT.out; omega, rfl, by go_num, HLI.out.up, HS.out⟩
        | some j =>
          have hjp : jPtrS J (some j) = .pointer (some ⟨J, 0, none⟩) := rfl
          have HS3 : Hid (Sep w wo (jourR B J j :: diskR B d :: [])) := Lib.hid (HS.out.sw)
          obtain ⟨d3, j3, e3, hr3, _, hcase⟩ := HLI.out.sync (by decide) (by decide)
          have HAP := Lib.hid (SyncJ_sep HS3.out _ hr3)
          have HCASE := Lib.hid hcase
          clear hr3 hcase
          go_wp2_with (fail)
          ((with_reducible refine (HAP.out).mono ?_); rintro _ w6 ⟨rfl, h6⟩)
          have H6 := Lib.hid h6
          clear h6
          go_wp2_with (fail)
          go_roundg (n - (k + 1))
          case measure => have := HLT.out; have := HGK.out; omega
          case rel =>
            rcases HCASE.out with ⟨_, _, hL3⟩ | ⟨_, hL3⟩
            · exact ⟨k + 1, d3, all, all, some j3, J, by have := HLT.out; omega, rfl, by go_num, hL3.up, H6.out.sw⟩
            · exact ⟨k + 1, d3, all, sure, some j3, J, by have := HLT.out; omega, rfl, by go_num, hL3.up, H6.out.sw⟩
      by_cases h2 : kd = 2
      · subst h2
        go_wp2_with (fail)
        ((with_reducible refine (Lose_sep HS.out on HON.out _ rfl).mono ?_); rintro _ w5 ⟨rfl, h1⟩)
        have HSC := Lib.hid h1
        clear h1
        go_wp2_with (fail)
        go_roundg (n - (k + 1))
        case measure => have := HLT.out; have := HGK.out; omega
        case rel => exact ⟨k + 1, _, all, sure, jo, J, by have := HLT.out; omega, rfl, by go_num, (HLI.out.lose on HON.out).up, HSC.out⟩
      by_cases h4 : kd = 4
      · subst h4
        have HST := Lib.hid (HLI.out.again okp)
        go_wp2_with (fail)
        ((with_reducible refine (Crash_sep HS.out okp oA oc HO4.out (by have := HO2.out; omega) _ rfl).mono ?_); rintro _ w5 ⟨rfl, h5⟩)
        have H5 := Lib.hid h5
        clear h5
        go_wp2_with (fail)
        ((with_reducible refine (Start_sep H5.out _ rfl).mono ?_); rintro _ w6 ⟨rfl, h6⟩)
        have H6 := Lib.hid h6.noJS
        clear h6
        rcases HST.out.open_ (by decide) (by decide) HK3.out with ⟨d5, j5, hop, _, _, hL5, _⟩ | ⟨d5, e5, hop, hL5, _⟩
        · have HOP5 := Lib.hid hop
          have HL5 := Lib.hid hL5
          clear hop hL5
          go_wp2_with (fail)
          ((with_reducible refine (Open_sep H6.out HE.out 0 _ HOP5.out).mono ?_); rintro e w7 ⟨J2, rfl, h7⟩)
          have H7 := Lib.hid h7
          clear h7
          go_wp2_with (fail)
          go_roundg (n - (k + 1))
          case measure => have := HLT.out; have := HGK.out; omega
          case rel => exact ⟨k + 1, d5, j5.recs, j5.recs, some j5, J2, by have := HLT.out; omega, rfl, by go_num, HL5.out.up, H7.out.sw⟩
        · have HOP5 := Lib.hid hop
          have HL5 := Lib.hid hL5
          clear hop hL5
          go_wp2_with (fail)
          ((with_reducible refine (Open_sep H6.out HE.out 0 _ HOP5.out).mono ?_); rintro e w7 ⟨rfl, h7⟩)
          have H7 := Lib.hid h7
          clear h7
          go_wp2_with (fail)
          go_roundg (n - (k + 1))
          case measure => have := HLT.out; have := HGK.out; omega
          case rel => exact ⟨k + 1, d5, all, sure, none, J, by have := HLT.out; omega, rfl, by go_num, HL5.out.up, H7.out⟩
      go_wp2_with (fail)
      go_roundg (n - (k + 1))
      case measure => have := HLT.out; have := HGK.out; omega
      case rel => exact ⟨k + 1, d, all, sure, jo, J, by have := HLT.out; omega, rfl, by go_num, HLI.out.up, HS.out⟩
    case neg =>
    have hki : (n : Int) ≤ (k : Int) := by omega
    have HK25 : Hid (k ≤ 25) := Lib.hid (by have := HFN.out; have := HGK.out; omega)
    clear hlt HGK
    cases jo with
    | none =>
      have hjp : jPtrS J none = .pointer none := rfl
      go_wp2_with (fail)
      go_ret
      exact ⟨rfl, HS.out.base⟩
    | some j =>
    have hjp : jPtrS J (some j) = .pointer (some ⟨J, 0, none⟩) := rfl
    have HS3 : Hid (Sep w wo (jourR B J j :: diskR B d :: [])) := Lib.hid (HS.out.sw)
    have HAL := Lib.hid (All_sep HS3.out (HLI.out.last.jbytes (by have := HK25.out; omega)).2)
    go_wp2_with (fail)
    ((with_reducible refine (HAL.out).mono ?_); rintro _ w4 ⟨A3, c3, rfl, h4⟩)
    have H4 := Lib.hid h4
    clear h4
    go_wp2_with (fail)
    obtain ⟨i0, hi0, hi1, hi2, hi3⟩ := info_parts infoStr
    go_loopg [14, 15] ns (fun gk wv iv wr => ∃ (q : Nat) (d : DV) (all sure : List (List UInt8)) (j : JV) (A5 : Option Addr) (n5 c5 : Nat), gk + q = ns ∧ wv = .slice A5 n5 c5 ∧ iv = .int .i64 (q : Int) ∧ j.recs.length = n5 ∧ StayI 0 (k + q) d all sure (some j) ∧ Sep w wr (ownR 9 1 (.slice A5 n5 c5) n5 (j.recs.map strC) :: jourR B J j :: diskR B d :: []))
    case atStart =>
      exact ⟨0, d, all, sure, j, A3, j.recs.length, c3, by omega, rfl, rfl, rfl, HLI.out, H4.out⟩
    case round =>
    clear H4 HAL HS3 HLI HS hjp
    obtain ⟨q, d, all, sure, j, A5, n5, c5, hgk, rfl, rfl, hn5, hLI, hS⟩ := hrel
    obtain ⟨wo, rfl⟩ : ∃ wo : World, wo = wr := ⟨_, rfl⟩
    have HLI := Lib.hid hLI
    have HS := Lib.hid hS
    have HGK := Lib.hid hgk
    have HN5 := Lib.hid hn5
    clear hLI hS hgk hn5 hki
    by_cases hlt : q < ns
    case pos =>
      as_aux_lemma =>
      obtain ⟨t, ht⟩ : ∃ t, ls[q]? = some t := ⟨_, List.getElem?_eq_getElem (by rw [HLS.out]; exact hlt)⟩
      obtain ⟨b, o, rfl, hbl, hcell⟩ := (HSS.out.below HS.out.base).at1 (k := q) (v := .string ⟨t.toArray⟩) (by rw [List.getElem?_map, ht]; rfl)
      have HT := Lib.hid (HTA.out t (List.mem_of_getElem? ht))
      have hki : (q : Int) < (ns : Int) := by omega
      have HLT := Lib.hid hlt
      have HK3 : Hid (k + q ≤ 3000) := Lib.hid (by have := HK25.out; have := HTN.out; have := HLT.out; omega)
      have HK4 : Hid (k + q ≤ 4000) := Lib.hid (by have := HK3.out; omega)
      have hwk : IntKind.i64.wrap ((q : Int) + 1) = (q : Int) + 1 := IntWalk.i64_in _ (by have := HTN.out; have := HLT.out; omega)
      have HNB : Hid (n5 ≤ 3000) := Lib.hid (by have h1 := (HLI.out.last.jou j rfl).2.2; have h2 := HK3.out; have h3 := HN5.out; omega)
      have HS3 : Hid (Sep w wo (jourR B J j :: diskR B d :: ownR 9 1 (.slice A5 n5 c5) n5 (j.recs.map strC) :: [])) := Lib.hid (HS.out.r3.r3)
      have HTT := Lib.hid ht
      clear ht hlt
      obtain ⟨d3, j3, e3, hr3, hcase⟩ := HLI.out.append (by decide) (by decide) HK3.out HT.out
      have HAP := Lib.hid (Append_sep HS3.out HE.out (HLI.out.last.jbytes HK4.out).1 (HLI.out.last.jbytes HK4.out).2 t (by have := HT.out; omega) _ hr3)
      clear hr3
      rcases hcase with ⟨he, hd, hj⟩ | ⟨he, hrec, hL3⟩
      · subst he
        have HD := Lib.hid hd
        have HJ := Lib.hid hj
        clear hd hj
        go_wp2_with (fail)
        ((with_reducible refine (HAP.out).mono ?_); rintro _ w6 ⟨rfl, h6⟩)
        have H6 := Lib.hid h6
        clear h6
        go_wp2_with (fail)
        go_roundg (ns - (q + 1))
        case measure => have := HLT.out; have := HGK.out; omega
        case rel =>
          have h := H6.out
          rw [HD.out, HJ.out] at h
          exact ⟨q + 1, d, all, sure, j, A5, n5, c5, by have := HLT.out; omega, rfl, by go_num, HN5.out, HLI.out.up, h.r3⟩
      · subst he
        have HREC := Lib.hid hrec
        have HL3 := Lib.hid hL3
        clear hrec hL3
        go_wp2_with (fail)
        ((with_reducible refine (HAP.out).mono ?_); rintro _ w6 ⟨rfl, h6⟩)
        have H6 : Hid (Sep w w6 (jourR B J j3 :: diskR B d3 :: ownR 9 1 (.slice A5 n5 c5) n5 (j.recs.map strC) :: [])) := Lib.hid h6
        have hc6 : w6.cell? ⟨b, o + q, none⟩ = some (.string ⟨t.toArray⟩) := by
          obtain ⟨b', o', e6, _, h⟩ := (HSS.out.below h6.base).at1 (k := q) (v := .string ⟨t.toArray⟩) (by rw [List.getElem?_map, HTT.out]; rfl)
          injection e6 with e6
          injection e6 with e7 e8
          subst e7 e8
          exact h
        have hb6 : b < w6.heap.size := by
          obtain ⟨b', o', e6, h, _⟩ := (HSS.out.below h6.base).at1 (k := q) (v := .string ⟨t.toArray⟩) (by rw [List.getElem?_map, HTT.out]; rfl)
          injection e6 with e6
          injection e6 with e7 e8
          subst e7
          exact h
        have HO := Lib.hid (((H6.out.r3).alloc (.cells #[.string ⟨t.toArray⟩] 9)).own)
        have HSZ : Hid (w.heap.size ≤ w6.heap.size) := Lib.hid h6.base.size
        clear h6 hcell
        go_wp2_with (at_builtin; refine wpList_append_sl _ rfl (.tmp 125) (.tmp 130) _ rfl w.heap.size 9 i0 _ 1 16 Tryd.underlying22 hi0 hi1 hi2 hi3 rfl (by omega) (.slice A5 n5 c5) n5 (j.recs.map strC) rfl HO.out (some ⟨w6.heap.size, 0, none⟩) 1 1 [[.string ⟨t.toArray⟩]] rfl (Sl.new_ _ _ _) (by simp) (by simp [Value.oneCell']) (by have := HNB.out; simp only [maxLen]; omega) (by have := HNB.out; omega) (by have := HSZ.out; simp only [World.size_alloc]; omega) ?_; intro A7 c7 w7 hown7 hg7 hat7; have HX7 := Lib.hid (((H6.out.r3).alloc (.cells #[.string ⟨t.toArray⟩] 9)).grown hown7 hg7 hat7); clear hown7 hg7 hat7)
        go_roundg (ns - (q + 1))
        case measure => have := HLT.out; have := HGK.out; omega
        case rel =>
          have hm : j.recs.map strC ++ [[.string ⟨t.toArray⟩]] = j3.recs.map strC := by rw [HREC.out, List.map_append]; rfl
          have h := HX7.out
          rw [hm] at h
          exact ⟨q + 1, d3, all ++ [t], sure, j3, A7, n5 + 1, c7, by have := HLT.out; omega, rfl, by go_num, by rw [HREC.out, List.length_append, HN5.out]; rfl, HL3.out, h⟩
    case neg =>
    have hki : (ns : Int) ≤ (q : Int) := by omega
    have HK33 : Hid (k + q ≤ 33) := Lib.hid (by have := HK25.out; have := HTN.out; have := HGK.out; omega)
    have HS3 : Hid (Sep w wo (jourR B J j :: diskR B d :: ownR 9 1 (.slice A5 n5 c5) n5 (j.recs.map strC) :: [])) := Lib.hid (HS.out.r3.r3)
    have HNB : Hid (n5 ≤ 3000) := Lib.hid (by have h1 := (HLI.out.last.jou j rfl).2.2; have h2 := HK33.out; have h3 := HN5.out; omega)
    clear hlt
    obtain ⟨d3, j3, e3, hr3, hrec, hcase⟩ := HLI.out.sync (by decide) (by decide)
    have HSY := Lib.hid (SyncJ_sep HS3.out _ hr3)
    have HREC := Lib.hid hrec
    clear hr3 hrec
    rcases hcase with ⟨he, hall, hL3⟩ | ⟨he, _⟩
    case inr =>
      as_aux_lemma =>
      have heb : (e3 == 0) = false := by rw [beq_eq_false_iff_ne]; exact he
      have hen : (e3 != 0) = true := by rw [bne_iff_ne]; exact he
      go_wp2_with (fail)
      ((with_reducible refine (HSY.out).mono ?_); rintro _ w6 ⟨rfl, h6⟩)
      have H6 : Hid (Sep w w6 (jourR B J j3 :: diskR B d3 :: ownR 9 1 (.slice A5 n5 c5) n5 (j.recs.map strC) :: [])) := Lib.hid h6
      have hal := All_sep h6 (by rw [HREC.out, HN5.out]; have := HNB.out; omega)
      have HAL := Lib.hid hal
      clear h6 hal
      go_wp2_with (fail)
      ((with_reducible refine (HAL.out).mono ?_); rintro _ w7 ⟨A7, c7, rfl, h7⟩)
      have H7 := Lib.hid h7
      have HST := Lib.hid (SameTexts_any w7 A7 A5 j3.recs.length n5 c7 c5 j3.recs j.recs (Own.sl' h7.own) (Own.sl' h7.r4.own) (by rw [HREC.out, HN5.out]; have := HNB.out; omega) true (by rw [HREC.out]; simp))
      clear h7
      go_wp2_with (fail)
      ((with_reducible refine (HST.out).mono ?_); rintro _ w8 ⟨rfl, hb8⟩)
      have H8 := Lib.hid (H7.out.below hb8)
      clear hb8
      go_wp2_with (fail)
      go_ret
      exact ⟨rfl, H8.out.base⟩
    subst he
    obtain ⟨R, hR⟩ : ∃ R, all = R := ⟨_, rfl⟩
    subst hR
    have HALL := Lib.hid hall
    have HL3 := Lib.hid hL3
    clear hall hL3
    go_wp2_with (fail)
    ((with_reducible refine (HSY.out).mono ?_); rintro _ w6 ⟨rfl, h6⟩)
    have H6 : Hid (Sep w w6 (jourR B J j3 :: diskR B d3 :: ownR 9 1 (.slice A5 n5 c5) n5 (j.recs.map strC) :: [])) := Lib.hid h6
    clear h6
    go_wp2_with (fail)
    ((with_reducible refine (Lose_sep H6.out.sw 0 (by decide) _ rfl).mono ?_); rintro _ w7 ⟨rfl, h7⟩)
    have H7 : Hid (Sep w w7 (diskR B (LoseF d3 0) :: jourR B J j3 :: ownR 9 1 (.slice A5 n5 c5) n5 (all.map strC) :: [])) := Lib.hid (by rw [← HALL.out]; exact h7)
    clear h7
    go_wp2_with (fail)
    go_loopg [11, 17] 2 (fun gk jv iv wr => ∃ (q3 : Nat) (d : DV) (j : JV) (J : Nat), gk + q3 = 2 ∧ jv = .pointer (some ⟨J, 0, none⟩) ∧ iv = .int .i64 (q3 : Int) ∧ j.recs = all ∧ StayI 0 (k + q) d all all (some j) ∧ d.lost = 0 ∧ Sep w wr (ownR 9 1 (.slice A5 n5 c5) n5 (all.map strC) :: jourR B J j :: diskR B d :: []))
    case atStart =>
      exact ⟨0, LoseF d3 0, j3, J, rfl, rfl, rfl, by rw [HREC.out, HALL.out], HL3.out.lose 0 (by decide), rfl, H7.out.sw.r3⟩
    case round =>
    have HNA : Hid (all.length = n5) := Lib.hid (by rw [← HALL.out]; exact HN5.out)
    clear H7 H6 HL3 HALL HREC HSY HS3 HLI HS HGK HN5 hki
    obtain ⟨q3, d, j, J, hgk, rfl, rfl, hjr, hLI, hlost, hS⟩ := hrel
    obtain ⟨wo, rfl⟩ : ∃ wo : World, wo = wr := ⟨_, rfl⟩
    have HLI := Lib.hid hLI
    have HLOST := Lib.hid hlost
    have HGK3 := Lib.hid hgk
    have HJR := Lib.hid hjr
    have HS := Lib.hid (hS.r3.r3)
    have hal := All_sep hS.r3.r3 (by rw [hjr, HNA.out]; have := HNB.out; omega)
    rw [hjr, HNA.out] at hal
    have HAL := Lib.hid hal
    have hq3 : q3 ≤ 2 := by omega
    clear hLI hlost hgk hjr hS hal
    by_cases hlt : q3 < 2
    case neg =>
      as_aux_lemma =>
      obtain rfl : q3 = 2 := by omega
      clear hlt hq3
      go_wp2_with (fail)
      ((with_reducible refine (HAL.out).mono ?_); rintro _ w7 ⟨A7, c7, rfl, h7⟩)
      have H7 := Lib.hid h7
      have HST := Lib.hid (SameTexts_any w7 A7 A5 n5 n5 c7 c5 all all (Own.sl' h7.own) (Own.sl' h7.r4.own) (by have := HNB.out; omega) true (by simp))
      clear h7
      go_wp2_with (fail)
      ((with_reducible refine (HST.out).mono ?_); rintro _ w8 ⟨rfl, hb8⟩)
      have H8 := Lib.hid (H7.out.below hb8)
      clear hb8
      go_wp2_with (fail)
      go_ret
      exact ⟨rfl, H8.out.base⟩
    have hq : q3 = 0 ∨ q3 = 1 := by omega
    clear hlt hq3
    rcases hq with rfl | rfl
    · as_aux_lemma =>
      go_wp2_with (fail)
      ((with_reducible refine (HAL.out).mono ?_); rintro _ w7 ⟨A7, c7, rfl, h7⟩)
      have H7 := Lib.hid h7
      have HST := Lib.hid (SameTexts_any w7 A7 A5 n5 n5 c7 c5 all all (Own.sl' h7.own) (Own.sl' h7.r4.own) (by have := HNB.out; omega) true (by simp))
      clear h7
      go_wp2_with (fail)
      ((with_reducible refine (HST.out).mono ?_); rintro _ w8 ⟨rfl, hb8⟩)
      have H8 := Lib.hid (H7.out.below hb8).drop
      clear hb8
      have HSTA := Lib.hid (HLI.out.again k1)
      have HLO := Lib.hid (StayI.again_lost d k1)
      obtain ⟨d7, j7, hop, hre, hL7, hlo⟩ := HSTA.out.open_all (by decide) (by decide) (by have := HK33.out; omega) (by rw [HLO.out.1]; exact HLOST.out) HLO.out.2
      have HOP7 := Lib.hid hop
      have HRE7 := Lib.hid hre
      have HL7 := Lib.hid hL7
      have HLO7 := Lib.hid hlo
      have hCr := Crash_sep H8.out.sw k1 A1 c1 HK1.out (by have h1 := HQ1.out; have h2 := HM1.out; omega) _ rfl
      rw [HM1.out] at hCr
      have HCR := Lib.hid hCr
      clear hop hre hL7 hlo hCr
      go_wp2_with (fail)
      ((with_reducible refine (HCR.out).mono ?_); rintro _ w9 ⟨rfl, h9⟩)
      have H9 := Lib.hid h9
      clear h9
      go_wp2_with (fail)
      ((with_reducible refine (Start_sep H9.out _ rfl).mono ?_); rintro _ w10 ⟨rfl, h10⟩)
      have H10 := Lib.hid h10.sw.drop
      clear h10
      go_wp2_with (fail)
      ((with_reducible refine (Open_sep H10.out HE.out 0 _ HOP7.out).mono ?_); rintro e w11 ⟨J7, rfl, h11⟩)
      have H11 := Lib.hid h11
      clear h11
      go_wp2_with (fail)
      go_roundg (1 - 0)
      case measure => have := HGK3.out; omega
      case rel =>
        exact ⟨0 + 1, d7, j7, J7, by omega, rfl, rfl, HRE7.out, HL7.out, HLO7.out, H11.out.r3⟩
    · as_aux_lemma =>
      go_wp2_with (fail)
      ((with_reducible refine (HAL.out).mono ?_); rintro _ w7 ⟨A7, c7, rfl, h7⟩)
      have H7 := Lib.hid h7
      have HST := Lib.hid (SameTexts_any w7 A7 A5 n5 n5 c7 c5 all all (Own.sl' h7.own) (Own.sl' h7.r4.own) (by have := HNB.out; omega) true (by simp))
      clear h7
      go_wp2_with (fail)
      ((with_reducible refine (HST.out).mono ?_); rintro _ w8 ⟨rfl, hb8⟩)
      have H8 := Lib.hid (H7.out.below hb8).drop
      clear hb8
      have HSTA := Lib.hid (HLI.out.again k2)
      have HLO := Lib.hid (StayI.again_lost d k2)
      obtain ⟨d7, j7, hop, hre, hL7, hlo⟩ := HSTA.out.open_all (by decide) (by decide) (by have := HK33.out; omega) (by rw [HLO.out.1]; exact HLOST.out) HLO.out.2
      have HOP7 := Lib.hid hop
      have HRE7 := Lib.hid hre
      have HL7 := Lib.hid hL7
      have HLO7 := Lib.hid hlo
      have hCr := Crash_sep H8.out.sw k2 A2 c2 HK2.out (by have h1 := HQ2.out; have h2 := HM2.out; omega) _ rfl
      rw [HM2.out] at hCr
      have HCR := Lib.hid hCr
      clear hop hre hL7 hlo hCr
      go_wp2_with (fail)
      ((with_reducible refine (HCR.out).mono ?_); rintro _ w9 ⟨rfl, h9⟩)
      have H9 := Lib.hid h9
      clear h9
      go_wp2_with (fail)
      ((with_reducible refine (Start_sep H9.out _ rfl).mono ?_); rintro _ w10 ⟨rfl, h10⟩)
      have H10 := Lib.hid h10.sw.drop
      clear h10
      go_wp2_with (fail)
      ((with_reducible refine (Open_sep H10.out HE.out 0 _ HOP7.out).mono ?_); rintro e w11 ⟨J7, rfl, h11⟩)
      have H11 := Lib.hid h11
      clear h11
      go_wp2_with (fail)
      go_roundg (1 - 1)
      case measure => have := HGK3.out; omega
      case rel =>
        exact ⟨1 + 1, d7, j7, J7, by omega, rfl, rfl, HRE7.out, HL7.out, HLO7.out, H11.out.r3⟩
end Go.Proofs.YtniiahmpdkgplaaDoor
