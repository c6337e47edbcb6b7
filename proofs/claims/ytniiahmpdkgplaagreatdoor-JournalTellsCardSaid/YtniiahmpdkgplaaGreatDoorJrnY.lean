/- kerbsidelaw03: JournalTells, walked. -/
import Derived.Test.YtniiahmpdkgplaaGreatDoorJrnS
import Derived.Test.YtniiahmpdkgplaaGreatDoorJrnX
import Derived.Deep.LoopGhost
import Derived.Deep.DeepCutAuto
import Derived.Deep.CutBlock
import Derived.BigQuiet
import Derived.Test.YtniiahmpdkgplaaGreatDoorOrdL
namespace Go.Proofs.YtniiahmpdkgplaaGreatDoor
open Go.RowKit Go.Sort Go.Lib

/-- what JournalTells keeps from round to round: the disk, the reference's disk, and both journals, if there are any -/
structure TellI (i : Nat) (d r : DV) (po : Option (JV × JR)) : Prop where
  last : ∃ all sure, LastI 3 i d all sure (po.map Prod.fst)
  disk : RelD d r
  jou : ∀ p, po = some p → RelJ p.1 p.2
namespace TellI
variable {i : Nat} {d r : DV} {po : Option (JV × JR)} {j : JV} {k : JR}
theorem up (h : TellI i d r po) : TellI (i + 1) d r po := by
  obtain ⟨⟨all, sure, h1⟩, h2, h3⟩ := h
  exact ⟨⟨all, sure, h1.up⟩, h2, h3⟩
theorem ok (h : TellI i d r po) : DOk d := by obtain ⟨⟨all, sure, h1⟩, _, _⟩ := h; exact h1.file.ok
theorem lose (h : TellI i d r po) (n : Int) (hn : n ≤ 9223372036854775807) : TellI i (LoseF d n) (LoseF r n) po := by
  obtain ⟨⟨all, sure, h1⟩, h2, h3⟩ := h
  exact ⟨⟨all, sure, h1.lose n hn⟩, ⟨h2.file, h2.queue, rfl, h2.down, h2.armed, h2.keep⟩, h3⟩
theorem arm (h : TellI i d r po) (n : Int) (hn : n ≤ 9223372036854775807) (keep : List Int) (hk : keep.length ≤ 4194320) : TellI i (ArmF d n keep) (ArmF r n keep) po := by
  obtain ⟨⟨all, sure, h1⟩, h2, h3⟩ := h
  exact ⟨⟨all, sure, h1.arm n hn keep hk⟩, ⟨h2.file, h2.queue, h2.lost, h2.down, rfl, rfl⟩, h3⟩
theorem crash (h : TellI i d r po) (keep : List Int) : TellI i (crashF d keep) (crashR r keep) none := by
  obtain ⟨⟨all, sure, h1⟩, h2, h3⟩ := h
  exact ⟨⟨all, sure, h1.crash keep⟩, h2.crash keep, fun p e => by cases e⟩
theorem start (h : TellI i d r po) : TellI i (StartF d) (StartF r) none := by
  obtain ⟨⟨all, sure, h1⟩, h2, h3⟩ := h
  exact ⟨⟨all, sure, h1.start⟩, ⟨h2.file, h2.queue, h2.lost, rfl, h2.armed, h2.keep⟩, fun p e => by cases e⟩
theorem append (h : TellI i d r (some (j, k))) (hi : i ≤ 3000) {t : List UInt8} (ht : t.length ≤ 200) :
    ∃ d' j' e r' k', appendJ d j t = (d', j', e) ∧ appendR r k t = (r', k', e) ∧ TellI (i + 1) d' r' (some (j', k')) := by
  obtain ⟨⟨all, sure, h1⟩, h2, h3⟩ := id h
  have hj := h3 _ rfl
  obtain ⟨e1, e2, e3⟩ := h2.append hj h.ok t
  refine ⟨(appendJ d j t).1, (appendJ d j t).2.1, (appendJ d j t).2.2, (appendR r k t).1, (appendR r k t).2.1, rfl, by rw [e1], ?_, e2, fun p ep => by cases ep; exact e3⟩
  obtain ⟨d', j', e, ha, hc⟩ := h1.append (f := 3) (by decide) (by decide) hi ht
  rw [ha]
  rcases hc with ⟨_, hd, hjj⟩ | ⟨_, _, hL⟩ | ⟨_, _, hL⟩
  · rw [hd, hjj]; exact ⟨all, sure, h1.up⟩
  · exact ⟨_, _, hL⟩
  · exact ⟨_, _, hL⟩
theorem sync (h : TellI i d r (some (j, k))) :
    ∃ d' j' e r' k', syncJ d j = (d', j', e) ∧ syncRJ r k = (r', k', e) ∧ TellI i d' r' (some (j', k')) := by
  obtain ⟨⟨all, sure, h1⟩, h2, h3⟩ := id h
  have hj := h3 _ rfl
  obtain ⟨e1, e2, e3⟩ := h2.syncJ_ hj h.ok
  refine ⟨(syncJ d j).1, (syncJ d j).2.1, (syncJ d j).2.2, (syncRJ r k).1, (syncRJ r k).2.1, rfl, by rw [e1], ?_, e2, fun p ep => by cases ep; exact e3⟩
  obtain ⟨d', j', e, ha, hc⟩ := h1.sync (f := 3) (by decide) (by decide)
  rw [ha]
  rcases hc with ⟨_, _, _, hL⟩ | ⟨_, hL⟩
  · exact ⟨_, _, hL⟩
  · exact ⟨_, _, hL⟩
/-- both journals are opened, or neither is -/
theorem open_ (h : TellI i d r po) (hi : i ≤ 3000) :
    (∃ d' j r' k, openJ d 3 = (d', some j, 0) ∧ openR r 3 = (r', some k, 0) ∧ TellI i d' r' (some (j, k))) ∨
    (∃ d' e r', openJ d 3 = (d', none, e) ∧ openR r 3 = (r', none, e) ∧ TellI i d' r' none) := by
  obtain ⟨⟨all, sure, h1⟩, h2, h3⟩ := id h
  obtain ⟨e1, e2, e3⟩ := h2.open_ h.ok 3
  rcases h1.open_ (f := 3) (by decide) (by decide) hi with ⟨d', j, ho, _, _, hL⟩ | ⟨d', e, ho, _, hL, _⟩
  · left
    rw [ho] at e1 e2 e3
    obtain ⟨⟨r', ko, x⟩, hx⟩ : ∃ y, openR r 3 = y := ⟨_, rfl⟩
    rw [hx] at e1 e2 e3
    cases ko with
    | none => exact e3.elim
    | some k =>
      refine ⟨d', j, r', k, ho, ?_, ⟨_, _, hL⟩, e2, fun p ep => by cases ep; exact e3⟩
      rw [hx]
      have : (0 : Int) = x := e1
      rw [← this]
  · right
    rw [ho] at e1 e2 e3
    obtain ⟨⟨r', ko, x⟩, hx⟩ : ∃ y, openR r 3 = y := ⟨_, rfl⟩
    rw [hx] at e1 e2 e3
    cases ko with
    | some k => exact e3.elim
    | none =>
      refine ⟨d', e, r', ho, ?_, ⟨_, _, hL⟩, e2, fun p ep => by cases ep⟩
      rw [hx]
      have : e = x := e1
      rw [← this]
theorem new : TellI 0 newD newD none := ⟨⟨[], [], LastI.new 3⟩, RelD.new, fun p e => by cases e⟩
theorem jbytes (h : TellI i d r (some (j, k))) (hi : i ≤ 4000) : (-9223372036854775808 ≤ j.bytes ∧ j.bytes ≤ 4611686018427387904) ∧ j.recs.length ≤ 1099511627776 := by
  obtain ⟨⟨all, sure, h1⟩, _, _⟩ := h
  exact h1.jbytes hi
theorem kbytes (h : TellI i d r (some (j, k))) (hi : i ≤ 4000) : (formsB k.recs).length ≤ 1099511627776 := by
  obtain ⟨⟨all, sure, h1⟩, _, h3⟩ := h
  obtain ⟨_, h4, h5⟩ := h1.jou j rfl
  have := formsB_le h4
  have e : j.recs = k.recs := (h3 _ rfl).recs
  rw [← e]
  omega
end TellI
def jjR (B J C K : Nat) : Option (JV × JR) → List Res
  | none => []
  | some p => [jourR B J p.1, jrefR C K p.2]
def jjP (J : Nat) : Option (JV × JR) → Value
  | none => .pointer none
  | some _ => .pointer (some ⟨J, 0, none⟩)
theorem Sep.noJJ {w0 w : World} {R1 R2 : Res} {B J C K : Nat} : ∀ {po : Option (JV × JR)}, Sep w0 w (R1 :: R2 :: jjR B J C K po) → Sep w0 w [R1, R2]
  | none, h => h
  | some _, h => (h.r4.drop.r3.drop : Sep w0 w [R1, R2])
theorem Sep.noJJ3 {w0 w : World} {R1 R2 R3 : Res} {B J C K : Nat} : ∀ {po : Option (JV × JR)}, Sep w0 w (R1 :: R2 :: R3 :: jjR B J C K po) → Sep w0 w [R1, R2, R3]
  | none, h => h
  | some _, h => by
    have h5 : Sep w0 w (R1 :: R2 :: R3 :: jourR B J _ :: jrefR C K _ :: []) := h
    exact h5.r5.drop.r4.drop
theorem ok4T (o : OpC) (h : o.ok) : o.n ≤ 9223372036854775807 := h.2.2
set_option maxRecDepth 100000 in
set_option maxHeartbeats 16000000 in
theorem journalTells_any (w : World) (hE : Env w.heap.size w) (A : Option Addr) (n c : Nat) (l : List OpC) (hs : Sl w 4 A n (l.map OpC.cells)) (hn : n ≤ maxLen) (hok : ∀ a ∈ l, a.ok) (hks : OpsAt w l) :
    Calls Tryz.prog 3 #[.slice A n c] w fun e w' => e = .returned (.bool true) ∧ Below w.heap.size w w' := by
  have HE := Lib.hid hE
  have HOP := Lib.hid hs
  have HOK := Lib.hid hok
  have HKS := Lib.hid hks
  have hll : l.length = n := by have := hs.1; simpa using this
  have HL := Lib.hid hll
  have HFEW := Lib.hid (fun W (hb : Below w.heap.size w W) r hr => few_any W A n c l (hs.below hb) hn r hr)
  clear hE hs hok hks hll hn
  go_enter Tryz.func3, Tryz.ntmps3
  go_wp2_with (fail)
  ((with_reducible refine (small_any w HE.out).mono ?_); rintro _ w1 ⟨rfl, hb⟩)
  have HB := Lib.hid hb
  clear hb
  cases hfw : fewOps l
  case false =>
    go_wp2_with (fail)
    ((with_reducible refine (HFEW.out _ HB.out false hfw).mono ?_); rintro _ _ ⟨rfl, rfl⟩)
    go_wp2_with (fail)
    go_ret
    exact ⟨rfl, HB.out⟩
  obtain ⟨hfa, hfn⟩ : (∀ a ∈ l, a.few) ∧ n ≤ 25 := by
    have hfw' := hfw
    rw [fewOps, Bool.and_eq_true, decide_eq_true_iff, decide_eq_true_iff, HL.out] at hfw'
    exact hfw'
  have HFA := Lib.hid hfa
  have HFN := Lib.hid hfn
  clear hfa hfn
  go_wp2_with (fail)
  ((with_reducible refine (HFEW.out _ HB.out true hfw).mono ?_); rintro _ _ ⟨rfl, rfl⟩)
  go_wp2_with (fail)
  ((with_reducible refine (New_sep (Sep.of_below HB.out)).mono ?_); rintro e w2 ⟨B, rfl, h1⟩)
  have H2 := Lib.hid h1
  clear h1
  go_wp2_with (fail)
  ((with_reducible refine (NewR_sep H2.out).mono ?_); rintro e w3 ⟨C, rfl, h1⟩)
  have H3 := Lib.hid h1
  clear h1
  obtain ⟨d1, j1, r1, k1, hop, hopr, hT⟩ : ∃ d1 j1 r1 k1, openJ newD 3 = (d1, some j1, 0) ∧ openR newD 3 = (r1, some k1, 0) ∧ TellI 0 d1 r1 (some (j1, k1)) := by
    rcases TellI.new.open_ (by decide) with h | ⟨d', e, r', ho, _, _⟩
    · exact h
    · exfalso
      obtain ⟨d2, h2, _⟩ := Calm.new.open_ (f := 3) (s := []) (by decide) (by decide) rfl
      rw [h2] at ho
      have := congrArg (fun x => x.2.1) ho
      cases this
  have HOP1 := Lib.hid hop
  have HOR1 := Lib.hid hopr
  have HT1 := Lib.hid hT
  clear hop hopr hT hfw
  go_wp2_with (fail)
  ((with_reducible refine (Open_sep H3.out.sw HE.out 3 _ HOP1.out).mono ?_); rintro e w4 ⟨J, rfl, h1⟩)
  have H4 : Hid (Sep w w4 (jourR B J j1 :: diskR B d1 :: refR C newD :: [])) := Lib.hid h1
  clear h1
  go_wp2_with (fail)
  ((with_reducible refine (OpenRJ_sep H4.out.r3 3 _ HOR1.out).mono ?_); rintro e w5 ⟨K, rfl, h1⟩)
  have H5 : Hid (Sep w w5 (jrefR C K k1 :: refR C r1 :: jourR B J j1 :: diskR B d1 :: [])) := Lib.hid h1
  clear h1
  go_wp2_with (fail)
  go_loopg [6, 7, 8, 9, 10] n (fun gk jv ev kv fv iv wr => ∃ (q : Nat) (d r : DV) (po : Option (JV × JR)) (J K : Nat) (x : Int), gk + q = n ∧ jv = jjP J po ∧ ev = .int .i64 x ∧ kv = jjP K po ∧ fv = .int .i64 x ∧ iv = .int .i64 (q : Int) ∧ TellI q d r po ∧ Sep w wr (diskR B d :: refR C r :: jjR B J C K po))
  case atStart =>
    exact ⟨0, d1, r1, some (j1, k1), J, K, 0, by omega, rfl, rfl, rfl, rfl, rfl, HT1.out, H5.out.l4.r3⟩
  case round =>
    obtain ⟨q, d, r, po, J, K, x, hgk, rfl, rfl, rfl, rfl, rfl, hT, hS⟩ := hrel
    obtain ⟨wo, rfl⟩ : ∃ wo : World, wo = wr := ⟨_, rfl⟩
    have HT := Lib.hid hT
    have HS := Lib.hid hS
    have HGK := Lib.hid hgk
    clear hT hS hgk H2 H3 H4 H5 HT1 HOP1 HOR1 HB HFEW
    by_cases hlt : q < n
    case neg =>
      as_aux_lemma =>
      have hki : (n : Int) ≤ (q : Int) := by omega
      have HT2 := Lib.hid HT.out.start
      have HSN : Hid (Sep w wo (diskR B d :: refR C r :: [])) := Lib.hid HS.out.noJJ
      obtain ⟨m, hm⟩ : ∃ m : Int, (((StartF d).file 3).now.length : Int) = m := ⟨_, rfl⟩
      have hm2 : (((StartF r).file 3).now.length : Int) = m := by rw [← HT2.out.disk.file 3]; exact hm
      obtain ⟨⟨s1, e1⟩, hrd⟩ : ∃ y, ReadF (StartF d) 3 0 m = y := ⟨_, rfl⟩
      have hrr : ReadF (StartF r) 3 0 m = (s1, e1) := by rw [← HT2.out.disk.read 3 0 m]; exact hrd
      have HM1 := Lib.hid hm
      have HM2 := Lib.hid hm2
      have HR1 := Lib.hid hrd
      have HR2 := Lib.hid hrr
      clear hlt hm hm2 hrd hrr HS
      go_wp2_with (fail)
      ((with_reducible refine (Start_sep HSN.out _ rfl).mono ?_); rintro _ w6 ⟨rfl, h6⟩)
      have H6 := Lib.hid h6
      clear h6
      go_wp2_with (fail)
      ((with_reducible refine (StartR_sep H6.out.sw _ rfl).mono ?_); rintro _ w7 ⟨rfl, h7⟩)
      have H7 := Lib.hid h7
      clear h7
      go_wp2_with (fail)
      ((with_reducible refine (Size_sep H7.out.sw 3 _ HM1.out).mono ?_); rintro _ _ ⟨rfl, rfl⟩)
      go_wp2_with (fail)
      ((with_reducible refine (Read_sep H7.out.sw 3 0 _ _ HR1.out).mono ?_); rintro _ _ ⟨rfl, rfl⟩)
      go_wp2_with (fail)
      ((with_reducible refine (SizeR_sep H7.out 3 _ HM2.out).mono ?_); rintro _ w8 ⟨rfl, h8⟩)
      have H8 := Lib.hid h8
      clear h8
      go_wp2_with (fail)
      ((with_reducible refine (ReadR_sep H8.out 3 0 _ _ HR2.out).mono ?_); rintro _ w9 ⟨rfl, h9⟩)
      have H9 := Lib.hid h9
      clear h9
      go_wp2_with (fail)
      go_ret
      exact ⟨rfl, H9.out.base⟩
    obtain ⟨a, ha⟩ : ∃ a, l[q]? = some a := ⟨_, List.getElem?_eq_getElem (by rw [HL.out]; exact hlt)⟩
    obtain ⟨b, o, rfl, hbl, hcell⟩ := (HOP.out.below HS.out.base).2 q a.cells (by rw [List.getElem?_map, ha]; rfl)
    have HA := Lib.hid (List.mem_of_getElem? ha)
    have HO1 := Lib.hid (HFA.out a HA.out).1
    have HO2 := Lib.hid (HFA.out a HA.out).2
    have HO4 := Lib.hid (HKS.out a HA.out)
    have HON := Lib.hid (HOK.out a HA.out).2.2
    clear ha
    obtain ⟨kd, os, on, okp, oA, oc⟩ := a
    simp only at HO1 HO2 HO4 HON
    have q0 : wo.cell? ⟨b, o + q * 4, none⟩ = some (.int .i64 kd) := hcell 0 _ rfl
    have q1 : wo.cell? ⟨b, o + q * 4 + 1, none⟩ = some (.string ⟨os.toArray⟩) := hcell 1 _ rfl
    have q2 : wo.cell? ⟨b, o + q * 4 + 2, none⟩ = some (.int .i64 on) := hcell 2 _ rfl
    have q3 : wo.cell? ⟨b, o + q * 4 + 3, none⟩ = some (.slice oA okp.length oc) := hcell 3 _ rfl
    have hki : (q : Int) < (n : Int) := by omega
    have HLT := Lib.hid hlt
    have HK3 : Hid (q ≤ 3000) := Lib.hid (by have := HFN.out; have := HLT.out; omega)
    have hwk : IntKind.i64.wrap ((q : Int) + 1) = (q : Int) + 1 := IntWalk.i64_in _ (by have := HFN.out; have := HLT.out; omega)
    obtain ⟨sm, hsm⟩ : ∃ sm, sumF os = sm := ⟨_, rfl⟩
    have HSM := Lib.hid (fun W => show Calls Tryz.prog 10 #[.string ⟨os.toArray⟩] W fun e w' => e = .returned (.int .i64 sm) ∧ w' = W from (Sum_any W os (by have := HO1.out; omega) sm hsm).mono fun _ _ h => ⟨h.1, h.2.symm⟩)
    have HSR := Lib.hid (fun W => show Calls Tryz.prog 11 #[.string ⟨os.toArray⟩] W fun e w' => e = .returned (.int .i64 sm) ∧ w' = W from (RSum_any W os (by have := HO1.out; omega) sm hsm).mono fun _ _ h => ⟨h.1, h.2.symm⟩)
    clear hcell hlt hsm
    obtain ⟨bx, hbx⟩ : ∃ bx, wo.heap.size = bx := ⟨_, rfl⟩
    have HSB := Lib.hid (HS.out.box #[.int .i64 kd, .string ⟨os.toArray⟩, .int .i64 on, .slice oA okp.length oc] 38)
    go_wp2_with (fail)
    rw [hbx] at HSB
    clear hbx
    generalize wo.alloc (.cells #[.int .i64 kd, .string ⟨os.toArray⟩, .int .i64 on, .slice oA okp.length oc] 38) = W0 at *
    clear q0 q1 q2 q3 HS
    obtain ⟨zB, kB, fB⟩ := HSB.out.loc
    go_quiet (first | (go_at_call 10; exact Calls.quiet_of_same (HSM.out _)) | (go_at_call 11; exact Calls.quiet_of_same (HSR.out _)))
    replace HSB := Lib.hid (HSB.out.drewN nq)
    clear zB kB fB
    generalize W0.drewN nq = W1 at *
    obtain ⟨zB, kB, fB⟩ := HSB.out.loc
    go_upto_block 2 with (fail)
    go_cut [6, 7, 8, 9] (fun jv ev kv fv wx => ∃ (d r : DV) (po : Option (JV × JR)) (J K : Nat) (x : Int), jv = jjP J po ∧ ev = .int .i64 x ∧ kv = jjP K po ∧ fv = .int .i64 x ∧ TellI (q + 1) d r po ∧ Sep w wx (diskR B d :: refR C r :: jjR B J C K po))
    case first =>
      by_cases h0 : kd = 0
      · as_aux_lemma =>
        subst h0
        cases po with
        | none =>
          have hjp : jjP J none = .pointer none := rfl
          have hkp : jjP K none = .pointer none := rfl
          go_wp2_with (fail)
          go_roundg (n - (q + 1))
          case measure => have := HLT.out; have := HGK.out; omega
          case rel => exact ⟨q + 1, d, r, none, J, K, x, by have := HLT.out; omega, rfl, rfl, rfl, rfl, by go_num, HT.out.up, HSB.out.drop⟩
        | some p =>
          obtain ⟨j, k⟩ := p
          have hjp : jjP J (some (j, k)) = .pointer (some ⟨J, 0, none⟩) := rfl
          have hkp : jjP K (some (j, k)) = .pointer (some ⟨K, 0, none⟩) := rfl
          obtain ⟨d3, j3, e3, r3, k3, ha, hb, hT3⟩ := HT.out.append HK3.out HO1.out
          have HSX : Hid (Sep w W1 (boxR bx #[.int .i64 0, .string ⟨os.toArray⟩, .int .i64 on, .slice oA okp.length oc] :: diskR B d :: refR C r :: jourR B J j :: jrefR C K k :: [])) := HSB
          have HAP := Lib.hid (Append_sep HSX.out.r4.sw.r3.r3 HE.out (HT.out.jbytes (by have := HK3.out; omega)).1 (HT.out.jbytes (by have := HK3.out; omega)).2 os (by have := HO1.out; omega) _ ha)
          have HKB := Lib.hid (HT.out.kbytes (by have := HK3.out; omega))
          have HB3 := Lib.hid hb
          have HT3 := Lib.hid hT3
          clear ha hb hT3
          go_wp2_with (fail)
          ((with_reducible refine (HAP.out).mono ?_); rintro _ w6 ⟨rfl, h6⟩)
          have H6 : Hid (Sep w w6 (jourR B J j3 :: diskR B d3 :: boxR bx #[.int .i64 0, .string ⟨os.toArray⟩, .int .i64 on, .slice oA okp.length oc] :: refR C r :: jrefR C K k :: [])) := Lib.hid h6
          clear h6 zB kB fB
          obtain ⟨zB, kB, fB⟩ := H6.out.r3.loc
          go_wp2_with (fail)
          ((with_reducible refine (AppendRJ_sep H6.out.r4.r5 HKB.out os (by have := HO1.out; omega) _ HB3.out).mono ?_); rintro _ w7 ⟨rfl, h7⟩)
          have H7 : Hid (Sep w w7 (jrefR C K k3 :: refR C r3 :: jourR B J j3 :: diskR B d3 :: boxR bx #[.int .i64 0, .string ⟨os.toArray⟩, .int .i64 on, .slice oA okp.length oc] :: [])) := Lib.hid h7
          clear h7
          go_wp2_with (fail)
          go_meet
          case rel => exact ⟨d3, r3, some (j3, k3), J, K, e3, rfl, rfl, rfl, rfl, HT3.out, H7.out.r5.drop.l4.r3⟩
      by_cases h1 : kd = 1
      · as_aux_lemma =>
        subst h1
        cases po with
        | none =>
          have hjp : jjP J none = .pointer none := rfl
          have hkp : jjP K none = .pointer none := rfl
          go_wp2_with (fail)
          go_roundg (n - (q + 1))
          case measure => have := HLT.out; have := HGK.out; omega
          case rel => exact ⟨q + 1, d, r, none, J, K, x, by have := HLT.out; omega, rfl, rfl, rfl, rfl, by go_num, HT.out.up, HSB.out.drop⟩
        | some p =>
          obtain ⟨j, k⟩ := p
          have hjp : jjP J (some (j, k)) = .pointer (some ⟨J, 0, none⟩) := rfl
          have hkp : jjP K (some (j, k)) = .pointer (some ⟨K, 0, none⟩) := rfl
          obtain ⟨d3, j3, e3, r3, k3, ha, hb, hT3⟩ := HT.out.sync
          have HSX : Hid (Sep w W1 (boxR bx #[.int .i64 1, .string ⟨os.toArray⟩, .int .i64 on, .slice oA okp.length oc] :: diskR B d :: refR C r :: jourR B J j :: jrefR C K k :: [])) := HSB
          have HAP := Lib.hid (SyncJ_sep HSX.out.r4.sw.r3.r3 _ ha)
          have HB3 := Lib.hid hb
          have HT3 := Lib.hid hT3
          clear ha hb hT3
          go_wp2_with (fail)
          ((with_reducible refine (HAP.out).mono ?_); rintro _ w6 ⟨rfl, h6⟩)
          have H6 : Hid (Sep w w6 (jourR B J j3 :: diskR B d3 :: boxR bx #[.int .i64 1, .string ⟨os.toArray⟩, .int .i64 on, .slice oA okp.length oc] :: refR C r :: jrefR C K k :: [])) := Lib.hid h6
          clear h6 zB kB fB
          go_wp2_with (fail)
          ((with_reducible refine (SyncRJ_sep H6.out.r4.r5 _ HB3.out).mono ?_); rintro _ w7 ⟨rfl, h7⟩)
          have H7 : Hid (Sep w w7 (jrefR C K k3 :: refR C r3 :: jourR B J j3 :: diskR B d3 :: boxR bx #[.int .i64 1, .string ⟨os.toArray⟩, .int .i64 on, .slice oA okp.length oc] :: [])) := Lib.hid h7
          clear h7
          go_wp2_with (fail)
          go_meet
          case rel => exact ⟨d3, r3, some (j3, k3), J, K, e3, rfl, rfl, rfl, rfl, HT3.out.up, H7.out.r5.drop.l4.r3⟩
      by_cases h2 : kd = 2
      · as_aux_lemma =>
        subst h2
        go_wp2_with (fail)
        ((with_reducible refine (Lose_sep HSB.out.sw on HON.out _ rfl).mono ?_); rintro _ w6 ⟨rfl, h6⟩)
        have H6 := Lib.hid h6
        clear h6 zB kB fB
        obtain ⟨zB, kB, fB⟩ := H6.out.sw.loc
        go_wp2_with (fail)
        ((with_reducible refine (LoseR_sep H6.out.r3 on HON.out _ rfl).mono ?_); rintro _ w7 ⟨rfl, h7⟩)
        have H7 := Lib.hid h7.r3.drop.sw
        clear h7
        go_wp2_with (fail)
        go_meet
        case rel => exact ⟨_, _, po, J, K, x, rfl, rfl, rfl, rfl, (HT.out.lose on HON.out).up, H7.out⟩
      by_cases h3 : kd = 3
      · as_aux_lemma =>
        subst h3
        go_wp2_with (fail)
        ((with_reducible refine (Arm_sep HSB.out.sw on HON.out okp oA oc HO4.out (by have := HO2.out; omega) _ rfl).mono ?_); rintro _ w6 ⟨rfl, h6⟩)
        have H6 := Lib.hid h6
        clear h6 zB kB fB
        obtain ⟨zB, kB, fB⟩ := H6.out.sw.loc
        go_wp2_with (fail)
        ((with_reducible refine (ArmR_sep H6.out.r3 on HON.out okp oA oc HO4.out (by have := HO2.out; omega) _ rfl).mono ?_); rintro _ w7 ⟨rfl, h7⟩)
        have H7 := Lib.hid h7.r3.drop.sw
        clear h7
        go_wp2_with (fail)
        go_meet
        case rel => exact ⟨_, _, po, J, K, x, rfl, rfl, rfl, rfl, (HT.out.arm on HON.out okp (by have := HO2.out; omega)).up, H7.out⟩
      by_cases h4 : kd = 4
      · as_aux_lemma =>
        subst h4
        have HTN := Lib.hid ((HT.out.crash okp).start)
        have HSC : Hid (Sep w W1 (boxR bx #[.int .i64 4, .string ⟨os.toArray⟩, .int .i64 on, .slice oA okp.length oc] :: diskR B d :: refR C r :: [])) := Lib.hid HSB.out.noJJ3
        go_wp2_with (fail)
        ((with_reducible refine (Crash_sep HSC.out.sw okp oA oc HO4.out (by have := HO2.out; omega) _ rfl).mono ?_); rintro _ w6 ⟨rfl, h6⟩)
        have H6 := Lib.hid h6
        clear h6 zB kB fB
        obtain ⟨zB, kB, fB⟩ := H6.out.sw.loc
        go_wp2_with (fail)
        ((with_reducible refine (CrashR_sep H6.out.r3 okp oA oc HO4.out (by have := HO2.out; omega) _ rfl).mono ?_); rintro _ w7 ⟨rfl, h7⟩)
        have H7a := Lib.hid h7
        clear h7 zB kB fB
        go_wp2_with (fail)
        ((with_reducible refine (Start_sep H7a.out.sw _ rfl).mono ?_); rintro _ w8 ⟨rfl, h8⟩)
        have H8a := Lib.hid h8
        clear h8
        go_wp2_with (fail)
        ((with_reducible refine (StartR_sep H8a.out.sw _ rfl).mono ?_); rintro _ w9 ⟨rfl, h9⟩)
        have H7 : Hid (Sep w w9 (refR C (StartF (crashR r okp)) :: boxR bx #[.int .i64 4, .string ⟨os.toArray⟩, .int .i64 on, .slice oA okp.length oc] :: diskR B (StartF (crashF d okp)) :: [])) := Lib.hid h9.r3.sw
        clear h9
        rcases HTN.out.open_ HK3.out with ⟨d5, j5, r5, k5, ho5, hr5, hT5⟩ | ⟨d5, e5, r5, ho5, hr5, hT5⟩
        · have HO5 := Lib.hid ho5
          have HR5 := Lib.hid hr5
          have HT5 := Lib.hid hT5
          clear ho5 hr5 hT5
          go_wp2_with (fail)
          ((with_reducible refine (Open_sep H7.out.r3 HE.out 3 _ HO5.out).mono ?_); rintro e w8 ⟨J2, rfl, h1⟩)
          have H8 : Hid (Sep w w8 (jourR B J2 j5 :: diskR B d5 :: refR C (StartF (crashR r okp)) :: boxR bx #[.int .i64 4, .string ⟨os.toArray⟩, .int .i64 on, .slice oA okp.length oc] :: [])) := Lib.hid h1
          clear h1
          go_wp2_with (fail)
          ((with_reducible refine (OpenRJ_sep H8.out.r3 3 _ HR5.out).mono ?_); rintro e w9 ⟨K2, rfl, h1⟩)
          have H9 : Hid (Sep w w9 (jrefR C K2 k5 :: refR C r5 :: jourR B J2 j5 :: diskR B d5 :: boxR bx #[.int .i64 4, .string ⟨os.toArray⟩, .int .i64 on, .slice oA okp.length oc] :: [])) := Lib.hid h1
          clear h1
          go_wp2_with (fail)
          go_meet
          case rel => exact ⟨d5, r5, some (j5, k5), J2, K2, 0, rfl, rfl, rfl, rfl, HT5.out.up, H9.out.r5.drop.l4.r3⟩
        · have HO5 := Lib.hid ho5
          have HR5 := Lib.hid hr5
          have HT5 := Lib.hid hT5
          clear ho5 hr5 hT5
          go_wp2_with (fail)
          ((with_reducible refine (Open_sep H7.out.r3 HE.out 3 _ HO5.out).mono ?_); rintro e w8 ⟨rfl, h1⟩)
          have H8 : Hid (Sep w w8 (diskR B d5 :: refR C (StartF (crashR r okp)) :: boxR bx #[.int .i64 4, .string ⟨os.toArray⟩, .int .i64 on, .slice oA okp.length oc] :: [])) := Lib.hid h1
          clear h1
          go_wp2_with (fail)
          ((with_reducible refine (OpenRJ_sep H8.out.sw 3 _ HR5.out).mono ?_); rintro e w9 ⟨rfl, h1⟩)
          have H9 : Hid (Sep w w9 (refR C r5 :: diskR B d5 :: boxR bx #[.int .i64 4, .string ⟨os.toArray⟩, .int .i64 on, .slice oA okp.length oc] :: [])) := Lib.hid h1
          clear h1
          go_wp2_with (fail)
          go_meet
          case rel => exact ⟨d5, r5, none, J, K, e5, rfl, rfl, rfl, rfl, HT5.out.up, H9.out.r3.drop.sw⟩
      by_cases h5 : kd = 5
      · as_aux_lemma =>
        subst h5
        have HTN := Lib.hid (HT.out.start)
        have HSC : Hid (Sep w W1 (boxR bx #[.int .i64 5, .string ⟨os.toArray⟩, .int .i64 on, .slice oA okp.length oc] :: diskR B d :: refR C r :: [])) := Lib.hid HSB.out.noJJ3
        go_wp2_with (fail)
        ((with_reducible refine (Start_sep HSC.out.sw _ rfl).mono ?_); rintro _ w8 ⟨rfl, h8⟩)
        have H8a := Lib.hid h8
        clear h8 zB kB fB
        go_wp2_with (fail)
        ((with_reducible refine (StartR_sep H8a.out.r3 _ rfl).mono ?_); rintro _ w9 ⟨rfl, h9⟩)
        have H7 : Hid (Sep w w9 (refR C (StartF r) :: boxR bx #[.int .i64 5, .string ⟨os.toArray⟩, .int .i64 on, .slice oA okp.length oc] :: diskR B (StartF d) :: [])) := Lib.hid h9.r3.sw
        clear h9
        rcases HTN.out.open_ HK3.out with ⟨d5, j5, r5, k5, ho5, hr5, hT5⟩ | ⟨d5, e5, r5, ho5, hr5, hT5⟩
        · have HO5 := Lib.hid ho5
          have HR5 := Lib.hid hr5
          have HT5 := Lib.hid hT5
          clear ho5 hr5 hT5
          go_wp2_with (fail)
          ((with_reducible refine (Open_sep H7.out.r3 HE.out 3 _ HO5.out).mono ?_); rintro e w8 ⟨J2, rfl, h1⟩)
          have H8 : Hid (Sep w w8 (jourR B J2 j5 :: diskR B d5 :: refR C (StartF r) :: boxR bx #[.int .i64 5, .string ⟨os.toArray⟩, .int .i64 on, .slice oA okp.length oc] :: [])) := Lib.hid h1
          clear h1
          go_wp2_with (fail)
          ((with_reducible refine (OpenRJ_sep H8.out.r3 3 _ HR5.out).mono ?_); rintro e w9 ⟨K2, rfl, h1⟩)
          have H9 : Hid (Sep w w9 (jrefR C K2 k5 :: refR C r5 :: jourR B J2 j5 :: diskR B d5 :: boxR bx #[.int .i64 5, .string ⟨os.toArray⟩, .int .i64 on, .slice oA okp.length oc] :: [])) := Lib.hid h1
          clear h1
          go_wp2_with (fail)
          go_meet
          case rel => exact ⟨d5, r5, some (j5, k5), J2, K2, 0, rfl, rfl, rfl, rfl, HT5.out.up, H9.out.r5.drop.l4.r3⟩
        · have HO5 := Lib.hid ho5
          have HR5 := Lib.hid hr5
          have HT5 := Lib.hid hT5
          clear ho5 hr5 hT5
          go_wp2_with (fail)
          ((with_reducible refine (Open_sep H7.out.r3 HE.out 3 _ HO5.out).mono ?_); rintro e w8 ⟨rfl, h1⟩)
          have H8 : Hid (Sep w w8 (diskR B d5 :: refR C (StartF r) :: boxR bx #[.int .i64 5, .string ⟨os.toArray⟩, .int .i64 on, .slice oA okp.length oc] :: [])) := Lib.hid h1
          clear h1
          go_wp2_with (fail)
          ((with_reducible refine (OpenRJ_sep H8.out.sw 3 _ HR5.out).mono ?_); rintro e w9 ⟨rfl, h1⟩)
          have H9 : Hid (Sep w w9 (refR C r5 :: diskR B d5 :: boxR bx #[.int .i64 5, .string ⟨os.toArray⟩, .int .i64 on, .slice oA okp.length oc] :: [])) := Lib.hid h1
          clear h1
          go_wp2_with (fail)
          go_meet
          case rel => exact ⟨d5, r5, none, J, K, e5, rfl, rfl, rfl, rfl, HT5.out.up, H9.out.r3.drop.sw⟩
      as_aux_lemma =>
      go_wp2_with (fail)
      go_meet
      case rel => exact ⟨d, r, po, J, K, x, rfl, rfl, rfl, rfl, HT.out.up, HSB.out.drop⟩
    case rest =>
    obtain ⟨d, r, po, J, K, x, rfl, rfl, rfl, rfl, hT, hS⟩ := hcut
    have HT := Lib.hid hT
    have HS := Lib.hid hS
    clear hT hS HSB HSM HSR zB kB fB
    cases po with
    | none =>
      have hjp : jjP J none = .pointer none := rfl
      have hkp : jjP K none = .pointer none := rfl
      go_wp2_with (fail)
      go_quiet (fail)
      go_wp2_with (fail)
      go_roundg (n - (q + 1))
      case measure => have := HLT.out; have := HGK.out; omega
      case rel => exact ⟨q + 1, d, r, none, J, K, x, by have := HLT.out; omega, rfl, rfl, rfl, rfl, by go_num, HT.out, HS.out.drewN nq⟩
    | some p =>
      obtain ⟨⟨jf, jr, jb, jk⟩, ⟨kf, kr, kb⟩⟩ := p
      obtain rfl : jr = kr := (HT.out.jou _ rfl).recs
      have hjp : jjP J (some ((⟨jf, jr, jb, jk⟩, ⟨kf, jr, kb⟩) : JV × JR)) = .pointer (some ⟨J, 0, none⟩) := rfl
      have hkp : jjP K (some ((⟨jf, jr, jb, jk⟩, ⟨kf, jr, kb⟩) : JV × JR)) = .pointer (some ⟨K, 0, none⟩) := rfl
      have HSX : Hid (Sep w _ (diskR B d :: refR C r :: jourR B J ⟨jf, jr, jb, jk⟩ :: jrefR C K ⟨kf, jr, kb⟩ :: [])) := HS
      obtain ⟨Ak, ck, hp⟩ := HSX.out.r4.jref_part
      have HP := Lib.hid hp.drew
      have HJB := Lib.hid (HT.out.jbytes (by have := HK3.out; omega)).2
      clear hp HS HSX
      go_wp2_with (fail)
      refine wpTill.startN 16 (S := fun W => W.cell? ⟨K, 2, none⟩ = some (.slice Ak jr.length ck)) (T := fun _ => True) (m := 99) rfl (by kernel_rfl) ?_
      rename World => wx
      generalize wx.drew = W2 at *
      have HS0 : Hid (W2.cell? ⟨K, 2, none⟩ = some (.slice Ak jr.length ck)) := Lib.hid (HP.out.loc.cell 2)
      have HAL := Lib.hid (All_sep HP.out.r5 HJB.out)
      refine wpTill.take (i := 0) (v := ?_) (by rfl) rfl (by kernel_rfl) (by kernel_rfl) (by kernel_rfl) (by exact fun _ _ _ h => h) HS0.out (fun _ => trivial) (Or.inl ⟨by rfl, ?_⟩) ?_
      rotate_left
      · (intro w' hSw; (try dsimp only at hSw); go_simp; (try with_reducible rfl))
      (try simp only [Act.put, List.setIfInBounds_toArray, List.set_cons_zero, List.set_cons_succ, List.getElem_toArray, List.getElem_cons_zero, List.getElem_cons_succ])
      refine wpTill.take (i := 1) (v := ?_) (by rfl) rfl (by kernel_rfl) (by kernel_rfl) (by kernel_rfl) (by exact fun _ _ _ h => h) HS0.out (fun _ => trivial) (Or.inl ⟨by rfl, ?_⟩) ?_
      rotate_left
      · (intro w' hSw; (try dsimp only at hSw); go_simp; (try with_reducible rfl))
      (try simp only [Act.put, List.setIfInBounds_toArray, List.set_cons_zero, List.set_cons_succ, List.getElem_toArray, List.getElem_cons_zero, List.getElem_cons_succ])
      refine wpTill.take (i := 2) (v := ?_) (by rfl) rfl (by kernel_rfl) (by kernel_rfl) (by kernel_rfl) (by exact fun _ _ _ h => h) HS0.out (fun _ => trivial) (Or.inl ⟨by rfl, ?_⟩) ?_
      rotate_left
      · (intro w' hSw; (try dsimp only at hSw); go_simp; (try with_reducible rfl))
      (try simp only [Act.put, List.setIfInBounds_toArray, List.set_cons_zero, List.set_cons_succ, List.getElem_toArray, List.getElem_cons_zero, List.getElem_cons_succ])
      refine wpTill.take (i := 3) (v := ?_) (by rfl) rfl (by kernel_rfl) (by kernel_rfl) (by kernel_rfl) (by exact fun _ _ _ h => h) HS0.out (fun _ => trivial) (Or.inl ⟨by rfl, ?_⟩) ?_
      rotate_left
      · (intro w' hSw; (try dsimp only at hSw); go_simp; (try with_reducible rfl))
      (try simp only [Act.put, List.setIfInBounds_toArray, List.set_cons_zero, List.set_cons_succ, List.getElem_toArray, List.getElem_cons_zero, List.getElem_cons_succ])
      refine wpTill.take (i := 4) (v := ?_) (by rfl) rfl (by kernel_rfl) (by kernel_rfl) (by kernel_rfl) (by exact fun _ _ _ h => h) HS0.out (fun _ => trivial) (Or.inl ⟨by rfl, ?_⟩) ?_
      rotate_left
      · (intro w' hSw; (try dsimp only at hSw); go_simp; (try with_reducible rfl))
      (try simp only [Act.put, List.setIfInBounds_toArray, List.set_cons_zero, List.set_cons_succ, List.getElem_toArray, List.getElem_cons_zero, List.getElem_cons_succ])
      refine wpTill.take (i := 5) (v := ?_) (by rfl) rfl (by kernel_rfl) (by kernel_rfl) (by kernel_rfl) (by exact fun _ _ _ h => h) HS0.out (fun _ => trivial) (Or.inl ⟨by rfl, ?_⟩) ?_
      rotate_left
      · (intro w' hSw; (try dsimp only at hSw); go_simp; (try with_reducible rfl))
      (try simp only [Act.put, List.setIfInBounds_toArray, List.set_cons_zero, List.set_cons_succ, List.getElem_toArray, List.getElem_cons_zero, List.getElem_cons_succ])
      refine wpTill.take (i := 6) (v := ?_) (by rfl) rfl (by kernel_rfl) (by kernel_rfl) (by kernel_rfl) (by exact fun _ _ _ h => h) HS0.out (fun _ => trivial) (Or.inl ⟨by rfl, ?_⟩) ?_
      rotate_left
      · (intro w' hSw; (try dsimp only at hSw); go_simp; (try with_reducible rfl))
      (try simp only [Act.put, List.setIfInBounds_toArray, List.set_cons_zero, List.set_cons_succ, List.getElem_toArray, List.getElem_cons_zero, List.getElem_cons_succ])
      refine wpTill.take (i := 7) (v := ?_) (by rfl) rfl (by kernel_rfl) (by kernel_rfl) (by kernel_rfl) (by exact fun _ _ _ h => h) HS0.out (fun _ => trivial) (Or.inl ⟨by rfl, ?_⟩) ?_
      rotate_left
      · (intro w' hSw; (try dsimp only at hSw); go_simp; (try with_reducible rfl))
      (try simp only [Act.put, List.setIfInBounds_toArray, List.set_cons_zero, List.set_cons_succ, List.getElem_toArray, List.getElem_cons_zero, List.getElem_cons_succ])
      refine wpTill.take (i := 9) (v := ?_) (by rfl) rfl (by kernel_rfl) (by kernel_rfl) (by kernel_rfl) (by exact fun _ _ _ h => h) HS0.out (fun _ => trivial) (Or.inl ⟨by rfl, ?_⟩) ?_
      rotate_left
      · (intro w' hSw; (try dsimp only at hSw); go_simp; (try with_reducible rfl))
      (try simp only [Act.put, List.setIfInBounds_toArray, List.set_cons_zero, List.set_cons_succ, List.getElem_toArray, List.getElem_cons_zero, List.getElem_cons_succ])
      refine wpTill.take (i := 10) (v := ?_) (by rfl) rfl (by kernel_rfl) (by kernel_rfl) (by kernel_rfl) (by exact fun _ _ _ h => h) HS0.out (fun _ => trivial) (Or.inl ⟨by rfl, ?_⟩) ?_
      rotate_left
      · (intro w' hSw; (try dsimp only at hSw); go_simp; (try with_reducible rfl))
      (try simp only [Act.put, List.setIfInBounds_toArray, List.set_cons_zero, List.set_cons_succ, List.getElem_toArray, List.getElem_cons_zero, List.getElem_cons_succ])
      refine wpTill.take (i := 11) (v := ?_) (by rfl) rfl (by kernel_rfl) (by kernel_rfl) (by kernel_rfl) (by exact fun _ _ _ h => h) HS0.out (fun _ => trivial) (Or.inl ⟨by rfl, ?_⟩) ?_
      rotate_left
      · (intro w' hSw; (try dsimp only at hSw); go_simp; (try with_reducible rfl))
      (try simp only [Act.put, List.setIfInBounds_toArray, List.set_cons_zero, List.set_cons_succ, List.getElem_toArray, List.getElem_cons_zero, List.getElem_cons_succ])
      refine wpTill.take (i := 12) (v := ?_) (by rfl) rfl (by kernel_rfl) (by kernel_rfl) (by kernel_rfl) (by exact fun _ _ _ h => h) HS0.out (fun _ => trivial) (Or.inl ⟨by rfl, ?_⟩) ?_
      rotate_left
      · (intro w' hSw; (try dsimp only at hSw); go_simp; (try with_reducible rfl))
      (try simp only [Act.put, List.setIfInBounds_toArray, List.set_cons_zero, List.set_cons_succ, List.getElem_toArray, List.getElem_cons_zero, List.getElem_cons_succ])
      refine wpTill.step (i := 8) (by kernel_rfl) (by rfl) (fun K' hK => ?_)
      replace hK := Lib.hid hK
      go_simp
      go_at_call 25
      ((with_reducible refine (HAL.out).mono ?_); rintro _ w6 ⟨A3, c3, rfl, h6⟩)
      have H6 : Hid (Sep w w6 (ownR 9 1 (.slice A3 jr.length c3) jr.length (jr.map strC) :: jourR B J ⟨jf, jr, jb, jk⟩ :: boxR K (jrefX C ⟨kf, jr, kb⟩ Ak ck) :: ownR 9 1 (.slice Ak jr.length ck) jr.length (jr.map strC) :: diskR B d :: refR C r :: [])) := Lib.hid h6
      have HS1 : Hid (w6.cell? ⟨K, 2, none⟩ = some (.slice Ak jr.length ck)) := Lib.hid (H6.out.r3.loc.cell 2)
      have HST := Lib.hid (SameTexts_any w6 A3 Ak jr.length jr.length c3 ck jr jr (Own.sl' h6.own) (Own.sl' h6.r4.own) HJB.out true (by simp))
      clear h6
      refine hK.out _ _ HS1.out (fun _ => trivial) ?_
      clear hK K'
      (try simp only [Act.put, List.setIfInBounds_toArray, List.set_cons_zero, List.set_cons_succ, List.getElem_toArray, List.getElem_cons_zero, List.getElem_cons_succ])
      refine wpTill.step (i := 13) (by kernel_rfl) (by rfl) (fun K' hK => ?_)
      replace hK := Lib.hid hK
      go_simp
      go_at_call 24
      ((with_reducible refine (HST.out).mono ?_); rintro _ w7 ⟨rfl, hb7⟩)
      have H7 := Lib.hid (H6.out.below hb7)
      have HS2 : Hid (w7.cell? ⟨K, 2, none⟩ = some (.slice Ak jr.length ck)) := Lib.hid (H7.out.r3.loc.cell 2)
      clear hb7
      refine hK.out _ _ HS2.out (fun _ => trivial) ?_
      clear hK K'
      (try simp only [Act.put, List.setIfInBounds_toArray, List.set_cons_zero, List.set_cons_succ, List.getElem_toArray, List.getElem_cons_zero, List.getElem_cons_succ])
      refine wpTill.take (i := 14) (v := ?_) (by rfl) rfl (by kernel_rfl) (by kernel_rfl) (by kernel_rfl) (by exact fun _ _ _ h => h) HS2.out (fun _ => trivial) (Or.inl ⟨by rfl, ?_⟩) ?_
      rotate_left
      · (intro w' hSw; (try dsimp only at hSw); go_simp; (try with_reducible rfl))
      (try simp only [Act.put, List.setIfInBounds_toArray, List.set_cons_zero, List.set_cons_succ, List.getElem_toArray, List.getElem_cons_zero, List.getElem_cons_succ])
      refine wpTill.take (i := 15) (v := ?_) (by rfl) rfl (by kernel_rfl) (by kernel_rfl) (by kernel_rfl) (by exact fun _ _ _ h => h) HS2.out (fun _ => trivial) (Or.inl ⟨by rfl, ?_⟩) ?_
      rotate_left
      · (intro w' hSw; (try dsimp only at hSw); go_simp; (try with_reducible rfl))
      (try simp only [Act.put, List.setIfInBounds_toArray, List.set_cons_zero, List.set_cons_succ, List.getElem_toArray, List.getElem_cons_zero, List.getElem_cons_succ])
      refine wpTill.stop (by kernel_rfl) ?_ _
      go_wp2_with (fail)
      go_roundg (n - (q + 1))
      case measure => have := HLT.out; have := HGK.out; omega
      case rel =>
        have h8 : Sep w w7 (jrefR C K ⟨kf, jr, kb⟩ :: jourR B J ⟨jf, jr, jb, jk⟩ :: diskR B d :: refR C r :: []) := Sep.jref_join (A := Ak) (c := ck) (n := jr.length) (xs := jr.map strC) H7.out.drop.r3.r3 rfl rfl rfl
        exact ⟨q + 1, d, r, some (⟨jf, jr, jb, jk⟩, ⟨kf, jr, kb⟩), J, K, x, by have := HLT.out; omega, rfl, rfl, rfl, rfl, by go_num, HT.out, h8.sw.r4.r4⟩
end Go.Proofs.YtniiahmpdkgplaaGreatDoor
