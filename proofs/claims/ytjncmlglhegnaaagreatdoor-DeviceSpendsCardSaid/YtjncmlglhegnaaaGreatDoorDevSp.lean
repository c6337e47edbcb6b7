/- kerbsidelaw49: what the center takes in of a device's reports, in plain Lean. -/
/- kerbsidelaw49: DeviceSpends, walked. -/
import Derived.Test.YtjncmlglhegnaaaGreatDoorDevWC
import Derived.Test.YtjncmlglhegnaaaGreatDoorLendD
import Derived.Deep.DeepCutAuto
namespace Go.Proofs.YtjncmlglhegnaaaGreatDoor
open Go.RowKit Go.Sort Go.Lib

theorem stepL_same {t : List UInt8} {l : LoanV} (hb : l.back = true) (h : (stepL t l).2 = true) : (stepL t l).1 = l := by
  by_cases h1 : resB t = false
  · rw [stepL_free h1]
  · by_cases h2 : t = backT
    · unfold stepL at h
      rw [if_neg h1, if_pos h2] at h
      exact absurd (returnF_yes (of_decide_eq_true h)).2.1 (by rw [hb]; simp)
    · by_cases h3 : t.take 2 = [33, 115]
      · by_cases h4 : doneB (natF ⟨t.drop 2, false⟩).2 = true
        · unfold stepL at h
          rw [if_neg h1, if_neg h2, if_pos h3, if_pos h4] at h
          have h5 := of_decide_eq_true h
          exfalso
          unfold spendF at h5
          by_cases hc : (l.right && fineB (natF ⟨t.drop 2, false⟩).1) = false
          · rw [if_pos hc] at h5; simp at h5
          · rw [if_neg hc, if_pos hb] at h5; simp at h5
        · unfold stepL at h
          rw [if_neg h1, if_neg h2, if_pos h3, if_neg h4] at h
          cases h
      · unfold stepL at h
        rw [if_neg h1, if_neg h2, if_neg h3] at h
        cases h
theorem replayGo_same : ∀ {ts : List (List UInt8)} {l : LoanV}, l.back = true → (replayGo ts l).2 = true → (replayGo ts l).1 = l
  | [], _, _, _ => rfl
  | t :: ts, l, hb, h => by
    by_cases hs : (stepL t l).2 = true
    · have e2 : replayGo (t :: ts) l = replayGo ts (stepL t l).1 := by simp only [replayGo]; rw [if_pos hs]
      rw [e2] at h ⊢
      rw [stepL_same hb hs] at h ⊢
      exact replayGo_same hb h
    · have e2 : replayGo (t :: ts) l = (noLoan, false) := by simp only [replayGo]; rw [if_neg hs]
      rw [e2] at h; cases h
/-- the same loan, later; what is given back is spent no more -/
structure Past (a b : LoanV) : Prop where
  later : Later a b
  fix : a.back = true → b.spent = a.spent
theorem Past.refl {a : LoanV} (h : a.right = true) : Past a a := ⟨Later.refl h, fun _ => rfl⟩
/-- a report of a device -/
def RepOf (u : Int) (h : List EntV) (r : LoanV) : Prop := (replayF (textsOf h) ⟨3, u, 0, false⟩) = (r, true)
theorem rep_past {u : Int} {a b : List EntV} {r s : LoanV} (hp : a <+: b) (ha : RepOf u a r) (hb : RepOf u b s) : Past r s := by
  obtain ⟨t, rfl⟩ := hp
  obtain ⟨hr, e⟩ := replayF_right (ts := textsOf (a ++ t)) (l := ⟨3, u, 0, false⟩) (by rw [hb])
  have ea := replayF_of (ts := textsOf a) hr
  rw [ha] at ea
  rw [hb, textsOf_app, replayGo_app, ← ea, if_pos rfl] at e
  have h2 : (replayGo (textsOf t) r).2 = true := by rw [← e]
  have hrr : r.right = true := by
    have := (replayGo_yes hr (by rw [← ea] : (replayGo (textsOf a) ⟨3, u, 0, false⟩).2 = true)).right
    rwa [← ea] at this
  refine ⟨by have := replayGo_yes hrr h2; rwa [← e] at this, fun hbk => ?_⟩
  have := replayGo_same hbk h2
  rw [← e] at this
  exact congrArg LoanV.spent this
/-- the center's stock with one loan -/
abbrev stock1 (u : Int) (q : LoanV) : StockV := ⟨u, 0, [q]⟩
theorem free1 {u : Int} {q : LoanV} (hu1 : 1 ≤ u) (hu2 : u ≤ 1000000) (hq : q.right = true) (hqu : q.units = u) : StockV.free (stock1 u q) = (u - q.committed, true) := by
  have hm := right_mk hq
  have hc : 0 ≤ q.committed ∧ q.committed ≤ u := by unfold LoanV.committed; split <;> omega
  unfold StockV.free
  rw [if_pos (by unfold StockV.small; simp; omega)]
  simp only [leftOf]
  rw [if_pos hq]
  simp
  omega
theorem lend1 {u : Int} (hu1 : 1 ≤ u) (hu2 : u ≤ 1000000) : lendF ⟨u, 0, []⟩ 3 u = (stock1 u ⟨3, u, 0, false⟩, 0) := by
  have hf : StockV.free ⟨u, 0, []⟩ = (u, true) := by
    unfold StockV.free
    rw [if_pos (by unfold StockV.small; simp; omega)]
    simp only [leftOf]
    simp
    omega
  have hr : LoanV.right ⟨3, u, 0, false⟩ = true := mk_right ⟨by show (0 : Int) ≤ 3; decide, by show (3 : Int) < 8; decide, hu1, by show u ≤ _; omega, Int.le_refl _, by show (0 : Int) ≤ u; omega⟩
  unfold lendF
  rw [hf, hr, if_neg (by simp), if_neg (by simp)]
  rfl
theorem merge1 {u : Int} {q r m : LoanV} (hu1 : 1 ≤ u) (hu2 : u ≤ 1000000) (hq : q.right = true) (hr : r.right = true) (hqu : q.units = u) (hd : q.device = r.device) (hu : q.units = r.units) (hf : forkedB q r = false)
    (hm : m = ⟨q.device, q.units, max q.spent r.spent, q.back || r.back⟩) : mergeF (stock1 u q) 0 r = (stock1 u m, 0) := by
  unfold mergeF
  rw [free1 hu1 hu2 hq hqu, if_neg (by rw [hr]; simp), if_neg (by simp)]
  simp only [List.length_cons, List.length_nil, Int.toNat_zero, List.getElem?_cons_zero]
  rw [if_neg (by simp [hd, hu]), if_neg (by rw [hf]; simp), hm]
  rfl
/-- a later report is taken in -/
theorem merge_up {u : Int} {q r : LoanV} (hu1 : 1 ≤ u) (hu2 : u ≤ 1000000) (hqu : q.units = u) (hq : q.right = true) (h : Past q r) : mergeF (stock1 u q) 0 r = (stock1 u r, 0) := by
  refine merge1 hu1 hu2 hq h.later.right hqu h.later.dev.symm h.later.units.symm ?_ ?_
  · unfold forkedB
    have h1 := h.later.spent
    cases hb : q.back with
    | true => rw [h.fix hb]; simp
    | false => simp; omega
  · obtain ⟨rd, ru, rs, rb⟩ := r
    have h1 := h.later.spent
    have h2 := h.later.dev
    have h3 := h.later.units
    have h4 := h.later.back
    simp only at h1 h2 h3 h4
    subst h2 h3
    have hm : max q.spent rs = rs := by omega
    have hb : (q.back || rb) = rb := by
      cases hb : q.back with
      | true => rw [h4 hb]; rfl
      | false => rfl
    rw [hm, hb]
/-- an earlier one changes nothing -/
theorem merge_down {u : Int} {q r : LoanV} (hu1 : 1 ≤ u) (hu2 : u ≤ 1000000) (hqu : q.units = u) (hr : r.right = true) (h : Past r q) : mergeF (stock1 u q) 0 r = (stock1 u q, 0) := by
  refine merge1 hu1 hu2 h.later.right hr hqu h.later.dev h.later.units ?_ ?_
  · unfold forkedB
    have h1 := h.later.spent
    cases hb : r.back with
    | true => rw [h.fix hb]; simp
    | false => simp; omega
  · obtain ⟨qd, qu, qs, qb⟩ := q
    have h1 := h.later.spent
    have h4 := h.later.back
    simp only at h1 h4
    have hm : max qs r.spent = qs := by omega
    have hb : (qb || r.back) = qb := by
      cases hb : r.back with
      | true => rw [h4 hb]; rfl
      | false => simp
    rw [hm, hb]
/-- the reports so far: each later than those ahead of it; q is what the center knows -/
structure RepI (u : Int) (handed : List EntV) (rs : List LoanV) (q : LoanV) : Prop where
  all : ∀ r ∈ rs, ∃ h, h <+: handed ∧ RepOf u h r
  q_ : (rs = [] ∧ q = ⟨3, u, 0, false⟩) ∨ (∃ ps, rs = ps ++ [q] ∧ ∀ r ∈ ps, Past r q)
  ok : ∃ h, h <+: handed ∧ RepOf u h q
namespace RepI
variable {u : Int} {handed handed' : List EntV} {rs : List LoanV} {q : LoanV}
theorem more (h : RepI u handed rs q) (hp : handed <+: handed') : RepI u handed' rs q :=
  ⟨fun r hr => (h.all r hr).imp fun _ g => ⟨g.1.trans hp, g.2⟩, h.q_, h.ok.imp fun _ g => ⟨g.1.trans hp, g.2⟩⟩
theorem add (h : RepI u handed rs q) {r : LoanV} (hr : RepOf u handed r) : RepI u handed (rs ++ [r]) r ∧ Past q r := by
  obtain ⟨hq, h1, h2⟩ := h.ok
  refine ⟨⟨fun x hx => ?_, .inr ⟨rs, rfl, fun x hx => ?_⟩, ⟨handed, List.prefix_refl _, hr⟩⟩, rep_past h1 h2 hr⟩
  · rcases List.mem_append.1 hx with hx | hx
    · exact h.all x hx
    · rw [List.mem_singleton.1 hx]; exact ⟨handed, List.prefix_refl _, hr⟩
  · obtain ⟨g, g1, g2⟩ := h.all x hx
    exact rep_past g1 g2 hr
theorem right (h : RepI u handed rs q) : q.right = true ∧ q.units = u ∧ q.device = 3 := by
  obtain ⟨g, _, g2⟩ := h.ok
  have h1 := replayF_right (ts := textsOf g) (l := ⟨3, u, 0, false⟩) (by rw [g2])
  have h2 := replayGo_yes h1.1 (by rw [← h1.2, g2] : (replayGo (textsOf g) ⟨3, u, 0, false⟩).2 = true)
  rw [← h1.2, g2] at h2
  exact ⟨h2.right, h2.units, h2.dev⟩
theorem past (h : RepI u handed rs q) {r : LoanV} (hr : r ∈ rs) : Past r q := by
  rcases h.q_ with ⟨h1, _⟩ | ⟨ps, h1, h2⟩
  · rw [h1] at hr; cases hr
  · rw [h1] at hr
    rcases List.mem_append.1 hr with g | g
    · exact h2 r g
    · rw [List.mem_singleton.1 g]; exact Past.refl h.right.1
end RepI
end Go.Proofs.YtjncmlglhegnaaaGreatDoor
namespace Go.Proofs.YtjncmlglhegnaaaGreatDoor
open Go.RowKit Go.Sort Go.Lib

section
variable {w0 w : World} {Rs : List Res}
theorem Sep.toWor {a e d b c : Res} (h : Sep w0 w (a :: e :: d :: b :: c :: Rs)) : Sep w0 w (b :: c :: d :: e :: a :: Rs) := h.r5.r5.r5.r5.w2
theorem sees_H {i : WorI} {E : List EntC} (h : WorI.sees i E w) : ChAt w i.H.A i.H.es.length i.H.es := h.1.1
end
theorem loan_row {w : World} {A : Option Addr} {q : LoanV} (h : Sl w 4 A 1 [q.cells]) : ∃ b o, A = some ⟨b, o, none⟩ ∧ ∀ w', Sl w' 4 A 1 [q.cells] → b < w'.heap.size ∧ w'.cell? ⟨b, o, none⟩ = some (.int .i64 q.device) ∧ w'.cell? ⟨b, o + 1, none⟩ = some (.int .i64 q.units) ∧ w'.cell? ⟨b, o + 2, none⟩ = some (.int .i64 q.spent) ∧ w'.cell? ⟨b, o + 3, none⟩ = some (.bool q.back) := by
  obtain ⟨b, o, hA, _, _⟩ := h.2 0 q.cells rfl
  refine ⟨b, o, hA, fun w' h' => ?_⟩
  obtain ⟨b2, o2, hA2, hb2, hc⟩ := h'.2 0 q.cells rfl
  rw [hA] at hA2
  injection hA2 with hA2
  injection hA2 with h1 h2
  subst h1 h2
  simp only [Nat.zero_mul, Nat.add_zero] at hc
  exact ⟨hb2, hc 0 _ rfl, hc 1 _ rfl, hc 2 _ rfl, hc 3 _ rfl⟩
set_option maxRecDepth 100000 in
set_option maxHeartbeats 64000000 in
theorem deviceSpends_any (w : World) (hE : Env w.heap.size w) (A : Option Addr) (n c : Nat) (l : List ActE) (hs : Sl w 5 A n (l.map ActE.cells)) (hok : ∀ a ∈ l, a.ok) (hks : ActsAtE w l) (u : Int) :
    Calls Tryz.prog 5 #[.slice A n c, .int .i64 u] w fun e w' => e = .returned (.bool true) ∧ Below w.heap.size w w' := by
  have HE := Lib.hid hE
  have HSA := Lib.hid (sane_any w hE)
  have HS := Lib.hid hs
  have HOK := Lib.hid hok
  have HKS := Lib.hid hks
  have hll : l.length = n := by simpa using hs.1
  have HL := Lib.hid hll
  have HFI := Lib.hid (fun W (hb : Below w.heap.size w W) => fine_any49 W A n c l (hs.below hb) u)
  clear hE hs hok hks hll
  go_enter Tryz.func5, Tryz.ntmps5
  go_wp2_with (fail)
  ((with_reducible refine (HSA.out).mono ?_); rintro _ w1 ⟨rfl, hb1⟩)
  have HB := Lib.hid hb1
  clear hb1 HSA
  go_wp2_with (fail)
  ((with_reducible refine (HFI.out _ HB.out).mono ?_); rintro _ _ ⟨r, rfl, hr, rfl⟩)
  have HR := Lib.hid hr
  clear hr
  cases r
  · go_wp2_with (fail)
    go_ret
    exact ⟨rfl, HB.out⟩
  obtain ⟨hfew, hu1, hu2⟩ := HR.out (by simp)
  have HF := Lib.hid hfew
  have HU := Lib.hid (And.intro hu1 hu2)
  clear hfew hu1 hu2 HR HFI
  have HN : Hid (n ≤ 25) := Lib.hid (by have := HF.out.2; rw [HL.out] at this; exact this)
  have HBG := Lib.hid (begin_all (Sep.of_below HB.out) HE.out 3 u (by decide) (by decide) HU.out.1 HU.out.2)
  go_wp2_with (fail)
  ((with_reducible refine (HBG.out).mono ?_); rintro _ w2 ⟨W, v0, rfl, hI0, hn0, hu0, hh0, hs0, hx0, h2⟩)
  have HI0 := Lib.hid hI0
  have HV0 := Lib.hid (And.intro hn0 (And.intro hu0 hh0))
  have H2 := Lib.hid h2
  clear hI0 hn0 hu0 hh0 hs0 hx0 h2 HBG HB
  have HLN := Lib.hid (fun W' => Lend_any u 0 none 0 0 [] 3 u _ (lend1 HU.out.1 HU.out.2) W' (Sl.nil_ _ _ _))
  go_wp2_with (fail)
  ((with_reducible refine (HLN.out _).mono ?_); rintro _ w3 ⟨As, cs, rfl, hsl, hb3⟩)
  have hsl1 : SlF w2 w3 4 As 1 [LoanV.cells ⟨3, u, 0, false⟩] := hsl
  have HS3 := Lib.hid ((H2.out.slNew hb3 hsl1).box #[.int .i64 u, .int .i64 0, .slice As 1 cs] 69)
  clear hsl hsl1 hb3 H2 HLN
  simp only [List.length_cons, List.length_nil, Nat.zero_add]
  have HR30 : Hid (LoanV.right ⟨3, u, 0, false⟩ = true) := Lib.hid (mk_right ⟨by show (0 : Int) ≤ 3; decide, by show (3 : Int) < 8; decide, HU.out.1, by have := HU.out.2; show u ≤ _; omega, Int.le_refl _, by have := HU.out.1; show (0 : Int) ≤ u; omega⟩)
  have HRI0 : Hid (RepI u v0.handed [] ⟨3, u, 0, false⟩) := Lib.hid ⟨(fun r hr => by cases hr), .inl ⟨rfl, rfl⟩, [], List.nil_prefix, replayF_of (ts := textsOf []) (l := ⟨3, u, 0, false⟩) HR30.out⟩
  go_wp2_with (fail)
  generalize w3.alloc (.cells #[.int .i64 u, .int .i64 0, .slice As 1 cs] 69) = wB at *
  generalize hg7 : w3.heap.size = g7 at *
  clear hg7
  go_loopw [8, 9, 10] (fun ev rv iv wr => ∃ (k : Nat) (v : WorV) (rs : List LoanV) (q : LoanV) (A1 : Option Addr) (c1 : Nat) (A2 : Option Addr) (c2 : Nat), k ≤ n ∧ ev = .int .i64 0 ∧ rv = .slice A1 rs.length c1 ∧ iv = .int .i64 (k : Int) ∧ WI k v ∧ v.number = 3 ∧ v.units = u ∧ rs.length ≤ k ∧ RepI u v.handed rs q ∧ Sep w wr (worR W v :: boxR g7 #[.int .i64 u, .int .i64 0, .slice A2 1 c2] :: slR 4 A2 1 [q.cells] :: ownR 24 4 (.slice A1 rs.length c1) rs.length (rs.map LoanV.cells) :: [])) (fun _ _ iv _ => n - (Go.RowKit.intOf iv).toNat)
  case atStart => exact ⟨0, v0, [], ⟨3, u, 0, false⟩, none, 0, As, cs, Nat.zero_le _, rfl, rfl, rfl, HI0.out, HV0.out.1, HV0.out.2.1, Nat.le_refl _, HRI0.out, (HS3.out.r3.ownNil 24 4).l4⟩
  case round =>
    obtain ⟨k, v, rs, q, A1, c1, A2, c2, hk, rfl, rfl, rfl, hI, hvn, hvu, hrl, hri, hq⟩ := hrel
    obtain ⟨wo, rfl⟩ : ∃ wo : World, wo = wr := ⟨_, rfl⟩
    have HI := Lib.hid hI
    have HVN := Lib.hid (And.intro hvn hvu)
    have HRL := Lib.hid hrl
    have HRI := Lib.hid hri
    have HQ := Lib.hid hq
    clear hI hvn hvu hrl hri hq HS3 HI0 HV0 HRI0
    obtain ⟨⟨B0, X0, L1, L2, L3, L4⟩, hv0, hq0⟩ := HQ.out.worPart
    have HQW := Lib.hid hq0
    simp only [worLs, List.cons_append] at HQW
    clear hv0 hq0
    obtain ⟨zW, kW, fW⟩ := HQW.out.loc
    by_cases hlt : k < n
    · obtain ⟨a, ha⟩ : ∃ v, l[k]? = some v := ⟨_, List.getElem?_eq_getElem (by rw [HL.out]; exact hlt)⟩
      have HA := Lib.hid ha
      have HMA := Lib.hid (List.mem_of_getElem? ha)
      obtain ⟨ba, oa, rfl, hbl, d0, d1, d2, d3, d4⟩ := act_at (HS.out.below HQ.out.base) ha
      have hki : (k : Int) < (n : Int) := by omega
      have hk0 : (0 : Int) ≤ (k : Int) := by omega
      have HWK : Hid (IntKind.i64.wrap ((k : Int) + 1) = (k : Int) + 1) := Lib.hid (IntWalk.i64_in _ (by have := HN.out; omega))
      have HLT := Lib.hid hlt
      have HDO := Lib.hid (do_all HQ.out HE.out HI.out (by have := HN.out; omega) a (HOK.out a HMA.out) (HF.out.1 a HMA.out) (HKS.out a HMA.out))
      simp only [actX] at HDO
      clear ha hlt hk
      go_wp2_with (fail)
      clear zW kW fW d0 d1 d2 d3 d4 hbl
      ((with_reducible refine (HDO.out).mono ?_); rintro _ w3 ⟨v', rfl, hI', hdr, hq'⟩)
      have hn3 : v'.number = 3 := hdr.num.trans HVN.out.1
      have hu3 : v'.units = u := hdr.units.trans HVN.out.2
      have HRI2 := Lib.hid (HRI.out.more hdr.hand)
      have HI' := Lib.hid hI'
      obtain ⟨d, xo, number, units, handed, durable, last, torn, spent, ex⟩ := v'
      simp only at hn3 hu3
      subst hn3 hu3
      have HQ' := Lib.hid hq'
      clear hI' hdr hq' HDO HQ HQW HRI HVN
      simp only at HRI2
      obtain ⟨ba2, oa2, hA2, hbl, d0, d1, d2, d3, d4⟩ := act_at (HS.out.below HQ'.out.base) HA.out
      simp only [Option.some.injEq, Addr.mk.injEq, and_true] at hA2
      obtain ⟨rfl, rfl⟩ := hA2
      clear d1 d2 d3 d4
      obtain ⟨⟨B1, X1, M1, M2, M3, M4⟩, hv1, hq1⟩ := HQ'.out.worPart
      have HV1 := Lib.hid hv1
      have HQ1 := Lib.hid hq1
      simp only [worLs, List.cons_append] at HQ1
      clear hv1 hq1
      obtain ⟨zW, kW, fW⟩ := HQ1.out.loc
      have hwk := HWK.out
      cases xo with
      | none =>
        simp only [devP] at kW
        go_wp2_with (fail)
        go_roundw
        case rel => exact ⟨k + 1, _, rs, q, A1, c1, A2, c2, HLT.out, rfl, rfl, by go_num, HI'.out, rfl, rfl, by have := HRL.out; omega, HRI2.out, HQ'.out⟩
        case measure => have := HLT.out; simp [Go.RowKit.intOf]; omega
      | some x =>
        simp only [devP, devO, List.cons_append, List.nil_append] at kW HQ1
        have HLO := Lib.hid (Loan_sep HQ1.out.w1)
        go_wp2_with (fail)
        clear zW kW fW
        ((with_reducible refine (HLO.out).mono ?_); rintro _ w4 ⟨rfl, h4⟩)
        have HS4 := Lib.hid (h4.box (loanX x.loan) 24)
        clear h4 HLO HQ1 HQ'
        simp only [loanX] at HS4
        have hC := HI'.out.core
        have hD := HI'.out.dev x rfl
        simp only at hC hD
        have hre := rep_pre (List.prefix_append last torn) hC.rep
        have hdu := (rep_pre hC.dur hre.1).2
        have hrr := replayF_right hre.1
        have hlt3 := replayGo_yes hC.loanRight (by rw [← hrr.2]; exact hre.1 : (replayGo (textsOf last) ⟨3, units, 0, false⟩).2 = true)
        rw [← hrr.2, ← hD.loan] at hlt3
        rw [← hD.loan] at hdu
        have f1 : ¬ (x.loan.spent < spent) := by have := hC.sp; have := hdu.spent; omega
        have f2 : ¬ (units < x.loan.spent) := by have h1 := hlt3.most; have h2 := hlt3.units; simp only at h2; omega
        have f3 : x.loan.units = units := hlt3.units
        have f4 : x.loan.device = 3 := hlt3.dev
        have HHH := Lib.hid (hC.hand.trans hC.dur)
        have HREP := Lib.hid hre.1
        have F1 := Lib.hid f1
        have F2 := Lib.hid f2
        have F3 := Lib.hid f3
        have F4 := Lib.hid f4
        clear hC hD hre hdu hrr hlt3 f1 f2 f3 f4
        obtain ⟨zT, kT, fT⟩ := HS4.out.loc
        obtain ⟨zW, kW, fW⟩ := HS4.out.r4.loc
        go_upto_region 13 with (fail)
        generalize w4.alloc (.cells #[.int .i64 x.loan.device, .int .i64 x.loan.units, .int .i64 x.loan.spent, .bool x.loan.back] 24) = wT at *
        generalize w4.heap.size = gT at *
        go_cut [84] (fun s84 wy => s84 = .bool false ∧ wy = wT.drew)
        case first =>
          have g1 : decide (x.loan.spent < spent) = false := decide_eq_false (Int.not_lt.2 (by have := F1.out; omega))
          have g2 : decide (units < x.loan.spent) = false := decide_eq_false (Int.not_lt.2 (by have := F2.out; omega))
          have g3 : (x.loan.units != units) = false := by rw [F3.out]; simp
          have g4 : (x.loan.device != 3) = false := by rw [F4.out]; rfl
          have HQ := Lib.hid HS4.out.drew
          refine wpTill.startN 24 (S := fun w' => w'.cell? ⟨gT, 0, none⟩ = some (.int .i64 x.loan.device) ∧ w'.cell? ⟨gT, 1, none⟩ = some (.int .i64 x.loan.units) ∧ w'.cell? ⟨gT, 2, none⟩ = some (.int .i64 x.loan.spent) ∧ w'.cell? ⟨W, 8, none⟩ = some (.int .i64 spent)) (T := fun _ => True) (m := 300) rfl (by kernel_rfl) ?_
          refine wpTill.take (i := 0) (v := ?_) (by rfl) rfl (by kernel_rfl) (by kernel_rfl) (by kernel_rfl) (by exact fun _ _ _ h => h) ⟨HQ.out.loc.cell 0, HQ.out.loc.cell 1, HQ.out.loc.cell 2, HQ.out.r4.loc.cell 8⟩ (fun _ => trivial) (Or.inl ⟨by rfl, ?_⟩) ?_
          rotate_left
          · (intro w' hSw; (try dsimp only at hSw); go_simp; (try with_reducible rfl))
          (try simp only [Act.put, List.setIfInBounds_toArray, List.set_cons_zero, List.set_cons_succ, List.getElem_toArray, List.getElem_cons_zero, List.getElem_cons_succ])
          refine wpTill.take (i := 1) (v := ?_) (by rfl) rfl (by kernel_rfl) (by kernel_rfl) (by kernel_rfl) (by exact fun _ _ _ h => h) ⟨HQ.out.loc.cell 0, HQ.out.loc.cell 1, HQ.out.loc.cell 2, HQ.out.r4.loc.cell 8⟩ (fun _ => trivial) (Or.inl ⟨by rfl, ?_⟩) ?_
          rotate_left
          · (intro w' hSw; (try dsimp only at hSw); go_simp; (try with_reducible rfl))
          (try simp only [Act.put, List.setIfInBounds_toArray, List.set_cons_zero, List.set_cons_succ, List.getElem_toArray, List.getElem_cons_zero, List.getElem_cons_succ])
          refine wpTill.take (i := 2) (v := ?_) (by rfl) rfl (by kernel_rfl) (by kernel_rfl) (by kernel_rfl) (by exact fun _ _ _ h => h) ⟨HQ.out.loc.cell 0, HQ.out.loc.cell 1, HQ.out.loc.cell 2, HQ.out.r4.loc.cell 8⟩ (fun _ => trivial) (Or.inl ⟨by rfl, ?_⟩) ?_
          rotate_left
          · (intro w' hSw; (try dsimp only at hSw); go_simp; (try with_reducible rfl))
          (try simp only [Act.put, List.setIfInBounds_toArray, List.set_cons_zero, List.set_cons_succ, List.getElem_toArray, List.getElem_cons_zero, List.getElem_cons_succ])
          refine wpTill.take (i := 3) (v := ?_) (by rfl) rfl (by kernel_rfl) (by kernel_rfl) (by kernel_rfl) (by exact fun _ _ _ h => h) ⟨HQ.out.loc.cell 0, HQ.out.loc.cell 1, HQ.out.loc.cell 2, HQ.out.r4.loc.cell 8⟩ (fun _ => trivial) (Or.inl ⟨by rfl, ?_⟩) ?_
          rotate_left
          · (intro w' hSw; (try dsimp only at hSw); go_simp; (try with_reducible rfl))
          (try simp only [Act.put, List.setIfInBounds_toArray, List.set_cons_zero, List.set_cons_succ, List.getElem_toArray, List.getElem_cons_zero, List.getElem_cons_succ])
          refine wpTill.take (i := 4) (v := ?_) (by rfl) rfl (by kernel_rfl) (by kernel_rfl) (by kernel_rfl) (by exact fun _ _ _ h => h) ⟨HQ.out.loc.cell 0, HQ.out.loc.cell 1, HQ.out.loc.cell 2, HQ.out.r4.loc.cell 8⟩ (fun _ => trivial) (Or.inl ⟨by rfl, ?_⟩) ?_
          rotate_left
          · (intro w' hSw; (try dsimp only at hSw); go_simp; (try with_reducible rfl))
          (try simp only [Act.put, List.setIfInBounds_toArray, List.set_cons_zero, List.set_cons_succ, List.getElem_toArray, List.getElem_cons_zero, List.getElem_cons_succ])
          refine wpTill.take (i := 5) (v := ?_) (by rfl) rfl (by kernel_rfl) (by kernel_rfl) (by kernel_rfl) (by exact fun _ _ _ h => h) ⟨HQ.out.loc.cell 0, HQ.out.loc.cell 1, HQ.out.loc.cell 2, HQ.out.r4.loc.cell 8⟩ (fun _ => trivial) (Or.inl ⟨by rfl, ?_⟩) ?_
          rotate_left
          · (intro w' hSw; (try dsimp only at hSw); go_simp; (try with_reducible rfl))
          (try simp only [Act.put, List.setIfInBounds_toArray, List.set_cons_zero, List.set_cons_succ, List.getElem_toArray, List.getElem_cons_zero, List.getElem_cons_succ])
          refine wpTill.take (i := 6) (v := ?_) (by rfl) rfl (by kernel_rfl) (by kernel_rfl) (by kernel_rfl) (by exact fun _ _ _ h => h) ⟨HQ.out.loc.cell 0, HQ.out.loc.cell 1, HQ.out.loc.cell 2, HQ.out.r4.loc.cell 8⟩ (fun _ => trivial) (Or.inl ⟨by rfl, ?_⟩) ?_
          rotate_left
          · (intro w' hSw; (try dsimp only at hSw); go_simp; (try with_reducible rfl))
          (try simp only [Act.put, List.setIfInBounds_toArray, List.set_cons_zero, List.set_cons_succ, List.getElem_toArray, List.getElem_cons_zero, List.getElem_cons_succ])
          refine wpTill.take (i := 7) (v := ?_) (by rfl) rfl (by kernel_rfl) (by kernel_rfl) (by kernel_rfl) (by exact fun _ _ _ h => h) ⟨HQ.out.loc.cell 0, HQ.out.loc.cell 1, HQ.out.loc.cell 2, HQ.out.r4.loc.cell 8⟩ (fun _ => trivial) (Or.inl ⟨by rfl, ?_⟩) ?_
          rotate_left
          · (intro w' hSw; (try dsimp only at hSw); go_simp; (try with_reducible rfl))
          (try simp only [Act.put, List.setIfInBounds_toArray, List.set_cons_zero, List.set_cons_succ, List.getElem_toArray, List.getElem_cons_zero, List.getElem_cons_succ])
          refine wpTill.take (i := 8) (v := ?_) (by rfl) rfl (by kernel_rfl) (by kernel_rfl) (by kernel_rfl) (by exact fun _ _ _ h => h) ⟨HQ.out.loc.cell 0, HQ.out.loc.cell 1, HQ.out.loc.cell 2, HQ.out.r4.loc.cell 8⟩ (fun _ => trivial) (Or.inl ⟨by rfl, ?_⟩) ?_
          rotate_left
          · (intro w' hSw; (try dsimp only at hSw); go_simp; (try with_reducible rfl))
          (try simp only [Act.put, List.setIfInBounds_toArray, List.set_cons_zero, List.set_cons_succ, List.getElem_toArray, List.getElem_cons_zero, List.getElem_cons_succ])
          refine wpTill.take (i := 9) (v := ?_) (by rfl) rfl (by kernel_rfl) (by kernel_rfl) (by kernel_rfl) (by exact fun _ _ _ h => h) ⟨HQ.out.loc.cell 0, HQ.out.loc.cell 1, HQ.out.loc.cell 2, HQ.out.r4.loc.cell 8⟩ (fun _ => trivial) (Or.inl ⟨by rfl, ?_⟩) ?_
          rotate_left
          · (intro w' hSw; (try dsimp only at hSw); go_simp; (try with_reducible rfl))
          (try simp only [Act.put, List.setIfInBounds_toArray, List.set_cons_zero, List.set_cons_succ, List.getElem_toArray, List.getElem_cons_zero, List.getElem_cons_succ])
          refine wpTill.take (i := 10) (v := ?_) (by rfl) rfl (by kernel_rfl) (by kernel_rfl) (by kernel_rfl) (by exact fun _ _ _ h => h) ⟨HQ.out.loc.cell 0, HQ.out.loc.cell 1, HQ.out.loc.cell 2, HQ.out.r4.loc.cell 8⟩ (fun _ => trivial) (Or.inl ⟨by rfl, ?_⟩) ?_
          rotate_left
          · (intro w' hSw; (try dsimp only at hSw); go_simp; (try with_reducible rfl))
          (try simp only [Act.put, List.setIfInBounds_toArray, List.set_cons_zero, List.set_cons_succ, List.getElem_toArray, List.getElem_cons_zero, List.getElem_cons_succ])
          refine wpTill.take (i := 11) (v := ?_) (by rfl) rfl (by kernel_rfl) (by kernel_rfl) (by kernel_rfl) (by exact fun _ _ _ h => h) ⟨HQ.out.loc.cell 0, HQ.out.loc.cell 1, HQ.out.loc.cell 2, HQ.out.r4.loc.cell 8⟩ (fun _ => trivial) (Or.inl ⟨by rfl, ?_⟩) ?_
          rotate_left
          · (intro w' hSw; (try dsimp only at hSw); go_simp; (try with_reducible rfl))
          (try simp only [Act.put, List.setIfInBounds_toArray, List.set_cons_zero, List.set_cons_succ, List.getElem_toArray, List.getElem_cons_zero, List.getElem_cons_succ])
          refine wpTill.take (i := 12) (v := ?_) (by rfl) rfl (by kernel_rfl) (by kernel_rfl) (by kernel_rfl) (by exact fun _ _ _ h => h) ⟨HQ.out.loc.cell 0, HQ.out.loc.cell 1, HQ.out.loc.cell 2, HQ.out.r4.loc.cell 8⟩ (fun _ => trivial) (Or.inl ⟨by rfl, ?_⟩) ?_
          rotate_left
          · (intro w' hSw; (try dsimp only at hSw); go_simp; (try with_reducible rfl))
          (try simp only [Act.put, List.setIfInBounds_toArray, List.set_cons_zero, List.set_cons_succ, List.getElem_toArray, List.getElem_cons_zero, List.getElem_cons_succ])
          refine wpTill.take (i := 13) (v := ?_) (by rfl) rfl (by kernel_rfl) (by kernel_rfl) (by kernel_rfl) (by exact fun _ _ _ h => h) ⟨HQ.out.loc.cell 0, HQ.out.loc.cell 1, HQ.out.loc.cell 2, HQ.out.r4.loc.cell 8⟩ (fun _ => trivial) (Or.inl ⟨by rfl, ?_⟩) ?_
          rotate_left
          · (intro w' hSw; (try dsimp only at hSw); go_simp; (try with_reducible rfl))
          (try simp only [Act.put, List.setIfInBounds_toArray, List.set_cons_zero, List.set_cons_succ, List.getElem_toArray, List.getElem_cons_zero, List.getElem_cons_succ])
          refine wpTill.take (i := 14) (v := ?_) (by rfl) rfl (by kernel_rfl) (by kernel_rfl) (by kernel_rfl) (by exact fun _ _ _ h => h) ⟨HQ.out.loc.cell 0, HQ.out.loc.cell 1, HQ.out.loc.cell 2, HQ.out.r4.loc.cell 8⟩ (fun _ => trivial) (Or.inl ⟨by rfl, ?_⟩) ?_
          rotate_left
          · (intro w' hSw; (try dsimp only at hSw); go_simp; (try with_reducible rfl))
          (try simp only [Act.put, List.setIfInBounds_toArray, List.set_cons_zero, List.set_cons_succ, List.getElem_toArray, List.getElem_cons_zero, List.getElem_cons_succ])
          refine wpTill.take (i := 15) (v := ?_) (by rfl) rfl (by kernel_rfl) (by kernel_rfl) (by kernel_rfl) (by exact fun _ _ _ h => h) ⟨HQ.out.loc.cell 0, HQ.out.loc.cell 1, HQ.out.loc.cell 2, HQ.out.r4.loc.cell 8⟩ (fun _ => trivial) (Or.inl ⟨by rfl, ?_⟩) ?_
          rotate_left
          · (intro w' hSw; (try dsimp only at hSw); go_simp; (try with_reducible rfl))
          (try simp only [Act.put, List.setIfInBounds_toArray, List.set_cons_zero, List.set_cons_succ, List.getElem_toArray, List.getElem_cons_zero, List.getElem_cons_succ])
          refine wpTill.take (i := 16) (v := ?_) (by rfl) rfl (by kernel_rfl) (by kernel_rfl) (by kernel_rfl) (by exact fun _ _ _ h => h) ⟨HQ.out.loc.cell 0, HQ.out.loc.cell 1, HQ.out.loc.cell 2, HQ.out.r4.loc.cell 8⟩ (fun _ => trivial) (Or.inl ⟨by rfl, ?_⟩) ?_
          rotate_left
          · (intro w' hSw; (try dsimp only at hSw); go_simp; (try with_reducible rfl))
          (try simp only [Act.put, List.setIfInBounds_toArray, List.set_cons_zero, List.set_cons_succ, List.getElem_toArray, List.getElem_cons_zero, List.getElem_cons_succ])
          refine wpTill.take (i := 17) (v := ?_) (by rfl) rfl (by kernel_rfl) (by kernel_rfl) (by kernel_rfl) (by exact fun _ _ _ h => h) ⟨HQ.out.loc.cell 0, HQ.out.loc.cell 1, HQ.out.loc.cell 2, HQ.out.r4.loc.cell 8⟩ (fun _ => trivial) (Or.inl ⟨by rfl, ?_⟩) ?_
          rotate_left
          · (intro w' hSw; (try dsimp only at hSw); go_simp; (try with_reducible rfl))
          (try simp only [Act.put, List.setIfInBounds_toArray, List.set_cons_zero, List.set_cons_succ, List.getElem_toArray, List.getElem_cons_zero, List.getElem_cons_succ])
          refine wpTill.take (i := 18) (v := ?_) (by rfl) rfl (by kernel_rfl) (by kernel_rfl) (by kernel_rfl) (by exact fun _ _ _ h => h) ⟨HQ.out.loc.cell 0, HQ.out.loc.cell 1, HQ.out.loc.cell 2, HQ.out.r4.loc.cell 8⟩ (fun _ => trivial) (Or.inl ⟨by rfl, ?_⟩) ?_
          rotate_left
          · (intro w' hSw; (try dsimp only at hSw); go_simp; (try with_reducible rfl))
          (try simp only [Act.put, List.setIfInBounds_toArray, List.set_cons_zero, List.set_cons_succ, List.getElem_toArray, List.getElem_cons_zero, List.getElem_cons_succ])
          refine wpTill.take (i := 19) (v := ?_) (by rfl) rfl (by kernel_rfl) (by kernel_rfl) (by kernel_rfl) (by exact fun _ _ _ h => h) ⟨HQ.out.loc.cell 0, HQ.out.loc.cell 1, HQ.out.loc.cell 2, HQ.out.r4.loc.cell 8⟩ (fun _ => trivial) (Or.inl ⟨by rfl, ?_⟩) ?_
          rotate_left
          · (intro w' hSw; (try dsimp only at hSw); go_simp; (try with_reducible rfl))
          (try simp only [Act.put, List.setIfInBounds_toArray, List.set_cons_zero, List.set_cons_succ, List.getElem_toArray, List.getElem_cons_zero, List.getElem_cons_succ])
          refine wpTill.take (i := 20) (v := ?_) (by rfl) rfl (by kernel_rfl) (by kernel_rfl) (by kernel_rfl) (by exact fun _ _ _ h => h) ⟨HQ.out.loc.cell 0, HQ.out.loc.cell 1, HQ.out.loc.cell 2, HQ.out.r4.loc.cell 8⟩ (fun _ => trivial) (Or.inl ⟨by rfl, ?_⟩) ?_
          rotate_left
          · (intro w' hSw; (try dsimp only at hSw); go_simp; (try with_reducible rfl))
          (try simp only [Act.put, List.setIfInBounds_toArray, List.set_cons_zero, List.set_cons_succ, List.getElem_toArray, List.getElem_cons_zero, List.getElem_cons_succ])
          refine wpTill.take (i := 21) (v := ?_) (by rfl) rfl (by kernel_rfl) (by kernel_rfl) (by kernel_rfl) (by exact fun _ _ _ h => h) ⟨HQ.out.loc.cell 0, HQ.out.loc.cell 1, HQ.out.loc.cell 2, HQ.out.r4.loc.cell 8⟩ (fun _ => trivial) (Or.inl ⟨by rfl, ?_⟩) ?_
          rotate_left
          · (intro w' hSw; (try dsimp only at hSw); go_simp; (try with_reducible rfl))
          (try simp only [Act.put, List.setIfInBounds_toArray, List.set_cons_zero, List.set_cons_succ, List.getElem_toArray, List.getElem_cons_zero, List.getElem_cons_succ])
          refine wpTill.take (i := 22) (v := ?_) (by rfl) rfl (by kernel_rfl) (by kernel_rfl) (by kernel_rfl) (by exact fun _ _ _ h => h) ⟨HQ.out.loc.cell 0, HQ.out.loc.cell 1, HQ.out.loc.cell 2, HQ.out.r4.loc.cell 8⟩ (fun _ => trivial) (Or.inl ⟨by rfl, ?_⟩) ?_
          rotate_left
          · (intro w' hSw; (try dsimp only at hSw); go_simp; (try with_reducible rfl))
          (try simp only [Act.put, List.setIfInBounds_toArray, List.set_cons_zero, List.set_cons_succ, List.getElem_toArray, List.getElem_cons_zero, List.getElem_cons_succ])
          refine wpTill.take (i := 23) (v := ?_) (by rfl) rfl (by kernel_rfl) (by kernel_rfl) (by kernel_rfl) (by exact fun _ _ _ h => h) ⟨HQ.out.loc.cell 0, HQ.out.loc.cell 1, HQ.out.loc.cell 2, HQ.out.r4.loc.cell 8⟩ (fun _ => trivial) (Or.inl ⟨by rfl, ?_⟩) ?_
          rotate_left
          · (intro w' hSw; (try dsimp only at hSw); go_simp; (try with_reducible rfl))
          (try simp only [Act.put, List.setIfInBounds_toArray, List.set_cons_zero, List.set_cons_succ, List.getElem_toArray, List.getElem_cons_zero, List.getElem_cons_succ])
          refine wpTill.stop (by kernel_rfl) ?_ _
          go_wp2_with (fail)
          go_meet
          exact ⟨rfl, rfl⟩
        case rest =>
        obtain ⟨rfl, rfl⟩ := hcut
        replace HS4 := Lib.hid HS4.out.drew
        clear zT kT fT zW kW fW
        generalize wT.drew = wU at *
        obtain ⟨zW, kW, fW⟩ := HS4.out.r4.loc
        clear d0
        obtain ⟨ba3, oa3, hA3, hbl3, d0, d1, d2, d3, d4⟩ := act_at (HS.out.below HS4.out.base) HA.out
        simp only [Option.some.injEq, Addr.mk.injEq, and_true] at hA3
        obtain ⟨rfl, rfl⟩ := hA3
        clear d1 d2 d3 d4
        by_cases h3 : a.kind = 3
        case neg =>
          have h3b : (a.kind == 3) = false := beq_eq_false_iff_ne.2 h3
          clear h3
          have HEND : Hid (Sep w wU (worR W ⟨d, some x, 3, units, handed, durable, last, torn, spent, ex⟩ :: boxR g7 #[.int .i64 units, .int .i64 0, .slice A2 1 c2] :: slR 4 A2 1 [q.cells] :: ownR 24 4 (.slice A1 rs.length c1) rs.length (rs.map LoanV.cells) :: [])) := Lib.hid (Sep.worPack ⟨B1, X1, M1, M2, M3, M4⟩ HV1.out (HS4.out.toWor.r5.drop))
          go_wp2_with (fail)
          go_roundw
          case rel => exact ⟨k + 1, _, rs, q, A1, c1, A2, c2, HLT.out, rfl, rfl, by go_num, HI'.out, rfl, rfl, by have := HRL.out; omega, HRI2.out, HEND.out⟩
          case measure => have := HLT.out; simp [Go.RowKit.intOf]; omega
        rw [h3] at d0
        have h3b : (a.kind == 3) = true := by rw [h3]; rfl
        clear h3
        obtain ⟨⟨r, okr⟩, hr⟩ : ∃ r, replayF (textsOf handed) ⟨3, units, 0, false⟩ = r := ⟨_, rfl⟩
        obtain rfl : okr = true := by have := (rep_pre HHH.out HREP.out).1; rw [hr] at this; exact this
        have HRO : Hid (RepOf units handed r) := Lib.hid hr
        have HADD := Lib.hid (HRI2.out.add hr)
        have HRP := Lib.hid (fun W' (hb : Below w.heap.size w W') (hch : ChAt W' M1.A M1.es.length M1.es) => Replay_any W' (HE.out.below hb) hb.size M1.A M1.es.length M1.c M1.es hch (by
          have h1 := congrArg List.length HV1.out.1
          rw [vsOf_len] at h1
          have h2 := HHH.out.length_le
          have h4 := HI'.out.core.len
          simp only at h1 h4
          have := HN.out
          have := HLT.out
          omega) ⟨3, units, 0, false⟩ (r, true) (by have h1 := HV1.out.1; simp only at h1; rw [h1]; exact hr))
        simp only [loanX] at HRP
        clear hr
        go_upto_region 16 with (fail)
        go_cut [12, 13] (fun s12 s13 wy => ∃ g, s12 = .pointer (some ⟨g, 0, none⟩) ∧ s13 = .bool true ∧ Sep w wy (boxR g (loanX r) :: boxR gT (loanX x.loan) :: devR B1 X1 x :: diskR B1 d :: boxR W (worX B1 (.pointer (some ⟨X1, 0, none⟩)) 3 units M1.val M2.val M3.val M4.val spent) :: seesR (WorI.sees ⟨B1, X1, M1, M2, M3, M4⟩ ex) :: boxR g7 #[.int .i64 units, .int .i64 0, .slice A2 1 c2] :: slR 4 A2 1 [q.cells] :: ownR 24 4 (.slice A1 rs.length c1) rs.length (rs.map LoanV.cells) :: []))
        case first =>
          refine wpTill.startN 13 (S := fun w' => w'.cell? ⟨W, 4, none⟩ = some M1.val) (T := fun _ => True) (m := 300) rfl (by kernel_rfl) ?_
          have HQ := Lib.hid HS4.out.drew
          generalize wU.drew = wz at *
  -- BEGIN R16
          refine wpTill.take (i := 0) (v := ?_) (by rfl) rfl (by kernel_rfl) (by kernel_rfl) (by kernel_rfl) (by exact fun _ _ _ h => h) (HQ.out.r4.loc.cell 4) (fun _ => trivial) (Or.inl ⟨by rfl, ?_⟩) ?_
          rotate_left
          · (intro w' hSw; (try dsimp only at hSw); go_simp; (try with_reducible rfl))
          (try simp only [Act.put, List.setIfInBounds_toArray, List.set_cons_zero, List.set_cons_succ, List.getElem_toArray, List.getElem_cons_zero, List.getElem_cons_succ])
          refine wpTill.take (i := 1) (v := ?_) (by rfl) rfl (by kernel_rfl) (by kernel_rfl) (by kernel_rfl) (by exact fun _ _ _ h => h) (HQ.out.r4.loc.cell 4) (fun _ => trivial) (Or.inl ⟨by rfl, ?_⟩) ?_
          rotate_left
          · (intro w' hSw; (try dsimp only at hSw); go_simp; (try with_reducible rfl))
          (try simp only [Act.put, List.setIfInBounds_toArray, List.set_cons_zero, List.set_cons_succ, List.getElem_toArray, List.getElem_cons_zero, List.getElem_cons_succ])
          refine wpTill.take (i := 2) (v := ?_) (by rfl) rfl (by kernel_rfl) (by kernel_rfl) (by kernel_rfl) (by exact fun _ _ _ h => h) (HQ.out.r4.loc.cell 4) (fun _ => trivial) (Or.inl ⟨by rfl, ?_⟩) ?_
          rotate_left
          · (intro w' hSw; (try dsimp only at hSw); go_simp; (try with_reducible rfl))
          (try simp only [Act.put, List.setIfInBounds_toArray, List.set_cons_zero, List.set_cons_succ, List.getElem_toArray, List.getElem_cons_zero, List.getElem_cons_succ])
          refine wpTill.take (i := 3) (v := ?_) (by rfl) rfl (by kernel_rfl) (by kernel_rfl) (by kernel_rfl) (by exact fun _ _ _ h => h) (HQ.out.r4.loc.cell 4) (fun _ => trivial) (Or.inl ⟨by rfl, ?_⟩) ?_
          rotate_left
          · (intro w' hSw; (try dsimp only at hSw); go_simp; (try with_reducible rfl))
          (try simp only [Act.put, List.setIfInBounds_toArray, List.set_cons_zero, List.set_cons_succ, List.getElem_toArray, List.getElem_cons_zero, List.getElem_cons_succ])
          refine wpTill.take (i := 4) (v := ?_) (by rfl) rfl (by kernel_rfl) (by kernel_rfl) (by kernel_rfl) (by exact fun _ _ _ h => h) (HQ.out.r4.loc.cell 4) (fun _ => trivial) (Or.inl ⟨by rfl, ?_⟩) ?_
          rotate_left
          · (intro w' hSw; (try dsimp only at hSw); go_simp; (try with_reducible rfl))
          (try simp only [Act.put, List.setIfInBounds_toArray, List.set_cons_zero, List.set_cons_succ, List.getElem_toArray, List.getElem_cons_zero, List.getElem_cons_succ])
          refine wpTill.step2 (i := 5) (j := 10) (by kernel_rfl) (by rfl) (by rfl) (fun K' hK => ?_) (fun K' hK => ?_)
          rotate_left
          · skip
            replace hK := Lib.hid hK
            go_simp
            replace HQ := Lib.hid (HQ.out.box #[.int .i64 0, .int .i64 0, .int .i64 0, .bool false] 24)
            refine hK.out _ _ (HQ.out.drop.r4.loc.cell 4) (fun _ => trivial) ?_
            clear hK K'
            (try simp only [Act.put, List.setIfInBounds_toArray, List.set_cons_zero, List.set_cons_succ, List.getElem_toArray, List.getElem_cons_zero, List.getElem_cons_succ])
            generalize wz.alloc (.cells #[.int .i64 0, .int .i64 0, .int .i64 0, .bool false] 24) = wX at *
            generalize wz.heap.size = gX at *
            refine wpTill.step (i := 5) (by kernel_rfl) (by rfl) (fun K' hK => ?_)
            replace hK := Lib.hid hK
            go_simp
            go_at_call 44
            ((with_reducible refine (wloan_any _ _ _ _ _ _ _ _ _ _ _ HQ.out.drop.r4.loc).mono ?_); rintro _ wN ⟨rfl, hbN⟩)
            replace HQ := Lib.hid (HQ.out.below hbN)
            clear hbN
            refine hK.out _ _ (HQ.out.drop.r4.loc.cell 4) (fun _ => trivial) ?_
            clear hK K'
            (try simp only [Act.put, List.setIfInBounds_toArray, List.set_cons_zero, List.set_cons_succ, List.getElem_toArray, List.getElem_cons_zero, List.getElem_cons_succ])
            refine wpTill.step (i := 6) (by kernel_rfl) (by rfl) (fun K' hK => ?_)
            replace hK := Lib.hid hK
            go_simp
            go_at_call 10
            ((with_reducible refine (HRP.out _ HQ.out.base (sees_H HQ.out.drop.r5.sees)).mono ?_); rintro _ wM ⟨rfl, hbN⟩)
            replace HQ := Lib.hid (HQ.out.below hbN)
            clear hbN
            refine hK.out _ _ (HQ.out.drop.r4.loc.cell 4) (fun _ => trivial) ?_
            clear hK K'
            (try simp only [Act.put, List.setIfInBounds_toArray, List.set_cons_zero, List.set_cons_succ, List.getElem_toArray, List.getElem_cons_zero, List.getElem_cons_succ])
            refine wpTill.take (i := 7) (v := ?_) (by rfl) rfl (by kernel_rfl) (by kernel_rfl) (by kernel_rfl) (by exact fun _ _ _ h => h) (HQ.out.drop.r4.loc.cell 4) (fun _ => trivial) (Or.inl ⟨by rfl, ?_⟩) ?_
            rotate_left
            · (intro w' hSw; (try dsimp only at hSw); go_simp; (try with_reducible rfl))
            (try simp only [Act.put, List.setIfInBounds_toArray, List.set_cons_zero, List.set_cons_succ, List.getElem_toArray, List.getElem_cons_zero, List.getElem_cons_succ])
            refine wpTill.take (i := 8) (v := ?_) (by rfl) rfl (by kernel_rfl) (by kernel_rfl) (by kernel_rfl) (by exact fun _ _ _ h => h) (HQ.out.drop.r4.loc.cell 4) (fun _ => trivial) (Or.inl ⟨by rfl, ?_⟩) ?_
            rotate_left
            · (intro w' hSw; (try dsimp only at hSw); go_simp; (try with_reducible rfl))
            (try simp only [Act.put, List.setIfInBounds_toArray, List.set_cons_zero, List.set_cons_succ, List.getElem_toArray, List.getElem_cons_zero, List.getElem_cons_succ])
            refine wpTill.take (i := 9) (v := ?_) (by rfl) rfl (by kernel_rfl) (by kernel_rfl) (by kernel_rfl) (by exact fun _ _ _ h => h) (HQ.out.drop.r4.loc.cell 4) (fun _ => trivial) (Or.inl ⟨by rfl, ?_⟩) ?_
            rotate_left
            · (intro w' hSw; (try dsimp only at hSw); go_simp; (try with_reducible rfl))
            (try simp only [Act.put, List.setIfInBounds_toArray, List.set_cons_zero, List.set_cons_succ, List.getElem_toArray, List.getElem_cons_zero, List.getElem_cons_succ])
            obtain ⟨zE, kE, fE⟩ := HQ.out.loc
            refine wpTill.step (i := 11) (by kernel_rfl) (by rfl) (fun K' hK => ?_)
            replace hK := Lib.hid hK
            go_simp
            replace HQ := Lib.hid (HQ.out.setLoan r)
            refine hK.out _ _ (HQ.out.drop.r4.loc.cell 4) (fun _ => trivial) ?_
            clear hK K'
            (try simp only [Act.put, List.setIfInBounds_toArray, List.set_cons_zero, List.set_cons_succ, List.getElem_toArray, List.getElem_cons_zero, List.getElem_cons_succ])
            refine wpTill.take (i := 12) (v := ?_) (by rfl) rfl (by kernel_rfl) (by kernel_rfl) (by kernel_rfl) (by exact fun _ _ _ h => h) (HQ.out.drop.r4.loc.cell 4) (fun _ => trivial) (Or.inl ⟨by rfl, ?_⟩) ?_
            rotate_left
            · (intro w' hSw; (try dsimp only at hSw); go_simp; (try with_reducible rfl))
            (try simp only [Act.put, List.setIfInBounds_toArray, List.set_cons_zero, List.set_cons_succ, List.getElem_toArray, List.getElem_cons_zero, List.getElem_cons_succ])
            refine wpTill.stop (by kernel_rfl) ?_ _
            go_wp2_with (fail)
            go_meet
            exact ⟨_, rfl, rfl, HQ.out⟩
          replace hK := Lib.hid hK
          go_simp
          go_at_call 44
          ((with_reducible refine (wloan_any _ _ _ _ _ _ _ _ _ _ _ HQ.out.r4.loc).mono ?_); rintro _ wN ⟨rfl, hbN⟩)
          replace HQ := Lib.hid (HQ.out.below hbN)
          clear hbN
          refine hK.out _ _ (HQ.out.r4.loc.cell 4) (fun _ => trivial) ?_
          clear hK K'
          (try simp only [Act.put, List.setIfInBounds_toArray, List.set_cons_zero, List.set_cons_succ, List.getElem_toArray, List.getElem_cons_zero, List.getElem_cons_succ])
          refine wpTill.step2 (i := 6) (j := 10) (by kernel_rfl) (by rfl) (by rfl) (fun K' hK => ?_) (fun K' hK => ?_)
          rotate_left
          · skip
            replace hK := Lib.hid hK
            go_simp
            replace HQ := Lib.hid (HQ.out.box #[.int .i64 0, .int .i64 0, .int .i64 0, .bool false] 24)
            refine hK.out _ _ (HQ.out.drop.r4.loc.cell 4) (fun _ => trivial) ?_
            clear hK K'
            (try simp only [Act.put, List.setIfInBounds_toArray, List.set_cons_zero, List.set_cons_succ, List.getElem_toArray, List.getElem_cons_zero, List.getElem_cons_succ])
            generalize wN.alloc (.cells #[.int .i64 0, .int .i64 0, .int .i64 0, .bool false] 24) = wX at *
            generalize wN.heap.size = gX at *
            refine wpTill.step (i := 6) (by kernel_rfl) (by rfl) (fun K' hK => ?_)
            replace hK := Lib.hid hK
            go_simp
            go_at_call 10
            ((with_reducible refine (HRP.out _ HQ.out.base (sees_H HQ.out.drop.r5.sees)).mono ?_); rintro _ wM ⟨rfl, hbN⟩)
            replace HQ := Lib.hid (HQ.out.below hbN)
            clear hbN
            refine hK.out _ _ (HQ.out.drop.r4.loc.cell 4) (fun _ => trivial) ?_
            clear hK K'
            (try simp only [Act.put, List.setIfInBounds_toArray, List.set_cons_zero, List.set_cons_succ, List.getElem_toArray, List.getElem_cons_zero, List.getElem_cons_succ])
            refine wpTill.take (i := 7) (v := ?_) (by rfl) rfl (by kernel_rfl) (by kernel_rfl) (by kernel_rfl) (by exact fun _ _ _ h => h) (HQ.out.drop.r4.loc.cell 4) (fun _ => trivial) (Or.inl ⟨by rfl, ?_⟩) ?_
            rotate_left
            · (intro w' hSw; (try dsimp only at hSw); go_simp; (try with_reducible rfl))
            (try simp only [Act.put, List.setIfInBounds_toArray, List.set_cons_zero, List.set_cons_succ, List.getElem_toArray, List.getElem_cons_zero, List.getElem_cons_succ])
            refine wpTill.take (i := 8) (v := ?_) (by rfl) rfl (by kernel_rfl) (by kernel_rfl) (by kernel_rfl) (by exact fun _ _ _ h => h) (HQ.out.drop.r4.loc.cell 4) (fun _ => trivial) (Or.inl ⟨by rfl, ?_⟩) ?_
            rotate_left
            · (intro w' hSw; (try dsimp only at hSw); go_simp; (try with_reducible rfl))
            (try simp only [Act.put, List.setIfInBounds_toArray, List.set_cons_zero, List.set_cons_succ, List.getElem_toArray, List.getElem_cons_zero, List.getElem_cons_succ])
            refine wpTill.take (i := 9) (v := ?_) (by rfl) rfl (by kernel_rfl) (by kernel_rfl) (by kernel_rfl) (by exact fun _ _ _ h => h) (HQ.out.drop.r4.loc.cell 4) (fun _ => trivial) (Or.inl ⟨by rfl, ?_⟩) ?_
            rotate_left
            · (intro w' hSw; (try dsimp only at hSw); go_simp; (try with_reducible rfl))
            (try simp only [Act.put, List.setIfInBounds_toArray, List.set_cons_zero, List.set_cons_succ, List.getElem_toArray, List.getElem_cons_zero, List.getElem_cons_succ])
            obtain ⟨zE, kE, fE⟩ := HQ.out.loc
            refine wpTill.step (i := 11) (by kernel_rfl) (by rfl) (fun K' hK => ?_)
            replace hK := Lib.hid hK
            go_simp
            replace HQ := Lib.hid (HQ.out.setLoan r)
            refine hK.out _ _ (HQ.out.drop.r4.loc.cell 4) (fun _ => trivial) ?_
            clear hK K'
            (try simp only [Act.put, List.setIfInBounds_toArray, List.set_cons_zero, List.set_cons_succ, List.getElem_toArray, List.getElem_cons_zero, List.getElem_cons_succ])
            refine wpTill.take (i := 12) (v := ?_) (by rfl) rfl (by kernel_rfl) (by kernel_rfl) (by kernel_rfl) (by exact fun _ _ _ h => h) (HQ.out.drop.r4.loc.cell 4) (fun _ => trivial) (Or.inl ⟨by rfl, ?_⟩) ?_
            rotate_left
            · (intro w' hSw; (try dsimp only at hSw); go_simp; (try with_reducible rfl))
            (try simp only [Act.put, List.setIfInBounds_toArray, List.set_cons_zero, List.set_cons_succ, List.getElem_toArray, List.getElem_cons_zero, List.getElem_cons_succ])
            refine wpTill.stop (by kernel_rfl) ?_ _
            go_wp2_with (fail)
            go_meet
            exact ⟨_, rfl, rfl, HQ.out⟩
          replace hK := Lib.hid hK
          go_simp
          go_at_call 10
          ((with_reducible refine (HRP.out _ HQ.out.base (sees_H HQ.out.r5.sees)).mono ?_); rintro _ wM ⟨rfl, hbN⟩)
          replace HQ := Lib.hid (HQ.out.below hbN)
          clear hbN
          refine hK.out _ _ (HQ.out.r4.loc.cell 4) (fun _ => trivial) ?_
          clear hK K'
          (try simp only [Act.put, List.setIfInBounds_toArray, List.set_cons_zero, List.set_cons_succ, List.getElem_toArray, List.getElem_cons_zero, List.getElem_cons_succ])
          refine wpTill.take (i := 7) (v := ?_) (by rfl) rfl (by kernel_rfl) (by kernel_rfl) (by kernel_rfl) (by exact fun _ _ _ h => h) (HQ.out.r4.loc.cell 4) (fun _ => trivial) (Or.inl ⟨by rfl, ?_⟩) ?_
          rotate_left
          · (intro w' hSw; (try dsimp only at hSw); go_simp; (try with_reducible rfl))
          (try simp only [Act.put, List.setIfInBounds_toArray, List.set_cons_zero, List.set_cons_succ, List.getElem_toArray, List.getElem_cons_zero, List.getElem_cons_succ])
          refine wpTill.take (i := 8) (v := ?_) (by rfl) rfl (by kernel_rfl) (by kernel_rfl) (by kernel_rfl) (by exact fun _ _ _ h => h) (HQ.out.r4.loc.cell 4) (fun _ => trivial) (Or.inl ⟨by rfl, ?_⟩) ?_
          rotate_left
          · (intro w' hSw; (try dsimp only at hSw); go_simp; (try with_reducible rfl))
          (try simp only [Act.put, List.setIfInBounds_toArray, List.set_cons_zero, List.set_cons_succ, List.getElem_toArray, List.getElem_cons_zero, List.getElem_cons_succ])
          refine wpTill.take (i := 9) (v := ?_) (by rfl) rfl (by kernel_rfl) (by kernel_rfl) (by kernel_rfl) (by exact fun _ _ _ h => h) (HQ.out.r4.loc.cell 4) (fun _ => trivial) (Or.inl ⟨by rfl, ?_⟩) ?_
          rotate_left
          · (intro w' hSw; (try dsimp only at hSw); go_simp; (try with_reducible rfl))
          (try simp only [Act.put, List.setIfInBounds_toArray, List.set_cons_zero, List.set_cons_succ, List.getElem_toArray, List.getElem_cons_zero, List.getElem_cons_succ])
          refine wpTill.step (i := 10) (by kernel_rfl) (by rfl) (fun K' hK => ?_)
          replace hK := Lib.hid hK
          go_simp
          replace HQ := Lib.hid (HQ.out.box #[.int .i64 0, .int .i64 0, .int .i64 0, .bool false] 24)
          refine hK.out _ _ (HQ.out.drop.r4.loc.cell 4) (fun _ => trivial) ?_
          clear hK K'
          (try simp only [Act.put, List.setIfInBounds_toArray, List.set_cons_zero, List.set_cons_succ, List.getElem_toArray, List.getElem_cons_zero, List.getElem_cons_succ])
          generalize wM.alloc (.cells #[.int .i64 0, .int .i64 0, .int .i64 0, .bool false] 24) = wX at *
          generalize wM.heap.size = gX at *
          obtain ⟨zE, kE, fE⟩ := HQ.out.loc
          refine wpTill.step (i := 11) (by kernel_rfl) (by rfl) (fun K' hK => ?_)
          replace hK := Lib.hid hK
          go_simp
          replace HQ := Lib.hid (HQ.out.setLoan r)
          refine hK.out _ _ (HQ.out.drop.r4.loc.cell 4) (fun _ => trivial) ?_
          clear hK K'
          (try simp only [Act.put, List.setIfInBounds_toArray, List.set_cons_zero, List.set_cons_succ, List.getElem_toArray, List.getElem_cons_zero, List.getElem_cons_succ])
          refine wpTill.take (i := 12) (v := ?_) (by rfl) rfl (by kernel_rfl) (by kernel_rfl) (by kernel_rfl) (by exact fun _ _ _ h => h) (HQ.out.drop.r4.loc.cell 4) (fun _ => trivial) (Or.inl ⟨by rfl, ?_⟩) ?_
          rotate_left
          · (intro w' hSw; (try dsimp only at hSw); go_simp; (try with_reducible rfl))
          (try simp only [Act.put, List.setIfInBounds_toArray, List.set_cons_zero, List.set_cons_succ, List.getElem_toArray, List.getElem_cons_zero, List.getElem_cons_succ])
          refine wpTill.stop (by kernel_rfl) ?_ _
          go_wp2_with (fail)
          go_meet
          exact ⟨_, rfl, rfl, HQ.out⟩
  -- END R16
        case rest =>
        obtain ⟨g12, rfl, rfl, hq12⟩ := hcut
        have HS12 := Lib.hid (hq12.sw.drop)
        have HW12 := Lib.hid (Sep.worPack (v := ⟨d, some x, 3, units, handed, durable, last, torn, spent, ex⟩) (Rs := boxR g12 (loanX r) :: boxR g7 #[.int .i64 units, .int .i64 0, .slice A2 1 c2] :: slR 4 A2 1 [q.cells] :: ownR 24 4 (.slice A1 rs.length c1) rs.length (rs.map LoanV.cells) :: []) ⟨B1, X1, M1, M2, M3, M4⟩ HV1.out HS12.out.toWor)
        clear hq12 HS12 HS4 HRP zW kW fW
        simp only [loanX] at HW12
        obtain ⟨zR, kR, fR⟩ := HW12.out.sw.loc
        obtain ⟨zS, kS, fS⟩ := HW12.out.r3.loc
        obtain ⟨i0, hi0, hz0, hz1, hz2⟩ := info_parts infoLoan
        have HP12 := Lib.hid (HW12.out.r5.alloc (.cells #[.int .i64 r.device, .int .i64 r.units, .int .i64 r.spent, .bool r.back] 24))
        have hrl := HRL.out
        have HKN : Hid (k ≤ 25) := Lib.hid (by have := HN.out; have := HLT.out; omega)
        go_wp2_with (at_builtin; (refine wpList_append_sl _ rfl (.tmp 103) (.tmp 105) _ rfl w.heap.size 24 i0 _ 4 32 Tryz.underlying67 hi0 hz0 hz1 hz2 rfl (by omega) _ rs.length (rs.map LoanV.cells) rfl HP12.out.own (some ⟨wc.heap.size, 0, none⟩) 1 1 [r.cells] rfl (Sl.new_ _ _ _) (by simp [LoanV.cells]) (by simp [LoanV.cells, Value.oneCell']) (by have := HKN.out; have := HRL.out; simp only [maxLen]; omega) (by have := HKN.out; have := HRL.out; omega) HP12.out.base.size ?_); intro A9 c9 w9 hown9 hg9 hat9; have HQ9 := Lib.hid (HP12.out.grown hown9 hg9 hat9); clear hown9 hg9 hat9 zR kR fR zS kS fS; obtain ⟨zS9, kS9, fS9⟩ := HQ9.out.r4.loc; obtain ⟨zR9, kR9, fR9⟩ := HQ9.out.r3.loc)
        have HMG := Lib.hid (fun W' (hsl : Sl W' 4 A2 1 [q.cells]) => Merge_any units 0 A2 1 c2 [q] 0 r.device r.units r.spent r.back (stock1 units r, 0) (merge_up HU.out.1 HU.out.2 HRI2.out.right.2.1 HRI2.out.right.1 HADD.out.2) W' hsl)
        ((with_reducible refine (HMG.out _ HQ9.out.r5.sl).mono ?_); rintro _ w10 ⟨A10, c10, rfl, hsl10, hb10⟩)
        have hsl11 : SlF w9 w10 4 A10 1 [r.cells] := hsl10
        have HS10 := Lib.hid (HQ9.out.slNew hb10 hsl11).r5
        clear hsl10 hsl11 hb10 HMG HQ9 zS9 kS9 fS9 zR9 kR9 fR9
        obtain ⟨zS, kS, fS⟩ := HS10.out.loc
        have HEND : Hid (Sep w (((w10.setCell ⟨g7, 0, none⟩ (.int .i64 units)).setCell ⟨g7, 1, none⟩ (.int .i64 0)).setCell ⟨g7, 2, none⟩ (.slice A10 1 c10)) (worR W ⟨d, some x, 3, units, handed, durable, last, torn, spent, ex⟩ :: boxR g7 #[.int .i64 units, .int .i64 0, .slice A10 1 c10] :: slR 4 A10 1 [r.cells] :: ownR 24 4 (.slice A9 (rs.length + 1) c9) (rs.length + 1) (rs.map LoanV.cells ++ [r.cells]) :: [])) := Lib.hid (by
          have h := ((HS10.out.set_ 0 (.int .i64 units)).set_ 1 (.int .i64 0)).set_ 2 (.slice A10 1 c10)
          have h2 := h.r6.drop.r5.drop.r4
          simpa using h2)
        have hwk := HWK.out
        simp only [List.length_cons, List.length_nil, Nat.zero_add]
        go_wp2_with (fail)
        go_roundw
        case rel =>
          refine ⟨k + 1, _, rs ++ [r], r, A9, c9, A10, c10, HLT.out, rfl, ?_, by go_num, HI'.out, rfl, rfl, ?_, HADD.out.1, ?_⟩
          · rw [List.length_append]; rfl
          · rw [List.length_append]; have := HRL.out; simp; omega
          · rw [List.length_append, List.map_append]; exact HEND.out
        case measure => have := HLT.out; simp [Go.RowKit.intOf]; omega
    · obtain rfl : k = n := by omega
      have hki : ¬ ((k : Int) < (k : Int)) := by omega
      clear hlt hk
      obtain ⟨zS, kS, fS⟩ := HQ.out.sw.loc
      have HS0 := Lib.hid HQ.out.drop
      have HLN := Lib.hid (fun W' => Lend_any u 0 none 0 0 [] 3 u _ (lend1 HU.out.1 HU.out.2) W' (Sl.nil_ _ _ _))
      go_wp2_with (fail)
      clear zS kS fS zW kW fW
      ((with_reducible refine (HLN.out _).mono ?_); rintro _ w5 ⟨At, ct, rfl, hsl, hb5⟩)
      have hsl1 : SlF wo w5 4 At 1 [LoanV.cells ⟨3, u, 0, false⟩] := hsl
      have HS5 := Lib.hid ((HS0.out.slNew hb5 hsl1).box #[.int .i64 u, .int .i64 0, .slice At 1 ct] 69)
      clear hsl hsl1 hb5 HLN HS0 HQ HQW
      simp only [List.length_cons, List.length_nil, Nat.zero_add]
      have HWL : Hid (IntKind.i64.wrap ((rs.length : Int) - 1) = (rs.length : Int) - 1) := Lib.hid (IntWalk.i64_in _ (by have := HRL.out; have := HN.out; omega))
      have hwl := HWL.out
      go_wp2_with (fail)
      generalize w5.alloc (.cells #[.int .i64 u, .int .i64 0, .slice At 1 ct] 69) = wC at *
      generalize hg14 : w5.heap.size = g14 at *
      clear hg14
      go_loopw [15, 16] (fun fv iv wr => ∃ (j : Nat) (tq : LoanV) (A3 : Option Addr) (c3 : Nat), j ≤ rs.length ∧ fv = .int .i64 0 ∧ iv = .int .i64 ((j : Int) - 1) ∧ (j = rs.length ∧ tq = ⟨3, u, 0, false⟩ ∨ j < rs.length ∧ tq = q) ∧ Sep w wr (boxR g14 #[.int .i64 u, .int .i64 0, .slice A3 1 c3] :: slR 4 A3 1 [tq.cells] :: boxR g7 #[.int .i64 u, .int .i64 0, .slice A2 1 c2] :: slR 4 A2 1 [q.cells] :: ownR 24 4 (.slice A1 rs.length c1) rs.length (rs.map LoanV.cells) :: [])) (fun _ iv _ => (Go.RowKit.intOf iv + 1).toNat)
      case atStart => exact ⟨rs.length, ⟨3, u, 0, false⟩, At, ct, Nat.le_refl _, rfl, rfl, .inl ⟨rfl, rfl⟩, HS5.out⟩
      case round =>
        obtain ⟨j, tq, A3, c3, hj, rfl, rfl, htq, hq⟩ := hrel
        obtain ⟨wp, rfl⟩ : ∃ wp : World, wp = wr := ⟨_, rfl⟩
        have HQ := Lib.hid hq
        have HTQ := Lib.hid htq
        clear hq htq HS5 hwl
        by_cases hj0 : j = 0
        · subst hj0
          have hneg : ¬ (0 ≤ ((0 : Nat) : Int) - 1) := by omega
          have htqq : tq = q := by
            rcases HTQ.out with ⟨h1, h2⟩ | ⟨_, h2⟩
            · rcases HRI.out.q_ with ⟨_, h4⟩ | ⟨ps, h3, _⟩
              · rw [h2, h4]
              · rw [h3] at h1; simp at h1
            · exact h2
          subst htqq
          clear hj
          have hfree := free1 HU.out.1 HU.out.2 HRI.out.right.1 HRI.out.right.2.1
          obtain ⟨fr, hfr⟩ : ∃ fr, max (StockV.free (stock1 u tq)).1 0 = fr := ⟨_, rfl⟩
          have HFR := Lib.hid (fun W' A' c' (hsl : Sl W' 4 A' 1 [tq.cells]) => Free_any u 0 A' 1 c' [tq] W' hsl fr hfr)
          obtain ⟨b2, o2, rfl, hrow2⟩ := loan_row HQ.out.r4.sl
          obtain ⟨b3, o3, rfl, hrow3⟩ := loan_row HQ.out.sw.sl
          have HR2 := Lib.hid hrow2
          have HR3 := Lib.hid hrow3
          clear hfree hfr hrow2 hrow3
          go_upto_region 30 with (fail)
          refine wpTill.startN 30 (S := fun w' => (w'.cell? ⟨g14, 0, none⟩ = some (.int .i64 u) ∧ w'.cell? ⟨g14, 1, none⟩ = some (.int .i64 0) ∧ w'.cell? ⟨g14, 2, none⟩ = some (.slice (some ⟨b3, o3, none⟩) 1 c3)) ∧ (w'.cell? ⟨g7, 0, none⟩ = some (.int .i64 u) ∧ w'.cell? ⟨g7, 1, none⟩ = some (.int .i64 0) ∧ w'.cell? ⟨g7, 2, none⟩ = some (.slice (some ⟨b2, o2, none⟩) 1 c2)) ∧ (w'.cell? ⟨b2, o2, none⟩ = some (.int .i64 tq.device) ∧ w'.cell? ⟨b2, o2 + 1, none⟩ = some (.int .i64 tq.units) ∧ w'.cell? ⟨b2, o2 + 2, none⟩ = some (.int .i64 tq.spent) ∧ w'.cell? ⟨b2, o2 + 3, none⟩ = some (.bool tq.back)) ∧ (w'.cell? ⟨b3, o3, none⟩ = some (.int .i64 tq.device) ∧ w'.cell? ⟨b3, o3 + 1, none⟩ = some (.int .i64 tq.units) ∧ w'.cell? ⟨b3, o3 + 2, none⟩ = some (.int .i64 tq.spent) ∧ w'.cell? ⟨b3, o3 + 3, none⟩ = some (.bool tq.back))) (T := fun _ => True) (m := 300) rfl (by kernel_rfl) ?_
          have HSS : Hid (∀ w' Rs', Sep w w' (boxR g14 #[.int .i64 u, .int .i64 0, .slice (some ⟨b3, o3, none⟩) 1 c3] :: slR 4 (some ⟨b3, o3, none⟩) 1 [tq.cells] :: boxR g7 #[.int .i64 u, .int .i64 0, .slice (some ⟨b2, o2, none⟩) 1 c2] :: slR 4 (some ⟨b2, o2, none⟩) 1 [tq.cells] :: Rs') → _) := Lib.hid fun w' Rs' h => And.intro (And.intro (h.loc.cell 0) (And.intro (h.loc.cell 1) (h.loc.cell 2))) (And.intro (And.intro (h.r3.loc.cell 0) (And.intro (h.r3.loc.cell 1) (h.r3.loc.cell 2))) (And.intro (HR2.out w' h.r4.sl).2 (HR3.out w' h.sw.sl).2))
          replace HQ := Lib.hid HQ.out.drew
          generalize wp.drew = wz at *
          refine wpTill.take (i := 0) (v := ?_) (by rfl) rfl (by kernel_rfl) (by kernel_rfl) (by kernel_rfl) (by exact fun _ _ _ h => h) (HSS.out _ _ HQ.out) (fun _ => trivial) (Or.inl ⟨by rfl, ?_⟩) ?_
          rotate_left
          · (intro w' hSw; (try dsimp only at hSw); go_simp; (try with_reducible rfl))
          (try simp only [Act.put, List.setIfInBounds_toArray, List.set_cons_zero, List.set_cons_succ, List.getElem_toArray, List.getElem_cons_zero, List.getElem_cons_succ])
          refine wpTill.take (i := 1) (v := ?_) (by rfl) rfl (by kernel_rfl) (by kernel_rfl) (by kernel_rfl) (by exact fun _ _ _ h => h) (HSS.out _ _ HQ.out) (fun _ => trivial) (Or.inl ⟨by rfl, ?_⟩) ?_
          rotate_left
          · (intro w' hSw; (try dsimp only at hSw); go_simp; (try with_reducible rfl))
          (try simp only [Act.put, List.setIfInBounds_toArray, List.set_cons_zero, List.set_cons_succ, List.getElem_toArray, List.getElem_cons_zero, List.getElem_cons_succ])
          refine wpTill.take (i := 2) (v := ?_) (by rfl) rfl (by kernel_rfl) (by kernel_rfl) (by kernel_rfl) (by exact fun _ _ _ h => h) (HSS.out _ _ HQ.out) (fun _ => trivial) (Or.inl ⟨by rfl, ?_⟩) ?_
          rotate_left
          · (intro w' hSw; (try dsimp only at hSw); go_simp; (try with_reducible rfl))
          (try simp only [Act.put, List.setIfInBounds_toArray, List.set_cons_zero, List.set_cons_succ, List.getElem_toArray, List.getElem_cons_zero, List.getElem_cons_succ])
          refine wpTill.take (i := 3) (v := ?_) (by rfl) rfl (by kernel_rfl) (by kernel_rfl) (by kernel_rfl) (by exact fun _ _ _ h => h) (HSS.out _ _ HQ.out) (fun _ => trivial) (Or.inl ⟨by rfl, ?_⟩) ?_
          rotate_left
          · (intro w' hSw; (try dsimp only at hSw); go_simp; (try with_reducible rfl))
          (try simp only [Act.put, List.setIfInBounds_toArray, List.set_cons_zero, List.set_cons_succ, List.getElem_toArray, List.getElem_cons_zero, List.getElem_cons_succ])
          refine wpTill.take (i := 4) (v := ?_) (by rfl) rfl (by kernel_rfl) (by kernel_rfl) (by kernel_rfl) (by exact fun _ _ _ h => h) (HSS.out _ _ HQ.out) (fun _ => trivial) (Or.inl ⟨by rfl, ?_⟩) ?_
          rotate_left
          · (intro w' hSw; (try dsimp only at hSw); go_simp; (try with_reducible rfl))
          (try simp only [Act.put, List.setIfInBounds_toArray, List.set_cons_zero, List.set_cons_succ, List.getElem_toArray, List.getElem_cons_zero, List.getElem_cons_succ])
          refine wpTill.take (i := 5) (v := ?_) (by rfl) rfl (by kernel_rfl) (by kernel_rfl) (by kernel_rfl) (by exact fun _ _ _ h => h) (HSS.out _ _ HQ.out) (fun _ => trivial) (Or.inl ⟨by rfl, ?_⟩) ?_
          rotate_left
          · (intro w' hSw; (try dsimp only at hSw); go_simp; (try with_reducible rfl))
          (try simp only [Act.put, List.setIfInBounds_toArray, List.set_cons_zero, List.set_cons_succ, List.getElem_toArray, List.getElem_cons_zero, List.getElem_cons_succ])
          refine wpTill.take (i := 6) (v := ?_) (by rfl) rfl (by kernel_rfl) (by kernel_rfl) (by kernel_rfl) (by exact fun _ _ _ h => h) (HSS.out _ _ HQ.out) (fun _ => trivial) (Or.inl ⟨by rfl, ?_⟩) ?_
          rotate_left
          · (intro w' hSw; (try dsimp only at hSw); go_simp; (try with_reducible rfl))
          (try simp only [Act.put, List.setIfInBounds_toArray, List.set_cons_zero, List.set_cons_succ, List.getElem_toArray, List.getElem_cons_zero, List.getElem_cons_succ])
          refine wpTill.take (i := 7) (v := ?_) (by rfl) rfl (by kernel_rfl) (by kernel_rfl) (by kernel_rfl) (by exact fun _ _ _ h => h) (HSS.out _ _ HQ.out) (fun _ => trivial) (Or.inl ⟨by rfl, ?_⟩) ?_
          rotate_left
          · (intro w' hSw; (try dsimp only at hSw); go_simp; (try with_reducible rfl))
          (try simp only [Act.put, List.setIfInBounds_toArray, List.set_cons_zero, List.set_cons_succ, List.getElem_toArray, List.getElem_cons_zero, List.getElem_cons_succ])
          refine wpTill.take (i := 8) (v := ?_) (by rfl) rfl (by kernel_rfl) (by kernel_rfl) (by kernel_rfl) (by exact fun _ _ _ h => h) (HSS.out _ _ HQ.out) (fun _ => trivial) (Or.inl ⟨by rfl, ?_⟩) ?_
          rotate_left
          · (intro w' hSw; (try dsimp only at hSw); go_simp; (try with_reducible rfl))
          (try simp only [Act.put, List.setIfInBounds_toArray, List.set_cons_zero, List.set_cons_succ, List.getElem_toArray, List.getElem_cons_zero, List.getElem_cons_succ])
          refine wpTill.take (i := 9) (v := ?_) (by rfl) rfl (by kernel_rfl) (by kernel_rfl) (by kernel_rfl) (by exact fun _ _ _ h => h) (HSS.out _ _ HQ.out) (fun _ => trivial) (Or.inl ⟨by rfl, ?_⟩) ?_
          rotate_left
          · (intro w' hSw; (try dsimp only at hSw); go_simp; (try with_reducible rfl))
          (try simp only [Act.put, List.setIfInBounds_toArray, List.set_cons_zero, List.set_cons_succ, List.getElem_toArray, List.getElem_cons_zero, List.getElem_cons_succ])
          refine wpTill.take (i := 10) (v := ?_) (by rfl) rfl (by kernel_rfl) (by kernel_rfl) (by kernel_rfl) (by exact fun _ _ _ h => h) (HSS.out _ _ HQ.out) (fun _ => trivial) (Or.inl ⟨by rfl, ?_⟩) ?_
          rotate_left
          · (intro w' hSw; (try dsimp only at hSw); go_simp; (try with_reducible rfl))
          (try simp only [Act.put, List.setIfInBounds_toArray, List.set_cons_zero, List.set_cons_succ, List.getElem_toArray, List.getElem_cons_zero, List.getElem_cons_succ])
          refine wpTill.take (i := 11) (v := ?_) (by rfl) rfl (by kernel_rfl) (by kernel_rfl) (by kernel_rfl) (by exact fun _ _ _ h => h) (HSS.out _ _ HQ.out) (fun _ => trivial) (Or.inl ⟨by rfl, ?_⟩) ?_
          rotate_left
          · (intro w' hSw; (try dsimp only at hSw); go_simp; (try with_reducible rfl))
          (try simp only [Act.put, List.setIfInBounds_toArray, List.set_cons_zero, List.set_cons_succ, List.getElem_toArray, List.getElem_cons_zero, List.getElem_cons_succ])
          refine wpTill.take (i := 12) (v := ?_) (by rfl) rfl (by kernel_rfl) (by kernel_rfl) (by kernel_rfl) (by exact fun _ _ _ h => h) (HSS.out _ _ HQ.out) (fun _ => trivial) (Or.inl ⟨by rfl, ?_⟩) ?_
          rotate_left
          · (intro w' hSw; (try dsimp only at hSw); go_simp; (try with_reducible rfl))
          (try simp only [Act.put, List.setIfInBounds_toArray, List.set_cons_zero, List.set_cons_succ, List.getElem_toArray, List.getElem_cons_zero, List.getElem_cons_succ])
          refine wpTill.take (i := 14) (v := ?_) (by rfl) rfl (by kernel_rfl) (by kernel_rfl) (by kernel_rfl) (by exact fun _ _ _ h => h) (HSS.out _ _ HQ.out) (fun _ => trivial) (Or.inl ⟨by rfl, ?_⟩) ?_
          rotate_left
          · (intro w' hSw; (try dsimp only at hSw); go_simp; (try with_reducible rfl))
          (try simp only [Act.put, List.setIfInBounds_toArray, List.set_cons_zero, List.set_cons_succ, List.getElem_toArray, List.getElem_cons_zero, List.getElem_cons_succ])
          refine wpTill.step (i := 13) (by kernel_rfl) (by rfl) (fun K' hK => ?_)
          replace hK := Lib.hid hK
          go_simp
          go_at_call 46
          ((with_reducible refine (HFR.out _ _ _ HQ.out.r4.sl).mono ?_); rintro _ wF ⟨rfl, hbF⟩)
          replace HQ := Lib.hid (HQ.out.below hbF)
          clear hbF
          refine hK.out _ _ (HSS.out _ _ HQ.out) (fun _ => trivial) ?_
          clear hK K'
          (try simp only [Act.put, List.setIfInBounds_toArray, List.set_cons_zero, List.set_cons_succ, List.getElem_toArray, List.getElem_cons_zero, List.getElem_cons_succ])
          refine wpTill.step (i := 15) (by kernel_rfl) (by rfl) (fun K' hK => ?_)
          replace hK := Lib.hid hK
          go_simp
          go_at_call 46
          ((with_reducible refine (HFR.out _ _ _ HQ.out.sw.sl).mono ?_); rintro _ wG ⟨rfl, hbG⟩)
          replace HQ := Lib.hid (HQ.out.below hbG)
          clear hbG
          refine hK.out _ _ (HSS.out _ _ HQ.out) (fun _ => trivial) ?_
          clear hK K'
          (try simp only [Act.put, List.setIfInBounds_toArray, List.set_cons_zero, List.set_cons_succ, List.getElem_toArray, List.getElem_cons_zero, List.getElem_cons_succ])
          refine wpTill.take (i := 16) (v := ?_) (by rfl) rfl (by kernel_rfl) (by kernel_rfl) (by kernel_rfl) (by exact fun _ _ _ h => h) (HSS.out _ _ HQ.out) (fun _ => trivial) (Or.inl ⟨by rfl, ?_⟩) ?_
          rotate_left
          · (intro w' hSw; (try dsimp only at hSw); go_simp; (try with_reducible rfl))
          (try simp only [Act.put, List.setIfInBounds_toArray, List.set_cons_zero, List.set_cons_succ, List.getElem_toArray, List.getElem_cons_zero, List.getElem_cons_succ])
          refine wpTill.take (i := 17) (v := ?_) (by rfl) rfl (by kernel_rfl) (by kernel_rfl) (by kernel_rfl) (by exact fun _ _ _ h => h) (HSS.out _ _ HQ.out) (fun _ => trivial) (Or.inl ⟨by rfl, ?_⟩) ?_
          rotate_left
          · (intro w' hSw; (try dsimp only at hSw); go_simp; (try with_reducible rfl))
          (try simp only [Act.put, List.setIfInBounds_toArray, List.set_cons_zero, List.set_cons_succ, List.getElem_toArray, List.getElem_cons_zero, List.getElem_cons_succ])
          refine wpTill.take (i := 18) (v := ?_) (by rfl) rfl (by kernel_rfl) (by kernel_rfl) (by kernel_rfl) (by exact fun _ _ _ h => h) (HSS.out _ _ HQ.out) (fun _ => trivial) (Or.inl ⟨by rfl, ?_⟩) ?_
          rotate_left
          · (intro w' hSw; (try dsimp only at hSw); go_simp; (try with_reducible rfl))
          (try simp only [Act.put, List.setIfInBounds_toArray, List.set_cons_zero, List.set_cons_succ, List.getElem_toArray, List.getElem_cons_zero, List.getElem_cons_succ])
          refine wpTill.take (i := 19) (v := ?_) (by rfl) rfl (by kernel_rfl) (by kernel_rfl) (by kernel_rfl) (by exact fun _ _ _ h => h) (HSS.out _ _ HQ.out) (fun _ => trivial) (Or.inl ⟨by rfl, ?_⟩) ?_
          rotate_left
          · (intro w' hSw; (try dsimp only at hSw); go_simp; (try with_reducible rfl))
          (try simp only [Act.put, List.setIfInBounds_toArray, List.set_cons_zero, List.set_cons_succ, List.getElem_toArray, List.getElem_cons_zero, List.getElem_cons_succ])
          refine wpTill.take (i := 20) (v := ?_) (by rfl) rfl (by kernel_rfl) (by kernel_rfl) (by kernel_rfl) (by exact fun _ _ _ h => h) (HSS.out _ _ HQ.out) (fun _ => trivial) (Or.inl ⟨by rfl, ?_⟩) ?_
          rotate_left
          · (intro w' hSw; (try dsimp only at hSw); go_simp; (try with_reducible rfl))
          (try simp only [Act.put, List.setIfInBounds_toArray, List.set_cons_zero, List.set_cons_succ, List.getElem_toArray, List.getElem_cons_zero, List.getElem_cons_succ])
          refine wpTill.take (i := 21) (v := ?_) (by rfl) rfl (by kernel_rfl) (by kernel_rfl) (by kernel_rfl) (by exact fun _ _ _ h => h) (HSS.out _ _ HQ.out) (fun _ => trivial) (Or.inl ⟨by rfl, ?_⟩) ?_
          rotate_left
          · (intro w' hSw; (try dsimp only at hSw); go_simp; (try with_reducible rfl))
          (try simp only [Act.put, List.setIfInBounds_toArray, List.set_cons_zero, List.set_cons_succ, List.getElem_toArray, List.getElem_cons_zero, List.getElem_cons_succ])
          refine wpTill.take (i := 22) (v := ?_) (by rfl) rfl (by kernel_rfl) (by kernel_rfl) (by kernel_rfl) (by exact fun _ _ _ h => h) (HSS.out _ _ HQ.out) (fun _ => trivial) (Or.inl ⟨by rfl, ?_⟩) ?_
          rotate_left
          · (intro w' hSw; (try dsimp only at hSw); go_simp; (try with_reducible rfl))
          (try simp only [Act.put, List.setIfInBounds_toArray, List.set_cons_zero, List.set_cons_succ, List.getElem_toArray, List.getElem_cons_zero, List.getElem_cons_succ])
          refine wpTill.take (i := 23) (v := ?_) (by rfl) rfl (by kernel_rfl) (by kernel_rfl) (by kernel_rfl) (by exact fun _ _ _ h => h) (HSS.out _ _ HQ.out) (fun _ => trivial) (Or.inl ⟨by rfl, ?_⟩) ?_
          rotate_left
          · (intro w' hSw; (try dsimp only at hSw); go_simp; (try with_reducible rfl))
          (try simp only [Act.put, List.setIfInBounds_toArray, List.set_cons_zero, List.set_cons_succ, List.getElem_toArray, List.getElem_cons_zero, List.getElem_cons_succ])
          refine wpTill.take (i := 24) (v := ?_) (by rfl) rfl (by kernel_rfl) (by kernel_rfl) (by kernel_rfl) (by exact fun _ _ _ h => h) (HSS.out _ _ HQ.out) (fun _ => trivial) (Or.inl ⟨by rfl, ?_⟩) ?_
          rotate_left
          · (intro w' hSw; (try dsimp only at hSw); go_simp; (try with_reducible rfl))
          (try simp only [Act.put, List.setIfInBounds_toArray, List.set_cons_zero, List.set_cons_succ, List.getElem_toArray, List.getElem_cons_zero, List.getElem_cons_succ])
          refine wpTill.take (i := 25) (v := ?_) (by rfl) rfl (by kernel_rfl) (by kernel_rfl) (by kernel_rfl) (by exact fun _ _ _ h => h) (HSS.out _ _ HQ.out) (fun _ => trivial) (Or.inl ⟨by rfl, ?_⟩) ?_
          rotate_left
          · (intro w' hSw; (try dsimp only at hSw); go_simp; (try with_reducible rfl))
          (try simp only [Act.put, List.setIfInBounds_toArray, List.set_cons_zero, List.set_cons_succ, List.getElem_toArray, List.getElem_cons_zero, List.getElem_cons_succ])
          refine wpTill.take (i := 26) (v := ?_) (by rfl) rfl (by kernel_rfl) (by kernel_rfl) (by kernel_rfl) (by exact fun _ _ _ h => h) (HSS.out _ _ HQ.out) (fun _ => trivial) (Or.inl ⟨by rfl, ?_⟩) ?_
          rotate_left
          · (intro w' hSw; (try dsimp only at hSw); go_simp; (try with_reducible rfl))
          (try simp only [Act.put, List.setIfInBounds_toArray, List.set_cons_zero, List.set_cons_succ, List.getElem_toArray, List.getElem_cons_zero, List.getElem_cons_succ])
          refine wpTill.take (i := 27) (v := ?_) (by rfl) rfl (by kernel_rfl) (by kernel_rfl) (by kernel_rfl) (by exact fun _ _ _ h => h) (HSS.out _ _ HQ.out) (fun _ => trivial) (Or.inl ⟨by rfl, ?_⟩) ?_
          rotate_left
          · (intro w' hSw; (try dsimp only at hSw); go_simp; (try with_reducible rfl))
          (try simp only [Act.put, List.setIfInBounds_toArray, List.set_cons_zero, List.set_cons_succ, List.getElem_toArray, List.getElem_cons_zero, List.getElem_cons_succ])
          refine wpTill.take (i := 28) (v := ?_) (by rfl) rfl (by kernel_rfl) (by kernel_rfl) (by kernel_rfl) (by exact fun _ _ _ h => h) (HSS.out _ _ HQ.out) (fun _ => trivial) (Or.inl ⟨by rfl, ?_⟩) ?_
          rotate_left
          · (intro w' hSw; (try dsimp only at hSw); go_simp; (try with_reducible rfl))
          (try simp only [Act.put, List.setIfInBounds_toArray, List.set_cons_zero, List.set_cons_succ, List.getElem_toArray, List.getElem_cons_zero, List.getElem_cons_succ])
          refine wpTill.take (i := 29) (v := ?_) (by rfl) rfl (by kernel_rfl) (by kernel_rfl) (by kernel_rfl) (by exact fun _ _ _ h => h) (HSS.out _ _ HQ.out) (fun _ => trivial) (Or.inl ⟨by rfl, ?_⟩) ?_
          rotate_left
          · (intro w' hSw; (try dsimp only at hSw); go_simp; (try with_reducible rfl))
          (try simp only [Act.put, List.setIfInBounds_toArray, List.set_cons_zero, List.set_cons_succ, List.getElem_toArray, List.getElem_cons_zero, List.getElem_cons_succ])
          refine wpTill.stop (by kernel_rfl) ?_ _
          go_wp2_with (fail)
          go_ret
          exact ⟨rfl, HQ.out.base⟩
        · have hge : 0 ≤ (j : Int) - 1 := by omega
          obtain ⟨r, hr⟩ : ∃ r, rs[j - 1]? = some r := ⟨_, List.getElem?_eq_getElem (by omega)⟩
          have hmem := List.mem_of_getElem? hr
          have hpq := HRI.out.past hmem
          have hmr : mergeF (stock1 u tq) 0 r = (stock1 u q, 0) := by
            rcases HTQ.out with ⟨h1, h2⟩ | ⟨_, h2⟩
            · have hrq : r = q := by
                rcases HRI.out.q_ with ⟨h3, _⟩ | ⟨ps, h3, _⟩
                · rw [h3] at hmem; cases hmem
                · rw [h3] at hr h1
                  rw [List.length_append] at h1
                  simp only [List.length_cons, List.length_nil] at h1
                  rw [List.getElem?_append_right (by omega)] at hr
                  have : j - 1 - ps.length = 0 := by omega
                  rw [this] at hr
                  simpa using hr.symm
              rw [h2, hrq]
              obtain ⟨g, _, g2⟩ := HRI.out.ok
              exact merge_up HU.out.1 HU.out.2 rfl HR30.out (rep_past (a := []) List.nil_prefix (replayF_of (ts := textsOf []) (l := ⟨3, u, 0, false⟩) HR30.out) g2)
            · rw [h2]
              obtain ⟨g, _, g2⟩ := HRI.out.all r hmem
              have hrr := replayF_right (ts := textsOf g) (l := ⟨3, u, 0, false⟩) (by rw [g2])
              have hr3 := (replayGo_yes hrr.1 (by rw [← hrr.2, g2] : (replayGo (textsOf g) ⟨3, u, 0, false⟩).2 = true)).right
              rw [← hrr.2, g2] at hr3
              exact merge_down HU.out.1 HU.out.2 HRI.out.right.2.1 hr3 hpq
          have HMG := Lib.hid (fun W' (hsl : Sl W' 4 A3 1 [tq.cells]) => Merge_any u 0 A3 1 c3 [tq] 0 r.device r.units r.spent r.back (stock1 u q, 0) hmr W' hsl)
          obtain ⟨br, or_, rfl, hbr, hcr⟩ := (HQ.out.r5.own.sl').2 (j - 1) r.cells (by rw [List.getElem?_map, hr]; rfl)
          have HRW : Hid (∀ w' Rs', Sep w w' (boxR g14 #[.int .i64 u, .int .i64 0, .slice A3 1 c3] :: slR 4 A3 1 [tq.cells] :: boxR g7 #[.int .i64 u, .int .i64 0, .slice A2 1 c2] :: slR 4 A2 1 [q.cells] :: ownR 24 4 (.slice (some ⟨br, or_, none⟩) rs.length c1) rs.length (rs.map LoanV.cells) :: Rs') → (w'.cell? ⟨g14, 0, none⟩ = some (.int .i64 u) ∧ w'.cell? ⟨g14, 1, none⟩ = some (.int .i64 0) ∧ w'.cell? ⟨g14, 2, none⟩ = some (.slice A3 1 c3)) ∧ w'.cell? ⟨br, or_ + (j - 1) * 4, none⟩ = some (.int .i64 r.device) ∧ w'.cell? ⟨br, or_ + (j - 1) * 4 + 1, none⟩ = some (.int .i64 r.units) ∧ w'.cell? ⟨br, or_ + (j - 1) * 4 + 2, none⟩ = some (.int .i64 r.spent) ∧ w'.cell? ⟨br, or_ + (j - 1) * 4 + 3, none⟩ = some (.bool r.back)) := Lib.hid fun w' Rs' h => by
            obtain ⟨b9, o9, hA9, _, hc9⟩ := (h.r5.own.sl').2 (j - 1) r.cells (by rw [List.getElem?_map, hr]; rfl)
            injection hA9 with hA9
            injection hA9 with e1 e2
            subst e1 e2
            exact ⟨⟨h.loc.cell 0, h.loc.cell 1, h.loc.cell 2⟩, hc9 0 _ rfl, hc9 1 _ rfl, hc9 2 _ rfl, hc9 3 _ rfl⟩
          have hjn : (j : Int) - 1 < (rs.length : Int) := by omega
          have htn : ((j : Int) - 1).toNat = j - 1 := by omega
          have hwj : IntKind.i64.wrap ((j : Int) - 1 - 1) = (j : Int) - 1 - 1 := IntWalk.i64_in _ (by have := HRL.out; have := HN.out; omega)
          have HJ := Lib.hid (And.intro hj hj0)
          clear hr hmem hpq hmr hbr hcr
          go_upto_region 29 with (fail)
          refine wpTill.startN 11 (S := fun _ => True) (T := fun w' => (w'.cell? ⟨g14, 0, none⟩ = some (.int .i64 u) ∧ w'.cell? ⟨g14, 1, none⟩ = some (.int .i64 0) ∧ w'.cell? ⟨g14, 2, none⟩ = some (.slice A3 1 c3)) ∧ w'.cell? ⟨br, or_ + (j - 1) * 4, none⟩ = some (.int .i64 r.device) ∧ w'.cell? ⟨br, or_ + (j - 1) * 4 + 1, none⟩ = some (.int .i64 r.units) ∧ w'.cell? ⟨br, or_ + (j - 1) * 4 + 2, none⟩ = some (.int .i64 r.spent) ∧ w'.cell? ⟨br, or_ + (j - 1) * 4 + 3, none⟩ = some (.bool r.back)) (m := 9) rfl (by kernel_rfl) ?_
          replace HQ := Lib.hid HQ.out.drew
          generalize wp.drew = wz at *
          refine wpTill.take (i := 1) (v := ?_) (by rfl) rfl (by kernel_rfl) (by kernel_rfl) (by kernel_rfl) (by exact fun _ _ _ h => h) trivial (fun _ => HRW.out _ _ HQ.out) (Or.inl ⟨by rfl, ?_⟩) ?_
          rotate_left
          · (intro w' hSw; (try dsimp only at hSw); go_simp; (try with_reducible rfl))
          (try simp only [Act.put, List.setIfInBounds_toArray, List.set_cons_zero, List.set_cons_succ, List.getElem_toArray, List.getElem_cons_zero, List.getElem_cons_succ])
          refine wpTill.take (i := 2) (v := ?_) (by rfl) rfl (by kernel_rfl) (by kernel_rfl) (by kernel_rfl) (by exact fun _ _ _ h => h) trivial (fun _ => HRW.out _ _ HQ.out) (Or.inl ⟨by rfl, ?_⟩) ?_
          rotate_left
          · (intro w' hSw; (try dsimp only at hSw); go_simp; (try with_reducible rfl))
          (try simp only [Act.put, List.setIfInBounds_toArray, List.set_cons_zero, List.set_cons_succ, List.getElem_toArray, List.getElem_cons_zero, List.getElem_cons_succ])
          refine wpTill.take (i := 3) (v := ?_) (by rfl) rfl (by kernel_rfl) (by kernel_rfl) (by kernel_rfl) (by exact fun _ _ _ h => h) trivial (fun _ => HRW.out _ _ HQ.out) (Or.inl ⟨by rfl, ?_⟩) ?_
          rotate_left
          · (intro w' hSw; (try dsimp only at hSw); go_simp; (try with_reducible rfl))
          (try simp only [Act.put, List.setIfInBounds_toArray, List.set_cons_zero, List.set_cons_succ, List.getElem_toArray, List.getElem_cons_zero, List.getElem_cons_succ])
          refine wpTill.takeT (i := 0) (v := ?_) (by rfl) rfl (by kernel_rfl) (by kernel_rfl) (by kernel_rfl) (by exact fun _ _ _ h => h) trivial (HRW.out _ _ HQ.out) rfl (by kernel_rfl) (Or.inl ⟨by rfl, ?_⟩) ?_
          rotate_left
          · (intro w' hSw; (try dsimp only at hSw); go_simp; (try with_reducible rfl))
          (try simp only [Act.put, List.setIfInBounds_toArray, List.set_cons_zero, List.set_cons_succ, List.getElem_toArray, List.getElem_cons_zero, List.getElem_cons_succ])
          refine wpTill.takeT (i := 4) (v := ?_) (by rfl) rfl (by kernel_rfl) (by kernel_rfl) (by kernel_rfl) (by exact fun _ _ _ h => h) trivial (HRW.out _ _ HQ.out) rfl (by kernel_rfl) (Or.inl ⟨by rfl, ?_⟩) ?_
          rotate_left
          · (intro w' hSw; (try dsimp only at hSw); go_simp; (try with_reducible rfl))
          (try simp only [Act.put, List.setIfInBounds_toArray, List.set_cons_zero, List.set_cons_succ, List.getElem_toArray, List.getElem_cons_zero, List.getElem_cons_succ])
          refine wpTill.step (i := 5) (by kernel_rfl) (by rfl) (fun K' hK => ?_)
          replace hK := Lib.hid hK
          go_simp
          go_at_call 45
          ((with_reducible refine (HMG.out _ HQ.out.sw.sl).mono ?_); rintro _ wM ⟨A5, c5, rfl, hsl5, hb5⟩)
          have hsl6 : SlF wz wM 4 A5 1 [q.cells] := hsl5
          have HQ5 := Lib.hid (HQ.out.slNew hb5 hsl6)
          have HQ6 := Lib.hid (HQ.out.below hb5)
          clear hsl5 hsl6 hb5 HMG
          simp only [List.length_cons, List.length_nil, Nat.zero_add]
          refine hK.out _ _ trivial (fun _ => HRW.out _ _ HQ6.out) ?_
          clear hK K'
          (try simp only [Act.put, List.setIfInBounds_toArray, List.set_cons_zero, List.set_cons_succ, List.getElem_toArray, List.getElem_cons_zero, List.getElem_cons_succ])
          refine wpTill.take (i := 6) (v := ?_) (by rfl) rfl (by kernel_rfl) (by kernel_rfl) (by kernel_rfl) (by exact fun _ _ _ h => h) trivial (fun _ => HRW.out _ _ HQ6.out) (Or.inl ⟨by rfl, ?_⟩) ?_
          rotate_left
          · (intro w' hSw; (try dsimp only at hSw); go_simp; (try with_reducible rfl))
          (try simp only [Act.put, List.setIfInBounds_toArray, List.set_cons_zero, List.set_cons_succ, List.getElem_toArray, List.getElem_cons_zero, List.getElem_cons_succ])
          refine wpTill.take (i := 7) (v := ?_) (by rfl) rfl (by kernel_rfl) (by kernel_rfl) (by kernel_rfl) (by exact fun _ _ _ h => h) trivial (fun _ => HRW.out _ _ HQ6.out) (Or.inl ⟨by rfl, ?_⟩) ?_
          rotate_left
          · (intro w' hSw; (try dsimp only at hSw); go_simp; (try with_reducible rfl))
          (try simp only [Act.put, List.setIfInBounds_toArray, List.set_cons_zero, List.set_cons_succ, List.getElem_toArray, List.getElem_cons_zero, List.getElem_cons_succ])
          refine wpTill.take (i := 8) (v := ?_) (by rfl) rfl (by kernel_rfl) (by kernel_rfl) (by kernel_rfl) (by exact fun _ _ _ h => h) trivial (fun _ => HRW.out _ _ HQ6.out) (Or.inl ⟨by rfl, ?_⟩) ?_
          rotate_left
          · (intro w' hSw; (try dsimp only at hSw); go_simp; (try with_reducible rfl))
          (try simp only [Act.put, List.setIfInBounds_toArray, List.set_cons_zero, List.set_cons_succ, List.getElem_toArray, List.getElem_cons_zero, List.getElem_cons_succ])
          obtain ⟨zE, kE, fE⟩ := HQ5.out.sw.loc
          refine wpTill.step (i := 9) (by kernel_rfl) (by rfl) (fun K' hK => ?_)
          replace hK := Lib.hid hK
          go_simp
          have HEND : Hid (Sep w (((wM.setCell ⟨g14, 0, none⟩ (.int .i64 u)).setCell ⟨g14, 1, none⟩ (.int .i64 0)).setCell ⟨g14, 2, none⟩ (.slice A5 1 c5)) (boxR g14 #[.int .i64 u, .int .i64 0, .slice A5 1 c5] :: slR 4 A5 1 [q.cells] :: boxR g7 #[.int .i64 u, .int .i64 0, .slice A2 1 c2] :: slR 4 A2 1 [q.cells] :: ownR 24 4 (.slice (some ⟨br, or_, none⟩) rs.length c1) rs.length (rs.map LoanV.cells) :: [])) := Lib.hid (by
            have h := ((HQ5.out.sw.set_ 0 (.int .i64 u)).set_ 1 (.int .i64 0)).set_ 2 (.slice A5 1 c5)
            have h2 := h.r3.drop
            simpa using h2)
          refine hK.out _ _ trivial (fun h => nomatch (show true = false from h)) ?_
          clear hK K'
          (try simp only [Act.put, List.setIfInBounds_toArray, List.set_cons_zero, List.set_cons_succ, List.getElem_toArray, List.getElem_cons_zero, List.getElem_cons_succ])
          refine wpTill.take (i := 10) (v := ?_) (by rfl) rfl (by kernel_rfl) (by kernel_rfl) (by kernel_rfl) (by exact fun _ _ _ h => h) trivial (fun h => nomatch (show true = false from h)) (Or.inl ⟨by rfl, ?_⟩) ?_
          rotate_left
          · (intro w' hSw; (try dsimp only at hSw); go_simp; (try with_reducible rfl))
          (try simp only [Act.put, List.setIfInBounds_toArray, List.set_cons_zero, List.set_cons_succ, List.getElem_toArray, List.getElem_cons_zero, List.getElem_cons_succ])
          refine wpTill.stop (by kernel_rfl) ?_ _
          go_wp2_with (fail)
          go_roundw
          case rel =>
            exact ⟨j - 1, q, A5, c5, by have := HJ.out; omega, rfl, by have := HJ.out; rw [show ((j - 1 : Nat) : Int) = (j : Int) - 1 by omega], .inr ⟨by have := HJ.out; omega, rfl⟩, HEND.out⟩
          case measure => have := HJ.out; simp [Go.RowKit.intOf]; omega
end Go.Proofs.YtjncmlglhegnaaaGreatDoor
