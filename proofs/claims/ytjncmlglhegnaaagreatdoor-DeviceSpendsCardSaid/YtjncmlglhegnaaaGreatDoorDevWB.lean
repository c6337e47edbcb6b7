/- kerbsidelaw49: what a World keeps from act to act, in plain Lean. -/
/- kerbsidelaw49: writing keeps what a World keeps, in plain Lean. -/
/- kerbsidelaw49: an act keeps what a World keeps; do, whole. -/
/- kerbsidelaw49: a World's beginning keeps what a World keeps. -/
import Derived.Test.YtjncmlglhegnaaaGreatDoorDiskR0
import Derived.Test.YtjncmlglhegnaaaGreatDoorJrnL
namespace Go.Proofs.YtjncmlglhegnaaaGreatDoor
open Go.RowKit Go.Sort Go.Lib

abbrev encs (l : List EntV) : List (List UInt8) := l.map fun e => (encodeF e).1
theorem encE_tight {x : EntV} (h : RightE x) : (encE x).length ≤ x.text.length + 300 := by
  have h1 : ∀ n : Int, 0 ≤ n → n ≤ 100000 → (encN n).length ≤ 21 := fun n h0 h1 => by unfold encN; rw [if_neg (by omega)]; exact encI_len ⟨by omega, by omega⟩
  have a1 := h1 x.dev h.d0 (by have := h.d1; omega)
  have a2 := h1 x.no h.n0 (by have := h.n1; omega)
  have a3 := h1 x.day h.y0 h.y1
  have a4 := encT_len (s := x.text) (by have := h.txt; omega)
  have a5 := flat_le encI 21 x.seen fun n hn => encI_len (by have := h.rng n hn; exact ⟨by omega, by omega⟩)
  have a6 := h.len
  have a7 := itoa_length (n := (x.seen.length : Int)) (by omega) (by omega)
  have a8 : (encIs x.seen).length ≤ 200 := by
    unfold encIs
    simp
    simp only [List.length_flatten, List.map_map, Function.comp_def] at a5 ⊢
    omega
  unfold encE
  simp only [List.length_append]
  omega
theorem encodeF_rightD {x : EntV} (h : RightE x) : (encodeF x).1 = encE x := by unfold encodeF; rw [if_pos (rightB_true.2 h)]
theorem decodeF_of {x : EntV} (h : RightE x) : decodeF (encodeF x).1 = (x, true) := by
  rw [encodeF_rightD h]
  unfold decodeF
  rw [if_pos (goodD_enc h), decE_enc h]
theorem decAll_encs : ∀ {l : List EntV}, (∀ e ∈ l, RightE e) → decAll (encs l) = some l
  | [], _ => rfl
  | e :: l, h => by
    have h1 := decodeF_of (h e (by simp))
    have h2 := decAll_encs (l := l) fun x hx => h x (by simp [hx])
    show (if (decodeF (encodeF e).1).2 = true then (decAll (encs l)).map ((decodeF (encodeF e).1).1 :: ·) else none) = _
    rw [h1, h2]
    rfl
theorem checkF_right {l : List EntV} (h : checkF l = 0) : ∀ e ∈ l, RightE e := fun e he => by
  obtain ⟨i, hi, rfl⟩ := List.getElem_of_mem he
  exact (check_at h (List.getElem?_eq_getElem hi)).right
theorem prefix_encs {l : List EntV} {r : List (List UInt8)} (h : r <+: encs l) : r = encs (l.take r.length) := by
  have h1 := List.prefix_iff_eq_take.1 h
  unfold encs at h1 ⊢
  rw [List.map_take]
  exact h1
theorem encs_len (l : List EntV) : (encs l).length = l.length := List.length_map ..
/-- what a World's lists keep -/
structure WC (i : Nat) (d : DV) (number units : Int) (handed durable last torn : List EntV) (spent : Int) (jo : Option JV) : Prop where
  file : LastI 0 i d (encs (last ++ torn)) (encs durable) jo
  chain : checkF (last ++ torn) = 0
  dev : ∀ e ∈ last ++ torn, e.dev = number
  text : ∀ e ∈ last ++ torn, e.text.length ≤ 3000
  rep : (replayF (textsOf (last ++ torn)) ⟨number, units, 0, false⟩).2 = true
  dur : durable <+: last
  hand : handed <+: durable
  n0 : 0 ≤ number
  n7 : number < 8
  u1 : 1 ≤ units
  u2 : units ≤ 1000000
  s0 : 0 ≤ spent
  sp : spent ≤ (replayF (textsOf durable) ⟨number, units, 0, false⟩).1.spent
  seen : ∀ e ∈ last ++ torn, e.seen = zed8.set number.toNat e.no
/-- .. and its device -/
structure WD (number units : Int) (last : List EntV) (x : DevV) : Prop where
  ents : x.ents = last
  num : x.number = number
  loan : x.loan = (replayF (textsOf last) ⟨number, units, 0, false⟩).1
  recs : x.j.recs = encs last
structure WI (i : Nat) (v : WorV) : Prop where
  core : WC i v.d v.number v.units v.handed v.durable v.last v.torn v.spent (v.x.map (·.j))
  dev : ∀ x, v.x = some x → WD v.number v.units v.last x
theorem textsOf_app (a b : List EntV) : textsOf (a ++ b) = textsOf a ++ textsOf b := by unfold textsOf; rw [List.map_append]
theorem rep_pre {a b : List EntV} {l : LoanV} (h : a <+: b) (hr : (replayF (textsOf b) l).2 = true) : (replayF (textsOf a) l).2 = true ∧ Later (replayF (textsOf a) l).1 (replayF (textsOf b) l).1 := by
  have h1 := replayF_take (ts := textsOf b) (l := l) a.length hr
  have e : (textsOf b).take a.length = textsOf a := by
    unfold textsOf
    rw [← List.map_take, ← List.prefix_iff_eq_take.1 h]
  rw [e] at h1
  exact ⟨h1.1, h1.2.2⟩
theorem pre_pre {α : Type} {a b c : List α} (h1 : a <+: c) (h2 : b <+: c) (hl : a.length ≤ b.length) : a <+: b := List.prefix_of_prefix_length_le h1 h2 hl
namespace WC
variable {i : Nat} {d d' : DV} {number units : Int} {handed durable last torn : List EntV} {spent : Int} {jo jo' : Option JV}
theorem withFile (h : WC i d number units handed durable last torn spent jo) {k : Nat} (hf : LastI 0 k d' (encs (last ++ torn)) (encs durable) jo') : WC k d' number units handed durable last torn spent jo' :=
  ⟨hf, h.chain, h.dev, h.text, h.rep, h.dur, h.hand, h.n0, h.n7, h.u1, h.u2, h.s0, h.sp, h.seen⟩
theorem lose (h : WC i d number units handed durable last torn spent jo) (n : Int) (hn : n ≤ 9223372036854775807) : WC i (LoseF d n) number units handed durable last torn spent jo := h.withFile (h.file.lose n hn)
theorem arm (h : WC i d number units handed durable last torn spent jo) (n : Int) (hn : n ≤ 9223372036854775807) (keep : List Int) (hk : keep.length ≤ 40) : WC i (ArmF d n keep) number units handed durable last torn spent jo := h.withFile (h.file.arm n hn keep (by omega))
theorem crash (h : WC i d number units handed durable last torn spent jo) (keep : List Int) : WC i (crashF d keep) number units handed durable last torn spent none := h.withFile (h.file.crash keep)
theorem start (h : WC i d number units handed durable last torn spent jo) : WC i (StartF d) number units handed durable last torn spent none := h.withFile h.file.start
theorem up (h : WC i d number units handed durable last torn spent jo) : WC (i + 1) d number units handed durable last torn spent jo := h.withFile h.file.up
theorem right (h : WC i d number units handed durable last torn spent jo) : ∀ e ∈ last ++ torn, RightE e := checkF_right h.chain
theorem len (h : WC i d number units handed durable last torn spent jo) : last.length + torn.length ≤ i := by
  have := h.file.len
  rw [encs_len, List.length_append] at this
  exact this
theorem loanRight (h : WC i d number units handed durable last torn spent jo) : LoanV.right ⟨number, units, 0, false⟩ = true := mk_right ⟨h.n0, h.n7, h.u1, by have := h.u2; show units ≤ _; omega, Int.le_refl _, by have := h.u1; show (0 : Int) ≤ units; omega⟩
/-- Open -/
theorem open_ (h : WC i d number units handed durable last torn spent jo) (hi : i ≤ 300) :
    (∃ d' x, openD d number ⟨number, units, 0, false⟩ = (d', some x, 0) ∧ x.ents <+: last ++ torn ∧ durable <+: x.ents ∧ WD number units x.ents x ∧ WC i d' number units handed x.ents x.ents [] spent (some x.j)) ∨
    (∃ d' e, openD d number ⟨number, units, 0, false⟩ = (d', none, e) ∧ (e = 8 ∨ e = 9) ∧ WC i d' number units handed durable last torn spent none ∧ (d.armed = 0 → d.lost = 0 → d.down = true)) := by
  have hlr := h.loanRight
  have hret : returnF ⟨number, units, 0, false⟩ = (⟨number, units, 0, true⟩, 0) := by
    unfold returnF
    rw [if_neg (by rw [hlr]; simp), if_neg (by simp)]
  have hc : ¬ (number < 0 ∨ 8 ≤ number ∨ (returnF (⟨number, units, 0, false⟩ : LoanV)).2 ≠ 0 ∨ (⟨number, units, 0, false⟩ : LoanV).device ≠ number ∨ (⟨number, units, 0, false⟩ : LoanV).spent ≠ 0) := by
    rw [hret]
    have := h.n0
    have := h.n7
    simp
    omega
  unfold openD
  rw [if_neg hc]
  rcases h.file.open_ (by decide) (by decide) (by omega) with ⟨d', j', e, h1, h2, h3⟩ | ⟨d', e, e1, h2, h3, h4⟩
  · left
    have hr := prefix_encs h1
    obtain ⟨k, hk⟩ : ∃ k, j'.recs.length = k := ⟨_, rfl⟩
    rw [hk] at hr
    obtain ⟨L, hL⟩ : ∃ L, (last ++ torn).take k = L := ⟨_, rfl⟩
    rw [hL] at hr
    have hLp : L <+: last ++ torn := by rw [← hL]; exact List.take_prefix _ _
    have hck : checkF L = 0 := by rw [← hL]; exact check_take h.chain k
    have hrt := checkF_right hck
    have hdec : decAll j'.recs = some L := by rw [hr]; exact decAll_encs hrt
    have hrp := rep_pre hLp h.rep
    have hall : (L.all fun x => decide (x.dev = number)) = true := by
      rw [List.all_eq_true]
      exact fun x hx => decide_eq_true (h.dev x (hLp.mem hx))
    have hdl : durable.length ≤ L.length := by
      have := h2.length_le
      rw [hr, encs_len, encs_len] at this
      exact this
    have hdL : durable <+: L := pre_pre (h.dur.trans (List.prefix_append _ _)) hLp hdl
    have hdr := rep_pre hdL hrp.1
    refine ⟨d', ⟨number, L, (replayF (textsOf L) ⟨number, units, 0, false⟩).1, j'⟩, ?_, hLp, hdL, ⟨rfl, rfl, rfl, hr⟩, ?_⟩
    · rw [e]
      simp only [hdec]
      rw [if_pos ⟨hck, hall, hrp.1⟩]
    · have hfile : LastI 0 i d' (encs (L ++ [])) (encs L) (some j') := by
        rw [List.append_nil, ← hr]
        exact h3
      exact ⟨hfile, by rw [List.append_nil]; exact hck, fun e he => h.dev e (hLp.mem (by simpa using he)), fun e he => h.text e (hLp.mem (by simpa using he)), by rw [List.append_nil]; exact hrp.1, List.prefix_refl _, h.hand.trans hdL, h.n0, h.n7, h.u1, h.u2, h.s0, Int.le_trans h.sp hdr.2.spent, fun e he => h.seen e (hLp.mem (by simpa using he))⟩
  · right
    refine ⟨d', e, ?_, h2, h.withFile h3, h4⟩
    rw [e1]
end WC
end Go.Proofs.YtjncmlglhegnaaaGreatDoor
namespace Go.Proofs.YtjncmlglhegnaaaGreatDoor
open Go.RowKit Go.Sort Go.Lib

theorem tornF_more {last all : List EntV} {q : EntV × Int} {e : Int} {torn : List EntV} (h : all.length ≠ last.length) : tornF last all q e torn = torn := by unfold tornF; rw [if_neg (fun h' => h h'.1)]
theorem tornF_ok {last all : List EntV} {q : EntV × Int} {e : Int} {torn : List EntV} (h : e ≠ 8) (h' : e ≠ 9) : tornF last all q e torn = torn := by unfold tornF; rw [if_neg (fun g => g.2.1.elim h h')]
theorem tornF_no {last all : List EntV} {q : EntV × Int} {e : Int} {torn : List EntV} (h : q.2 ≠ 0) : tornF last all q e torn = torn := by unfold tornF; rw [if_neg (fun g => h g.2.2)]
theorem tornF_yes {last : List EntV} {q : EntV} {torn : List EntV} : tornF last last (q, 0) 8 torn = [q] := by unfold tornF; rw [if_pos ⟨rfl, .inl rfl, rfl⟩]
theorem nextF_ok {l : List EntV} {number day : Int} {text : List UInt8} {q : EntV} (h : nextF l number day zed8 text = (q, 0)) : checkF (l ++ [q]) = 0 ∧ q.dev = number ∧ q.text = text ∧ q.seen = zed8.set number.toNat q.no := by
  unfold nextF at h
  split at h
  · split at h
    · rename_i hc
      simp only [Prod.mk.injEq] at h
      rw [← h.1]
      exact ⟨hc, rfl, rfl, rfl⟩
    · rename_i hc
      simp only [Prod.mk.injEq] at h
      exact absurd h.2 hc
  · simp at h
namespace WC
variable {i : Nat} {d : DV} {number units : Int} {handed durable last torn : List EntV} {spent : Int} {x : DevV}
theorem devOk (h : WC i d number units handed durable last torn spent (some x.j)) (hx : WD number units last x) (hi : i ≤ 300) : DevOk x := by
  have hl := h.len
  have hj := h.file.jbytes (by omega)
  refine ⟨by rw [hx.ents]; omega, fun v hv => h.right v (List.mem_append_left _ (by rw [← hx.ents]; exact hv)), hj.1, ?_⟩
  have := (h.file.jou x.j rfl).2.2
  omega
/-- put -/
theorem put (h : WC i d number units handed durable last torn spent (some x.j)) (hx : WD number units last x) (hi : i ≤ 300) (day : Int) (text : List UInt8) (htx : text.length ≤ 3000) (hst : (stepL text x.loan).2 = true) :
    ∃ d' x' e, putD d x day zed8 text = (d', x', e) ∧
      ((e ≠ 0 ∧ x'.ents = last ∧ WD number units last x' ∧ WC (i + 1) d' number units handed durable last (tornF last last (nextF last number day zed8 text) e torn) spent (some x'.j)) ∨
       (e = 0 ∧ torn = [] ∧ ∃ q, x'.ents = last ++ [q] ∧ WD number units (last ++ [q]) x' ∧ WC (i + 1) d' number units handed durable (last ++ [q]) [] spent (some x'.j) ∧ x'.loan = (stepL text x.loan).1)) := by
  obtain ⟨xn, ents, loan, j⟩ := x
  obtain ⟨rfl, rfl, hlo, hjr⟩ := hx
  simp only at hlo h hst hjr
  obtain ⟨⟨q, er⟩, hnx⟩ : ∃ r, nextF ents xn day zed8 text = r := ⟨_, rfl⟩
  unfold putD
  simp only
  rw [hnx]
  by_cases her : er = 0
  case neg =>
    rw [if_pos her]
    exact ⟨d, _, er, rfl, .inl ⟨her, rfl, ⟨rfl, rfl, hlo, hjr⟩, by rw [tornF_no her]; exact h.up⟩⟩
  subst her
  obtain ⟨hck, hqd, hqt, hqs⟩ := nextF_ok hnx
  rw [if_neg (by simp)]
  have hqr : RightE q := checkF_right hck q (by simp)
  have hql : (encodeF q).1.length ≤ 3400 := by
    rw [encodeF_rightD hqr]
    have := encE_tight hqr
    rw [hqt] at this
    omega
  obtain ⟨d', j', e, hap, hcase⟩ := h.file.append (by decide) (by decide) hi hql
  have happ : ∀ k : List EntV, encs (k ++ [q]) = encs k ++ [(encodeF q).1] := fun k => by unfold encs; rw [List.map_append]; rfl
  have htex : textsOf (ents ++ [q]) = textsOf ents ++ [text] := by rw [textsOf_app]; unfold textsOf; simp [hqt]
  have hre := rep_pre (List.prefix_append ents torn) h.rep
  have hrep : replayF (textsOf (ents ++ [q])) ⟨xn, units, 0, false⟩ = ((stepL text loan).1, true) := by
    rw [htex]
    have h1 := replayF_right hre.1
    rw [replayF_of h.loanRight, replayGo_app]
    rw [h1.2] at hre hlo
    rw [if_pos hre.1, ← hlo]
    show (if (stepL text loan).2 = true then ((stepL text loan).1, true) else (noLoan, false)) = _
    rw [if_pos hst]
  have hnb : e ≠ 7 → torn = [] := fun he => by
    have hb : j.broken = false := by
      cases hb : j.broken with
      | false => rfl
      | true =>
        exfalso
        unfold appendJ at hap
        rw [if_pos hb] at hap
        simp only [Prod.mk.injEq] at hap
        exact he hap.2.2.symm
    have h1 := ((h.file.jou j rfl).1.whole hb).2.1
    rw [hjr] at h1
    have h2 := congrArg List.length h1
    rw [encs_len, encs_len, List.length_append] at h2
    exact List.length_eq_zero_iff.1 (by omega)
  rcases hcase with ⟨rfl, rfl, rfl⟩ | ⟨rfl, hrec, hL⟩ | ⟨rfl, hrec, hL⟩
  · refine ⟨d', ⟨xn, ents, loan, j'⟩, 7, ?_, .inl ⟨by decide, rfl, ⟨rfl, rfl, hlo, hjr⟩, by rw [tornF_ok (by decide) (by decide)]; exact h.up⟩⟩
    simp only [hap]
    rw [if_pos (by decide)]
  · have ht := hnb (by decide)
    subst ht
    refine ⟨d', ⟨xn, ents ++ [q], (stepL text loan).1, j'⟩, 0, ?_, .inr ⟨rfl, rfl, q, rfl, ⟨rfl, rfl, by rw [hrep], by rw [hrec, hjr, happ]⟩, ?_, rfl⟩⟩
    · simp only [hap]
      rw [if_neg (by simp)]
    · rw [List.append_nil] at hL
      rw [← happ] at hL
      exact ⟨by rw [List.append_nil]; exact hL, by rw [List.append_nil]; exact hck, fun e he => by
          rw [List.append_nil] at he
          rcases List.mem_append.1 he with he | he
          · exact h.dev e (List.mem_append_left _ he)
          · rw [List.mem_singleton.1 he]; exact hqd, fun e he => by
          rw [List.append_nil] at he
          rcases List.mem_append.1 he with he | he
          · exact h.text e (List.mem_append_left _ he)
          · rw [List.mem_singleton.1 he, hqt]; exact htx, by rw [List.append_nil, hrep], h.dur.trans (List.prefix_append _ _), h.hand, h.n0, h.n7, h.u1, h.u2, h.s0, h.sp, fun e he => by
          rw [List.append_nil] at he
          rcases List.mem_append.1 he with he | he
          · exact h.seen e (List.mem_append_left _ he)
          · rw [List.mem_singleton.1 he]; exact hqs⟩
  · have ht := hnb (by decide)
    subst ht
    refine ⟨d', ⟨xn, ents, loan, j'⟩, 8, ?_, .inl ⟨by decide, rfl, ⟨rfl, rfl, hlo, by rw [hrec, hjr]⟩, ?_⟩⟩
    · simp only [hap]
      rw [if_pos (by decide)]
    · rw [tornF_yes]
      rw [List.append_nil] at hL
      rw [← happ] at hL
      exact ⟨hL, hck, fun e he => by
          rcases List.mem_append.1 he with he | he
          · exact h.dev e (List.mem_append_left _ he)
          · rw [List.mem_singleton.1 he]; exact hqd, fun e he => by
          rcases List.mem_append.1 he with he | he
          · exact h.text e (List.mem_append_left _ he)
          · rw [List.mem_singleton.1 he, hqt]; exact htx, by rw [hrep], h.dur, h.hand, h.n0, h.n7, h.u1, h.u2, h.s0, h.sp, fun e he => by
          rcases List.mem_append.1 he with he | he
          · exact h.seen e (List.mem_append_left _ he)
          · rw [List.mem_singleton.1 he]; exact hqs⟩
/-- durably -/
theorem durably (h : WC i d number units handed durable last torn spent (some x.j)) (hx : WD number units last x) (hi : i ≤ 300) (day : Int) (text : List UInt8) (htx : text.length ≤ 3000) (e0 : Int) (h8 : e0 ≠ 8) (h9 : e0 ≠ 9) (hst : e0 = 0 → (stepL text x.loan).2 = true) :
    ∃ d' x' e, durD d x day zed8 text e0 = (d', x', e) ∧
      ((e ≠ 0 ∧ x'.ents = last ∧ WD number units last x' ∧ WC (i + 1) d' number units handed durable last (tornF last last (nextF last number day zed8 text) e torn) spent (some x'.j)) ∨
       (torn = [] ∧ ∃ q, x'.ents = last ++ [q] ∧ WD number units (last ++ [q]) x' ∧
         ((e ≠ 0 ∧ WC (i + 1) d' number units handed durable (last ++ [q]) [] spent (some x'.j)) ∨ (e = 0 ∧ e0 = 0 ∧ x'.loan = (stepL text x.loan).1 ∧ WC (i + 1) d' number units handed (last ++ [q]) (last ++ [q]) [] spent (some x'.j))))) := by
  unfold durD
  by_cases h0 : e0 = 0
  case neg =>
    rw [if_pos h0]
    exact ⟨d, x, e0, rfl, .inl ⟨h0, hx.ents, hx, by rw [tornF_ok h8 h9]; exact h.up⟩⟩
  rw [if_neg (by simp [h0])]
  obtain ⟨d1, x1, e1, hp, hcase⟩ := h.put hx hi day text htx (hst h0)
  rw [hp]
  simp only
  rcases hcase with ⟨he, h1, h2, h3⟩ | ⟨rfl, rfl, q, h1, h2, h3, h4⟩
  · rw [if_pos he]
    exact ⟨d1, x1, e1, rfl, .inl ⟨he, h1, h2, h3⟩⟩
  · rw [if_neg (by simp)]
    obtain ⟨d2, j2, e2, hs, hc⟩ := h3.file.sync (by decide) (by decide)
    rw [hs]
    refine ⟨d2, { x1 with j := j2 }, e2, rfl, .inr ⟨rfl, q, h1, ?_⟩⟩
    have hmon := (rep_pre h3.dur (by have := h3.rep; rwa [List.append_nil] at this)).2
    rcases hc with ⟨rfl, rfl, hr, hL⟩ | ⟨he, hL⟩
    · refine ⟨⟨h2.ents, h2.num, h2.loan, h2.recs⟩, .inr ⟨rfl, h0, h4, ?_⟩⟩
      rw [List.append_nil] at hL
      exact ⟨by rw [List.append_nil]; exact hL, h3.chain, h3.dev, h3.text, h3.rep, List.prefix_refl _, h3.hand.trans h3.dur, h3.n0, h3.n7, h3.u1, h3.u2, h3.s0, Int.le_trans h3.sp hmon.spent, h3.seen⟩
    · have hrec : j2.recs = x1.j.recs := by
        have h5 := congrArg (fun t => t.2.1.recs) hs
        simp only at h5
        rw [← h5]
        unfold syncJ
        split <;> rfl
      exact ⟨⟨h2.ents, h2.num, h2.loan, by rw [hrec]; exact h2.recs⟩, .inl ⟨he, h3.withFile hL⟩⟩
/-- Hand -/
theorem handing (h : WC i d number units handed durable last torn spent (some x.j)) (hx : WD number units last x) :
    ∃ d' x' e l, handD d x = (d', x', e, l) ∧ WD number units last x' ∧
      ((e ≠ 0 ∧ WC i d' number units handed durable last torn spent (some x'.j)) ∨ (e = 0 ∧ WC i d' number units last last last torn spent (some x'.j))) := by
  unfold handD
  obtain ⟨d2, j2, e2, hs, hc⟩ := h.file.sync (by decide) (by decide)
  simp only
  rw [hs]
  simp only
  refine ⟨d2, { x with j := j2 }, e2, _, rfl, ?_⟩
  have hrec : j2.recs = x.j.recs := by
    have h5 := congrArg (fun t => t.2.1.recs) hs
    simp only at h5
    rw [← h5]
    unfold syncJ
    split <;> rfl
  refine ⟨⟨hx.ents, hx.num, hx.loan, by rw [hrec]; exact hx.recs⟩, ?_⟩
  have hmon := (rep_pre (h.dur.trans (List.prefix_append _ torn)) h.rep).2
  rcases hc with ⟨rfl, rfl, hr, hL⟩ | ⟨he, hL⟩
  · refine .inr ⟨rfl, ?_⟩
    have ht : torn = [] := by
      rw [hx.recs] at hr
      have h2 := congrArg List.length hr
      rw [encs_len, encs_len, List.length_append] at h2
      exact List.length_eq_zero_iff.1 (by omega)
    subst ht
    rw [List.append_nil] at hL hmon
    have hm2 := (rep_pre h.dur (by have := h.rep; rwa [List.append_nil] at this)).2
    exact ⟨by rw [List.append_nil]; exact hL, h.chain, h.dev, h.text, h.rep, List.prefix_refl _, List.prefix_refl _, h.n0, h.n7, h.u1, h.u2, h.s0, Int.le_trans h.sp hm2.spent, h.seen⟩
  · exact .inl ⟨he, h.withFile hL⟩
end WC
end Go.Proofs.YtjncmlglhegnaaaGreatDoor
namespace Go.Proofs.YtjncmlglhegnaaaGreatDoor
open Go.RowKit Go.Sort Go.Lib

theorem WC.openAll {i : Nat} {v : WorV} {jo : Option JV} (h : WC i v.d v.number v.units v.handed v.durable v.last v.torn v.spent jo) (hi : i ≤ 300) :
    OkW v ∧ OpenOk v ∧ WI i (openW v) ∧ (openW v).number = v.number ∧ (openW v).units = v.units ∧ (openW v).handed = v.handed ∧ (openW v).spent = v.spent ∧ (openW v).ex = v.ex ∧ (v.d.armed = 0 → v.d.lost = 0 → v.d.down = false → (openW v).x ≠ none) := by
  have hl := h.len
  refine ⟨⟨by omega, by omega⟩, ?_⟩
  unfold OpenOk openW
  rcases h.open_ hi with ⟨d', x, e, h1, h2, h3, h4⟩ | ⟨d', e, e1, h2, h3, h4⟩
  · rw [e]
    simp only
    refine ⟨⟨trivial, h1, h2, ?_, ?_⟩, ⟨h4, fun y hy => ?_⟩, trivial, trivial, trivial, trivial, trivial, fun _ _ _ hn => by cases hn⟩
    · have := h1.length_le
      rw [List.length_append] at this
      omega
    · exact fun u hu => h.right u (h1.mem hu)
    · cases hy; exact h3
  · rw [e1]
    simp only
    refine ⟨h2, ⟨h3, fun y hy => by cases hy⟩, trivial, trivial, trivial, trivial, trivial, fun ha hl hd => ?_⟩
    rw [h4 ha hl] at hd
    cases hd
/-- what an act leaves as it was -/
structure DoR (v v' : WorV) : Prop where
  num : v'.number = v.number
  units : v'.units = v.units
  hand : v.handed <+: v'.handed
  ex : v'.ex = v.ex
theorem DoR.refl (v : WorV) : DoR v v := ⟨rfl, rfl, List.prefix_refl _, rfl⟩
theorem WI.up {i : Nat} {v : WorV} (h : WI i v) : WI (i + 1) v := ⟨h.core.up, h.dev⟩
theorem stepL_free {t : List UInt8} {l : LoanV} (h : resB t = false) : stepL t l = (l, true) := by unfold stepL; rw [if_pos h]
theorem stepL_back {l : LoanV} (h : (returnF l).2 = 0) : (stepL backT l).2 = true := by
  have e1 : resB backT = true := rfl
  unfold stepL
  rw [if_neg (by rw [e1]; simp), if_pos rfl]
  exact decide_eq_true h
theorem spendF_err (l : LoanV) (n : Int) : (spendF l n).2 ≠ 8 ∧ (spendF l n).2 ≠ 9 := by
  unfold spendF
  split
  · simp
  · split
    · simp
    · split <;> simp
theorem returnF_err (l : LoanV) : (returnF l).2 ≠ 8 ∧ (returnF l).2 ≠ 9 := by
  unfold returnF
  split
  · simp
  · split <;> simp
section
variable {w0 w w' : World} {Rs : List Res} {W : Nat} {v : WorV}
def DoP (w0 : World) (Rs : List Res) (W : Nat) (v : WorV) (i : Nat) (e : Ending) (w' : World) : Prop := ∃ v', e = .returned (.tuple #[]) ∧ WI (i + 1) v' ∧ DoR v v' ∧ Sep w0 w' (worR W v' :: Rs)
theorem do_all {i : Nat} (h : Sep w0 w (worR W v :: Rs)) (hE : Env w0.heap.size w0) (hI : WI i v) (hi : i ≤ 200) (a : ActE) (hok : a.ok) (hf : a.few) (hs : Sl w0 1 a.A a.keep.length (a.keep.map fun k => [.int .i64 k])) :
    Calls Tryz.prog 43 #[.pointer (some ⟨W, 0, none⟩), .agg (actX a)] w (DoP w0 Rs W v i) := by
  obtain ⟨hf1, hf2⟩ := hf
  by_cases h4 : a.kind = 4
  · exact (do4_any h a h4 hok.2.2.2).mono fun e w' ⟨h1, h2⟩ => ⟨{ v with d := LoseF v.d a.n }, h1, ⟨(hI.core.lose a.n hok.2.2.2).up, hI.dev⟩, ⟨rfl, rfl, List.prefix_refl _, rfl⟩, h2⟩
  by_cases h5 : a.kind = 5
  · exact (do5_any h a h5 hok.2.2.2 hf2 hs).mono fun e w' ⟨h1, h2⟩ => ⟨{ v with d := ArmF v.d a.n a.keep }, h1, ⟨(hI.core.arm a.n hok.2.2.2 a.keep hf2).up, hI.dev⟩, ⟨rfl, rfl, List.prefix_refl _, rfl⟩, h2⟩
  by_cases h6 : a.kind = 6
  · obtain ⟨g1, g2, g3, g4, g5, g6, _, g8, _⟩ := WC.openAll (v := { v with d := StartF (crashF v.d a.keep) }) ((hI.core.crash a.keep).start) (by omega)
    exact (do6_any h a hE h6 hf2 hs g1 g2).mono fun e w' ⟨h1, h2⟩ => ⟨_, h1, g3.up, ⟨g4, g5, by rw [g6]; exact List.prefix_refl _, g8⟩, h2⟩
  by_cases h7 : a.kind = 7
  · obtain ⟨g1, g2, g3, g4, g5, g6, _, g8, _⟩ := WC.openAll (v := { v with d := StartF v.d }) (hI.core.start) (by omega)
    exact (do7_any h a hE h7 g1 g2).mono fun e w' ⟨h1, h2⟩ => ⟨_, h1, g3.up, ⟨g4, g5, by rw [g6]; exact List.prefix_refl _, g8⟩, h2⟩
  cases hx : v.x with
  | none => exact (doNone_any h a hx h4 h5 h6 h7).mono fun e w' ⟨h1, h2⟩ => ⟨_, h1, hI.up, DoR.refl _, h2⟩
  | some x =>
    have hD := hI.dev x hx
    have hC := hI.core
    rw [hx] at hC
    have hC : WC i v.d v.number v.units v.handed v.durable v.last v.torn v.spent (some x.j) := hC
    have hdo := hC.devOk hD (by omega)
    by_cases h0 : a.kind = 0
    · obtain ⟨d', x', e, hr, hcase⟩ : ∃ d' x' e, writeD v.d x a.day zed8 a.s = (d', x', e) ∧
          ((e ≠ 0 ∧ x'.ents = v.last ∧ WD v.number v.units v.last x' ∧ WC (i + 1) d' v.number v.units v.handed v.durable v.last (tornF v.last v.last (nextF v.last v.number a.day zed8 a.s) e v.torn) v.spent (some x'.j)) ∨
           (e = 0 ∧ v.torn = [] ∧ ∃ q, x'.ents = v.last ++ [q] ∧ WD v.number v.units (v.last ++ [q]) x' ∧ WC (i + 1) d' v.number v.units v.handed v.durable (v.last ++ [q]) [] v.spent (some x'.j) ∧ x'.loan = (stepL a.s x.loan).1)) := by
        unfold writeD
        by_cases hb : resB a.s = true
        · rw [if_pos hb]; exact ⟨_, _, _, rfl, .inl ⟨by decide, hD.ents, hD, by rw [tornF_ok (by decide) (by decide)]; exact hC.up⟩⟩
        · rw [if_neg hb]
          by_cases hl : 3000 < a.s.length
          · rw [if_pos hl]; exact ⟨_, _, _, rfl, .inl ⟨by decide, hD.ents, hD, by rw [tornF_ok (by decide) (by decide)]; exact hC.up⟩⟩
          · rw [if_neg hl]; exact hC.put hD (by omega) a.day a.s (by omega) (by rw [stepL_free (by simpa using hb)])
      have hx' : x'.ents = v.last ∨ ∃ q, x'.ents = v.last ++ [q] := hcase.elim (fun c => .inl c.2.1) fun c => by obtain ⟨_, _, q, hq, _⟩ := c; exact .inr ⟨q, hq⟩
      have hwo : WrittenOk { v with d := (writeD v.d x a.day zed8 a.s).1, x := some (writeD v.d x a.day zed8 a.s).2.1 } (writeD v.d x a.day zed8 a.s).2.1 := by
        rw [hr]
        have hl := hC.len
        rcases hcase with ⟨_, c1, c2, c3⟩ | ⟨_, _, q, c1, c2, c3, _⟩
        · exact ⟨by show v.last <+: x'.ents; rw [c1]; exact List.prefix_refl _, by show x'.ents.length ≤ v.last.length + 1; rw [c1]; omega, by rw [c1]; omega, fun u hu => c3.right u (List.mem_append_left _ (by rw [← c1]; exact hu))⟩
        · exact ⟨by show v.last <+: x'.ents; rw [c1]; exact List.prefix_append _ _, by show x'.ents.length ≤ v.last.length + 1; rw [c1]; simp, by rw [c1]; simp; omega, fun u hu => c3.right u (List.mem_append_left _ (by rw [← c1]; exact hu))⟩
      refine (do0_any h a x hx hE h0 hdo (by omega) hwo).mono fun e' w' ⟨h1, h2⟩ => ⟨writtenW { v with d := (writeD v.d x a.day zed8 a.s).1, x := some (writeD v.d x a.day zed8 a.s).2.1 } (writeD v.d x a.day zed8 a.s).2.1 (writeD v.d x a.day zed8 a.s).2.2 a.day a.s false, h1, ?_, ⟨rfl, rfl, List.prefix_refl _, rfl⟩, h2⟩
      rw [hr]
      rcases hcase with ⟨he, c1, c2, c3⟩ | ⟨rfl, ht, q, c1, c2, c3, _⟩
      · refine ⟨?_, fun y hy => by cases hy; show WD v.number v.units x'.ents x'; rw [c1]; exact c2⟩
        show WC (i + 1) d' v.number v.units v.handed (if e = 0 ∧ false = true then x'.ents else v.durable) x'.ents (tornF v.last x'.ents (nextF x'.ents v.number a.day zed8 a.s) e v.torn) v.spent (some x'.j)
        rw [if_neg (by simp), c1]
        exact c3
      · refine ⟨?_, fun y hy => by cases hy; show WD v.number v.units x'.ents x'; rw [c1]; exact c2⟩
        show WC (i + 1) d' v.number v.units v.handed (if (0 : Int) = 0 ∧ false = true then x'.ents else v.durable) x'.ents (tornF v.last x'.ents (nextF x'.ents v.number a.day zed8 a.s) 0 v.torn) v.spent (some x'.j)
        rw [if_neg (by simp), tornF_ok (by decide) (by decide), ht, c1]
        exact c3
    by_cases h2 : a.kind = 2
    · obtain ⟨d', x', e, hr, hcase⟩ := hC.durably hD (by omega) a.day backT (by decide) (returnF x.loan).2 (returnF_err x.loan).1 (returnF_err x.loan).2 (fun h => stepL_back h)
      have hwo : WrittenOk { v with d := (returnD v.d x a.day zed8).1, x := some (returnD v.d x a.day zed8).2.1 } (returnD v.d x a.day zed8).2.1 := by
        unfold returnD
        rw [hr]
        have hl := hC.len
        rcases hcase with ⟨_, c1, c2, c3⟩ | ⟨_, q, c1, c2, hc⟩
        · exact ⟨by show v.last <+: x'.ents; rw [c1]; exact List.prefix_refl _, by show x'.ents.length ≤ v.last.length + 1; rw [c1]; omega, by rw [c1]; omega, fun u hu => c3.right u (List.mem_append_left _ (by rw [← c1]; exact hu))⟩
        · refine ⟨by show v.last <+: x'.ents; rw [c1]; exact List.prefix_append _ _, by show x'.ents.length ≤ v.last.length + 1; rw [c1]; simp, by rw [c1]; simp; omega, fun u hu => ?_⟩
          rcases hc with ⟨_, c3⟩ | ⟨_, _, _, c3⟩
          · exact c3.right u (List.mem_append_left _ (by rw [← c1]; exact hu))
          · exact c3.right u (List.mem_append_left _ (by rw [← c1]; exact hu))
      refine (do2_any h a x hx hE h2 hdo hwo).mono fun e' w' ⟨h1, hq⟩ => ⟨writtenW { v with d := (returnD v.d x a.day zed8).1, x := some (returnD v.d x a.day zed8).2.1 } (returnD v.d x a.day zed8).2.1 (returnD v.d x a.day zed8).2.2 a.day backT true, h1, ?_, ⟨rfl, rfl, List.prefix_refl _, rfl⟩, hq⟩
      unfold returnD
      rw [hr]
      rcases hcase with ⟨he, c1, c2, c3⟩ | ⟨ht, q, c1, c2, hc⟩
      · refine ⟨?_, fun y hy => by cases hy; show WD v.number v.units x'.ents x'; rw [c1]; exact c2⟩
        show WC (i + 1) d' v.number v.units v.handed (if e = 0 ∧ true = true then x'.ents else v.durable) x'.ents (tornF v.last x'.ents (nextF x'.ents v.number a.day zed8 backT) e v.torn) v.spent (some x'.j)
        rw [if_neg (fun g => he g.1), c1]
        exact c3
      · refine ⟨?_, fun y hy => by cases hy; show WD v.number v.units x'.ents x'; rw [c1]; exact c2⟩
        show WC (i + 1) d' v.number v.units v.handed (if e = 0 ∧ true = true then x'.ents else v.durable) x'.ents (tornF v.last x'.ents (nextF x'.ents v.number a.day zed8 backT) e v.torn) v.spent (some x'.j)
        rw [tornF_more (by rw [c1]; simp), ht]
        rcases hc with ⟨he, c3⟩ | ⟨rfl, _, _, c3⟩
        · rw [if_neg (fun g => he g.1), c1]; exact c3
        · rw [if_pos ⟨rfl, rfl⟩, c1]; exact c3
    have hsl : (spendT a.n).length ≤ 3000 := by
      unfold spendT encN
      split
      · simp
      · have := encI_len (n := a.n) hok.2.2; simp; omega
    by_cases h1 : a.kind = 1
    · obtain ⟨d', x', e, hr, hcase⟩ := hC.durably hD (by omega) a.day (spendT a.n) hsl (spendF x.loan a.n).2 (spendF_err x.loan a.n).1 (spendF_err x.loan a.n).2 (fun h => by rw [stepL_spend (by have := (spendF_yes h).2.1; omega) hok.2.2.2]; exact decide_eq_true h)
      have hwo : WrittenOk { v with d := (spendD v.d x a.day zed8 a.n).1, x := some (spendD v.d x a.day zed8 a.n).2.1 } (spendD v.d x a.day zed8 a.n).2.1 := by
        unfold spendD
        rw [hr]
        have hl := hC.len
        rcases hcase with ⟨_, c1, c2, c3⟩ | ⟨_, q, c1, c2, hc⟩
        · exact ⟨by show v.last <+: x'.ents; rw [c1]; exact List.prefix_refl _, by show x'.ents.length ≤ v.last.length + 1; rw [c1]; omega, by rw [c1]; omega, fun u hu => c3.right u (List.mem_append_left _ (by rw [← c1]; exact hu))⟩
        · refine ⟨by show v.last <+: x'.ents; rw [c1]; exact List.prefix_append _ _, by show x'.ents.length ≤ v.last.length + 1; rw [c1]; simp, by rw [c1]; simp; omega, fun u hu => ?_⟩
          rcases hc with ⟨_, c3⟩ | ⟨_, _, _, c3⟩
          · exact c3.right u (List.mem_append_left _ (by rw [← c1]; exact hu))
          · exact c3.right u (List.mem_append_left _ (by rw [← c1]; exact hu))
      have hsp : e = 0 → 1 ≤ a.n ∧ v.spent + a.n ≤ (replayF (textsOf x'.ents) ⟨v.number, v.units, 0, false⟩).1.spent ∧ v.spent + a.n ≤ 1000000 := fun he => by
        rcases hcase with ⟨g, _⟩ | ⟨_, q, c1, c2, hc⟩
        · exact absurd he g
        · rcases hc with ⟨g, _⟩ | ⟨_, h0', c4, c3⟩
          · exact absurd he g
          · have hy := spendF_yes h0'
            have hm := (rep_pre hC.dur (rep_pre (List.prefix_append _ _) hC.rep).1).2
            have h5 := hC.sp
            rw [c1, ← c2.loan, c4, stepL_spend (by omega) hok.2.2.2]
            have h6 := hm.spent
            rw [← hD.loan] at h6
            have h7 : (spendF x.loan a.n).1.spent = x.loan.spent + a.n := by rw [hy.2.2]
            have h8 := hy.1.most
            have h9 := hy.1.units
            have h10 : x.loan.units = v.units := by
              rw [hD.loan]
              have := rep_pre (List.prefix_append v.last v.torn) hC.rep
              have h11 := replayF_right this.1
              rw [h11.2] at this ⊢
              exact (replayGo_yes hC.loanRight this.1).units
            have h12 := hC.u2
            show 1 ≤ a.n ∧ v.spent + a.n ≤ (spendF x.loan a.n).1.spent ∧ v.spent + a.n ≤ 1000000
            omega
      have hwr : (spendD v.d x a.day zed8 a.n).2.2 = 0 → IntKind.i64.wrap (v.spent + a.n) = v.spent + a.n := fun g => by
        unfold spendD at g
        rw [hr] at g
        have := hsp g
        have := hC.s0
        exact IntWalk.i64_in _ (by omega)
      refine (do1_any h a x hx hE h1 hdo hok.2.2 hwr hwo).mono fun e' w' ⟨he', hq⟩ => ⟨{ writtenW { v with d := (spendD v.d x a.day zed8 a.n).1, x := some (spendD v.d x a.day zed8 a.n).2.1 } (spendD v.d x a.day zed8 a.n).2.1 (spendD v.d x a.day zed8 a.n).2.2 a.day (spendT a.n) true with spent := if (spendD v.d x a.day zed8 a.n).2.2 = 0 then v.spent + a.n else v.spent }, he', ?_, ⟨rfl, rfl, List.prefix_refl _, rfl⟩, hq⟩
      unfold spendD
      rw [hr]
      rcases hcase with ⟨he, c1, c2, c3⟩ | ⟨ht, q, c1, c2, hc⟩
      · refine ⟨?_, fun y hy => by cases hy; show WD v.number v.units x'.ents x'; rw [c1]; exact c2⟩
        show WC (i + 1) d' v.number v.units v.handed (if e = 0 ∧ true = true then x'.ents else v.durable) x'.ents (tornF v.last x'.ents (nextF x'.ents v.number a.day zed8 (spendT a.n)) e v.torn) (if e = 0 then v.spent + a.n else v.spent) (some x'.j)
        rw [if_neg (fun g => he g.1), if_neg he, c1]
        exact c3
      · refine ⟨?_, fun y hy => by cases hy; show WD v.number v.units x'.ents x'; rw [c1]; exact c2⟩
        show WC (i + 1) d' v.number v.units v.handed (if e = 0 ∧ true = true then x'.ents else v.durable) x'.ents (tornF v.last x'.ents (nextF x'.ents v.number a.day zed8 (spendT a.n)) e v.torn) (if e = 0 then v.spent + a.n else v.spent) (some x'.j)
        rw [tornF_more (by rw [c1]; simp), ht]
        rcases hc with ⟨he, c3⟩ | ⟨rfl, _, _, c3⟩
        · rw [if_neg (fun g => he g.1), if_neg he, c1]; exact c3
        · have h5 := hsp rfl
          have h6 := hC.s0
          rw [c1] at h5
          rw [if_pos ⟨rfl, rfl⟩, if_pos rfl, c1]
          exact ⟨c3.file, c3.chain, c3.dev, c3.text, c3.rep, c3.dur, c3.hand, c3.n0, c3.n7, c3.u1, c3.u2, by omega, h5.2.1, c3.seen⟩
    by_cases h3 : a.kind = 3
    · obtain ⟨d', x', e, l, hr, hd, hcase⟩ := hC.handing hD
      have hl := hC.len
      refine (do3_any h a x hx h3 (by rw [hD.ents]; omega) (by rw [hD.ents]; exact fun u hu => hC.right u (List.mem_append_left _ hu)) (by rw [hD.ents]; exact hC.hand.trans hC.dur) (by rw [hD.ents]; have := check_take hC.chain v.last.length; rwa [List.take_left] at this)).mono fun e' w' ⟨he', hq⟩ => ?_
      rw [hr] at hq
      rcases hcase with ⟨he, c3⟩ | ⟨rfl, c3⟩
      · rw [if_neg he] at hq
        exact ⟨{ v with d := d', x := some x' }, he', ⟨c3.up, fun y hy => by cases hy; exact hd⟩, ⟨rfl, rfl, List.prefix_refl _, rfl⟩, hq⟩
      · rw [if_pos rfl, hD.ents] at hq
        exact ⟨{ v with d := d', x := some x', handed := v.last, durable := v.last }, he', ⟨c3.up, fun y hy => by cases hy; exact hd⟩, ⟨rfl, rfl, hC.hand.trans hC.dur, rfl⟩, hq⟩
    refine (doElse_any h a x hx (by omega)).mono fun e w' ⟨g1, g2⟩ => ⟨_, g1, hI.up, DoR.refl _, g2⟩
end
end Go.Proofs.YtjncmlglhegnaaaGreatDoor
namespace Go.Proofs.YtjncmlglhegnaaaGreatDoor
open Go.RowKit Go.Sort Go.Lib

theorem WC.begin_ (number units : Int) (h0 : 0 ≤ number) (h1 : number < 8) (u1 : 1 ≤ units) (u2 : units ≤ 1000000) : WC 0 newD number units [] [] [] [] 0 none := by
  have hl : LoanV.right ⟨number, units, 0, false⟩ = true := mk_right ⟨h0, h1, u1, by show units ≤ _; omega, Int.le_refl _, by show (0 : Int) ≤ units; omega⟩
  have hr : replayF (textsOf []) ⟨number, units, 0, false⟩ = (⟨number, units, 0, false⟩, true) := replayF_of hl
  refine ⟨LastI.new 0, rfl, (fun e he => by cases he), (fun e he => by cases he), ?_, List.prefix_refl _, List.prefix_refl _, h0, h1, u1, u2, Int.le_refl _, ?_, (fun e he => by cases he)⟩
  · show (replayF (textsOf []) _).2 = true; rw [hr]
  · show (0 : Int) ≤ (replayF (textsOf []) _).1.spent; rw [hr]; exact Int.le_refl _
section
variable {w0 w w' : World} {Rs : List Res}
theorem begin_all (h : Sep w0 w Rs) (hE : Env w0.heap.size w0) (number units : Int) (h0 : 0 ≤ number) (h1 : number < 8) (u1 : 1 ≤ units) (u2 : units ≤ 1000000) :
    Calls Tryz.prog 41 #[.int .i64 number, .int .i64 units] w fun e w' => ∃ W v, e = .returned (.pointer (some ⟨W, 0, none⟩)) ∧ WI 0 v ∧ v.number = number ∧ v.units = units ∧ v.handed = [] ∧ v.spent = 0 ∧ v.ex = [] ∧ Sep w0 w' (worR W v :: Rs) := by
  obtain ⟨g1, g2, g3, g4, g5, g6, g7, g8, _⟩ := WC.openAll (v := startW number units) (jo := none) (WC.begin_ number units h0 h1 u1 u2) (by omega)
  exact (begin_any h hE number units g2).mono fun e w' ⟨W, h1, h2⟩ => ⟨W, _, h1, g3, g4, g5, g6, g7, g8, h2⟩
end
end Go.Proofs.YtjncmlglhegnaaaGreatDoor
