/- kerbsidelaw49: what a World keeps from act to act, in plain Lean. -/
import Derived.Test.YtjncmlglhegnaaaGreatDoorDevX2
import Derived.Test.YtjncmlglhegnaaaGreatDoorJrnL
namespace Go.Proofs.YtjncmlglhegnaaaGreatDoor
open Go.RowKit Go.Sort Go.Lib

abbrev encs (l : List EntV) : List (List UInt8) := l.map fun e => (encodeF e).1
theorem encE_tight {x : EntV} (h : RightE x) : (encE x).length ≤ x.text.length + 300 := by
  have h1 : ∀ n : Int, 0 ≤ n → n ≤ 100000 → (encN n).length ≤ 21 := fun n h0 h1 => by unfold encN; rw [if_neg (by omega)]; exact encI_len ⟨by omega, by omega⟩
  have a1 := h1 x.dev h.d0 (by have := h.d1; omega)
  have a2 := h1 x.no h.n0 (by have := h.n1; omega)
  have a3 := h1 x.day h.y0 h.y1
  have a4 := encT_len (s := x.text) (by have := h.txt; omega)
  have a5 := flat_le encI 21 x.seen fun n hn => encI_len (by have := h.rng n hn; exact ⟨by omega, by omega⟩)
  have a6 := h.len
  have a7 := itoa_length (n := (x.seen.length : Int)) (by omega) (by omega)
  have a8 : (encIs x.seen).length ≤ 200 := by
    unfold encIs
    simp
    simp only [List.length_flatten, List.map_map, Function.comp_def] at a5 ⊢
    omega
  unfold encE
  simp only [List.length_append]
  omega
theorem encodeF_rightD {x : EntV} (h : RightE x) : (encodeF x).1 = encE x := by unfold encodeF; rw [if_pos (rightB_true.2 h)]
theorem decodeF_of {x : EntV} (h : RightE x) : decodeF (encodeF x).1 = (x, true) := by
  rw [encodeF_rightD h]
  unfold decodeF
  rw [if_pos (goodD_enc h), decE_enc h]
theorem decAll_encs : ∀ {l : List EntV}, (∀ e ∈ l, RightE e) → decAll (encs l) = some l
  | [], _ => rfl
  | e :: l, h => by
    have h1 := decodeF_of (h e (by simp))
    have h2 := decAll_encs (l := l) fun x hx => h x (by simp [hx])
    show (if (decodeF (encodeF e).1).2 = true then (decAll (encs l)).map ((decodeF (encodeF e).1).1 :: ·) else none) = _
    rw [h1, h2]
    rfl
theorem checkF_right {l : List EntV} (h : checkF l = 0) : ∀ e ∈ l, RightE e := fun e he => by
  obtain ⟨i, hi, rfl⟩ := List.getElem_of_mem he
  exact (check_at h (List.getElem?_eq_getElem hi)).right
theorem prefix_encs {l : List EntV} {r : List (List UInt8)} (h : r <+: encs l) : r = encs (l.take r.length) := by
  have h1 := List.prefix_iff_eq_take.1 h
  unfold encs at h1 ⊢
  rw [List.map_take]
  exact h1
theorem encs_len (l : List EntV) : (encs l).length = l.length := List.length_map ..
/-- what a World's lists keep -/
structure WC (i : Nat) (d : DV) (number units : Int) (handed durable last torn : List EntV) (spent : Int) (jo : Option JV) : Prop where
  file : LastI 0 i d (encs (last ++ torn)) (encs durable) jo
  chain : checkF (last ++ torn) = 0
  dev : ∀ e ∈ last ++ torn, e.dev = number
  text : ∀ e ∈ last ++ torn, e.text.length ≤ 3000
  rep : (replayF (textsOf (last ++ torn)) ⟨number, units, 0, false⟩).2 = true
  dur : durable <+: last
  hand : handed <+: durable
  n0 : 0 ≤ number
  n7 : number < 8
  u1 : 1 ≤ units
  u2 : units ≤ 1000000
  s0 : 0 ≤ spent
  sp : spent ≤ (replayF (textsOf durable) ⟨number, units, 0, false⟩).1.spent
  seen : ∀ e ∈ last ++ torn, e.seen = zed8.set number.toNat e.no
/-- .. and its device -/
structure WD (number units : Int) (last : List EntV) (x : DevV) : Prop where
  ents : x.ents = last
  num : x.number = number
  loan : x.loan = (replayF (textsOf last) ⟨number, units, 0, false⟩).1
  recs : x.j.recs = encs last
theorem textsOf_app (a b : List EntV) : textsOf (a ++ b) = textsOf a ++ textsOf b := by unfold textsOf; rw [List.map_append]
theorem rep_pre {a b : List EntV} {l : LoanV} (h : a <+: b) (hr : (replayF (textsOf b) l).2 = true) : (replayF (textsOf a) l).2 = true ∧ Later (replayF (textsOf a) l).1 (replayF (textsOf b) l).1 := by
  have h1 := replayF_take (ts := textsOf b) (l := l) a.length hr
  have e : (textsOf b).take a.length = textsOf a := by
    unfold textsOf
    rw [← List.map_take, ← List.prefix_iff_eq_take.1 h]
  rw [e] at h1
  exact ⟨h1.1, h1.2.2⟩
theorem pre_pre {α : Type} {a b c : List α} (h1 : a <+: c) (h2 : b <+: c) (hl : a.length ≤ b.length) : a <+: b := List.prefix_of_prefix_length_le h1 h2 hl
namespace WC
variable {i : Nat} {d d' : DV} {number units : Int} {handed durable last torn : List EntV} {spent : Int} {jo jo' : Option JV}
theorem withFile (h : WC i d number units handed durable last torn spent jo) {k : Nat} (hf : LastI 0 k d' (encs (last ++ torn)) (encs durable) jo') : WC k d' number units handed durable last torn spent jo' :=
  ⟨hf, h.chain, h.dev, h.text, h.rep, h.dur, h.hand, h.n0, h.n7, h.u1, h.u2, h.s0, h.sp, h.seen⟩
theorem lose (h : WC i d number units handed durable last torn spent jo) (n : Int) (hn : n ≤ 9223372036854775807) : WC i (LoseF d n) number units handed durable last torn spent jo := h.withFile (h.file.lose n hn)
theorem arm (h : WC i d number units handed durable last torn spent jo) (n : Int) (hn : n ≤ 9223372036854775807) (keep : List Int) (hk : keep.length ≤ 40) : WC i (ArmF d n keep) number units handed durable last torn spent jo := h.withFile (h.file.arm n hn keep (by omega))
theorem crash (h : WC i d number units handed durable last torn spent jo) (keep : List Int) : WC i (crashF d keep) number units handed durable last torn spent none := h.withFile (h.file.crash keep)
theorem start (h : WC i d number units handed durable last torn spent jo) : WC i (StartF d) number units handed durable last torn spent none := h.withFile h.file.start
theorem up (h : WC i d number units handed durable last torn spent jo) : WC (i + 1) d number units handed durable last torn spent jo := h.withFile h.file.up
theorem right (h : WC i d number units handed durable last torn spent jo) : ∀ e ∈ last ++ torn, RightE e := checkF_right h.chain
theorem len (h : WC i d number units handed durable last torn spent jo) : last.length + torn.length ≤ i := by
  have := h.file.len
  rw [encs_len, List.length_append] at this
  exact this
theorem loanRight (h : WC i d number units handed durable last torn spent jo) : LoanV.right ⟨number, units, 0, false⟩ = true := mk_right ⟨h.n0, h.n7, h.u1, by have := h.u2; show units ≤ _; omega, Int.le_refl _, by have := h.u1; show (0 : Int) ≤ units; omega⟩
/-- Open -/
theorem open_ (h : WC i d number units handed durable last torn spent jo) (hi : i ≤ 300) :
    (∃ d' x, openD d number ⟨number, units, 0, false⟩ = (d', some x, 0) ∧ x.ents <+: last ++ torn ∧ durable <+: x.ents ∧ WD number units x.ents x ∧ WC i d' number units handed x.ents x.ents [] spent (some x.j)) ∨
    (∃ d' e, openD d number ⟨number, units, 0, false⟩ = (d', none, e) ∧ (e = 8 ∨ e = 9) ∧ WC i d' number units handed durable last torn spent none ∧ (d.armed = 0 → d.lost = 0 → d.down = true)) := by
  have hlr := h.loanRight
  have hret : returnF ⟨number, units, 0, false⟩ = (⟨number, units, 0, true⟩, 0) := by
    unfold returnF
    rw [if_neg (by rw [hlr]; simp), if_neg (by simp)]
  have hc : ¬ (number < 0 ∨ 8 ≤ number ∨ (returnF (⟨number, units, 0, false⟩ : LoanV)).2 ≠ 0 ∨ (⟨number, units, 0, false⟩ : LoanV).device ≠ number ∨ (⟨number, units, 0, false⟩ : LoanV).spent ≠ 0) := by
    rw [hret]
    have := h.n0
    have := h.n7
    simp
    omega
  unfold openD
  rw [if_neg hc]
  rcases h.file.open_ (by decide) (by decide) (by omega) with ⟨d', j', e, h1, h2, h3⟩ | ⟨d', e, e1, h2, h3, h4⟩
  · left
    have hr := prefix_encs h1
    obtain ⟨k, hk⟩ : ∃ k, j'.recs.length = k := ⟨_, rfl⟩
    rw [hk] at hr
    obtain ⟨L, hL⟩ : ∃ L, (last ++ torn).take k = L := ⟨_, rfl⟩
    rw [hL] at hr
    have hLp : L <+: last ++ torn := by rw [← hL]; exact List.take_prefix _ _
    have hck : checkF L = 0 := by rw [← hL]; exact check_take h.chain k
    have hrt := checkF_right hck
    have hdec : decAll j'.recs = some L := by rw [hr]; exact decAll_encs hrt
    have hrp := rep_pre hLp h.rep
    have hall : (L.all fun x => decide (x.dev = number)) = true := by
      rw [List.all_eq_true]
      exact fun x hx => decide_eq_true (h.dev x (hLp.mem hx))
    have hdl : durable.length ≤ L.length := by
      have := h2.length_le
      rw [hr, encs_len, encs_len] at this
      exact this
    have hdL : durable <+: L := pre_pre (h.dur.trans (List.prefix_append _ _)) hLp hdl
    have hdr := rep_pre hdL hrp.1
    refine ⟨d', ⟨number, L, (replayF (textsOf L) ⟨number, units, 0, false⟩).1, j'⟩, ?_, hLp, hdL, ⟨rfl, rfl, rfl, hr⟩, ?_⟩
    · rw [e]
      simp only [hdec]
      rw [if_pos ⟨hck, hall, hrp.1⟩]
    · have hfile : LastI 0 i d' (encs (L ++ [])) (encs L) (some j') := by
        rw [List.append_nil, ← hr]
        exact h3
      exact ⟨hfile, by rw [List.append_nil]; exact hck, fun e he => h.dev e (hLp.mem (by simpa using he)), fun e he => h.text e (hLp.mem (by simpa using he)), by rw [List.append_nil]; exact hrp.1, List.prefix_refl _, h.hand.trans hdL, h.n0, h.n7, h.u1, h.u2, h.s0, Int.le_trans h.sp hdr.2.spent, fun e he => h.seen e (hLp.mem (by simpa using he))⟩
  · right
    refine ⟨d', e, ?_, h2, h.withFile h3, h4⟩
    rw [e1]
end WC
end Go.Proofs.YtjncmlglhegnaaaGreatDoor
