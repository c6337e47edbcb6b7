/- kerbsideref02: add, walked. -/
import Derived.Test.YthnechlnaacgfaaRefF
namespace Go.Proofs.Ythnechlnaacgfaa
open Go.RowKit

section
variable {w w' : World} {F G : Nat → Prop} {B : Nat} {r : DV} {FA : Option Addr} {cf : Nat} {Q : Option Addr} {cq : Nat} {K : Option Addr} {ck : Nat}
/-- a sector is appended to the queue -/
theorem RefAt.pushQueue {V w4 : World} {o : Obj} {A4 : Option Addr} {n c4 : Nat} {p : Int × Int} (H : RefAt V F B r FA cf Q cq K ck) (hn : r.queue.length = n)
    (hown4 : Own w4 0 78 2 (.slice A4 (n + 1) c4) (n + 1) (r.queue.map secCells ++ [secCells p]))
    (hg4 : (V.alloc o).grownBy w4 (Value.slice Q n cq).ownBlock)
    (hat4 : (Value.slice A4 (n + 1) c4).ownBlock = (Value.slice Q n cq).ownBlock ∨ (Value.slice A4 (n + 1) c4).ownBlock = some (V.alloc o).heap.size) :
    RefTo F V B { r with queue := r.queue ++ [p] } (w4.setCell ⟨B, 1, none⟩ (.slice A4 (n + 1) c4)) := by
  subst hn
  rw [slice_block Q _ cq] at hg4 hat4
  rw [slice_block A4 _ c4] at hat4
  have H1 := H.below (below_alloc V o)
  have zV := H1.loc.lt
  simp only [World.size_alloc] at hat4
  have hg := grownBy_setCell w4 ⟨B, 1, none⟩ (.slice A4 (r.queue.length + 1) c4)
  have hA : ∀ b, (Value.slice A4 0 0).ownBlock = some b → (Value.slice Q 0 0).ownBlock = some b ∨ b = V.heap.size + 1 := fun b he => by
    rcases hat4 with h | h
    · exact .inl (h ▸ he)
    · rw [h] at he; injection he with he; exact .inr he.symm
  have hlt := H.lt B H.fB
  have nA : ∀ b, b < V.heap.size → (Value.slice Q 0 0).ownBlock ≠ some b → (Value.slice A4 0 0).ownBlock ≠ some b := fun b hb hq e => by
    rcases hA b e with h | h
    · exact hq h
    · omega
  have hz4 := hg4.size
  rw [World.size_alloc] at hz4
  have hl := (H1.loc.grown hg4 H.nq).set_ 1 (.slice A4 (r.queue.length + 1) c4)
  have zA : ∀ b, (Value.slice A4 0 0).ownBlock = some b → b < w4.heap.size := fun b he => (hown4.lt b (by rw [slice_block]; exact he)).2
  refine ⟨fun k => F k ∨ (Value.slice A4 0 0).ownBlock = some k, ⟨FA, cf, A4, c4, K, ck, ?_⟩, ?_⟩
  · refine ⟨by simpa using hl, ?_, ?_, ?_, .inl H.fB, fun b hq => .inr hq, fun hne ad he => ⟨.inl (H.ff hne ad he).1, (H.ff hne ad he).2.1, nA _ (H.lt _ (H.ff hne ad he).1) (H.ff hne ad he).2.2⟩,
      fun hne ad he => ⟨.inl (H.fk hne ad he).1, (H.fk hne ad he).2.1, nA _ (H.lt _ (H.fk hne ad he).1) (H.fk hne ad he).2.2⟩, nA _ hlt H.nq, fun b hf => ?_⟩
    · refine (H1.files.grown hg4 ?_).grown hg ?_
      · by_cases hk : r.files = []
        · exact .inl (by rw [hk]; rfl)
        · exact .inr fun ad e => (H.ff hk ad e).2.2
      · by_cases hk : r.files = []
        · exact .inl (by rw [hk]; rfl)
        · exact .inr fun ad e e' => (H.ff hk ad e).2.1 (by injection e' with e'; exact e'.symm)
    · have h1 := hown4.other (p := ⟨B, 1, none⟩) (by rw [slice_block]; exact nA _ hlt H.nq) (.slice A4 (r.queue.length + 1) c4)
      simpa using h1
    · refine (H1.keep.grown hg4 ?_).grown hg ?_
      · by_cases hk : r.keep = []
        · exact .inl (by rw [hk]; rfl)
        · exact .inr fun ad e => (H.fk hk ad e).2.2
      · by_cases hk : r.keep = []
        · exact .inl (by rw [hk]; rfl)
        · exact .inr fun ad e e' => (H.fk hk ad e).2.1 (by injection e' with e'; exact e'.symm)
    · rw [World.size_setCell]
      rcases hf with hf | hf
      · have := H.lt b hf; omega
      · exact zA b hf
  · refine ⟨((Keeps.below (below_alloc V o)).trans (Keeps.grown hg4 (fun b hb => .inl (H.fq b hb)))).trans (Keeps.setCell (p := ⟨B, 1, none⟩) (.inl H.fB) _), fun _ h => .inl h, fun k hk => ?_⟩
    rcases hk with hk | hk
    · exact .inl hk
    · rcases hA k hk with h | h
      · exact .inl (H.fq k h)
      · exact .inr ⟨by omega, by rw [World.size_setCell]; exact zA k hk⟩
theorem RefTo.from {w1 w2 : World} (h : RefTo G w1 B r w2) (hE : Ext F G w w1) : RefTo F w B r w2 := by
  obtain ⟨F', h1, h2⟩ := h
  exact ⟨F', h1, hE.trans h2⟩
theorem RefTo.refl (h : RefAt w F B r FA cf Q cq K ck) : RefTo F w B r w := ⟨F, h.ref, Ext.refl _ _⟩
set_option maxHeartbeats 4000000 in
theorem add_ref (h : RefAt w F B r FA cf Q cq K ck) (hok : ROk r) (f : Int) (a : Nat) (s : List UInt8) (h0 : 0 ≤ f) (h1 : f < 16) (hfit : a + s.length ≤ 16777216) :
    Calls Try.prog 54 #[.pointer (some ⟨B, 0, none⟩), .int .i64 f, .int .i64 a, .string ⟨s.toArray⟩] w fun e w' => e = .returned (.tuple #[]) ∧ RefTo F w B (addR r f a s) w' := by
  unfold addR
  by_cases hne : s = []
  · subst hne
    rw [if_pos rfl]
    have HR := Lib.hid (RefTo.refl h)
    clear h
    go_enter Try.func54, Try.ntmps54
    go_wp2_with (fail)
    exact bodyPost_ret (v := .tuple #[]) (by simp [results, Try.results54, go_sem]) rfl ⟨rfl, HR.out⟩
  rw [if_neg hne]
  have hfr : fitsR (a : Int) s = true := by unfold fitsR; simp; omega
  have hl := strV_len s
  have hsn := strV_ne hne
  have hse : s.isEmpty = false := by simp [hne]
  have hpos : 0 < s.length := List.length_pos_iff.2 hne
  have HQK : Hid (∀ k, ROk { r with files := setL f ⟨putB (r.file f).now a s, (r.file f).last⟩ r.files, queue := addQ r.queue ((touched f a s.length).take k) }) := Lib.hid fun k =>
    (hok.put h0 h1 hfr).queue (ROk.addQ_ok hok.ok.queue fun p hp => ROk.touch h0 h1 hfr hne p (List.mem_of_mem_take hp)) (addQ_nodup _ _ hok.ok.nodup)
  have H := Lib.hid h
  have HG := Lib.hid (fun W (hW : RefAt W F B r FA cf Q cq K ck) => get_ref hW hok.few f _ rfl)
  have HS := Lib.hid (fun W (hW : RefAt W F B r FA cf Q cq K ck) => set_ref hW hok.few f ⟨putB (r.file f).now a s, (r.file f).last⟩)
  have hfl := hok.file f
  have HP := Lib.hid (fun W => Put_ref W (r.file f).now s a hfl.1 (by omega) _ rfl)
  rw [Int.toNat_natCast]
  clear h hok hfr hne hfl
  generalize hx : r.file f = x at *
  obtain ⟨xn, xl⟩ := x
  simp only at HP HS HG HQK ⊢
  generalize putB xn a s = xm at *
  clear hx
  go_enter Try.func54, Try.ntmps54
  go_wp2_with (first
    | ((with_reducible refine (HG.out _ H.out).mono ?_); rintro e w1 ⟨rfl, hb1⟩; have HB1 := Lib.hid hb1; clear hb1)
    | ((with_reducible refine (HP.out _).mono ?_); rintro e w2 ⟨rfl, hb2⟩; obtain ⟨⟨zX, kX, fX⟩, hb3⟩ := locs1 hb2; have HB2 : Hid (Below w.heap.size w w2) := HB1.out.trans (hb3.mono HB1.out.size); clear hb2 hb3)
    | ((with_reducible refine (HS.out _ (H.out.below (HB2.out.setCell (p := ⟨w1.heap.size, 1, none⟩) HB1.out.size _))).mono ?_); rintro e w3 ⟨rfl, h3⟩; have H3 : Hid (RefTo F w B _ w3) := h3.to.from (Ext.same (Keeps.below (HB2.out.setCell (p := ⟨w1.heap.size, 1, none⟩) HB1.out.size _))); clear h3 zX kX fX))
  obtain ⟨q0, hq0⟩ : ∃ q0, a / 64 = q0 := ⟨_, rfl⟩
  obtain ⟨N, hN⟩ : ∃ N, (a + s.length - 1) / 64 - a / 64 + 1 = N := ⟨_, rfl⟩
  have hTl : (touched f a s.length).length = N := by unfold touched; rw [List.length_map, List.length_range, hN]
  have hTg : ∀ k, k < N → (touched f a s.length).take (k + 1) = (touched f a s.length).take k ++ [(f, (q0 : Int) + (k : Int))] := fun k hk => by
    rw [List.take_add_one, List.getElem?_eq_getElem (by omega)]
    simp only [touched, List.getElem_map, List.getElem_range, hq0, Option.toList_some]
    rfl
  have hTn : touched f a s.length = (touched f a s.length).take N := by rw [List.take_of_length_le (by omega)]
  have HTn := Lib.hid hTn
  have HTg := Lib.hid hTg
  have hq1 : (q0 : Int) ≤ 262144 := by omega
  have hq2 : (q0 : Int) + (N : Int) - 1 = ((a : Int) + (s.length : Int) - 1) / 64 := by omega
  have hq3 : (q0 : Int) + (N : Int) ≤ 262145 := by omega
  have HQ2 := Lib.hid hq2
  clear hTl hTg hTn hN hq2
  obtain ⟨i0, hi0, hi1, hi2, hi3⟩ := info_parts infoSec
  go_loopw [9] (fun i wr => ∃ k : Nat, k ≤ N ∧ i = .int .i64 ((q0 : Int) + (k : Int)) ∧ RefTo F w B { r with files := setL f ⟨xm, xl⟩ r.files, queue := addQ r.queue ((touched f a s.length).take k) } wr) (fun i _ => q0 + N - (intOf i).toNat)
  case atStart => exact ⟨0, Nat.zero_le _, by rw [← hq0]; simp, by rw [List.take_zero]; exact H3.out⟩
  case round =>
    obtain ⟨k, hk, rfl, hD⟩ := hrel
    obtain ⟨wo, rfl⟩ : ∃ wo : World, wo = wr := ⟨_, rfl⟩
    by_cases hlt : k < N
    · obtain ⟨F1, ⟨FA1, cf1, Q1, cq1, K1, ck1, hA⟩, hE1⟩ := hD
      have hT : (q0 : Int) + (k : Int) ≤ ((a : Int) + (s.length : Int) - 1) / 64 := by have := HQ2.out; omega
      have HT1 := Lib.hid (HTg.out k hlt)
      have hlen := (HQK.out k).len
      generalize hqq : addQ r.queue ((touched f a s.length).take k) = q at *
      simp only at hlen
      obtain ⟨m, hm⟩ : ∃ m, q.length = m := ⟨_, rfl⟩
      have HA := Lib.hid hA
      have HE1 := Lib.hid hE1
      have HPD := Lib.hid (fun x hx => pending_ref hA hlen f ((q0 : Int) + (k : Int)) x hx)
      have hlo := hA.loc
      simp only [hm] at hlo
      obtain ⟨zB, kB, fB⟩ := hlo
      have HZ := Lib.hid zB
      clear hA hE1
      by_cases hin : (f, (q0 : Int) + (k : Int)) ∈ q
      · have HIN := Lib.hid hin
        clear hin
        go_wp2_with ((with_reducible refine (HPD.out true (by simpa using HIN.out)).mono ?_); rintro _ _ ⟨rfl, rfl⟩)
        go_roundw
        case rel =>
          refine ⟨k + 1, by omega, by go_num, ?_⟩
          rw [HT1.out, addQ_append, hqq]
          simp only [addQ, HIN.out, if_true]
          exact ⟨F1, ⟨_, _, _, _, _, _, HA.out⟩, HE1.out⟩
        case measure => simp [intOf]; omega
      · have HIN := Lib.hid hin
        have HPF := Lib.hid (HPD.out false (by simpa using hin))
        clear hin
        have hQ1 : Own wo 0 78 2 (.slice Q1 m cq1) m (q.map secCells) := by have := HA.out.queue; rw [← hm]; exact this
        have HQ1 := Lib.hid hQ1
        rw [hm] at hlen
        clear hQ1
        go_wp2_with (first | ((with_reducible refine (HPF.out).mono ?_); rintro _ w9 ⟨rfl, hw9⟩; obtain rfl := hw9.symm) | (at_builtin; refine wpList_append_sl _ rfl (.tmp 45) (.tmp 49) 58 rfl 0 78 i0 _ 2 16 Try.underlying58 hi0 hi1 hi2 hi3 rfl (by omega) (.slice Q1 m cq1) m _ rfl (HQ1.out.alloc _) (some ⟨wo.heap.size, 0, none⟩) 1 1 [secCells (f, (q0 : Int) + (k : Int))] rfl (sl_sec wo (f, (q0 : Int) + (k : Int)) _) (by simp [secCells]) (sec_one1 _) (by simp only [maxLen]; omega) (by omega) (Nat.zero_le _) ?_; intro A4 c4 w4 hown4 hg4 hat4; have LB4 := (HA.out.loc.alloc (.cells #[.int .i64 f, .int .i64 ((q0 : Int) + (k : Int))] 78)).grown hg4 (fun e => HA.out.nq (by rw [slice_block] at e; exact e)); obtain ⟨z4, k4, f4⟩ := LB4))
        have HP4 := Lib.hid (RefAt.pushQueue (p := (f, (q0 : Int) + (k : Int))) HA.out hm hown4 hg4 hat4)
        clear hown4 hg4 hat4
        go_roundw
        case rel =>
          refine ⟨k + 1, by omega, by go_num, ?_⟩
          rw [HT1.out, addQ_append, hqq]
          simp only [addQ, HIN.out, if_false]
          exact HP4.out.from HE1.out
        case measure => simp [intOf]; omega
    · obtain rfl : k = N := by omega
      have hT : ¬ (q0 : Int) + (k : Int) ≤ ((a : Int) + (s.length : Int) - 1) / 64 := by have := HQ2.out; omega
      have HX := Lib.hid hD
      clear hD hlt
      go_wp2_with (fail)
      go_end0
      rw [HTn.out]
      exact ⟨rfl, HX.out⟩
end
end Go.Proofs.Ythnechlnaacgfaa
