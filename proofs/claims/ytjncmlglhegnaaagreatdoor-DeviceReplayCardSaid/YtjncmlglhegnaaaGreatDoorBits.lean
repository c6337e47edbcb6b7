/- disk: maps.DeleteFunc with settle's closure. -/
/- Words for numbers: '&' with 1, 3, 7 at an int. -/
import Derived.Test.YtjncmlglhegnaaaGreatDoorDiskF
import Derived.Test.YtjncmlglhegnaaaGreatDoorBase4
import Derived.Laws.BitsLemmas
namespace Go.Proofs.YtjncmlglhegnaaaGreatDoor
open Go.RowKit

/-- the entries while some are struck: f's sectors that have come are gone -/
def StrikeInv (q : List (Int × Int)) (f : Int) (l : List ((Int × Int) × Bool × Bool)) : Prop :=
  (l.map (·.1)).filter (fun p => p.1 ≠ f) = q.filter (fun p => p.1 ≠ f) ∧ (∀ x ∈ l, x.2.1 = true ∧ (x.2.2 = false → x.1.1 ≠ f)) ∧ (l.map (·.1)).Nodup
theorem StrikeInv.start {q : List (Int × Int)} (f : Int) (hn : q.Nodup) : StrikeInv q f ((q.map fun p => (p, true)).map fun p => (p.1, p.2, true)) := by
  refine ⟨by simp [Function.comp_def], fun x hx => ?_, by simpa [Function.comp_def] using hn⟩
  simp only [List.map_map, List.mem_map, Function.comp_apply] at hx
  obtain ⟨p, _, rfl⟩ := hx
  simp
theorem StrikeInv.done {q : List (Int × Int)} {f : Int} {l : List ((Int × Int) × Bool × Bool)} (h : StrikeInv q f l) (hd : ∀ p ∈ l, p.2.2 = false) : (l.map fun p => (p.1, p.2.1)) = (q.filter fun p => p.1 ≠ f).map fun p => (p, true) := by
  rw [← h.1, List.filter_eq_self.2 (fun p hp => by
    obtain ⟨x, hx, rfl⟩ := List.mem_map.1 hp
    simpa using (h.2.1 x hx).2 (hd x hx))]
  rw [List.map_map]
  refine List.map_congr_left fun x hx => ?_
  simp [(h.2.1 x hx).1]
theorem StrikeInv.stay {q : List (Int × Int)} {f : Int} {l1 l2 : List ((Int × Int) × Bool × Bool)} {k : Int × Int} {v : Bool} (h : StrikeInv q f (l1 ++ (k, v, true) :: l2)) (hk : k.1 ≠ f) : StrikeInv q f (l1 ++ (k, v, false) :: l2) := by
  obtain ⟨h1, h2, h3⟩ := h
  refine ⟨by simpa using h1, fun x hx => ?_, by simpa using h3⟩
  simp only [List.mem_append, List.mem_cons] at hx
  rcases hx with hx | rfl | hx
  · exact h2 x (by simp [hx])
  · exact ⟨(h2 (k, v, true) (by simp)).1, fun _ => hk⟩
  · exact h2 x (by simp [hx])
theorem StrikeInv.strike {q : List (Int × Int)} {f : Int} {l1 l2 : List ((Int × Int) × Bool × Bool)} {k : Int × Int} {v : Bool} (h : StrikeInv q f (l1 ++ (k, v, true) :: l2)) (hk : k.1 = f) : StrikeInv q f (l1 ++ l2) := by
  obtain ⟨h1, h2, h3⟩ := h
  refine ⟨by simpa [List.filter_append, List.filter_cons, hk] using h1, fun x hx => ?_, ?_⟩
  · simp only [List.mem_append] at hx
    rcases hx with hx | hx
    · exact h2 x (by simp [hx])
    · exact h2 x (by simp [hx])
  · exact h3.sublist ((List.Sublist.append_left (List.sublist_cons_self _ l2) l1).map _)
theorem StrikeInv.fresh {q : List (Int × Int)} {f : Int} {l1 l2 : List ((Int × Int) × Bool × Bool)} {k : Int × Int} {v b : Bool} (h : StrikeInv q f (l1 ++ (k, v, b) :: l2)) : ∀ p ∈ l1, p.1 ≠ k := by
  intro p hp e
  have h3 := h.2.2
  rw [List.map_append, List.map_cons, List.nodup_append] at h3
  exact h3.2.2 p.1 (List.mem_map.2 ⟨p, hp, rfl⟩) k (by simp) e
theorem left_less {κ ν : Type} {l1 l2 : List (κ × ν × Bool)} {k : κ} {v : ν} : ((l1 ++ (k, v, false) :: l2).filter fun p => p.2.2).length < ((l1 ++ (k, v, true) :: l2).filter fun p => p.2.2).length := by
  simp [List.filter_append, List.filter_cons]
theorem left_less2 {κ ν : Type} {l1 l2 : List (κ × ν × Bool)} {k : κ} {v : ν} : ((l1 ++ l2).filter fun p => p.2.2).length < ((l1 ++ (k, v, true) :: l2).filter fun p => p.2.2).length := by
  simp [List.filter_append, List.filter_cons]
theorem grown_of_below {w w' : World} (h : Below w.heap.size w w') (row : Option Nat) : w.grownBy w' row := ⟨h.os, h.tape, h.output, h.size, fun k hk _ => h.block k hk⟩

set_option maxRecDepth 100000 in
set_option maxHeartbeats 2000000 in
theorem MapsDelete_any (w : World) (ms : Nat) (q : List (Int × Int)) (hm : MapAt w ms (entV secV Value.bool (q.map fun p => (p, true)))) (hnd : q.Nodup) (bx : Nat) (f : Int) (hb : Loc w bx #[.int .i64 f]) (hne : ms ≠ bx) :
    Calls Tryz.prog 189 #[.map (some ms), .func (.func 190) #[] #[.pointer (some ⟨bx, 0, none⟩)]] w fun e w' => e = .returned (.tuple #[]) ∧ MapAt w' ms (entV secV Value.bool ((q.filter fun p => p.1 ≠ f).map fun p => (p, true))) ∧ w.grownBy w' (some ms) := by
  have HM := Lib.hid hm
  have HX := Lib.hid hb
  have HN := Lib.hid hne
  have HI := Lib.hid (StrikeInv.start f hnd)
  clear hm hb hnd hne
  go_enter Tryz.func189, Tryz.ntmps189
  go_wp2_with (at_range; refine wpList_rangeA rfl _ 91 rfl Tryz.underlying91 rfl HM.out ?_; intro w0 hrg0 hb0 hz0)
  go_frame
  have HR0 := Lib.hid hrg0
  have HG0 := Lib.hid (grown_of_below hb0 (some ms))
  clear hrg0 hb0
  go_loopw [8] (fun _ wr => ∃ l, StrikeInv q f l ∧ RangeAt secV Value.bool wr ms w.heap.size l ∧ w.grownBy wr (some ms)) (fun _ wr => wr.rangeLeft ms w.heap.size)
  case atStart => exact ⟨_, HI.out, HR0.out, HG0.out⟩
  case round =>
    obtain ⟨l, hi, hr, hg⟩ := hrel
    obtain ⟨wo, rfl⟩ : ∃ wo : World, wo = wr := ⟨_, rfl⟩
    have HIr := Lib.hid hi
    have HRr := Lib.hid hr
    have HGr := Lib.hid hg
    have hz : w.heap.size ≤ wo.heap.size := hg.size
    clear hi hr hg
    go_wp2_with (at_next; refine wpList_nextA rfl _ rfl rfl HRr.out ?_ ?_; intro hdone; replace hdone := Lib.hid hdone; rotate_left; intro l1 k v l2 w1 hl hr1 hg1 hz1 hen; obtain ⟨ka, kb⟩ := k; replace hl := Lib.hid hl; replace hr1 := Lib.hid hr1; replace hg1 := Lib.hid hg1; unfold secV at hen; replace hz1 := Lib.hid hz1; rotate_left; go_frame)
    · go_wp2_with (fail)
      go_end0
      have hm := HRr.out.map
      rw [HIr.out.done hdone.out] at hm
      exact ⟨rfl, hm, HGr.out⟩
    · have HL := hl
      have HR1 := hr1
      have HG1 := Lib.hid (HGr.out.andThen hg1.out (fun j hj => .inl (by injection hj with hj; omega)))
      have HX1 := Lib.hid (HX.out.grown HG1.out (fun e => HN.out (by injection e)))
      clear hl hr1 hg1
      by_cases hf : ka = f
      · have HF := Lib.hid hf
        have HW : Hid (∀ w2 : World, Below w1.heap.size w1 w2 → Calls Tryz.prog 190 #[.agg #[.int .i64 ka, .int .i64 kb], .bool v, .pointer (some ⟨bx, 0, none⟩)] w2 fun e w' => e = .returned (.bool true) ∧ Below w2.heap.size w2 w') := fun w2 hb => settle2_any w2 bx f (HX1.out.below hb) (ka, kb) v true (by simpa using HF.out)
        clear hf
        go_wp2_with (first
          | (go_at_call 190; (with_reducible refine (HW.out _ (below_alloc _ _)).mono ?_); rintro e w2 ⟨rfl, hb2⟩; obtain ⟨⟨zV, kV, fV⟩, hbb⟩ := locs1 hb2; have HB2 := Lib.hid hbb; have HR2 := Lib.hid (HR1.out.grown (grown_of_below hbb none) (by simp) (by simp)); clear hbb hb2)
          | ((with_reducible show wpList _ _ _ _ _ _); refine wpList_deleteR rfl (.tmp 17) (.tmp 18) 91 119 rfl keyW_sector Tryz.underlying91 rfl HR2.out (StrikeInv.fresh (by have := HIr.out; rw [HL.out] at this; exact this)) rfl ?_; intro w3 hr3 hg3 hz3; go_frame))
        have HR3 := Lib.hid hr3
        have HG3 := Lib.hid ((HG1.out.andThen (grown_of_below HB2.out none) (fun j hj => by cases hj)).andThen hg3 (fun j hj => .inr hj))
        clear hr3 hg3 hz3
        go_roundw
        case rel =>
          have h := HIr.out
          rw [HL.out] at h
          exact ⟨_, h.strike HF.out, HR3.out, HG3.out⟩
        case measure =>
          rw [HR3.out.left, HRr.out.left, HL.out]
          exact left_less2
      · have HF := Lib.hid hf
        have HW : Hid (∀ w2 : World, Below w1.heap.size w1 w2 → Calls Tryz.prog 190 #[.agg #[.int .i64 ka, .int .i64 kb], .bool v, .pointer (some ⟨bx, 0, none⟩)] w2 fun e w' => e = .returned (.bool false) ∧ Below w2.heap.size w2 w') := fun w2 hb => settle2_any w2 bx f (HX1.out.below hb) (ka, kb) v false (by simpa using HF.out)
        clear hf
        go_wp2_with (go_at_call 190; (with_reducible refine (HW.out _ (below_alloc _ _)).mono ?_); rintro e w2 ⟨rfl, hb2⟩; obtain ⟨⟨zV, kV, fV⟩, hbb⟩ := locs1 hb2; have HB2 := Lib.hid hbb; have HR2 := Lib.hid (HR1.out.grown (grown_of_below hbb none) (by simp) (by simp)); clear hbb hb2)
        go_roundw
        case rel =>
          have h := HIr.out
          rw [HL.out] at h
          exact ⟨_, h.stay HF.out, HR2.out, HG1.out.andThen (grown_of_below HB2.out none) (fun j hj => by cases hj)⟩
        case measure =>
          rw [HR2.out.left, HRr.out.left, HL.out]
          exact left_less
section
variable {w : World} {F : Nat → Prop} {B : Nat} {d : DV} {mf ms : Nat} {Q : Option Addr} {cq : Nat} {K : Option Addr} {ck : Nat}
theorem settle_fin {V w1 w3 : World} {k : Nat} {qs : List (Int × Int)} (H : DiskAt V F B d mf ms Q cq K ck) (hk : k = qs.length)
    (ho : Own w1 0 119 2 (.slice Q k cq) k (qs.map secCells)) (hg1 : V.grownBy w1 (Value.slice Q d.queue.length cq).ownBlock)
    (hg3 : (w1.setCell ⟨B, 1, none⟩ (.slice Q k cq)).grownBy w3 (some ms)) (hm : MapAt w3 ms (entV secV Value.bool (qs.map fun p => (p, true)))) : DskTo F V B { d with queue := qs } w3 := by
  subst hk
  have nBf := loc_ne_map H.loc (by simp) H.files
  have nBs := loc_ne_map H.loc (by simp) H.set
  have nQf := own_ne_map H.queue H.files
  have nQs := own_ne_map H.queue H.set
  have nQB : (Value.slice Q d.queue.length cq).ownBlock ≠ some B := fun e => H.nq (by rw [slice_block] at e; exact e)
  have fQ : ∀ b, (Value.slice Q d.queue.length cq).ownBlock = some b → F b := fun b hb => H.fq b (by rw [← slice_block Q d.queue.length cq]; exact hb)
  have eQ : (Value.slice Q qs.length cq).ownBlock = (Value.slice Q d.queue.length cq).ownBlock := by rw [slice_block, slice_block Q d.queue.length]
  have gB := grownBy_setCell w1 ⟨B, 1, none⟩ (.slice Q qs.length cq)
  have nsB : (some ms : Option Nat) ≠ some B := fun e => nBs (by injection e with e; exact e.symm)
  have nsf : (some ms : Option Nat) ≠ some mf := fun e => H.ne (by injection e with e; exact e.symm)
  have z1 := hg1.size
  have z3 := hg3.size
  rw [World.size_setCell] at z3
  have hloc := ((H.loc.grown hg1 nQB).set_ 1 (.slice Q qs.length cq)).grown hg3 nsB
  have hfiles := ((H.files.grown hg1 nQf).grown gB (fun e => nBf (by injection e))).grown hg3 nsf
  have hq := (ho.other (p := ⟨B, 1, none⟩) (by rw [eQ]; exact nQB) (.slice Q qs.length cq)).kept hg3 (.inr (by rw [eQ]; exact nQs))
  have hK := H.keep_grown (H.keep_grown (H.keep_grown H.keep hg1 (fun b hb => .inl (fQ b hb))) gB (fun b hb => .inl (by injection hb with hb; rw [← hb]; exact H.fB))) hg3 (fun b hb => .inl (by injection hb with hb; rw [← hb]; exact H.fs))
  have hkeeps : Keeps F V w3 := ((Keeps.grown hg1 fQ).trans (Keeps.setCell (p := ⟨B, 1, none⟩) (.inl H.fB) _)).trans (Keeps.grown hg3 (fun b hb => .inl (by injection hb with hb; rw [← hb]; exact H.fs)))
  have hfin : DiskAt w3 F B { d with queue := qs } mf ms Q cq K ck := ⟨hloc, hfiles, hm, hq, hK, H.fB, H.ff, H.fs, H.fq, H.fk, H.ne, H.nq, fun b hb => by have := H.lt b hb; omega⟩
  exact ⟨F, ⟨mf, ms, Q, cq, K, ck, hfin⟩, Ext.same hkeeps, kk_of H hfin rfl⟩
theorem DskTo.from {F' : Nat → Prop} {w' w'' : World} {d' : DV} (hE : Ext F F' w w') (hk : KK B w w') (h : DskTo F' w' B d' w'') : DskTo F w B d' w'' := by
  obtain ⟨F2, h1, h2, h3⟩ := h
  exact ⟨F2, h1, hE.trans h2, hk.trans hE.keeps.size h3⟩
set_option maxRecDepth 100000 in
set_option maxHeartbeats 2000000 in
theorem settle_any (h : DiskAt w F B d mf ms Q cq K ck) (hok : DOk d) (f : Int) (s : List UInt8) :
    Calls Tryz.prog 153 #[.pointer (some ⟨B, 0, none⟩), .int .i64 f, strV s] w fun e w' => e = .returned (.tuple #[]) ∧ DskTo F w B (settleF d f s) w' := by
  have H := Lib.hid h
  have HO := Lib.hid hok
  clear h hok
  unfold strV
  go_enter Tryz.func153, Tryz.ntmps153
  go_wp2_with (fail)
  have LX := Lib.hid (Loc.new_ w #[.int .i64 f] 3)
  have HB := Lib.hid (below_alloc w (.cells #[.int .i64 f] 3))
  have HY := Lib.hid (H.out.below (below_alloc w (.cells #[.int .i64 f] 3)))
  generalize w.alloc (.cells #[.int .i64 f] 3) = Y at *
  obtain ⟨zB, kB, fB⟩ := HY.out.loc
  obtain ⟨zX, kX, fX⟩ := LX.out
  go_still_tail 8, (by kernel_rfl)
  change wpList _ _ _ _ _ Y.drew
  have HYD := Lib.hid (HY.out.below (Below.refl _ _).drew)
  have HB2 := Lib.hid HB.out.drew
  have LX2 := Lib.hid LX.out.drew
  clear zX kX fX zB kB fB HY HB LX
  generalize Y.drew = Z at *
  refine wpList_mapUpdateA rfl (.tmp 9) (.tmp 10) (.tmp 13) 90 rfl (keyW_int Tryz.underlying3) Tryz.underlying90 rfl HYD.out.files f ⟨s, s⟩ rfl rfl ?_
  intro w2 hm2 hg2 hz2
  have h2 := HYD.out.setFiles hm2 hg2
  have HD := Lib.hid h2
  have LX3 := Lib.hid (LX2.out.grown hg2 (fun e => by have := H.out.files.lt; injection e with e; omega))
  have HE : Hid (Ext F F w w2) := Ext.same ((Keeps.below HB2.out).trans ((Keeps.grown hg2 (fun b hb => by injection hb with hb; rw [← hb]; exact .inl H.out.ff))))
  clear hm2 hg2 hz2 h2
  obtain ⟨zB, kB, fB⟩ := HD.out.loc
  have hQx : (Value.slice Q d.queue.length cq).ownBlock ≠ some w.heap.size := fun e => Nat.lt_irrefl _ (H.out.queue.lt _ e).2
  have HDF := Lib.hid (DeleteFunc_any w2 Q d.queue.length cq d.queue HD.out.queue (by have := HO.out.len; omega) w.heap.size f LX3.out hQx)
  have HQX := Lib.hid hQx
  clear hQx
  go_frame
  go_wp2_with ((with_reducible refine (HDF.out).mono ?_); rintro e w3 ⟨k, rfl, hk, ho3, hg3⟩; have HK3 := Lib.hid hk; have HO3 := Lib.hid ho3; have HG3 := Lib.hid hg3; clear hk ho3 hg3 zB kB fB; obtain ⟨zB, kB, fB⟩ := HD.out.loc.grown HG3.out (fun e => HD.out.nq (by rw [slice_block] at e; exact e)))
  have hM4 := (HD.out.set.grown HG3.out (own_ne_map HD.out.queue HD.out.set)).grown (grownBy_setCell w3 ⟨B, 1, none⟩ (.slice Q k cq)) (fun e => loc_ne_map HD.out.loc (by simp) HD.out.set (by injection e))
  have hX4 := (LX3.out.grown HG3.out HQX.out).far (p := ⟨B, 1, none⟩) (by have := H.out.lt B H.out.fB; simp; omega) (.slice Q k cq)
  have HMD := Lib.hid (MapsDelete_any _ ms d.queue hM4 HO.out.nodup w.heap.size f hX4 (by have := H.out.set.lt; omega))
  clear hM4 hX4
  (with_reducible refine (HMD.out).mono ?_)
  rintro e w4 ⟨rfl, hm4, hg4⟩
  have HM4 := Lib.hid hm4
  have HG4 := Lib.hid hg4
  clear hm4 hg4
  go_wp2_with (fail)
  go_end0
  exact ⟨rfl, (settle_fin HD.out HK3.out HO3.out HG3.out HG4.out HM4.out).from HE.out (kk_of H.out HD.out rfl)⟩
end
end Go.Proofs.YtjncmlglhegnaaaGreatDoor
namespace Go.Proofs.YtjncmlglhegnaaaGreatDoor
open Go.RowKit
theorem and_mask (i : Nat) (hi : i ≤ 62) (x : Int) : bits .and .i64 x (((2 ^ i - 1 : Nat)) : Int) = x % ((2 ^ i : Nat) : Int) := by
  have hp : (2 : Nat) ^ i ≤ 2 ^ 62 := Nat.pow_le_pow_right (by omega) hi
  have hp0 : 0 < (2 : Nat) ^ i := Nat.two_pow_pos i
  have h62 : (2 : Nat) ^ 62 = 4611686018427387904 := by decide
  have h64 : (2 : Nat) ^ 64 = 18446744073709551616 := by decide
  have h1 : (BitVec.ofInt 64 (((2 ^ i - 1 : Nat)) : Int)).toNat = 2 ^ i - 1 := by
    rw [BitVec.toNat_ofInt]
    omega
  have h2 : (BitVec.ofInt 64 x).toNat = (x % 18446744073709551616).toNat := by
    rw [BitVec.toNat_ofInt]
    congr 1
  have hdvd : ((2 ^ i : Nat) : Int) ∣ 18446744073709551616 := by
    have : (2 : Nat) ^ i ∣ 2 ^ 64 := Nat.pow_dvd_pow 2 (by omega)
    rw [h64] at this
    exact Int.natCast_dvd_natCast.2 this
  have h3 : ((x % 18446744073709551616).toNat % 2 ^ i : Nat) = (x % ((2 ^ i : Nat) : Int)).toNat := by
    have e1 : (((x % 18446744073709551616).toNat % 2 ^ i : Nat) : Int) = x % ((2 ^ i : Nat) : Int) := by
      rw [Int.natCast_emod, Int.toNat_of_nonneg (by omega)]
      exact Int.emod_emod_of_dvd x hdvd
    omega
  show IntKind.i64.wrap (((BitVec.ofInt 64 x &&& BitVec.ofInt 64 (((2 ^ i - 1 : Nat)) : Int)).toNat : Nat) : Int) = _
  rw [BitVec.toNat_and, h1, h2, Nat.and_two_pow_sub_one_eq_mod, h3]
  have h4 : 0 ≤ x % ((2 ^ i : Nat) : Int) := Int.emod_nonneg _ (by omega)
  have h5 : x % ((2 ^ i : Nat) : Int) < ((2 ^ i : Nat) : Int) := Int.emod_lt_of_pos _ (by omega)
  rw [Int.toNat_of_nonneg h4, IntKind.wrap_i64]
  omega
theorem and1 (x : Int) : bits .and .i64 x 1 = x % 2 := by simpa using and_mask 1 (by omega) x
theorem and3 (x : Int) : bits .and .i64 x 3 = x % 4 := by simpa using and_mask 2 (by omega) x
theorem and7 (x : Int) : bits .and .i64 x 7 = x % 8 := by simpa using and_mask 3 (by omega) x
end Go.Proofs.YtjncmlglhegnaaaGreatDoor
