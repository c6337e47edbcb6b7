/- Words for numbers: '&' with 1, 3, 7 at an int. -/
/- disk: Crash. -/
import Derived.Test.YtjncmlglhegnaaaGreatDoorBase4
import Derived.Laws.BitsLemmas
import Derived.Test.YtjncmlglhegnaaaGreatDoorDiskG
namespace Go.Proofs.YtjncmlglhegnaaaGreatDoor
open Go.RowKit
theorem and_mask (i : Nat) (hi : i ≤ 62) (x : Int) : bits .and .i64 x (((2 ^ i - 1 : Nat)) : Int) = x % ((2 ^ i : Nat) : Int) := by
  have hp : (2 : Nat) ^ i ≤ 2 ^ 62 := Nat.pow_le_pow_right (by omega) hi
  have hp0 : 0 < (2 : Nat) ^ i := Nat.two_pow_pos i
  have h62 : (2 : Nat) ^ 62 = 4611686018427387904 := by decide
  have h64 : (2 : Nat) ^ 64 = 18446744073709551616 := by decide
  have h1 : (BitVec.ofInt 64 (((2 ^ i - 1 : Nat)) : Int)).toNat = 2 ^ i - 1 := by
    rw [BitVec.toNat_ofInt]
    omega
  have h2 : (BitVec.ofInt 64 x).toNat = (x % 18446744073709551616).toNat := by
    rw [BitVec.toNat_ofInt]
    congr 1
  have hdvd : ((2 ^ i : Nat) : Int) ∣ 18446744073709551616 := by
    have : (2 : Nat) ^ i ∣ 2 ^ 64 := Nat.pow_dvd_pow 2 (by omega)
    rw [h64] at this
    exact Int.natCast_dvd_natCast.2 this
  have h3 : ((x % 18446744073709551616).toNat % 2 ^ i : Nat) = (x % ((2 ^ i : Nat) : Int)).toNat := by
    have e1 : (((x % 18446744073709551616).toNat % 2 ^ i : Nat) : Int) = x % ((2 ^ i : Nat) : Int) := by
      rw [Int.natCast_emod, Int.toNat_of_nonneg (by omega)]
      exact Int.emod_emod_of_dvd x hdvd
    omega
  show IntKind.i64.wrap (((BitVec.ofInt 64 x &&& BitVec.ofInt 64 (((2 ^ i - 1 : Nat)) : Int)).toNat : Nat) : Int) = _
  rw [BitVec.toNat_and, h1, h2, Nat.and_two_pow_sub_one_eq_mod, h3]
  have h4 : 0 ≤ x % ((2 ^ i : Nat) : Int) := Int.emod_nonneg _ (by omega)
  have h5 : x % ((2 ^ i : Nat) : Int) < ((2 ^ i : Nat) : Int) := Int.emod_lt_of_pos _ (by omega)
  rw [Int.toNat_of_nonneg h4, IntKind.wrap_i64]
  omega
theorem and1 (x : Int) : bits .and .i64 x 1 = x % 2 := by simpa using and_mask 1 (by omega) x
end Go.Proofs.YtjncmlglhegnaaaGreatDoor
namespace Go.Proofs.YtjncmlglhegnaaaGreatDoor
open Go.RowKit

/-- what becomes of the files by the i-th pending sector -/
def surviveStep (keep : List Int) (i : Nat) (p : Int × Int) (fs : List (Int × FileV)) : List (Int × FileV) :=
  if keep = [] ∨ (keep[i % keep.length]?).getD 0 % 2 = 0 then fs else surviveF fs p
theorem surviveAll_snoc (keep : List Int) (p : Int × Int) : ∀ (ps : List (Int × Int)) (i : Nat) (fs : List (Int × FileV)), surviveAll keep i (ps ++ [p]) fs = surviveStep keep (i + ps.length) p (surviveAll keep i ps fs)
  | [], i, fs => rfl
  | x :: ps, i, fs => by
    simp only [List.cons_append, surviveAll, List.length_cons]
    rw [surviveAll_snoc keep p ps (i + 1)]
    rw [show i + 1 + ps.length = i + (ps.length + 1) by omega]
theorem Sl.keeps {w w' : World} {F : Nat → Prop} {size n : Nat} {A : Option Addr} {xs : List (List Value)} (h : Sl w size A n xs) (hk : Keeps F w w') (hf : xs ≠ [] → ∀ ad, A = some ad → ¬ F ad.block) : Sl w' size A n xs := by
  refine ⟨h.1, fun i x hx => ?_⟩
  obtain ⟨b, o, hA, hb, hc⟩ := h.2 i x hx
  have hne : xs ≠ [] := fun e => by rw [e] at hx; simp at hx
  have hbl := hk.block b hb (hf hne _ hA)
  exact ⟨b, o, hA, Nat.lt_of_lt_of_le hb hk.size, fun j v hv => (World.cell?_of_block (w := w) (a := ⟨b, _, none⟩) hbl).trans (hc j v hv)⟩
theorem left_less3 {κ ν : Type} {l1 l2 : List (κ × ν × Bool)} {k : κ} {v u : ν} : ((l1 ++ (k, u, false) :: l2).filter fun p => p.2.2).length < ((l1 ++ (k, v, true) :: l2).filter fun p => p.2.2).length := by
  simp [List.filter_append, List.filter_cons]
/-- the files while a range loop makes their durable parts them -/
def CrashInv (fs : List (Int × FileV)) (l : List (Int × FileV × Bool)) : Prop :=
  (l.map fun p => (p.1, (⟨p.2.1.last, p.2.1.last⟩ : FileV))) = fs.map (fun p => (p.1, ⟨p.2.last, p.2.last⟩)) ∧ (∀ x ∈ l, x.2.2 = false → x.2.1 = ⟨x.2.1.last, x.2.1.last⟩)
theorem CrashInv.start (fs : List (Int × FileV)) : CrashInv fs (fs.map fun p => (p.1, p.2, true)) := by
  refine ⟨by simp [Function.comp_def], fun x hx h => ?_⟩
  obtain ⟨p, _, rfl⟩ := List.mem_map.1 hx
  cases h
theorem CrashInv.done {fs : List (Int × FileV)} {l : List (Int × FileV × Bool)} (h : CrashInv fs l) (hd : ∀ p ∈ l, p.2.2 = false) : (l.map fun p => (p.1, p.2.1)) = fs.map (fun p => (p.1, ⟨p.2.last, p.2.last⟩)) := by
  rw [← h.1]
  refine List.map_congr_left fun x hx => ?_
  have := h.2 x hx (hd x hx)
  exact congrArg (fun q => (x.1, q)) this
theorem CrashInv.next {fs : List (Int × FileV)} {l1 l2 : List (Int × FileV × Bool)} {k : Int} {v : FileV} (h : CrashInv fs (l1 ++ (k, v, true) :: l2)) : CrashInv fs (l1 ++ (k, ⟨v.last, v.last⟩, false) :: l2) := by
  refine ⟨by simpa using h.1, fun x hx hf => ?_⟩
  simp only [List.mem_append, List.mem_cons] at hx
  rcases hx with hx | rfl | hx
  · exact h.2 x (by simp [hx]) hf
  · rfl
  · exact h.2 x (by simp [hx]) hf
theorem CrashInv.keys {fs : List (Int × FileV)} {l : List (Int × FileV × Bool)} (h : CrashInv fs l) : l.map (·.1) = fs.map (·.1) := by
  have := congrArg (List.map (·.1)) h.1
  simpa [Function.comp_def] using this
theorem CrashInv.fresh {fs : List (Int × FileV)} {l1 l2 : List (Int × FileV × Bool)} {k : Int} {v : FileV} {b : Bool} (h : CrashInv fs (l1 ++ (k, v, b) :: l2)) (hn : (fs.map (·.1)).Nodup) : ∀ p ∈ l1, p.1 ≠ k := by
  intro p hp e
  rw [← h.keys, List.map_append, List.map_cons, List.nodup_append] at hn
  exact hn.2.2 p.1 (List.mem_map.2 ⟨p, hp, rfl⟩) k (by simp) e
section
variable {w : World} {F : Nat → Prop} {B : Nat} {d : DV} {mf ms : Nat} {Q : Option Addr} {cq : Nat} {K : Option Addr} {ck : Nat}
theorem crash_fin {w' : World} {fs : List (Int × FileV)} (H : DiskAt w F B d mf ms Q cq K ck) (hg : w.grownBy w' (some mf)) (hm : MapAt w' mf (entV (Value.int .i64) fileV fs)) :
    DskTo F w B { d with files := fs, queue := [] } (((w'.alloc (.map #[] 0)).setCell ⟨B, 1, none⟩ (.slice none 0 0)).setCell ⟨B, 2, none⟩ (.map (some w'.heap.size))) := by
  have H1 := (H.setFiles hm hg).below (below_alloc w' (.map #[] 0))
  have hl := (H1.loc.set_ 1 (.slice none 0 0)).set_ 2 (.map (some w'.heap.size))
  have lB := H.lt B H.fB
  have z := hg.size
  have nBf := loc_ne_map H1.loc (by simp) H1.files
  have lf := H.lt mf H.ff
  have hms := (MapAt.new_ w').grown (grownBy_setCell _ ⟨B, 1, none⟩ (.slice none 0 0)) (fun e => by injection e with e; have e' : B = w'.heap.size := e; omega)
  have hms2 := hms.grown (grownBy_setCell _ ⟨B, 2, none⟩ (.map (some w'.heap.size))) (fun e => by injection e with e; have e' : B = w'.heap.size := e; omega)
  have hmf2 := (H1.files.grown (grownBy_setCell _ ⟨B, 1, none⟩ (.slice none 0 0)) (fun e => nBf (by injection e))).grown (grownBy_setCell _ ⟨B, 2, none⟩ (.map (some w'.heap.size))) (fun e => nBf (by injection e))
  have hk := H.keep_grown (H.keep_grown H1.keep (grownBy_setCell _ ⟨B, 1, none⟩ (.slice none 0 0)) (fun b hb => .inl (by injection hb with hb; rw [← hb]; exact H.fB))) (grownBy_setCell _ ⟨B, 2, none⟩ (.map (some w'.heap.size))) (fun b hb => .inl (by injection hb with hb; rw [← hb]; exact H.fB))
  have hfin : DiskAt (((w'.alloc (.map #[] 0)).setCell ⟨B, 1, none⟩ (.slice none 0 0)).setCell ⟨B, 2, none⟩ (.map (some w'.heap.size))) (fun k => F k ∨ k = w'.heap.size) B { d with files := fs, queue := [] } mf w'.heap.size none 0 K ck := by
    refine ⟨hl, hmf2, hms2, Own.nil_ _ _ _ _, hk, .inl H.fB, .inl H.ff, .inr rfl, fun b hb => by simp [Value.ownBlock] at hb, fun hkn ad he hh => ?_, by omega, by simp [Value.ownBlock], fun b hb => ?_⟩
    · rcases hh with hh | hh
      · exact H.fk hkn ad he hh
      · have := H.keep_lt hkn ad he
        omega
    · simp only [World.size_setCell, World.size_alloc]
      rcases hb with hb | hb
      · have := H.lt b hb; omega
      · omega
  refine ⟨fun k => F k ∨ k = w'.heap.size, ⟨mf, w'.heap.size, none, 0, K, ck, hfin⟩, ⟨?_, fun _ h => .inl h, fun k hk => ?_⟩, kk_of H hfin rfl⟩
  · exact (((Keeps.grown hg (fun b hb => by injection hb with hb; rw [← hb]; exact H.ff)).trans (Keeps.below (below_alloc w' _))).trans (Keeps.setCell (p := ⟨B, 1, none⟩) (.inl H.fB) _)).trans (Keeps.setCell (p := ⟨B, 2, none⟩) (.inl H.fB) _)
  · rcases hk with hk | hk
    · exact .inl hk
    · exact .inr ⟨by omega, by simp only [World.size_setCell, World.size_alloc]; omega⟩
end
section
variable {w : World} {F : Nat → Prop} {B : Nat} {d : DV} {mf ms : Nat} {Q : Option Addr} {cq : Nat} {K : Option Addr} {ck : Nat}
set_option maxRecDepth 100000 in
set_option maxHeartbeats 2000000 in
theorem Crash_no (h : DiskAt w F B d mf ms Q cq K ck) (keep : List Int) (A : Option Addr) (c : Nat) (hd : d.down = true) :
    Calls Tryz.prog 23 #[.pointer (some ⟨B, 0, none⟩), .slice A keep.length c] w fun e w' => e = .returned (.tuple #[]) ∧ DskTo F w B (crashF d keep) w' := by
  have HR := Lib.hid (DskTo.refl h)
  obtain ⟨zB, kB, fB⟩ := h.loc
  rw [hd] at kB
  unfold crashF
  rw [if_pos hd]
  clear h hd
  go_enter Tryz.func23, Tryz.ntmps23
  go_wp2_with (fail)
  exact bodyPost_ret (v := .tuple #[]) (by simp [results, Tryz.results23, go_sem]) rfl ⟨rfl, HR.out⟩
set_option maxRecDepth 100000 in
set_option maxHeartbeats 4000000 in
theorem Crash_yes (h : DiskAt w F B d mf ms Q cq K ck) (hok : DOk d) (keep : List Int) (kn : Nat) (hkn : keep.length = kn) (A : Option Addr) (c : Nat) (hs : Sl w 1 A kn (keep.map fun k => [.int .i64 k])) (hkl : kn ≤ 5000000) (hkf : keep ≠ [] → ∀ ad, A = some ad → ¬ F ad.block) (hd : d.down = false) :
    Calls Tryz.prog 23 #[.pointer (some ⟨B, 0, none⟩), .slice A kn c] w fun e w' => e = .returned (.tuple #[]) ∧
      DskTo F w B { d with files := (surviveAll keep 0 d.queue d.files).map (fun p => (p.1, ⟨p.2.last, p.2.last⟩)), queue := [], down := true, armed := 0 } w' := by
  have HKN := Lib.hid hkn
  clear hkn
  have HS := Lib.hid hs
  have HKF := Lib.hid hkf
  have HO := Lib.hid hok
  have h1 := h.setField d.lost d.armed true (i := 4) (v := .bool true) (by simp)
  have h2 := h1.setField d.lost 0 true (i := 5) (v := .int .i64 0) (by simp)
  have H2 := Lib.hid h2
  have HF := Lib.hid h
  have hkeeps := (Keeps.setCell (w := w) (p := ⟨B, 4, none⟩) h.fB (.bool true)).trans (Keeps.setCell (w := w.setCell ⟨B, 4, none⟩ (.bool true)) (p := ⟨B, 5, none⟩) (.inl h.fB) (.int .i64 0))
  have HK := Lib.hid hkeeps
  have hql := hok.len
  obtain ⟨zB, kB, fB⟩ := h.loc
  rw [hd] at kB
  clear h h1 h2 hd hs hkf hok hkeeps
  go_enter Tryz.func23, Tryz.ntmps23
  go_wp2_with (fail)
  generalize hW : (w.setCell ⟨B, 4, none⟩ (.bool true)).setCell ⟨B, 5, none⟩ (.int .i64 0) = W at *
  clear zB kB fB hW
  go_loopw [25] (fun i wr => ∃ k : Nat, k ≤ d.queue.length ∧ i = .int .i64 k ∧ DiskAt wr F B { d with files := surviveAll keep 0 (d.queue.take k) d.files, down := true, armed := 0 } mf ms Q cq K ck ∧ Keeps F w wr) (fun i _ => d.queue.length - (intOf i).toNat)
  case atStart => exact ⟨0, Nat.zero_le _, rfl, by rw [List.take_zero]; exact H2.out, HK.out⟩
  case round =>
    obtain ⟨k, hk, rfl, hA, hE⟩ := hrel
    obtain ⟨wo, rfl⟩ : ∃ wo : World, wo = wr := ⟨_, rfl⟩
    have HE := Lib.hid hE
    by_cases hlt : k < d.queue.length
    · obtain ⟨p, hp⟩ : ∃ p, d.queue[k]? = some p := ⟨_, List.getElem?_eq_getElem hlt⟩
      have hsn : surviveAll keep 0 (d.queue.take (k + 1)) d.files = surviveStep keep k p (surviveAll keep 0 (d.queue.take k) d.files) := by
        rw [List.take_add_one, hp, Option.toList_some, surviveAll_snoc, Nat.zero_add, List.length_take, Nat.min_eq_left (by omega)]
      have hfok : FOk (surviveAll keep 0 (d.queue.take k) d.files) := FOk.surviveAll HO.out.fok
      have HSN := Lib.hid hsn
      generalize surviveAll keep 0 (d.queue.take k) d.files = fs at *
      obtain ⟨b, o, hAQ, hbl, hcell⟩ := hA.queue.sl'.2 k (secCells p) (by rw [List.getElem?_map, hp]; rfl)
      obtain ⟨pf, pn⟩ := p
      have hpr := HO.out.queue _ (List.mem_of_getElem? hp)
      obtain ⟨⟨p1, p2⟩, p3, p4⟩ := hpr
      simp only at p1 p2 p3 p4
      have c0 := hcell 0 _ rfl
      have c1 := hcell 1 _ rfl
      rw [Nat.add_zero] at c0
      have hki : (k : Int) < (d.queue.length : Int) := by omega
      have HA := Lib.hid hA
      have HFOK := Lib.hid hfok
      clear hA hE hp hsn hcell hfok
      subst hAQ
      go_wp2_with (fail)
      have LP := Lib.hid (Loc.new_ wo #[.int .i64 pf, .int .i64 pn] 119)
      have HA1 := Lib.hid (HA.out.below (below_alloc wo (.cells #[.int .i64 pf, .int .i64 pn] 119)))
      have HB := Lib.hid (below_alloc wo (.cells #[.int .i64 pf, .int .i64 pn] 119))
      generalize wo.alloc (.cells #[.int .i64 pf, .int .i64 pn] 119) = V at *
      obtain ⟨zB, kB, fB⟩ := HA1.out.loc
      obtain ⟨zP, kP, fP⟩ := LP.out
      have hlk : ∀ W, Below V.heap.size V W → _ := fun W hb => (HA1.out.below hb).look pf
      unfold fileV strV at hlk
      have HLK := Lib.hid hlk
      clear hlk
      have hxf : ({ files := fs, queue := d.queue, lost := d.lost, down := true, armed := 0, keep := d.keep } : DV).file pf = (getA pf fs).getD noFile := rfl
      have hxok := HFOK.out.get pf
      rw [hxf] at HLK
      generalize hx : (getA pf fs).getD noFile = x at *
      obtain ⟨xn, xl⟩ := x
      have hw : IntKind.i64.wrap (pn * 64) = pn * 64 := IntWalk.i64_in _ (by omega)
      have hsl := strV_len xn
      refine wpTill.start (S := fun w' => w'.cell? ⟨B, 0, none⟩ = some (.map (some mf)) ∧ w'.cell? ⟨wo.heap.size, 0, none⟩ = some (.int .i64 pf) ∧ w'.cell? ⟨wo.heap.size, 1, none⟩ = some (.int .i64 pn) ∧ (Instr.lookup 90 (.map (some mf)) (.int .i64 pf) false).run Tryz.prog w' = .ok (.agg #[.string ⟨xn.toArray⟩, .string ⟨xl.toArray⟩]) w') (T := fun _ => True) (m := 99) (by kernel_rfl) ?_
      have HS0 : Hid (V.drew.cell? ⟨B, 0, none⟩ = some (.map (some mf)) ∧ V.drew.cell? ⟨wo.heap.size, 0, none⟩ = some (.int .i64 pf) ∧ V.drew.cell? ⟨wo.heap.size, 1, none⟩ = some (.int .i64 pn) ∧ (Instr.lookup 90 (.map (some mf)) (.int .i64 pf) false).run Tryz.prog V.drew = .ok (.agg #[.string ⟨xn.toArray⟩, .string ⟨xl.toArray⟩]) V.drew) :=
        ⟨kB 0, kP 0, kP 1, HLK.out _ (Below.refl _ _).drew⟩
      refine wpTill.take (i := 0) (v := ?_) (by rfl) rfl (by kernel_rfl) (by kernel_rfl) (by kernel_rfl) (by exact fun _ _ _ h => h) HS0.out (fun _ => trivial) (Or.inl ⟨by rfl, ?_⟩) ?_
      rotate_left
      · (intro w' hSw; (try dsimp only at hSw); go_simp; (try with_reducible rfl))
      (try simp only [Act.put, List.setIfInBounds_toArray, List.set_cons_zero, List.set_cons_succ, List.getElem_toArray, List.getElem_cons_zero, List.getElem_cons_succ])
      refine wpTill.take (i := 1) (v := ?_) (by rfl) rfl (by kernel_rfl) (by kernel_rfl) (by kernel_rfl) (by exact fun _ _ _ h => h) HS0.out (fun _ => trivial) (Or.inl ⟨by rfl, ?_⟩) ?_
      rotate_left
      · (intro w' hSw; (try dsimp only at hSw); go_simp; (try with_reducible rfl))
      (try simp only [Act.put, List.setIfInBounds_toArray, List.set_cons_zero, List.set_cons_succ, List.getElem_toArray, List.getElem_cons_zero, List.getElem_cons_succ])
      refine wpTill.take (i := 2) (v := ?_) (by rfl) rfl (by kernel_rfl) (by kernel_rfl) (by kernel_rfl) (by exact fun _ _ _ h => h) HS0.out (fun _ => trivial) (Or.inl ⟨by rfl, ?_⟩) ?_
      rotate_left
      · (intro w' hSw; (try dsimp only at hSw); go_simp; (try with_reducible rfl))
      (try simp only [Act.put, List.setIfInBounds_toArray, List.set_cons_zero, List.set_cons_succ, List.getElem_toArray, List.getElem_cons_zero, List.getElem_cons_succ])
      refine wpTill.take (i := 3) (v := ?_) (by rfl) rfl (by kernel_rfl) (by kernel_rfl) (by kernel_rfl) (by exact fun _ _ _ h => h) HS0.out (fun _ => trivial) (Or.inl ⟨by rfl, ?_⟩) ?_
      rotate_left
      · (intro w' hSw; (try dsimp only at hSw); go_simp; (try with_reducible rfl))
      (try simp only [Act.put, List.setIfInBounds_toArray, List.set_cons_zero, List.set_cons_succ, List.getElem_toArray, List.getElem_cons_zero, List.getElem_cons_succ])
      refine wpTill.take (i := 4) (v := ?_) (by rfl) rfl (by kernel_rfl) (by kernel_rfl) (by kernel_rfl) (by exact fun _ _ _ h => h) HS0.out (fun _ => trivial) (Or.inl ⟨by rfl, ?_⟩) ?_
      rotate_left
      · (intro w' hSw; (try dsimp only at hSw); go_simp; (try with_reducible rfl))
      (try simp only [Act.put, List.setIfInBounds_toArray, List.set_cons_zero, List.set_cons_succ, List.getElem_toArray, List.getElem_cons_zero, List.getElem_cons_succ])
      refine wpTill.take (i := 5) (v := ?_) (by rfl) rfl (by kernel_rfl) (by kernel_rfl) (by kernel_rfl) (by exact fun _ _ _ h => h) HS0.out (fun _ => trivial) (Or.inl ⟨by rfl, ?_⟩) ?_
      rotate_left
      · (intro w' hSw; (try dsimp only at hSw); go_simp; (try with_reducible rfl))
      (try simp only [Act.put, List.setIfInBounds_toArray, List.set_cons_zero, List.set_cons_succ, List.getElem_toArray, List.getElem_cons_zero, List.getElem_cons_succ])
      refine wpTill.take (i := 6) (v := ?_) (by rfl) rfl (by kernel_rfl) (by kernel_rfl) (by kernel_rfl) (by exact fun _ _ _ h => h) HS0.out (fun _ => trivial) (Or.inl ⟨by rfl, ?_⟩) ?_
      rotate_left
      · (intro w' hSw; (try dsimp only at hSw); go_simp; (try with_reducible rfl))
      (try simp only [Act.put, List.setIfInBounds_toArray, List.set_cons_zero, List.set_cons_succ, List.getElem_toArray, List.getElem_cons_zero, List.getElem_cons_succ])
      refine wpTill.take (i := 7) (v := ?_) (by rfl) rfl (by kernel_rfl) (by kernel_rfl) (by kernel_rfl) (by exact fun _ _ _ h => h) HS0.out (fun _ => trivial) (Or.inl ⟨by rfl, ?_⟩) ?_
      rotate_left
      · (intro w' hSw; (try dsimp only at hSw); go_simp; (try with_reducible rfl))
      (try simp only [Act.put, List.setIfInBounds_toArray, List.set_cons_zero, List.set_cons_succ, List.getElem_toArray, List.getElem_cons_zero, List.getElem_cons_succ])
      refine wpTill.take (i := 8) (v := ?_) (by rfl) rfl (by kernel_rfl) (by kernel_rfl) (by kernel_rfl) (by exact fun _ _ _ h => h) HS0.out (fun _ => trivial) (Or.inl ⟨by rfl, ?_⟩) ?_
      rotate_left
      · (intro w' hSw; (try dsimp only at hSw); go_simp; (try with_reducible rfl))
      (try simp only [Act.put, List.setIfInBounds_toArray, List.set_cons_zero, List.set_cons_succ, List.getElem_toArray, List.getElem_cons_zero, List.getElem_cons_succ])
      refine wpTill.take (i := 9) (v := ?_) (by rfl) rfl (by kernel_rfl) (by kernel_rfl) (by kernel_rfl) (by exact fun _ _ _ h => h) HS0.out (fun _ => trivial) (Or.inl ⟨by rfl, ?_⟩) ?_
      rotate_left
      · (intro w' hSw; (try dsimp only at hSw); go_simp; (try with_reducible rfl))
      (try simp only [Act.put, List.setIfInBounds_toArray, List.set_cons_zero, List.set_cons_succ, List.getElem_toArray, List.getElem_cons_zero, List.getElem_cons_succ])
      refine wpTill.step (i := 10) (by kernel_rfl) (by rfl) (fun K' hK => ?_)
      replace hK := Lib.hid hK
      go_simp
      have HSa : ∀ o : Obj, Hid ((V.alloc o).drew.cell? ⟨B, 0, none⟩ = some (.map (some mf)) ∧ (V.alloc o).drew.cell? ⟨wo.heap.size, 0, none⟩ = some (.int .i64 pf) ∧ (V.alloc o).drew.cell? ⟨wo.heap.size, 1, none⟩ = some (.int .i64 pn) ∧ (Instr.lookup 90 (.map (some mf)) (.int .i64 pf) false).run Tryz.prog (V.alloc o).drew = .ok (.agg #[.string ⟨xn.toArray⟩, .string ⟨xl.toArray⟩]) (V.alloc o).drew) := fun o =>
        ⟨(HA1.out.loc.alloc o).drew.cell 0, (LP.out.alloc o).drew.cell 0, (LP.out.alloc o).drew.cell 1, HLK.out _ (below_alloc V o).drew⟩
      have HSA := Lib.hid HSa
      clear HSa
      refine hK.out _ _ (HSA.out _).out (fun _ => trivial) ?_
      clear hK K'
      (try simp only [Act.put, List.setIfInBounds_toArray, List.set_cons_zero, List.set_cons_succ, List.getElem_toArray, List.getElem_cons_zero, List.getElem_cons_succ])
      refine wpTill.step (i := 11) (by kernel_rfl) (by rfl) (fun K' hK => ?_)
      replace hK := Lib.hid hK
      go_simp
      refine hK.out _ _ (HSA.out _).out (fun _ => trivial) ?_
      clear hK K'
      (try simp only [Act.put, List.setIfInBounds_toArray, List.set_cons_zero, List.set_cons_succ, List.getElem_toArray, List.getElem_cons_zero, List.getElem_cons_succ])
      refine wpTill.take (i := 12) (v := ?_) (by rfl) rfl (by kernel_rfl) (by kernel_rfl) (by kernel_rfl) (by exact fun _ _ _ h => h) (HSA.out _).out (fun _ => trivial) (Or.inl ⟨by rfl, ?_⟩) ?_
      rotate_left
      · (intro w' hSw; (try dsimp only at hSw); go_simp; (try with_reducible rfl))
      (try simp only [Act.put, List.setIfInBounds_toArray, List.set_cons_zero, List.set_cons_succ, List.getElem_toArray, List.getElem_cons_zero, List.getElem_cons_succ])
      refine wpTill.stop (by kernel_rfl) ?_ _
      have LP2 := Lib.hid (LP.out.below (below_alloc V (.cells #[.string ⟨xn.toArray⟩, .string ⟨xl.toArray⟩] 121)).drew)
      have HA2 := Lib.hid (HA1.out.below (below_alloc V (.cells #[.string ⟨xn.toArray⟩, .string ⟨xl.toArray⟩] 121)).drew)
      have HB2 := Lib.hid (HB.out.trans ((below_alloc V (.cells #[.string ⟨xn.toArray⟩, .string ⟨xl.toArray⟩] 121)).drew.mono HB.out.size))
      have LF2 := Lib.hid (Loc.new_ V #[.string ⟨xn.toArray⟩, .string ⟨xl.toArray⟩] 121).drew
      have HVz : Hid (wo.heap.size < V.heap.size) := LP.out.lt
      clear HS0 HSA HA1 LP HB HLK hw zB kB fB zP kP fP
      generalize (V.alloc (.cells #[.string ⟨xn.toArray⟩, .string ⟨xl.toArray⟩] 121)).drew = Y at *
      generalize V.heap.size = bf at *
      obtain ⟨zP, kP, fP⟩ := LP2.out
      obtain ⟨zF, kF, fF⟩ := LF2.out
      obtain ⟨zB, kB, fB⟩ := HA2.out.loc
      have HEY : Hid (Keeps F w Y) := HE.out.trans (Keeps.below HB2.out)
      by_cases h1 : keep = []
      · obtain rfl : kn = 0 := by rw [← HKN.out, h1]; rfl
        have H1 := Lib.hid h1
        have hkz : ((0 : Nat) : Int) = 0 := rfl
        clear h1
        go_wp2_with (fail)
        go_roundw
        case rel =>
          refine ⟨k + 1, by omega, by go_num, ?_, HEY.out⟩
          rw [HSN.out, surviveStep, if_pos (Or.inl H1.out)]
          exact HA2.out
        case measure => simp [intOf]; omega
      · have hkp : 0 < kn := by rw [← HKN.out]; exact List.length_pos_iff.2 h1
        have hkz : ((kn : Int) == 0) = false := by simp; omega
        obtain ⟨i, hi⟩ : ∃ i, k % kn = i := ⟨_, rfl⟩
        have hil : i < kn := by rw [← hi]; exact Nat.mod_lt _ hkp
        have hmod : (k : Int) % (kn : Int) = (i : Int) := by rw [← hi]; simp
        obtain ⟨kv, hkv⟩ : ∃ kv, keep[i]? = some kv := ⟨_, List.getElem?_eq_getElem (by rw [HKN.out]; exact hil)⟩
        have hSk := HS.out.keeps HEY.out (fun hne => HKF.out h1)
        obtain ⟨bk, ok, hAk, _, hck⟩ := hSk.2 i [.int .i64 kv] (by rw [List.getElem?_map, hkv]; rfl)
        have c2 := hck 0 _ rfl
        rw [Nat.mul_one, Nat.add_zero] at c2
        subst hAk
        have hki2 : (i : Int) < (kn : Int) := by omega
        have hkn : ¬ ((kn : Int) = 0) := by omega
        have hst : surviveStep keep k (pf, pn) fs = if kv % 2 = 0 then fs else surviveF fs (pf, pn) := by
          unfold surviveStep
          rw [HKN.out, hi, hkv]
          simp [h1]
        have HST := Lib.hid hst
        clear hSk hck hkv hi hst h1
        have hband := and1 kv
        by_cases h2 : kv % 2 = 0
        · have hb0 : bits BinOp.and IntKind.i64 kv 1 = 0 := by omega
          have H2 := Lib.hid h2
          clear hband h2
          go_wp2_with (fail)
          go_roundw
          case rel =>
            refine ⟨k + 1, by omega, by go_num, ?_, HEY.out⟩
            rw [HSN.out, HST.out, if_pos H2.out]
            exact HA2.out
          case measure => simp [intOf]; omega
        · have hb0 : bits BinOp.and IntKind.i64 kv 1 = 1 := by omega
          have H2 := Lib.hid h2
          clear hband h2
          by_cases h3 : (xn.length : Int) ≤ pn * 64
          · have H3 := Lib.hid h3
            go_wp2_with (fail)
            go_roundw
            case rel =>
              refine ⟨k + 1, by omega, by go_num, ?_, HEY.out⟩
              rw [HSN.out, HST.out, if_neg H2.out, surviveF]
              simp only [hx]
              rw [if_pos H3.out]
              exact HA2.out
            case measure => simp [intOf]; omega
          · have h3' : pn * 64 < (xn.length : Int) := by omega
            clear h3
            obtain ⟨a, ha⟩ : ∃ a : Nat, pn * 64 = (a : Int) := ⟨(pn * 64).toNat, by omega⟩
            have hapn : (pn * 64).toNat = a := by omega
            have HAP := Lib.hid (And.intro ha hapn)
            rw [ha] at h3'
            go_wp2_with (fail)
            have hal : a < xn.length := by omega
            have hxnl : xn.length ≤ 16777216 := hxok.1
            obtain ⟨t, ht⟩ : ∃ t, (xn.drop a).take 64 = t := ⟨_, rfl⟩
            have htl : a + t.length ≤ 16777216 := by rw [← ht, List.length_take, List.length_drop]; omega
            have hp := fun w1 => put_any w1 xl t a hxok.2 htl _ rfl
            unfold strV at hp
            have HP := Lib.hid hp
            have hwr : IntKind.i64.wrap ((a : Int) + 64) = (a : Int) + 64 := IntWalk.i64_in _ (by omega)
            have HT := Lib.hid ht
            clear hp
            obtain ⟨e, he⟩ : ∃ e : Nat, min (a + 64) xn.length = e := ⟨_, rfl⟩
            have hmin : (if (xn.length : Int) < (a : Int) + 64 then (xn.length : Int) else (a : Int) + 64) = (e : Int) := by split <;> omega
            have he1 : (a : Int) ≤ (e : Int) := by omega
            have he2 : (e : Int) ≤ (xn.length : Int) := by omega
            have hex : ByteArray.extract ⟨xn.toArray⟩ a e = ⟨t.toArray⟩ := by
              rw [extract_list, ← ht]
              congr 2
              rw [List.take_eq_take_iff, List.length_drop]
              omega
            have HE2 := Lib.hid he
            clear he hal
            refine wpTill.start (S := fun w' => w'.cell? ⟨bf, 0, none⟩ = some (.string ⟨xn.toArray⟩)) (T := fun w' => w'.cell? ⟨bf, 1, none⟩ = some (.string ⟨xl.toArray⟩)) (m := 15) (by kernel_rfl) ?_
            have HS1 : Hid (Y.drew.cell? ⟨bf, 0, none⟩ = some (.string ⟨xn.toArray⟩)) := kF 0
            have HT1 : Hid (Y.drew.cell? ⟨bf, 1, none⟩ = some (.string ⟨xl.toArray⟩)) := kF 1
            refine wpTill.take (i := 0) (v := ?_) (by rfl) rfl (by kernel_rfl) (by kernel_rfl) (by kernel_rfl) (by exact fun _ _ _ h => h) HS1.out (fun _ => HT1.out) (Or.inl ⟨by rfl, ?_⟩) ?_
            rotate_left
            · (intro w' hSw; (try dsimp only at hSw); go_simp; (try with_reducible rfl))
            (try simp only [Act.put, List.setIfInBounds_toArray, List.set_cons_zero, List.set_cons_succ, List.getElem_toArray, List.getElem_cons_zero, List.getElem_cons_succ])
            refine wpTill.takeT (i := 1) (v := ?_) (by rfl) rfl (by kernel_rfl) (by kernel_rfl) (by kernel_rfl) (by exact fun _ _ _ h => h) HS1.out HT1.out rfl (by kernel_rfl) (Or.inl ⟨by rfl, ?_⟩) ?_
            rotate_left
            · (intro w' hSw; (try dsimp only at hSw); go_simp; (try with_reducible rfl))
            (try simp only [Act.put, List.setIfInBounds_toArray, List.set_cons_zero, List.set_cons_succ, List.getElem_toArray, List.getElem_cons_zero, List.getElem_cons_succ])
            refine wpTill.take (i := 2) (v := ?_) (by rfl) rfl (by kernel_rfl) (by kernel_rfl) (by kernel_rfl) (by exact fun _ _ _ h => h) HS1.out (fun _ => HT1.out) (Or.inl ⟨by rfl, ?_⟩) ?_
            rotate_left
            · (intro w' hSw; (try dsimp only at hSw); go_simp; (try with_reducible rfl))
            (try simp only [Act.put, List.setIfInBounds_toArray, List.set_cons_zero, List.set_cons_succ, List.getElem_toArray, List.getElem_cons_zero, List.getElem_cons_succ])
            refine wpTill.take (i := 3) (v := ?_) (by rfl) rfl (by kernel_rfl) (by kernel_rfl) (by kernel_rfl) (by exact fun _ _ _ h => h) HS1.out (fun _ => HT1.out) (Or.inl ⟨by rfl, ?_⟩) ?_
            rotate_left
            · (intro w' hSw; (try dsimp only at hSw); go_simp; (try with_reducible rfl))
            (try simp only [Act.put, List.setIfInBounds_toArray, List.set_cons_zero, List.set_cons_succ, List.getElem_toArray, List.getElem_cons_zero, List.getElem_cons_succ])
            refine wpTill.take (i := 4) (v := ?_) (by rfl) rfl (by kernel_rfl) (by kernel_rfl) (by kernel_rfl) (by exact fun _ _ _ h => h) HS1.out (fun _ => HT1.out) (Or.inl ⟨by rfl, ?_⟩) ?_
            rotate_left
            · (intro w' hSw; (try dsimp only at hSw); go_simp; (try with_reducible rfl))
            (try simp only [Act.put, List.setIfInBounds_toArray, List.set_cons_zero, List.set_cons_succ, List.getElem_toArray, List.getElem_cons_zero, List.getElem_cons_succ])
            refine wpTill.take (i := 5) (v := ?_) (by rfl) rfl (by kernel_rfl) (by kernel_rfl) (by kernel_rfl) (by exact fun _ _ _ h => h) HS1.out (fun _ => HT1.out) (Or.inl ⟨by rfl, ?_⟩) ?_
            rotate_left
            · (intro w' hSw; (try dsimp only at hSw); go_simp; (try with_reducible rfl))
            (try simp only [Act.put, List.setIfInBounds_toArray, List.set_cons_zero, List.set_cons_succ, List.getElem_toArray, List.getElem_cons_zero, List.getElem_cons_succ])
            refine wpTill.take (i := 6) (v := ?_) (by rfl) rfl (by kernel_rfl) (by kernel_rfl) (by kernel_rfl) (by exact fun _ _ _ h => h) HS1.out (fun _ => HT1.out) (Or.inl ⟨by rfl, ?_⟩) ?_
            rotate_left
            · (intro w' hSw; (try dsimp only at hSw); go_simp; (try with_reducible rfl))
            (try simp only [Act.put, List.setIfInBounds_toArray, List.set_cons_zero, List.set_cons_succ, List.getElem_toArray, List.getElem_cons_zero, List.getElem_cons_succ])
            refine wpTill.take (i := 7) (v := ?_) (by rfl) rfl (by kernel_rfl) (by kernel_rfl) (by kernel_rfl) (by exact fun _ _ _ h => h) HS1.out (fun _ => HT1.out) (Or.inl ⟨by rfl, ?_⟩) ?_
            rotate_left
            · (intro w' hSw; (try dsimp only at hSw); go_simp; (try with_reducible rfl))
            (try simp only [Act.put, List.setIfInBounds_toArray, List.set_cons_zero, List.set_cons_succ, List.getElem_toArray, List.getElem_cons_zero, List.getElem_cons_succ])
            refine wpTill.take (i := 8) (v := ?_) (by rfl) rfl (by kernel_rfl) (by kernel_rfl) (by kernel_rfl) (by exact fun _ _ _ h => h) HS1.out (fun _ => HT1.out) (Or.inl ⟨by rfl, ?_⟩) ?_
            rotate_left
            · (intro w' hSw; (try dsimp only at hSw); go_simp; (try with_reducible rfl))
            (try simp only [Act.put, List.setIfInBounds_toArray, List.set_cons_zero, List.set_cons_succ, List.getElem_toArray, List.getElem_cons_zero, List.getElem_cons_succ])
            refine wpTill.take (i := 9) (v := ?_) (by rfl) rfl (by kernel_rfl) (by kernel_rfl) (by kernel_rfl) (by exact fun _ _ _ h => h) HS1.out (fun _ => HT1.out) (Or.inl ⟨by rfl, ?_⟩) ?_
            rotate_left
            · (intro w' hSw; (try dsimp only at hSw); go_simp; (try with_reducible rfl))
            (try simp only [Act.put, List.setIfInBounds_toArray, List.set_cons_zero, List.set_cons_succ, List.getElem_toArray, List.getElem_cons_zero, List.getElem_cons_succ])
            refine wpTill.take (i := 10) (v := ?_) (by rfl) rfl (by kernel_rfl) (by kernel_rfl) (by kernel_rfl) (by exact fun _ _ _ h => h) HS1.out (fun _ => HT1.out) (Or.inl ⟨by rfl, ?_⟩) ?_
            rotate_left
            · (intro w' hSw; (try dsimp only at hSw); go_simp; (try with_reducible rfl))
            (try simp only [Act.put, List.setIfInBounds_toArray, List.set_cons_zero, List.set_cons_succ, List.getElem_toArray, List.getElem_cons_zero, List.getElem_cons_succ])
            refine wpTill.take (i := 11) (v := ?_) (by rfl) rfl (by kernel_rfl) (by kernel_rfl) (by kernel_rfl) (by exact fun _ _ _ h => h) HS1.out (fun _ => HT1.out) (Or.inl ⟨by rfl, ?_⟩) ?_
            rotate_left
            · (intro w' hSw; (try dsimp only at hSw); go_simp; (try with_reducible rfl))
            (try simp only [Act.put, List.setIfInBounds_toArray, List.set_cons_zero, List.set_cons_succ, List.getElem_toArray, List.getElem_cons_zero, List.getElem_cons_succ])
            refine wpTill.take (i := 12) (v := ?_) (by rfl) rfl (by kernel_rfl) (by kernel_rfl) (by kernel_rfl) (by exact fun _ _ _ h => h) HS1.out (fun _ => HT1.out) (Or.inl ⟨by rfl, ?_⟩) ?_
            rotate_left
            · (intro w' hSw; (try dsimp only at hSw); go_simp; (try with_reducible rfl))
            (try simp only [Act.put, List.setIfInBounds_toArray, List.set_cons_zero, List.set_cons_succ, List.getElem_toArray, List.getElem_cons_zero, List.getElem_cons_succ])
            refine wpTill.step (i := 13) (by kernel_rfl) (by rfl) (fun K' hK => ?_)
            replace hK := Lib.hid hK
            go_simp
            (with_reducible refine (HP.out _).mono ?_)
            rintro e w4 ⟨rfl, hb4⟩
            have LF4 := Lib.hid (LF2.out.drew.below hb4)
            have HB4 := Lib.hid hb4
            clear hb4
            go_wp2_with (fail)
            refine hK.out _ _ (LF4.out.cell 0) (fun _ => LF4.out.cell 1) ?_
            clear hK K'
            (try simp only [Act.put, List.setIfInBounds_toArray, List.set_cons_zero, List.set_cons_succ, List.getElem_toArray, List.getElem_cons_zero, List.getElem_cons_succ])
            refine wpTill.take (i := 14) (v := ?_) (by rfl) rfl (by kernel_rfl) (by kernel_rfl) (by kernel_rfl) (by exact fun _ _ _ h => h) (LF4.out.cell 0) (fun _ => LF4.out.cell 1) (Or.inl ⟨by rfl, ?_⟩) ?_
            rotate_left
            · (intro w' hSw; (try dsimp only at hSw); go_simp; (try with_reducible rfl))
            (try simp only [Act.put, List.setIfInBounds_toArray, List.set_cons_zero, List.set_cons_succ, List.getElem_toArray, List.getElem_cons_zero, List.getElem_cons_succ])
            clear zF kF fF
            obtain ⟨zF, kF, fF⟩ := LF4.out
            refine wpTill.step (i := 15) (by kernel_rfl) (by rfl) (fun K' hK => ?_)
            replace hK := Lib.hid hK
            go_simp
            have LF5 := Lib.hid (LF4.out.set_ 1 (.string ⟨(putB xl a t).toArray⟩))
            have HB5 : Hid (Below wo.heap.size wo (w4.setCell ⟨bf, 1, none⟩ (.string ⟨(putB xl a t).toArray⟩))) := (HB2.out.drew.trans (HB4.out.mono (by have := HB2.out.size; exact this))).setCell (Nat.le_of_lt HVz.out) _
            have LP5 := Lib.hid ((LP2.out.drew.below HB4.out).far (p := ⟨bf, 1, none⟩) (by have := HVz.out; simp; omega) (.string ⟨(putB xl a t).toArray⟩))
            refine hK.out _ _ (LF5.out.cell 0) (fun h => nomatch (show true = false from h)) ?_
            clear hK K'
            (try simp only [Act.put, List.setIfInBounds_toArray, List.set_cons_zero, List.set_cons_succ, List.getElem_toArray, List.getElem_cons_zero, List.getElem_cons_succ])
            refine wpTill.stop (by kernel_rfl) ?_ _
            clear HS1 HT1 HP zF kF fF zB kB fB zP kP fP LF4 hmin he1 he2 hex
            generalize w4.setCell ⟨bf, 1, none⟩ (.string ⟨(putB xl a t).toArray⟩) = Z at *
            have HA5 := Lib.hid (HA.out.below HB5.out)
            obtain ⟨zB, kB, fB⟩ := HA5.out.loc
            obtain ⟨zF, kF, fF⟩ := LF5.out
            obtain ⟨zP, kP, fP⟩ := LP5.out
            go_wp2_with (fail)
            go_still_tail 7, (by kernel_rfl)
            change wpList _ _ _ _ _ Z.drew
            have HAZ := Lib.hid (HA5.out.below (Below.refl _ _).drew)
            have HBZ := Lib.hid HB5.out.drew
            clear zB kB fB zF kF fF zP kP fP HA5 HB5 LF5 LP5
            generalize Z.drew = Z2 at *
            refine wpList_mapUpdateA rfl (.tmp 79) (.tmp 81) (.tmp 82) 90 rfl (keyW_int Tryz.underlying3) Tryz.underlying90 rfl HAZ.out.files pf ⟨xn, putB xl a t⟩ rfl rfl ?_
            intro w6 hm6 hg6 hz6
            have HA6 := Lib.hid (HAZ.out.setFiles hm6 hg6)
            have HE6 : Hid (Keeps F w w6) := (HE.out.trans (Keeps.below HBZ.out)).trans (Keeps.grown hg6 (fun b hb => .inl (by injection hb with hb; rw [← hb]; exact HF.out.ff)))
            clear hm6 hg6 hz6
            go_frame
            go_wp2_with (fail)
            go_roundw
            case rel =>
              refine ⟨k + 1, by omega, by go_num, ?_, HE6.out⟩
              have hsf : surviveF fs (pf, pn) = putA pf ⟨xn, putB xl a t⟩ fs := by
                unfold surviveF
                simp only [hx]
                rw [HAP.out.1, if_neg (by omega), Int.toNat_natCast, HT.out]
              rw [HSN.out, HST.out, if_neg H2.out, hsf]
              exact HA6.out
            case measure => simp [intOf]; omega
    · obtain rfl : k = d.queue.length := by omega
      rw [List.take_length] at hA
      have hfok : FOk (surviveAll keep 0 d.queue d.files) := FOk.surviveAll HO.out.fok
      have HFOK := Lib.hid hfok
      generalize hfs : surviveAll keep 0 d.queue d.files = fs at *
      have HFS := Lib.hid hfs
      have HA := Lib.hid hA
      obtain ⟨zB, kB, fB⟩ := hA.loc
      clear hA hE hfok hfs
      go_wp2_with (at_range; refine wpList_rangeA rfl _ 90 rfl Tryz.underlying90 rfl HA.out.files ?_; intro w0 hrg0 hb0 hz0; replace hrg0 := Lib.hid hrg0; replace hb0 := Lib.hid hb0; clear hz0)
      have HG0 := Lib.hid (grown_of_below hb0.out (some mf))
      clear zB kB fB
      go_loopw [89] (fun _ wr => ∃ l, CrashInv fs l ∧ RangeAt (Value.int .i64) fileV wr mf wo.heap.size l ∧ wo.grownBy wr (some mf)) (fun _ wr => wr.rangeLeft mf wo.heap.size)
      case atStart => exact ⟨_, CrashInv.start fs, hrg0.out, HG0.out⟩
      case round =>
        obtain ⟨l, hi, hr, hg⟩ := hrel
        obtain ⟨wu, rfl⟩ : ∃ wu : World, wu = wr := ⟨_, rfl⟩
        have HIr := Lib.hid hi
        have HRr := Lib.hid hr
        have HGr := Lib.hid hg
        have hz : wo.heap.size ≤ wu.heap.size := hg.size
        clear hi hr hg
        go_wp2_with (at_next; refine wpList_nextA rfl _ rfl rfl HRr.out ?_ ?_; intro hdone; replace hdone := Lib.hid hdone; rotate_left; intro l1 k v l2 w1 hl hr1 hg1 hz1 hen; obtain ⟨xn, xl⟩ := v; replace hl := Lib.hid hl; replace hr1 := Lib.hid hr1; replace hg1 := Lib.hid hg1; unfold fileV strV at hen; replace hz1 := Lib.hid hz1; rotate_left; go_frame)
        · have hmm := @run_makeMap Tryz.prog
          obtain ⟨zB, kB, fB⟩ := HA.out.loc.grown HGr.out (fun e => loc_ne_map HA.out.loc (by simp) HA.out.files (by injection e with e; exact e.symm))
          go_wp2_with (fail)
          go_end0
          have hm := HRr.out.map
          rw [HIr.out.done hdone.out] at hm
          have HX := crash_fin HA.out HGr.out hm
          have lB := Nat.lt_of_lt_of_le (HA.out.lt B HA.out.fB) HGr.out.size
          rw [World.setCell_alloc_past _ _ _ _ lB, World.setCell_alloc_past _ _ _ _ (by rw [World.size_setCell]; exact lB)] at HX
          rw [HFS.out]
          exact ⟨rfl, HX.from (Ext.same HE.out) (kk_of HF.out HA.out rfl)⟩
        · obtain ⟨zB, kB, fB⟩ := (HA.out.loc.grown HGr.out (fun e => loc_ne_map HA.out.loc (by simp) HA.out.files (by injection e with e; exact e.symm))).grown hg1.out (fun e => by have := HA.out.loc.lt; injection e with e; omega)
          have HLB := Lib.hid (Loc.mk zB kB fB)
          have HR1 := hr1
          have HG1 := Lib.hid (HGr.out.andThen hg1.out (fun j hj => .inl (by injection hj with hj; omega)))
          clear hr1 hg1
          go_wp2_with (fail)
          have LF := Lib.hid (Loc.new_ w1 #[.string ⟨xn.toArray⟩, .string ⟨xl.toArray⟩] 121)
          have HBx := Lib.hid (below_alloc w1 (.cells #[.string ⟨xn.toArray⟩, .string ⟨xl.toArray⟩] 121))
          have LB2 := Lib.hid (HLB.out.alloc (.cells #[.string ⟨xn.toArray⟩, .string ⟨xl.toArray⟩] 121))
          clear zB kB fB hen
          generalize w1.alloc (.cells #[.string ⟨xn.toArray⟩, .string ⟨xl.toArray⟩] 121) = V at *
          obtain ⟨zB, kB, fB⟩ := LB2.out
          obtain ⟨zF, kF, fF⟩ := LF.out
          go_still_tail 10, (by kernel_rfl)
          change wpList _ _ _ _ _ V.drew
          have HBV := Lib.hid HBx.out.drew
          clear zB kB fB zF kF fF LF HBx LB2
          generalize V.drew = Z at *
          have HRZ := Lib.hid (HR1.out.grown (grown_of_below HBV.out none) (by simp) (by simp))
          refine wpList_mapUpdateR rfl (.tmp 97) (.tmp 98) (.tmp 103) 90 rfl (keyW_int Tryz.underlying3) Tryz.underlying90 ⟨xl, xl⟩ rfl HRZ.out (CrashInv.fresh (by have := HIr.out; rw [hl.out] at this; exact this) HFOK.out.2) rfl rfl ?_
          intro w3 hr3 hg3 hz3
          have HR3 := Lib.hid hr3
          have HG3 := Lib.hid ((HG1.out.andThen (grown_of_below HBV.out none) (fun j hj => by cases hj)).andThen hg3 (fun j hj => .inr hj))
          clear hr3 hg3 hz3
          go_frame
          go_roundw
          case rel =>
            have h := HIr.out
            rw [hl.out] at h
            exact ⟨_, _, _, _, _, _, _, _, _, _, _, _, _, _, _, _, _, ⟨_, h.next, HR3.out, HG3.out⟩, rfl⟩
          case measure =>
            rw [HR3.out.left, HRr.out.left, hl.out]
            exact left_less3
end
end Go.Proofs.YtjncmlglhegnaaaGreatDoor
