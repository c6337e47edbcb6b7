/- disk: write. -/
/- disk: slices.IndexFunc, slices.DeleteFunc and maps.DeleteFunc with settle's closures. -/
/- disk: maps.DeleteFunc with settle's closure. -/
/- Words for numbers: '&' with 1, 3, 7 at an int. -/
/- disk: Crash. -/
import Derived.Test.YtjncmlglhegnaaaGreatDoorDiskD
import Derived.StillTailTactics
import Derived.Test.YtjncmlglhegnaaaGreatDoorOrdL
import Derived.Test.YtjncmlglhegnaaaGreatDoorBase4
import Derived.Laws.BitsLemmas
namespace Go.Proofs.YtjncmlglhegnaaaGreatDoor
open Go.RowKit

section
variable {w : World} {F : Nat → Prop} {B : Nat} {d : DV} {mf ms : Nat} {Q : Option Addr} {cq : Nat} {K : Option Addr} {ck : Nat}
/-- the files are another list of entries -/
theorem DiskAt.setFiles {w' : World} {fs : List (Int × FileV)} (h : DiskAt w F B d mf ms Q cq K ck) (hm : MapAt w' mf (entV (Value.int .i64) fileV fs)) (hg : w.grownBy w' (some mf)) : DiskAt w' F B { d with files := fs } mf ms Q cq K ck := by
  have n1 : B ≠ mf := loc_ne_map h.loc (by simp) h.files
  have hq : (Value.slice Q d.queue.length cq).ownBlock ≠ some mf := fun e => by
    obtain ⟨arr, clock, hb, _⟩ := h.files
    rcases h.queue.1.2 with ⟨hv, _⟩ | ⟨g, cap, cur, hv, _, hgb, _⟩
    · rw [hv] at e
      simp [Value.ownBlock] at e
    · rw [hv] at e
      simp only [Value.ownBlock, Option.some.injEq] at e
      subst e
      rw [hb] at hgb
      cases hgb
  refine ⟨h.loc.grown hg (fun e => n1 (by injection e with e; exact e.symm)), hm, h.set.grown hg (fun e => h.ne (by injection e)), h.queue.kept hg (.inr hq), ?_, h.fB, h.ff, h.fs, h.fq, h.fk, h.ne, h.nq, fun b hb => Nat.lt_of_lt_of_le (h.lt b hb) hg.size⟩
  refine h.keep.grown hg ?_
  by_cases hk : d.keep = []
  · exact .inl (by rw [hk]; rfl)
  · exact .inr fun ad e e' => h.fk hk ad e (by injection e' with e'; rw [← e']; exact h.ff)
theorem own_ne_map {base : Nat} {e : TypeId} {size n b : Nat} {v : Value} {xs : List (List Value)} {es : List (Value × Value)} (ho : Own w base e size v n xs) (hm : MapAt w b es) : v.ownBlock ≠ some b := fun e' => by
  obtain ⟨arr, clock, hb, _⟩ := hm
  rcases ho.1.2 with ⟨hv, _⟩ | ⟨g, cap, cur, hv, _, hgb, _⟩
  · rw [hv] at e'
    simp [Value.ownBlock] at e'
  · rw [hv] at e'
    simp only [Value.ownBlock, Option.some.injEq] at e'
    subst e'
    rw [hb] at hgb
    cases hgb
theorem DiskAt.keep_lt (h : DiskAt w F B d mf ms Q cq K ck) (hk : d.keep ≠ []) : ∀ ad, K = some ad → ad.block < w.heap.size := fun ad he => by
  obtain ⟨k, ks, e⟩ := List.exists_cons_of_ne_nil hk
  obtain ⟨b, o, hA, hb, _⟩ := h.keep.2 0 [.int .i64 k] (by rw [e]; rfl)
  rw [he] at hA
  injection hA with hA
  rw [hA]
  exact hb
/-- the keep list stays, whatever is written of F, or new -/
theorem DiskAt.keep_grown (h : DiskAt w F B d mf ms Q cq K ck) {x x' : World} {row : Option Nat} (hs : Sl x 1 K d.keep.length (d.keep.map fun k => [.int .i64 k])) (hg : x.grownBy x' row) (hr : ∀ b, row = some b → F b ∨ w.heap.size ≤ b) : Sl x' 1 K d.keep.length (d.keep.map fun k => [.int .i64 k]) := by
  refine hs.grown hg ?_
  by_cases hk : d.keep = []
  · exact .inl (by rw [hk]; rfl)
  · refine .inr fun ad e e' => ?_
    rcases hr _ e' with h1 | h1
    · exact h.fk hk ad e h1
    · have := h.keep_lt hk ad e
      omega
theorem write_fin {V w4 w5 w6 : World} {o : Obj} {A4 : Option Addr} {c4 : Nat} {p : Int × Int} (H : DiskAt V F B d mf ms Q cq K ck)
    (hown4 : Own w4 0 119 2 (.slice A4 (d.queue.length + 1) c4) (d.queue.length + 1) (d.queue.map secCells ++ [secCells p]))
    (hg4 : (V.alloc o).drew.grownBy w4 (Value.slice Q d.queue.length cq).ownBlock)
    (hat4 : (Value.slice A4 (d.queue.length + 1) c4).ownBlock = (Value.slice Q d.queue.length cq).ownBlock ∨ (Value.slice A4 (d.queue.length + 1) c4).ownBlock = some (V.alloc o).drew.heap.size)
    (hg5 : (w4.setCell ⟨B, 1, none⟩ (.slice A4 (d.queue.length + 1) c4)).grownBy w5 (some ms)) (hg6 : w5.grownBy w6 (some ms))
    (hm6 : MapAt w6 ms (entV secV Value.bool ((d.queue ++ [p]).map fun p => (p, true)))) : DskTo F V B { d with queue := d.queue ++ [p] } w6 := by
  have e0 : (V.alloc o).drew.heap.size = V.heap.size + 1 := by show (V.alloc o).heap.size = _; simp
  have H1 := H.below ((below_alloc V o).drew)
  have nBf := loc_ne_map H.loc (by simp) H.files
  have nBs := loc_ne_map H.loc (by simp) H.set
  have nQf := own_ne_map H.queue H.files
  have nQs := own_ne_map H.queue H.set
  have nQB : (Value.slice Q d.queue.length cq).ownBlock ≠ some B := fun e => H.nq (by rw [slice_block] at e; exact e)
  have lB := H.lt B H.fB
  have lf := H.lt mf H.ff
  have ls := H.lt ms H.fs
  have fQ : ∀ b, (Value.slice Q d.queue.length cq).ownBlock = some b → F b := fun b hb => H.fq b (by rw [← slice_block Q d.queue.length cq]; exact hb)
  have hA : ∀ b, (Value.slice A4 (d.queue.length + 1) c4).ownBlock = some b → F b ∨ b = V.heap.size + 1 := fun b hb => by
    rcases hat4 with h | h
    · exact .inl (fQ b (by rw [← h]; exact hb))
    · rw [h, e0] at hb
      injection hb with hb
      exact .inr hb.symm
  have aB : (Value.slice A4 (d.queue.length + 1) c4).ownBlock ≠ some B := fun e => by
    rcases hat4 with h | h
    · exact nQB (by rw [← h]; exact e)
    · rw [h, e0] at e
      injection e with e
      omega
  have as_ : (Value.slice A4 (d.queue.length + 1) c4).ownBlock ≠ some ms := fun e => by
    rcases hat4 with h | h
    · exact nQs (by rw [← h]; exact e)
    · rw [h, e0] at e
      injection e with e
      omega
  have gB := grownBy_setCell w4 ⟨B, 1, none⟩ (.slice A4 (d.queue.length + 1) c4)
  have z4 := hg4.size
  have z5 := hg5.size
  have z6 := hg6.size
  rw [World.size_setCell] at z5
  have nsB : (some ms : Option Nat) ≠ some B := fun e => nBs (by injection e with e; exact e.symm)
  have nsf : (some ms : Option Nat) ≠ some mf := fun e => H.ne (by injection e with e; exact e.symm)
  have hloc := (((H1.loc.grown hg4 nQB).set_ 1 (.slice A4 (d.queue.length + 1) c4)).grown hg5 nsB).grown hg6 nsB
  have hfiles := (((H1.files.grown hg4 nQf).grown gB (fun e => nBf (by injection e))).grown hg5 nsf).grown hg6 nsf
  have hq6 := ((hown4.other (p := ⟨B, 1, none⟩) aB (.slice A4 (d.queue.length + 1) c4)).kept hg5 (.inr as_)).kept hg6 (.inr as_)
  have hk6 := H.keep_grown (H.keep_grown (H.keep_grown (H.keep_grown H1.keep hg4 (fun b hb => .inl (fQ b hb))) gB (fun b hb => .inl (by injection hb with hb; rw [← hb]; exact H.fB))) hg5 (fun b hb => .inl (by injection hb with hb; rw [← hb]; exact H.fs))) hg6 (fun b hb => .inl (by injection hb with hb; rw [← hb]; exact H.fs))
  have hkeeps : Keeps F V w6 := ((((Keeps.below ((below_alloc V o).drew)).trans (Keeps.grown hg4 (fun b hb => .inl (fQ b hb)))).trans (Keeps.setCell (p := ⟨B, 1, none⟩) (.inl H.fB) _)).trans (Keeps.grown hg5 (fun b hb => .inl (by injection hb with hb; rw [← hb]; exact H.fs)))).trans (Keeps.grown hg6 (fun b hb => .inl (by injection hb with hb; rw [← hb]; exact H.fs)))
  have hal : ∀ b, (Value.slice A4 (d.queue.length + 1) c4).ownBlock = some b → b < w6.heap.size := fun b hb => (hq6.lt b hb).2
  have hfin : DiskAt w6 (fun k => F k ∨ (Value.slice A4 (d.queue.length + 1) c4).ownBlock = some k) B { d with queue := d.queue ++ [p] } mf ms A4 c4 K ck := by
    refine ⟨by simpa using hloc, hfiles, hm6, by simpa using hq6, hk6, .inl H.fB, .inl H.ff, .inl H.fs, fun b hb => .inr (by rw [slice_block]; exact hb), fun hk ad he hh => ?_, H.ne, fun e => aB (by rw [slice_block]; exact e), fun b hb => ?_⟩
    · rcases hh with hh | hh
      · exact H.fk hk ad he hh
      · rcases hA _ hh with h | h
        · exact H.fk hk ad he h
        · have := H.keep_lt hk ad he
          omega
    · rcases hb with hb | hb
      · have := H.lt b hb
        omega
      · exact hal b hb
  refine ⟨fun k => F k ∨ (Value.slice A4 (d.queue.length + 1) c4).ownBlock = some k, ⟨mf, ms, A4, c4, K, ck, hfin⟩, ⟨hkeeps, fun _ h => .inl h, fun k hk => ?_⟩, kk_of H hfin rfl⟩
  · rcases hk with hk | hk
    · exact .inl hk
    · rcases hA _ hk with h | h
      · exact .inl h
      · exact .inr ⟨by omega, hal _ hk⟩
theorem addQ_len : ∀ (ps q : List (Int × Int)), (addQ q ps).length ≤ q.length + ps.length
  | [], q => by simp [addQ]
  | p :: ps, q => by
    by_cases hp : p ∈ q
    · have := addQ_len ps q
      simp only [addQ, hp, if_true, List.length_cons]
      omega
    · have := addQ_len ps (q ++ [p])
      simp only [addQ, hp, if_false, List.length_cons]
      simp only [List.length_append, List.length_cons, List.length_nil] at this
      omega
theorem zeroBool (w : World) : (zeroValue 4).run Tryz.prog w = .ok (.bool false) w := by kernel_rfl
theorem getA_set (p : Int × Int) : ∀ q : List (Int × Int), getA p (q.map fun p => (p, true)) = if p ∈ q then some true else none
  | [] => rfl
  | x :: q => by
    simp only [List.map_cons, getA, List.mem_cons]
    by_cases h : p = x
    · simp [h]
    · simp [h, getA_set p q]
theorem DiskAt.has (h : DiskAt w F B d mf ms Q cq K ck) (p : Int × Int) : (Instr.lookup 91 (.map (some ms)) (secV p) false).run Tryz.prog w = .ok (.bool (decide (p ∈ d.queue))) w := by
  have := run_lookupA (P := Tryz.prog) keyW_sector Tryz.underlying91 (zeroBool w) h.set p
  rw [this, getA_set]
  by_cases hp : p ∈ d.queue <;> simp [hp]
theorem DskTo.refl (h : DiskAt w F B d mf ms Q cq K ck) : DskTo F w B d w := ⟨F, ⟨_, _, _, _, _, _, h⟩, Ext.refl _ _, KK.refl _ _⟩
set_option maxRecDepth 100000 in
set_option maxHeartbeats 2000000 in
theorem write_no (h : DiskAt w F B d mf ms Q cq K ck) (f at_ : Int) (s : List UInt8) (hat : -9223372036854775808 ≤ at_ ∧ at_ ≤ 9223372036854775807) (hs : s.length ≤ 140737488351232)
    (hno : mayF d f ≠ 0 ∨ at_ < 0 ∨ (16777216 < at_ ∨ 16777216 - at_ < s.length) ∨ s = []) :
    Calls Tryz.prog 201 #[.pointer (some ⟨B, 0, none⟩), .int .i64 f, .int .i64 at_, strV s] w fun e w' => e = .returned (.int .i64 (writeF d f at_ s).2) ∧ DskTo F w B (writeF d f at_ s).1 w' := by
  have hm' := may_any h f _ rfl
  have hl := strV_len s
  have HR := Lib.hid (DskTo.refl h)
  have HM := Lib.hid hm'
  unfold writeF
  clear h hm'
  by_cases hm : mayF d f = 0
  · rw [if_neg (by simp [hm])]
    rw [hm] at HM
    by_cases h1 : at_ < 0
    · rw [if_pos h1]
      clear hm hno
      unfold strV
      go_enter Tryz.func201, Tryz.ntmps201
      go_wp2_with ((with_reducible refine (HM.out).mono ?_); rintro _ _ ⟨rfl, rfl⟩)
      go_ret
      exact ⟨rfl, HR.out⟩
    · rw [if_neg h1]
      by_cases h2 : 16777216 < at_
      · rw [if_pos (Or.inl h2)]
        clear hm hno
        unfold strV
        go_enter Tryz.func201, Tryz.ntmps201
        go_wp2_with ((with_reducible refine (HM.out).mono ?_); rintro _ _ ⟨rfl, rfl⟩)
        go_ret
        exact ⟨rfl, HR.out⟩
      · by_cases h3 : 16777216 - at_ < s.length
        · rw [if_pos (Or.inr h3)]
          have h1' : 0 ≤ at_ := by omega
          have h2' : at_ ≤ 16777216 := by omega
          clear hm hno
          unfold strV
          go_enter Tryz.func201, Tryz.ntmps201
          go_wp2_with ((with_reducible refine (HM.out).mono ?_); rintro _ _ ⟨rfl, rfl⟩)
          go_ret
          exact ⟨rfl, HR.out⟩
        · rw [if_neg (by omega)]
          have h4 : s = [] := by
            rcases hno with h | h | h | h
            · exact absurd hm h
            · omega
            · omega
            · exact h
          subst h4
          rw [if_pos rfl]
          have h1' : 0 ≤ at_ := by omega
          have h2' : at_ ≤ 16777216 := by omega
          clear hm hno
          unfold strV
          go_enter Tryz.func201, Tryz.ntmps201
          go_wp2_with ((with_reducible refine (HM.out).mono ?_); rintro _ _ ⟨rfl, rfl⟩)
          go_ret
          exact ⟨rfl, HR.out⟩
  · rw [if_pos hm]
    have h1 : (mayF d f == 0) = false := by simpa using hm
    have h2 : (mayF d f != 0) = true := by simpa using hm
    clear hm hno
    unfold strV
    generalize mayF d f = m at *
    go_enter Tryz.func201, Tryz.ntmps201
    go_wp2_with ((with_reducible refine (HM.out).mono ?_); rintro _ _ ⟨rfl, rfl⟩)
    go_ret
    exact ⟨rfl, HR.out⟩
set_option maxRecDepth 100000 in
set_option maxHeartbeats 2000000 in
theorem write_yes (h : DiskAt w F B d mf ms Q cq K ck) (hok : DOk d) (f : Int) (a : Nat) (s : List UInt8) (hm : mayF d f = 0) (hfit : a + s.length ≤ 16777216) (hne : s ≠ []) :
    Calls Tryz.prog 201 #[.pointer (some ⟨B, 0, none⟩), .int .i64 f, .int .i64 a, strV s] w fun e w' => e = .returned (.int .i64 0) ∧ DskTo F w B { d with files := putA f ⟨putB (d.file f).now a s, (d.file f).last⟩ d.files, queue := addQ d.queue (touched f a s.length) } w' := by
  have hm' := may_any h f 0 hm
  have hl := strV_len s
  have hsn := strV_ne hne
  have hpos : 0 < s.length := List.length_pos_iff.2 hne
  have hse : s.isEmpty = false := by simp [hne]
  have H := Lib.hid h
  have HM := Lib.hid hm'
  have HO := Lib.hid hok
  have hlook := h.look f
  unfold fileV strV at hlook
  obtain ⟨zB, kB, fB⟩ := h.loc
  have hfl := hok.file f
  have hp := fun w1 => put_any w1 (d.file f).now s a hfl.1 (by omega) _ rfl
  unfold strV at hp
  have HP := Lib.hid hp
  clear hp
  have HL := Lib.hid hfl
  have b1 : (a : Int) ≤ (16777216 : Int) := by omega
  have b2 : (s.length : Int) ≤ (16777216 : Int) - (a : Int) := by omega
  have HW := Lib.hid zB
  clear h hm' hok hm hfl hne
  unfold strV
  go_enter Tryz.func201, Tryz.ntmps201
  go_wp2_with (first
    | ((with_reducible refine (HM.out).mono ?_); rintro _ _ ⟨rfl, rfl⟩)
    | ((with_reducible refine (HP.out _).mono ?_); rintro e w1 ⟨rfl, hb1⟩; obtain ⟨⟨zX, kX, fX⟩, hb0⟩ := locs1 hb1))
  have LX := Lib.hid ((⟨zX, kX, fX⟩ : Loc w1 w.heap.size _).set_ 0 (.string ⟨(putB (d.file f).now a s).toArray⟩))
  have HB1 := Lib.hid (hb0.setCell (p := ⟨w.heap.size, 0, none⟩) (Nat.le_refl _) (.string ⟨(putB (d.file f).now a s).toArray⟩))
  clear hb0 hb1 zX kX fX
  generalize w1.setCell ⟨w.heap.size, 0, none⟩ (.string ⟨(putB (d.file f).now a s).toArray⟩) = Y at *
  have HY := Lib.hid (H.out.below HB1.out)
  clear zB kB fB
  obtain ⟨zB, kB, fB⟩ := HY.out.loc
  obtain ⟨zX, kX, fX⟩ := LX.out
  clear hlook
  go_still_tail 6, (by kernel_rfl)
  change wpList _ _ _ _ _ Y.drew
  have HYD := Lib.hid (HY.out.below (Below.refl _ _).drew)
  have HB2 := Lib.hid HB1.out.drew
  clear zX kX fX zB kB fB HY HB1 LX
  generalize Y.drew = Z at *
  refine wpList_mapUpdateA rfl (.tmp 50) (.tmp 51) (.tmp 52) 90 rfl (keyW_int Tryz.underlying3) Tryz.underlying90 rfl HYD.out.files f ⟨putB (d.file f).now a s, (d.file f).last⟩ rfl rfl ?_
  intro w2 hm2 hg2 hz2
  have h2 := HYD.out.setFiles hm2 hg2
  have HD := Lib.hid h2
  have HE : Hid (Ext F F w w2) := Ext.same ((Keeps.below HB2.out).trans ((Keeps.grown hg2 (fun b hb => by injection hb with hb; rw [← hb]; exact .inl H.out.ff))))
  have HQ := Lib.hid (HO.out.putFile f ⟨putB (d.file f).now a s, (d.file f).last⟩ ⟨putB_le _ _ _ _ HL.out.1 (by omega), HL.out.2⟩)
  clear hm2 hg2 hz2 h2
  generalize hd2 : ({ d with files := putA f ⟨putB (d.file f).now a s, (d.file f).last⟩ d.files } : DV) = d2 at *
  go_wp2_with (fail)
  obtain ⟨q0, hq0⟩ : ∃ q0, a / 64 = q0 := ⟨_, rfl⟩
  obtain ⟨N, hN⟩ : ∃ N, (a + s.length - 1) / 64 - a / 64 + 1 = N := ⟨_, rfl⟩
  have hTl : (touched f a s.length).length = N := by unfold touched; rw [List.length_map, List.length_range, hN]
  have hTg : ∀ k, k < N → (touched f a s.length).take (k + 1) = (touched f a s.length).take k ++ [(f, (q0 : Int) + (k : Int))] := fun k hk => by
    rw [List.take_add_one, List.getElem?_eq_getElem (by omega)]
    simp only [touched, List.getElem_map, List.getElem_range, hq0, Option.toList_some]
    rfl
  have hTn : touched f a s.length = (touched f a s.length).take N := by rw [List.take_of_length_le (by omega)]
  have HTn := Lib.hid hTn
  have HTg := Lib.hid hTg
  have hq1 : (q0 : Int) ≤ 262144 := by omega
  have hq2 : (q0 : Int) + (N : Int) - 1 = ((a : Int) + (s.length : Int) - 1) / 64 := by omega
  have hq3 : (q0 : Int) + (N : Int) ≤ 262145 := by omega
  have HQ2 := Lib.hid hq2
  clear hTl hTg hTn hN hq2
  go_loopw [11] (fun i wr => ∃ k : Nat, k ≤ N ∧ i = .int .i64 ((q0 : Int) + (k : Int)) ∧ DskTo F w B { d2 with queue := addQ d.queue ((touched f a s.length).take k) } wr) (fun i _ => q0 + N - (intOf i).toNat)
  case atStart => exact ⟨0, Nat.zero_le _, by rw [← hq0]; simp, by rw [List.take_zero]; subst hd2; exact ⟨F, ⟨_, _, _, _, _, _, HD.out⟩, HE.out, kk_of H.out HD.out rfl⟩⟩
  case round =>
    obtain ⟨k, hk, rfl, hD⟩ := hrel
    by_cases hlt : k < N
    · obtain ⟨F1, ⟨mf', ms', Q1, cq1, K', ck', hA⟩, hE1, hkk⟩ := hD
      have HKK := Lib.hid hkk
      clear hkk
      have hT : (q0 : Int) + (k : Int) ≤ ((a : Int) + (s.length : Int) - 1) / 64 := by have := HQ2.out; omega
      have HT1 := Lib.hid (HTg.out k hlt)
      generalize hqq : addQ d.queue ((touched f a s.length).take k) = q at *
      have HA := Lib.hid hA
      have HE1 := Lib.hid hE1
      obtain ⟨zB, kB, fB⟩ := hA.loc
      have HZ := Lib.hid zB
      clear hA hE1
      obtain ⟨wo, rfl⟩ : ∃ wo : World, wo = wr := ⟨_, rfl⟩
      go_wp2_with (fail)
      have LP := Lib.hid (Loc.new_ wo #[.int .i64 f, .int .i64 ((q0 : Int) + (k : Int))] 119)
      have HA1 := Lib.hid (HA.out.below (below_alloc wo (.cells #[.int .i64 f, .int .i64 ((q0 : Int) + (k : Int))] 119)))
      have HB := Lib.hid (below_alloc wo (.cells #[.int .i64 f, .int .i64 ((q0 : Int) + (k : Int))] 119))
      generalize wo.alloc (.cells #[.int .i64 f, .int .i64 ((q0 : Int) + (k : Int))] 119) = W at *
      clear zB kB fB
      obtain ⟨zB, kB, fB⟩ := HA1.out.loc
      obtain ⟨zP, kP, fP⟩ := LP.out
      have hk0 := fun n => (HA1.out.below (bdrewN (Below.refl _ _) n)).has (f, (q0 : Int) + (k : Int))
      unfold secV at hk0
      by_cases hin : (f, (q0 : Int) + (k : Int)) ∈ q
      · simp only [hin, decide_true] at hk0
        go_quiet (fail)
        go_wp2_with (fail)
        have HAV := Lib.hid (HA1.out.below (bdrewN (Below.refl _ _) nq))
        have HBV := Lib.hid (bdrewN HB.out nq)
        generalize W.drewN nq = V at *
        clear zB kB fB zP kP fP hk0
        go_roundw
        case rel =>
          refine ⟨k + 1, by omega, by go_num, ?_⟩
          rw [HT1.out, addQ_append, hqq]
          simp only [addQ, hin, if_true]
          exact ⟨F1, ⟨_, _, _, _, _, _, HAV.out⟩, HE1.out.trans (Ext.same (Keeps.below HBV.out)), HKK.out.trans HE1.out.keeps.size (kk_of HA.out HAV.out rfl)⟩
        case measure => simp [intOf]; omega
      · simp only [hin, decide_false] at hk0
        go_quiet (fail)
        go_wp2_with (fail)
        have HAV := Lib.hid (HA1.out.below (bdrewN (Below.refl _ _) nq))
        have HBV := Lib.hid (bdrewN HB.out nq)
        have LPV := Lib.hid (LP.out.below (bdrewN (Below.refl _ _) nq))
        clear zB kB fB zP kP fP hk0
        generalize W.drewN nq = V at *
        obtain ⟨zB, kB, fB⟩ := HAV.out.loc
        obtain ⟨zP, kP, fP⟩ := LPV.out
        obtain ⟨i0, hi0, hi1, hi2, hi3⟩ := info_parts infoSector
        have hS0 : V.cell? ⟨B, 2, none⟩ = some (.map (some ms')) ∧ V.cell? ⟨wo.heap.size, 0, none⟩ = some (.int .i64 f) ∧ V.cell? ⟨wo.heap.size, 1, none⟩ = some (.int .i64 ((q0 : Int) + (k : Int))) := ⟨kB 2, kP 0, kP 1⟩
        have HS0 := Lib.hid hS0
        clear hS0
        have HQL : Hid (q.length ≤ 5000000) := by
          show q.length ≤ 5000000
          rw [← hqq]
          have h1 := addQ_len ((touched f a s.length).take k) d.queue
          have h2 := HO.out.len
          rw [List.length_take] at h1
          omega
        have hT0 : V.drew.cell? ⟨B, 1, none⟩ = some (.slice Q1 q.length cq1) := kB 1
        have HT0 := Lib.hid hT0
        clear hT0
        refine wpTill.start (S := fun w' => w'.cell? ⟨B, 2, none⟩ = some (.map (some ms')) ∧ w'.cell? ⟨wo.heap.size, 0, none⟩ = some (.int .i64 f) ∧ w'.cell? ⟨wo.heap.size, 1, none⟩ = some (.int .i64 ((q0 : Int) + (k : Int)))) (T := fun w' => w'.cell? ⟨B, 1, none⟩ = some (.slice Q1 q.length cq1)) (m := 15) (by kernel_rfl) ?_
        refine wpTill.take (i := 0) (v := ?_) (by rfl) rfl (by kernel_rfl) (by kernel_rfl) (by kernel_rfl) (by exact fun _ _ _ h => h) HS0.out (fun _ => HT0.out) (Or.inl ⟨by rfl, ?_⟩) ?_
        rotate_left
        · (intro w' hSw; (try dsimp only at hSw); go_simp; (try with_reducible rfl))
        (try simp only [Act.put, List.setIfInBounds_toArray, List.set_cons_zero, List.set_cons_succ])
        refine wpTill.take (i := 1) (v := ?_) (by rfl) rfl (by kernel_rfl) (by kernel_rfl) (by kernel_rfl) (by exact fun _ _ _ h => h) HS0.out (fun _ => HT0.out) (Or.inl ⟨by rfl, ?_⟩) ?_
        rotate_left
        · (intro w' hSw; (try dsimp only at hSw); go_simp; (try with_reducible rfl))
        (try simp only [Act.put, List.setIfInBounds_toArray, List.set_cons_zero, List.set_cons_succ])
        refine wpTill.take (i := 2) (v := ?_) (by rfl) rfl (by kernel_rfl) (by kernel_rfl) (by kernel_rfl) (by exact fun _ _ _ h => h) HS0.out (fun _ => HT0.out) (Or.inl ⟨by rfl, ?_⟩) ?_
        rotate_left
        · (intro w' hSw; (try dsimp only at hSw); go_simp; (try with_reducible rfl))
        (try simp only [Act.put, List.setIfInBounds_toArray, List.set_cons_zero, List.set_cons_succ])
        refine wpTill.take (i := 3) (v := ?_) (by rfl) rfl (by kernel_rfl) (by kernel_rfl) (by kernel_rfl) (by exact fun _ _ _ h => h) HS0.out (fun _ => HT0.out) (Or.inl ⟨by rfl, ?_⟩) ?_
        rotate_left
        · (intro w' hSw; (try dsimp only at hSw); go_simp; (try with_reducible rfl))
        (try simp only [Act.put, List.setIfInBounds_toArray, List.set_cons_zero, List.set_cons_succ])
        refine wpTill.take (i := 4) (v := ?_) (by rfl) rfl (by kernel_rfl) (by kernel_rfl) (by kernel_rfl) (by exact fun _ _ _ h => h) HS0.out (fun _ => HT0.out) (Or.inl ⟨by rfl, ?_⟩) ?_
        rotate_left
        · (intro w' hSw; (try dsimp only at hSw); go_simp; (try with_reducible rfl))
        (try simp only [Act.put, List.setIfInBounds_toArray, List.set_cons_zero, List.set_cons_succ])
        refine wpTill.take (i := 5) (v := ?_) (by rfl) rfl (by kernel_rfl) (by kernel_rfl) (by kernel_rfl) (by exact fun _ _ _ h => h) HS0.out (fun _ => HT0.out) (Or.inl ⟨by rfl, ?_⟩) ?_
        rotate_left
        · (intro w' hSw; (try dsimp only at hSw); go_simp; (try with_reducible rfl))
        (try simp only [Act.put, List.setIfInBounds_toArray, List.set_cons_zero, List.set_cons_succ])
        refine wpTill.take (i := 6) (v := ?_) (by rfl) rfl (by kernel_rfl) (by kernel_rfl) (by kernel_rfl) (by exact fun _ _ _ h => h) HS0.out (fun _ => HT0.out) (Or.inl ⟨by rfl, ?_⟩) ?_
        rotate_left
        · (intro w' hSw; (try dsimp only at hSw); go_simp; (try with_reducible rfl))
        (try simp only [Act.put, List.setIfInBounds_toArray, List.set_cons_zero, List.set_cons_succ])
        refine wpTill.take (i := 7) (v := ?_) (by rfl) rfl (by kernel_rfl) (by kernel_rfl) (by kernel_rfl) (by exact fun _ _ _ h => h) HS0.out (fun _ => HT0.out) (Or.inl ⟨by rfl, ?_⟩) ?_
        rotate_left
        · (intro w' hSw; (try dsimp only at hSw); go_simp; (try with_reducible rfl))
        (try simp only [Act.put, List.setIfInBounds_toArray, List.set_cons_zero, List.set_cons_succ])
        refine wpTill.take (i := 8) (v := ?_) (by rfl) rfl (by kernel_rfl) (by kernel_rfl) (by kernel_rfl) (by exact fun _ _ _ h => h) HS0.out (fun _ => HT0.out) (Or.inl ⟨by rfl, ?_⟩) ?_
        rotate_left
        · (intro w' hSw; (try dsimp only at hSw); go_simp; (try with_reducible rfl))
        (try simp only [Act.put, List.setIfInBounds_toArray, List.set_cons_zero, List.set_cons_succ])
        refine wpTill.takeT (i := 9) (v := ?_) (by rfl) rfl (by kernel_rfl) (by kernel_rfl) (by kernel_rfl) (by exact fun _ _ _ h => h) HS0.out HT0.out rfl (by kernel_rfl) (Or.inl ⟨by rfl, ?_⟩) ?_
        rotate_left
        · (intro w' hSw; (try dsimp only at hSw); go_simp; (try with_reducible rfl))
        (try simp only [Act.put, List.setIfInBounds_toArray, List.set_cons_zero, List.set_cons_succ])
        refine wpTill.take (i := 10) (v := ?_) (by rfl) rfl (by kernel_rfl) (by kernel_rfl) (by kernel_rfl) (by exact fun _ _ _ h => h) HS0.out (fun _ => HT0.out) (Or.inl ⟨by rfl, ?_⟩) ?_
        rotate_left
        · (intro w' hSw; (try dsimp only at hSw); go_simp; (try with_reducible rfl))
        (try simp only [Act.put, List.setIfInBounds_toArray, List.set_cons_zero, List.set_cons_succ])
        refine wpTill.step (i := 11) (by kernel_rfl) (by rfl) (fun K' hK => ?_)
        replace hK := Lib.hid hK
        go_simp
        have HS1 : Hid ((V.alloc (.cells #[.int .i64 f, .int .i64 ((q0 : Int) + (k : Int))] 119)).drew.cell? ⟨B, 2, none⟩ = some (.map (some ms')) ∧ (V.alloc (.cells #[.int .i64 f, .int .i64 ((q0 : Int) + (k : Int))] 119)).drew.cell? ⟨wo.heap.size, 0, none⟩ = some (.int .i64 f) ∧ (V.alloc (.cells #[.int .i64 f, .int .i64 ((q0 : Int) + (k : Int))] 119)).drew.cell? ⟨wo.heap.size, 1, none⟩ = some (.int .i64 ((q0 : Int) + (k : Int)))) :=
          ⟨(HAV.out.loc.alloc _).drew.cell 2, (LPV.out.alloc _).drew.cell 0, (LPV.out.alloc _).drew.cell 1⟩
        have HT1' : Hid ((V.alloc (.cells #[.int .i64 f, .int .i64 ((q0 : Int) + (k : Int))] 119)).drew.cell? ⟨B, 1, none⟩ = some (.slice Q1 q.length cq1)) := (HAV.out.loc.alloc _).drew.cell 1
        refine hK.out _ _ HS1.out (fun _ => HT1'.out) ?_
        clear hK K'
        (try simp only [Act.put, List.setIfInBounds_toArray, List.set_cons_zero, List.set_cons_succ])
        refine wpTill.step (i := 12) (by kernel_rfl) (by rfl) (fun K' hK => ?_)
        replace hK := Lib.hid hK
        refine step_append_sl _ (by rfl) (.tmp 84) (.tmp 86) _ (by rfl) 0 119 i0 _ 2 16 Tryz.underlying92 hi0 hi1 hi2 hi3 rfl (by omega) (.slice Q1 q.length cq1) q.length (q.map secCells) (by rfl) ((HAV.out.queue.alloc _).drew) (some ⟨V.heap.size, 0, none⟩) 1 1 [[.int .i64 f, .int .i64 ((q0 : Int) + (k : Int))]] (by rfl) (Sl.new_ _ _ _).drew (by simp) (by simp [Value.oneCell']) (by have := HQL.out; simp only [maxLen]; omega) (by have := HQL.out; omega) (Nat.zero_le _) ?_
        intro A4 c4 w4 hown4 hg4 hat4
        have HOW4 := Lib.hid hown4
        have HG4 := Lib.hid hg4
        have HAT4 := Lib.hid hat4
        have nQB : (Value.slice Q1 q.length cq1).ownBlock ≠ some B := fun e => HAV.out.nq (by rw [slice_block] at e; exact e)
        have nQP : (Value.slice Q1 q.length cq1).ownBlock ≠ some wo.heap.size := fun e => Nat.lt_irrefl _ (HA.out.queue.lt _ e).2
        have LB4 := Lib.hid ((HAV.out.loc.alloc _).drew.grown hg4 nQB)
        have LP4 := Lib.hid ((LPV.out.alloc _).drew.grown hg4 nQP)
        clear hown4 hg4 hat4
        have HS2 : Hid (w4.cell? ⟨B, 2, none⟩ = some (.map (some ms')) ∧ w4.cell? ⟨wo.heap.size, 0, none⟩ = some (.int .i64 f) ∧ w4.cell? ⟨wo.heap.size, 1, none⟩ = some (.int .i64 ((q0 : Int) + (k : Int)))) := ⟨LB4.out.cell 2, LP4.out.cell 0, LP4.out.cell 1⟩
        have HT2 : Hid (w4.cell? ⟨B, 1, none⟩ = some (.slice Q1 q.length cq1)) := LB4.out.cell 1
        refine hK.out _ _ HS2.out (fun _ => HT2.out) ?_
        clear hK K'
        (try simp only [Act.put, List.setIfInBounds_toArray, List.set_cons_zero, List.set_cons_succ])
        refine wpTill.take (i := 13) (v := ?_) (by rfl) rfl (by kernel_rfl) (by kernel_rfl) (by kernel_rfl) (by exact fun _ _ _ h => h) HS2.out (fun _ => HT2.out) (Or.inl ⟨by rfl, ?_⟩) ?_
        rotate_left
        · (intro w' hSw; (try dsimp only at hSw); go_simp; (try with_reducible rfl))
        (try simp only [Act.put, List.setIfInBounds_toArray, List.set_cons_zero, List.set_cons_succ])
        refine wpTill.take (i := 14) (v := ?_) (by rfl) rfl (by kernel_rfl) (by kernel_rfl) (by kernel_rfl) (by exact fun _ _ _ h => h) HS2.out (fun _ => HT2.out) (Or.inl ⟨by rfl, ?_⟩) ?_
        rotate_left
        · (intro w' hSw; (try dsimp only at hSw); go_simp; (try with_reducible rfl))
        (try simp only [Act.put, List.setIfInBounds_toArray, List.set_cons_zero, List.set_cons_succ])
        clear zB kB fB zP kP fP
        obtain ⟨zB, kB, fB⟩ := LB4.out
        refine wpTill.step (i := 15) (by kernel_rfl) (by rfl) (fun K' hK => ?_)
        replace hK := Lib.hid hK
        go_simp
        have LB5 := Lib.hid (LB4.out.set_ 1 (.slice A4 (q.length + 1) c4))
        have LP5 := Lib.hid (LP4.out.far (p := ⟨B, 1, none⟩) (by have := HZ.out; simp; omega) (.slice A4 (q.length + 1) c4))
        have hM4 := ((HAV.out.set.below ((below_alloc V _).drew)).grown HG4.out (own_ne_map HAV.out.queue HAV.out.set)).grown (grownBy_setCell w4 ⟨B, 1, none⟩ (.slice A4 (q.length + 1) c4)) (fun e => loc_ne_map HAV.out.loc (by simp) HAV.out.set (by injection e))
        have hgn : getA (f, (q0 : Int) + (k : Int)) (q.map fun p => (p, true)) = none := by rw [getA_set, if_neg hin]
        obtain ⟨w5, stamp, hrun5, hg5, hz5, hst⟩ := run_mapEntryA (P := Tryz.prog) keyW_sector Tryz.underlying91 (z := false) zeroBool hM4 (f, (q0 : Int) + (k : Int)) hgn
        obtain ⟨w6, hrun6, hm6, hg6, hz6⟩ := hst w5 rfl (by rw [hz5]; exact hM4.lt) true
        unfold secV at hrun5
        unfold goInt at hrun6
        have HG5 := Lib.hid hg5
        have HG6 := Lib.hid hg6
        have HM6 := Lib.hid hm6
        have nsB : (some ms' : Option Nat) ≠ some B := fun e => loc_ne_map HAV.out.loc (by simp) HAV.out.set (by injection e with e; exact e.symm)
        have nsP : (some ms' : Option Nat) ≠ some wo.heap.size := fun e => by injection e with e; have := HA.out.set.lt; omega
        have LB6 := Lib.hid (LB5.out.grown hg5 nsB)
        have LP6 := Lib.hid (LP5.out.grown hg5 nsP)
        have LB7 := Lib.hid (LB6.out.grown hg6 nsB)
        have LP7 := Lib.hid (LP6.out.grown hg6 nsP)
        clear hM4 hgn hg5 hz5 hst hm6 hg6 hz6
        refine hK.out _ _ ⟨LB5.out.cell 2, LP5.out.cell 0, LP5.out.cell 1⟩ (fun h => nomatch (show true = false from h)) ?_
        clear hK K'
        (try simp only [Act.put, List.setIfInBounds_toArray, List.set_cons_zero, List.set_cons_succ])
        refine wpTill.step (i := 16) (by kernel_rfl) (by rfl) (fun K' hK => ?_)
        replace hK := Lib.hid hK
        go_simp
        refine hK.out _ _ ⟨LB6.out.cell 2, LP6.out.cell 0, LP6.out.cell 1⟩ (fun h => nomatch (show true = false from h)) ?_
        clear hK K'
        (try simp only [Act.put, List.setIfInBounds_toArray, List.set_cons_zero, List.set_cons_succ])
        refine wpTill.take (i := 17) (v := ?_) (by rfl) rfl (by kernel_rfl) (by kernel_rfl) (by kernel_rfl) (by exact fun _ _ _ h => h) ⟨LB6.out.cell 2, LP6.out.cell 0, LP6.out.cell 1⟩ (fun h => nomatch (show true = false from h)) (Or.inl ⟨by rfl, ?_⟩) ?_
        rotate_left
        · (intro w' hSw; (try dsimp only at hSw); go_simp; (try with_reducible rfl))
        (try simp only [Act.put, List.setIfInBounds_toArray, List.set_cons_zero, List.set_cons_succ])
        refine wpTill.step (i := 18) (by kernel_rfl) (by rfl) (fun K' hK => ?_)
        replace hK := Lib.hid hK
        go_simp
        refine hK.out _ _ ⟨LB7.out.cell 2, LP7.out.cell 0, LP7.out.cell 1⟩ (fun h => nomatch (show true = false from h)) ?_
        clear hK K' hrun5 hrun6
        (try simp only [Act.put, List.setIfInBounds_toArray, List.set_cons_zero, List.set_cons_succ])
        refine wpTill.stop (by kernel_rfl) ?_ _
        go_wp2_with (fail)
        go_roundw
        case rel =>
          refine ⟨k + 1, by omega, by go_num, ?_⟩
          rw [HT1.out, addQ_append, hqq]
          simp only [addQ, hin, if_false]
          obtain ⟨F2, hD2, hE2, hk2⟩ := write_fin HAV.out HOW4.out HG4.out HAT4.out HG5.out HG6.out (by simpa using HM6.out)
          exact ⟨F2, hD2, (HE1.out.trans (Ext.same (Keeps.below HBV.out))).trans hE2, (HKK.out.trans HE1.out.keeps.size (kk_of HA.out HAV.out rfl)).trans (HE1.out.trans (Ext.same (Keeps.below HBV.out))).keeps.size hk2⟩
        case measure => simp [intOf]; omega
    · obtain rfl : k = N := by omega
      have hT : ¬ (q0 : Int) + (k : Int) ≤ ((a : Int) + (s.length : Int) - 1) / 64 := by have := HQ2.out; omega
      have HX := Lib.hid hD
      clear hD hlt
      go_wp2_with (fail)
      go_ret
      rw [HTn.out]
      subst hd2
      exact ⟨rfl, HX.out⟩
end
end Go.Proofs.YtjncmlglhegnaaaGreatDoor
namespace Go.Proofs.YtjncmlglhegnaaaGreatDoor
open Go.RowKit

set_option maxRecDepth 100000 in
set_option maxHeartbeats 400000 in
theorem settle1_any (w : World) (bx : Nat) (f : Int) (hb : Loc w bx #[.int .i64 f]) (p : Int × Int) (r : Bool) (hr : decide (p.1 = f) = r) :
    Calls Tryz.prog 188 #[secV p, .pointer (some ⟨bx, 0, none⟩)] w fun e w' => e = .returned (.bool r) ∧ Below w.heap.size w w' := by
  obtain ⟨a, b⟩ := p
  obtain ⟨zX, kX, fX⟩ := hb
  have HR := Lib.hid hr
  clear hr
  unfold secV
  go_enter Tryz.func188, Tryz.ntmps188
  go_wp2_with (fail)
  go_ret
  exact ⟨ret_bool (by rw [← HR.out, Bool.eq_iff_iff]; simp), below_alloc _ _⟩
set_option maxRecDepth 100000 in
set_option maxHeartbeats 400000 in
theorem settle2_any (w : World) (bx : Nat) (f : Int) (hb : Loc w bx #[.int .i64 f]) (p : Int × Int) (v : Bool) (r : Bool) (hr : decide (p.1 = f) = r) :
    Calls Tryz.prog 190 #[secV p, .bool v, .pointer (some ⟨bx, 0, none⟩)] w fun e w' => e = .returned (.bool r) ∧ Below w.heap.size w w' := by
  obtain ⟨a, b⟩ := p
  obtain ⟨zX, kX, fX⟩ := hb
  have HR := Lib.hid hr
  clear hr
  unfold secV
  go_enter Tryz.func190, Tryz.ntmps190
  go_wp2_with (fail)
  go_ret
  exact ⟨ret_bool (by rw [← HR.out, Bool.eq_iff_iff]; simp), below_alloc _ _⟩

set_option maxRecDepth 100000 in
set_option maxHeartbeats 1000000 in
theorem IndexFuncD_any (w : World) (A : Option Addr) (n c : Nat) (q : List (Int × Int)) (hs : Sl w 2 A n (q.map secCells)) (hn : n ≤ 5000000) (bx : Nat) (f : Int) (hb : Loc w bx #[.int .i64 f])
    (N : Nat) (hN : N ≤ n) (hbef : ∀ j, j < N → ∀ p, q[j]? = some p → p.1 ≠ f) (r : Int) (hr : (N = n ∧ r = -1) ∨ (∃ p, q[N]? = some p ∧ p.1 = f ∧ r = N)) :
    Calls Tryz.prog 217 #[.slice A n c, .func (.func 188) #[] #[.pointer (some ⟨bx, 0, none⟩)]] w fun e w' => e = .returned (.int .i64 r) ∧ Below w.heap.size w w' := by
  have hql : q.length = n := by simpa using hs.1
  have HS := Lib.hid hs
  have HX := Lib.hid hb
  have HBF := Lib.hid hbef
  have HR := Lib.hid hr
  have HQ := Lib.hid hql
  clear hs hb hbef hr hql
  go_enter Tryz.func217, Tryz.ntmps217
  go_wp2_with (fail)
  go_loopw [8] (fun i wr => ∃ k : Nat, k ≤ N ∧ i = .int .i64 k ∧ Below w.heap.size w wr) (fun i _ => N + 1 - (intOf i).toNat)
  case atStart => exact ⟨0, Nat.zero_le _, rfl, Below.refl _ _⟩
  case round =>
    obtain ⟨k, hk, rfl, hbr⟩ := hrel
    obtain ⟨wo, rfl⟩ : ∃ wo : World, wo = wr := ⟨_, rfl⟩
    have HB := Lib.hid hbr
    clear hbr
    by_cases hkn : k < n
    · obtain ⟨p, hp⟩ : ∃ p, q[k]? = some p := ⟨_, List.getElem?_eq_getElem (by have := HQ.out; omega)⟩
      obtain ⟨b, o, rfl, hbl, hcell⟩ := (HS.out.below HB.out).2 k (secCells p) (by rw [List.getElem?_map, hp]; rfl)
      have c0 := hcell 0 _ rfl
      have c1 := hcell 1 _ rfl
      rw [Nat.add_zero] at c0
      have hki : (k : Int) < (n : Int) := by omega
      have HP := Lib.hid hp
      have HC := fun r hr => settle1_any wo bx f (HX.out.below HB.out) p r hr
      have HCC := Lib.hid HC
      clear hcell hp HC
      obtain ⟨pa, pb⟩ := p
      unfold secV at HCC
      by_cases hlt : k < N
      · have hne := HBF.out k hlt _ HP.out
        have hc := HCC.out false (by simpa using hne)
        have HCF := Lib.hid hc
        clear hc hne
        go_wp2_with (go_at_call 188; (with_reducible refine (HCF.out).mono ?_); rintro e w1 ⟨rfl, hb1⟩)
        go_roundw
        case rel => exact ⟨k + 1, by omega, by go_num, HB.out.trans (hb1.mono HB.out.size)⟩
        case measure => simp [intOf]; omega
      · obtain rfl : k = N := by omega
        obtain ⟨p2, hp2, hpf, rfl⟩ : ∃ p, q[k]? = some p ∧ p.1 = f ∧ r = k := by
          rcases HR.out with ⟨h, _⟩ | h
          · omega
          · exact h
        rw [HP.out] at hp2
        obtain rfl : (pa, pb) = p2 := by injection hp2
        have hc := HCC.out true (by simpa using hpf)
        have HCF := Lib.hid hc
        clear hc hp2 hpf hlt
        go_wp2_with (go_at_call 188; (with_reducible refine (HCF.out).mono ?_); rintro e w1 ⟨rfl, hb1⟩)
        go_ret
        exact ⟨rfl, HB.out.trans (hb1.mono HB.out.size)⟩
    · obtain ⟨rfl, rfl⟩ : N = n ∧ r = -1 := by
        rcases HR.out with h | ⟨p, hp, _⟩
        · exact h
        · have h1 := (List.getElem?_eq_some_iff.1 hp).1
          have h2 := HQ.out
          omega
      have hki : (N : Int) ≤ (k : Int) := by omega
      go_wp2_with (fail)
      go_ret
      exact ⟨rfl, HB.out⟩
theorem Own.shrink {w : World} {base : Nat} {e : TypeId} {size n c k : Nat} {A : Option Addr} {xs : List (List Value)} (h : Own w base e size (.slice A n c) n xs) (hA : A ≠ none) (hk : k ≤ n) : Own w base e size (.slice A k c) k (xs.take k) := by
  obtain ⟨⟨h1, h2⟩, h3, h4⟩ := h
  refine ⟨⟨?_, ?_⟩, fun x hx => h3 x (List.mem_of_mem_take hx), by rw [List.length_take]; omega⟩
  · rw [flat_len _ (fun x hx => h3 x (List.mem_of_mem_take hx)), List.length_take, h4, Nat.min_eq_left hk]
  · rcases h2 with ⟨hv, _⟩ | ⟨g, cap, cur, hv, hb, hg, hnc, hcm, hcs, htake⟩
    · injection hv with hv
      exact absurd hv hA
    · injection hv with hv1 hv2 hv3
      subst hv1 hv3
      refine .inr ⟨g, c, cur, rfl, hb, hg, by omega, hcm, hcs, ?_⟩
      have e1 : xs.flatten = (xs.take k).flatten ++ (xs.drop k).flatten := by rw [← List.flatten_append, List.take_append_drop]
      have e2 : (xs.take k).flatten.length = k * size := by rw [flat_len _ (fun x hx => h3 x (List.mem_of_mem_take hx)), List.length_take, h4, Nat.min_eq_left hk]
      have e3 : cur.toList.take (k * size) = (cur.toList.take (n * size)).take (k * size) := by
        rw [List.take_take, Nat.min_eq_left (Nat.mul_le_mul_right _ hk)]
      rw [e3, htake, e1, ← e2, List.take_left']
      rfl
/-- clear of the last elements -/
theorem run_clear_sec {w : World} {base g n c k : Nat} {q : List (Int × Int)} (h : Own w base 119 2 (.slice (some ⟨g, 0, none⟩) n c) n (q.map secCells)) (hk : k < n) (ty : TypeId) :
    ∃ w', (Builtin.clear_ #[92] ty #[.slice (some ⟨g, k * 2, none⟩) (n - k) (c - k)]).run Tryz.prog w = .ok (.tuple #[]) w' ∧ Own w' base 119 2 (.slice (some ⟨g, 0, none⟩) k c) k ((q.take k).map secCells) ∧ w.grownBy w' (some g) ∧ w'.heap.size = w.heap.size := by
  have hsh := h.shrink (by simp) (Nat.le_of_lt hk)
  rw [← List.map_take] at hsh
  obtain ⟨⟨h1, h2⟩, h3, h4⟩ := h
  obtain ⟨⟨s1, s2⟩, s3, s4⟩ := hsh
  rcases h2 with ⟨hv, _⟩ | ⟨g', cap, cur, hv, hb, hg, hnc, hcm, hcs, htake⟩
  · cases hv
  · rcases s2 with ⟨hv', _⟩ | ⟨g2, cap2, cur2, hv', _, hg', _, _, _, htake'⟩
    · cases hv'
    · injection hv with hv1 hv2 hv3
      injection hv1 with hv1
      injection hv1 with hv1
      subst hv1 hv3
      injection hv' with hv1 hv2 hv3
      injection hv1 with hv1
      injection hv1 with hv1
      subst hv1 hv3
      rw [hg] at hg'
      injection hg' with hg'
      injection hg' with hg'
      subst hg'
      obtain ⟨i0, hi0, hi1, hi2, hi3⟩ := info_parts infoSector
      have hz : ∀ w, (zeroValue 119).run Tryz.prog w = .ok (.agg #[.int .i64 0, .int .i64 0]) w := fun w => by simp [zeroValue, typeInfo, hi0, hi1, go_sem]
      have hzc : (Builtin.zeroCells (Value.agg #[.int .i64 0, .int .i64 0]).cells (n - k)).toList.length = (n - k) * 2 := by simp [Builtin.zeroCells, Value.cells]
      have hone : ∀ v ∈ (Builtin.zeroCells (Value.agg #[.int .i64 0, .int .i64 0]).cells (n - k)).toList, v.oneCell' = true := by
        intro v hv
        simp only [Builtin.zeroCells, Array.toList_map, List.mem_map] at hv
        obtain ⟨i, _, rfl⟩ := hv
        have : i % 2 = 0 ∨ i % 2 = 1 := by omega
        rcases this with h | h <;> simp [Value.cells, h, Value.oneCell']
      have hst := run_storeCells_at Tryz.prog g (k * 2) 119 (Builtin.zeroCells (Value.agg #[.int .i64 0, .int .i64 0]).cells (n - k)).toList 0 cur w hg (by rw [hzc]; omega) hone
      obtain ⟨m, hm⟩ : ∃ m, n - k = m + 1 := ⟨n - k - 1, by omega⟩
      have hrun : (Builtin.clear_ #[92] ty #[.slice (some ⟨g, k * 2, none⟩) (n - k) (c - k)]).run Tryz.prog w = .ok (.tuple #[]) (w.setRow g (cur.toList.take (k * 2 + 0) ++ (Builtin.zeroCells (Value.agg #[.int .i64 0, .int .i64 0]).cells (n - k)).toList ++ cur.toList.drop (k * 2 + 0 + (Builtin.zeroCells (Value.agg #[.int .i64 0, .int .i64 0]).cells (n - k)).toList.length)).toArray) := by
        rw [hm] at hst ⊢
        generalize hzs : (Builtin.zeroCells (Value.agg #[.int .i64 0, .int .i64 0]).cells (m + 1)).toList = zs at hst ⊢
        simp only [Nat.add_zero] at hst ⊢
        simp [-List.append_assoc, Builtin.clear_, run_underlying Tryz.underlying92, hz, hzs, hst]
      rw [Nat.add_zero, hzc] at hrun
      generalize (Builtin.zeroCells (Value.agg #[.int .i64 0, .int .i64 0]).cells (n - k)).toList = zs at *
      refine ⟨_, hrun, ⟨⟨s1, .inr ⟨g, c, _, rfl, hb, setRow_heap w g cur _ _ _ hg, by omega, hcm, ?_, ?_⟩⟩, s3, s4⟩, ⟨rfl, rfl, rfl, by simp [World.setRow], fun i _ hne => setRow_other w g i _ (fun e => hne (by rw [e]))⟩, by simp [World.setRow]⟩
      · simp only [List.size_toArray, List.length_append, List.length_take, List.length_drop, Array.length_toList, hzc]
        omega
      · rw [List.append_assoc, List.take_append_of_le_length (by simp; omega), List.take_take, Nat.min_self]
        exact htake'
theorem wpList_clear_sec {w : World} {ops : Array Oper} {rest : List Oper} {o : Oper} {a : Act} {X : Exit → Act → World → Prop} {base g n c k : Nat} {q : List (Int × Int)} (hgd : o.guard = none) (s : Operand)
    (hop : o.op = .call { callee := .builtin .clear, args := #[s], argTypes := #[92] }) (hs : a.eval s = .slice (some ⟨g, k * 2, none⟩) (n - k) (c - k))
    (h : Own w base 119 2 (.slice (some ⟨g, 0, none⟩) n c) n (q.map secCells)) (hk : k < n)
    (hK : ∀ w', Own w' base 119 2 (.slice (some ⟨g, 0, none⟩) k c) k ((q.take k).map secCells) → w.grownBy w' (some g) → wpList Tryz.prog ops X rest (a.put o.dst (.tuple #[])) w') :
    wpList Tryz.prog ops X (o :: rest) a w := by
  refine wpList_plain hgd fun K' hK' => ?_
  obtain ⟨w', hrun, r1, r2, r3⟩ := run_clear_sec h hk o.type
  unfold Oper.wp
  simp [execOp, hop, resolve, invoke, builtin, hs, hrun, Result.andThen]
  exact hK' _ _ (hK w' r1 r2)
/-- the row while elements are moved down -/
def DelInv (q : List (Int × Int)) (f : Int) (n j k : Nat) (cur : List (Int × Int)) : Prop :=
  cur.length = n ∧ k = ((q.take j).filter fun p => p.1 ≠ f).length ∧ k < j ∧ j ≤ n ∧ cur.take k = (q.take j).filter (fun p => p.1 ≠ f) ∧ cur.drop j = q.drop j
theorem DelInv.get {q cur : List (Int × Int)} {f : Int} {n j k : Nat} (h : DelInv q f n j k cur) {p : Int × Int} (hp : q[j]? = some p) : cur[j]? = some p := by
  have h1 := congrArg (fun l => l[0]?) h.2.2.2.2.2
  simpa [hp] using h1
theorem DelInv.skip {q cur : List (Int × Int)} {f : Int} {n j k : Nat} (h : DelInv q f n j k cur) {p : Int × Int} (hp : q[j]? = some p) (hf : p.1 = f) (hj : j < n) : DelInv q f n (j + 1) k cur := by
  obtain ⟨h1, h2, h3, h4, h5, h6⟩ := h
  have e : (q.take (j + 1)).filter (fun p => p.1 ≠ f) = (q.take j).filter fun p => p.1 ≠ f := by
    rw [List.take_add_one, hp, List.filter_append]
    simp [hf]
  refine ⟨h1, by rw [e]; exact h2, by omega, by omega, by rw [e]; exact h5, ?_⟩
  have := congrArg (List.drop 1) h6
  simpa [List.drop_drop] using this
theorem DelInv.move {q cur : List (Int × Int)} {f : Int} {n j k : Nat} (h : DelInv q f n j k cur) {p : Int × Int} (hp : q[j]? = some p) (hf : p.1 ≠ f) (hj : j < n) : DelInv q f n (j + 1) (k + 1) (cur.set k p) := by
  obtain ⟨h1, h2, h3, h4, h5, h6⟩ := h
  have e : (q.take (j + 1)).filter (fun p => p.1 ≠ f) = ((q.take j).filter fun p => p.1 ≠ f) ++ [p] := by
    rw [List.take_add_one, hp, List.filter_append]
    simp [hf]
  refine ⟨by simpa using h1, by rw [e, List.length_append, ← h2]; rfl, by omega, by omega, ?_, ?_⟩
  · rw [e, ← h5, List.take_add_one, List.take_set_of_le (by omega), List.getElem?_set_self (by omega)]
    rfl
  · rw [List.drop_set_of_lt (by omega)]
    have := congrArg (List.drop 1) h6
    simpa [List.drop_drop] using this
theorem Own.setSec {w : World} {base g n c k : Nat} {cur : List (Int × Int)} (h : Own w base 119 2 (.slice (some ⟨g, 0, none⟩) n c) n (cur.map secCells)) {p : Int × Int} (hk : k < cur.length) :
    Own ((w.setCell ⟨g, k * 2, none⟩ (.int .i64 p.1)).setCell ⟨g, k * 2 + 1, none⟩ (.int .i64 p.2)) base 119 2 (.slice (some ⟨g, 0, none⟩) n c) n ((cur.set k p).map secCells) := by
  have hx : (cur.map secCells)[k]? = some (secCells cur[k]) := by rw [List.getElem?_map, List.getElem?_eq_getElem hk]; rfl
  have h1 := h.stored (i := k) (j := 0) hx (by omega) (.int .i64 p.1)
  have h2 := h1.stored (i := k) (j := 1) (x := (secCells cur[k]).set 0 (.int .i64 p.1)) (by rw [List.getElem?_set_self (by simpa using hk)]) (by omega) (.int .i64 p.2)
  rw [List.set_set] at h2
  rw [List.map_set]
  exact h2
theorem Own.cap {w : World} {base : Nat} {e : TypeId} {size n c : Nat} {A : Option Addr} {xs : List (List Value)} (h : Own w base e size (.slice A n c) n xs) (hA : A ≠ none) : n ≤ c := by
  rcases h.1.2 with ⟨hv, _⟩ | ⟨g, cap, cur, hv, _, _, hnc, _⟩
  · injection hv with hv
    exact absurd hv hA
  · injection hv with _ _ hv
    omega
set_option maxRecDepth 100000 in
set_option maxHeartbeats 2000000 in
theorem DeleteFunc_any (w : World) (A : Option Addr) (n c : Nat) (q : List (Int × Int)) (ho : Own w 0 119 2 (.slice A n c) n (q.map secCells)) (hn : n ≤ 5000000) (bx : Nat) (f : Int) (hb : Loc w bx #[.int .i64 f]) (hne : (Value.slice A n c).ownBlock ≠ some bx) :
    Calls Tryz.prog 187 #[.slice A n c, .func (.func 188) #[] #[.pointer (some ⟨bx, 0, none⟩)]] w fun e w' => ∃ k, e = .returned (.slice A k c) ∧ k = (q.filter fun p => p.1 ≠ f).length ∧ Own w' 0 119 2 (.slice A k c) k ((q.filter fun p => p.1 ≠ f).map secCells) ∧ w.grownBy w' (Value.slice A n c).ownBlock := by
  have hql : q.length = n := by simpa using ho.2.2
  have HO := Lib.hid ho
  have HX := Lib.hid hb
  have HQ := Lib.hid hql
  have HN := Lib.hid hne
  by_cases hall : ∀ p ∈ q, p.1 ≠ f
  · have hfl : q.filter (fun p => decide (p.1 ≠ f)) = q := List.filter_eq_self.2 (fun p hp => by simpa using hall p hp)
    have hi := IndexFuncD_any w A n c q ho.sl' hn bx f hb n (Nat.le_refl _) (fun j _ p hp => hall p (List.mem_of_getElem? hp)) (-1) (.inl ⟨rfl, rfl⟩)
    have HI := Lib.hid hi
    have HFL := Lib.hid hfl
    clear ho hb hql hall hfl hi hne
    go_enter Tryz.func187, Tryz.ntmps187
    go_wp2_with ((with_reducible refine (HI.out).mono ?_); rintro e w1 ⟨rfl, hb1⟩)
    go_ret
    refine ⟨n, rfl, ?_, ?_, ?_⟩
    · rw [HFL.out, HQ.out]
    · rw [HFL.out]; exact HO.out.below hb1
    · exact ⟨hb1.os, hb1.tape, hb1.output, hb1.size, fun k hk _ => hb1.block k hk⟩
  · obtain ⟨N, p0, hN, hp0, hp0f, hbef⟩ : ∃ N p0, N < n ∧ q[N]? = some p0 ∧ p0.1 = f ∧ ∀ j, j < N → ∀ p, q[j]? = some p → p.1 ≠ f := by
      have hex : ∃ N : Nat, ∃ p : Int × Int, q[N]? = some p ∧ p.1 = f := by
        rw [Classical.not_forall] at hall
        obtain ⟨p, hp⟩ := hall
        rw [Classical.not_imp] at hp
        obtain ⟨i, hi⟩ := List.getElem?_of_mem hp.1
        exact ⟨i, p, hi, by simpa using hp.2⟩
      have hm : ∀ (M : Nat), (∃ N : Nat, N < M ∧ ∃ p : Int × Int, q[N]? = some p ∧ p.1 = f) → ∃ N p0, N < M ∧ q[N]? = some p0 ∧ p0.1 = f ∧ ∀ j, j < N → ∀ p, q[j]? = some p → p.1 ≠ f := by
        intro M
        induction M with
        | zero => rintro ⟨N, h, _⟩; omega
        | succ M ih =>
          rintro ⟨N, h, p, h1, h2⟩
          by_cases hs : ∃ N : Nat, N < M ∧ ∃ p : Int × Int, q[N]? = some p ∧ p.1 = f
          · obtain ⟨N', p', a, b⟩ := ih hs
            exact ⟨N', p', by omega, b⟩
          · refine ⟨N, p, h, h1, h2, fun j hj p' hp' hf => hs ⟨j, by omega, p', hp', hf⟩⟩
      obtain ⟨N, p, h1, h2⟩ := hex
      exact hm n ⟨N, by have := (List.getElem?_eq_some_iff.1 h1).1; omega, p, h1, h2⟩
    have hi := IndexFuncD_any w A n c q ho.sl' hn bx f hb N (Nat.le_of_lt hN) hbef N (.inr ⟨p0, hp0, hp0f, rfl⟩)
    obtain ⟨g, cc, hv, _, hgl, _, _⟩ := ho.at_ (i := N) (x := secCells p0) (by rw [List.getElem?_map, hp0]; rfl)
    injection hv with hv1 hv2 hv3
    subst hv1
    clear hv3
    have hinv : DelInv q f n (N + 1) N q := by
      have e : (q.take N).filter (fun p => p.1 ≠ f) = q.take N := List.filter_eq_self.2 (fun p hp => by
        obtain ⟨j, hj⟩ := List.getElem?_of_mem hp
        rw [List.getElem?_take] at hj
        split at hj
        · rename_i hjn
          simpa using hbef j hjn p hj
        · cases hj)
      have e2 : (q.take (N + 1)).filter (fun p => p.1 ≠ f) = q.take N := by
        rw [List.take_add_one, hp0, List.filter_append, e]
        simp [hp0f]
      exact ⟨hql, by rw [e2, List.length_take]; omega, by omega, by omega, e2.symm, rfl⟩
    have HI := Lib.hid hi
    have HV := Lib.hid hinv
    clear ho hb hql hall hi hne hbef hp0 hp0f hinv
    have hnm : ((N : Int) == -1) = false := by simp
    go_enter Tryz.func187, Tryz.ntmps187
    go_wp2_with ((with_reducible refine (HI.out).mono ?_); rintro e w1 ⟨rfl, hb1⟩)
    have HB1 := Lib.hid hb1
    clear hb1
    go_loopw [5, 6] (fun i j wr => ∃ (jj kk : Nat) (cur : List (Int × Int)), i = .int .i64 kk ∧ j = .int .i64 jj ∧ DelInv q f n jj kk cur ∧ Own wr 0 119 2 (.slice (some ⟨g, 0, none⟩) n c) n (cur.map secCells) ∧ w.grownBy wr (some g)) (fun _ j _ => n - (intOf j).toNat)
    case atStart => exact ⟨N + 1, N, q, rfl, by go_num, HV.out, HO.out.below HB1.out, ⟨HB1.out.os, HB1.out.tape, HB1.out.output, HB1.out.size, fun k hk _ => HB1.out.block k hk⟩⟩
    case round =>
      obtain ⟨jj, kk, cur, rfl, rfl, hd, ho, hg⟩ := hrel
      obtain ⟨wo, rfl⟩ : ∃ wo : World, wo = wr := ⟨_, rfl⟩
      have hkj := hd.2.2.1
      have hjn := hd.2.2.2.1
      have HD := Lib.hid hd
      have HO2 := Lib.hid ho
      have HG := Lib.hid hg
      by_cases hlt : jj < n
      · obtain ⟨p, hp⟩ : ∃ p, q[jj]? = some p := ⟨_, List.getElem?_eq_getElem (by have := HQ.out; omega)⟩
        obtain ⟨g1, c1, hv1, _, hgl1, hcell, hfr⟩ := ho.at_ (i := jj) (x := secCells p) (by rw [List.getElem?_map, hd.get hp]; rfl)
        replace hv1 := (Value.slice.inj hv1).1
        injection hv1 with hv1
        injection hv1 with hv1
        subst hv1
        have c0 := hcell 0 _ rfl
        have c1 := hcell 1 _ rfl
        rw [Nat.add_zero] at c0
        have hji : (jj : Int) < (n : Int) := by omega
        have hki : (kk : Int) < (n : Int) := by omega
        have hxl : bx < wo.heap.size := Nat.lt_of_lt_of_le HX.out.lt hg.size
        have HXo := Lib.hid (HX.out.grown hg (fun e => HN.out e))
        have HP := Lib.hid hp
        obtain ⟨pa, pb⟩ := p
        have HH := Lib.hid hfr
        have hz1 : w.heap.size ≤ wo.heap.size := hg.size
        clear hd ho hg hcell hp hfr
        by_cases hf : pa = f
        · have HF := Lib.hid hf
          have HW : Hid (∀ w1 : World, Below wo.heap.size wo w1 → Calls Tryz.prog 188 #[.agg #[.int .i64 pa, .int .i64 pb], .pointer (some ⟨bx, 0, none⟩)] w1 fun e w' => e = .returned (.bool true) ∧ Below w1.heap.size w1 w') := fun w1 hb => settle1_any w1 bx f (HXo.out.below hb) (pa, pb) true (by simpa using HF.out)
          clear hf
          go_wp2_with (go_at_call 188; (with_reducible refine (HW.out _ (below_alloc _ _)).mono ?_); rintro e w2 ⟨rfl, hb2⟩)
          go_roundw
          case rel =>
            have hb := (below_alloc wo (.cells #[.int .i64 pa, .int .i64 pb] 119)).trans (hb2.mono (by simp))
            exact ⟨jj + 1, kk, cur, rfl, by go_num, HD.out.skip HP.out HF.out hlt, HO2.out.below hb, HG.out.andThen (row' := none) ⟨hb.os, hb.tape, hb.output, hb.size, fun k hk _ => hb.block k hk⟩ (fun j hj => by cases hj)⟩
          case measure => simp [intOf]; omega
        · have HF := Lib.hid hf
          have HW : Hid (∀ w1 : World, Below wo.heap.size wo w1 → Calls Tryz.prog 188 #[.agg #[.int .i64 pa, .int .i64 pb], .pointer (some ⟨bx, 0, none⟩)] w1 fun e w' => e = .returned (.bool false) ∧ Below w1.heap.size w1 w') := fun w1 hb => settle1_any w1 bx f (HXo.out.below hb) (pa, pb) false (by simpa using HF.out)
          obtain ⟨y, hy⟩ : ∃ y, cur[kk]? = some y := ⟨_, List.getElem?_eq_getElem (by have := HD.out.1; omega)⟩
          have HY := Lib.hid hy
          clear hf hy
          go_wp2_with (go_at_call 188; (with_reducible refine (HW.out _ (below_alloc _ _)).mono ?_); rintro e w2 ⟨rfl, hb2⟩; obtain ⟨⟨zV, kV, fV⟩, hbb⟩ := locs1 hb2; have HB2 := Lib.hid hbb; have HO3 := Lib.hid (HO2.out.below hbb); obtain ⟨g2, c2, hv2, _, hgl2, hcell2, hfr2⟩ := HO3.out.at_ (i := kk) (x := secCells y) (by rw [List.getElem?_map, HY.out]; rfl); replace hv2 := (Value.slice.inj hv2).1; injection hv2 with hv2; injection hv2 with hv2; subst hv2; have d0 := hcell2 0 _ rfl; have d1 := hcell2 1 _ rfl; rw [Nat.add_zero] at d0; clear hcell2 hbb hb2 c0 c1)
          go_roundw
          case rel =>
            refine ⟨jj + 1, kk + 1, cur.set kk (pa, pb), by go_num, by go_num, HD.out.move HP.out HF.out hlt, HO3.out.setSec (p := (pa, pb)) (List.getElem?_eq_some_iff.1 HY.out).1, ?_⟩
            have h1 := HG.out.andThen (row' := none) ⟨HB2.out.os, HB2.out.tape, HB2.out.output, HB2.out.size, fun k hk _ => HB2.out.block k hk⟩ (fun j hj => by cases hj)
            exact (h1.andThen (grownBy_setCell _ _ _) (fun j hj => .inr (by injection hj with hj; rw [← hj]))).andThen (grownBy_setCell _ _ _) (fun j hj => .inr (by injection hj with hj; rw [← hj]))
          case measure => simp [intOf]; omega
      · obtain rfl : jj = n := by omega
        have hkk : kk < jj := hkj
        clear hd ho hg
        have hcap := HO2.out.cap (by simp)
        have h0 : (kk : Int) < (c : Int) := by omega
        clear hcap
        go_wp2_with ((with_reducible show wpList _ _ _ _ _ _); refine wpList_clear_sec (k := kk) rfl (.tmp 38) rfl rfl HO2.out hkk ?_; intro w3 ho3 hg3)
        go_ret
        obtain ⟨d1, d2, d3, d4, d5, d6⟩ := HD.out
        have ht : q.take jj = q := List.take_of_length_le (by have := HQ.out; omega)
        rw [ht] at d2 d5
        rw [d5] at ho3
        exact ⟨kk, rfl, d2, ho3, HG.out.andThen hg3 (fun j hj => .inr hj)⟩
end Go.Proofs.YtjncmlglhegnaaaGreatDoor
namespace Go.Proofs.YtjncmlglhegnaaaGreatDoor
open Go.RowKit

/-- the entries while some are struck: f's sectors that have come are gone -/
def StrikeInv (q : List (Int × Int)) (f : Int) (l : List ((Int × Int) × Bool × Bool)) : Prop :=
  (l.map (·.1)).filter (fun p => p.1 ≠ f) = q.filter (fun p => p.1 ≠ f) ∧ (∀ x ∈ l, x.2.1 = true ∧ (x.2.2 = false → x.1.1 ≠ f)) ∧ (l.map (·.1)).Nodup
theorem StrikeInv.start {q : List (Int × Int)} (f : Int) (hn : q.Nodup) : StrikeInv q f ((q.map fun p => (p, true)).map fun p => (p.1, p.2, true)) := by
  refine ⟨by simp [Function.comp_def], fun x hx => ?_, by simpa [Function.comp_def] using hn⟩
  simp only [List.map_map, List.mem_map, Function.comp_apply] at hx
  obtain ⟨p, _, rfl⟩ := hx
  simp
theorem StrikeInv.done {q : List (Int × Int)} {f : Int} {l : List ((Int × Int) × Bool × Bool)} (h : StrikeInv q f l) (hd : ∀ p ∈ l, p.2.2 = false) : (l.map fun p => (p.1, p.2.1)) = (q.filter fun p => p.1 ≠ f).map fun p => (p, true) := by
  rw [← h.1, List.filter_eq_self.2 (fun p hp => by
    obtain ⟨x, hx, rfl⟩ := List.mem_map.1 hp
    simpa using (h.2.1 x hx).2 (hd x hx))]
  rw [List.map_map]
  refine List.map_congr_left fun x hx => ?_
  simp [(h.2.1 x hx).1]
theorem StrikeInv.stay {q : List (Int × Int)} {f : Int} {l1 l2 : List ((Int × Int) × Bool × Bool)} {k : Int × Int} {v : Bool} (h : StrikeInv q f (l1 ++ (k, v, true) :: l2)) (hk : k.1 ≠ f) : StrikeInv q f (l1 ++ (k, v, false) :: l2) := by
  obtain ⟨h1, h2, h3⟩ := h
  refine ⟨by simpa using h1, fun x hx => ?_, by simpa using h3⟩
  simp only [List.mem_append, List.mem_cons] at hx
  rcases hx with hx | rfl | hx
  · exact h2 x (by simp [hx])
  · exact ⟨(h2 (k, v, true) (by simp)).1, fun _ => hk⟩
  · exact h2 x (by simp [hx])
theorem StrikeInv.strike {q : List (Int × Int)} {f : Int} {l1 l2 : List ((Int × Int) × Bool × Bool)} {k : Int × Int} {v : Bool} (h : StrikeInv q f (l1 ++ (k, v, true) :: l2)) (hk : k.1 = f) : StrikeInv q f (l1 ++ l2) := by
  obtain ⟨h1, h2, h3⟩ := h
  refine ⟨by simpa [List.filter_append, List.filter_cons, hk] using h1, fun x hx => ?_, ?_⟩
  · simp only [List.mem_append] at hx
    rcases hx with hx | hx
    · exact h2 x (by simp [hx])
    · exact h2 x (by simp [hx])
  · exact h3.sublist ((List.Sublist.append_left (List.sublist_cons_self _ l2) l1).map _)
theorem StrikeInv.fresh {q : List (Int × Int)} {f : Int} {l1 l2 : List ((Int × Int) × Bool × Bool)} {k : Int × Int} {v b : Bool} (h : StrikeInv q f (l1 ++ (k, v, b) :: l2)) : ∀ p ∈ l1, p.1 ≠ k := by
  intro p hp e
  have h3 := h.2.2
  rw [List.map_append, List.map_cons, List.nodup_append] at h3
  exact h3.2.2 p.1 (List.mem_map.2 ⟨p, hp, rfl⟩) k (by simp) e
theorem left_less {κ ν : Type} {l1 l2 : List (κ × ν × Bool)} {k : κ} {v : ν} : ((l1 ++ (k, v, false) :: l2).filter fun p => p.2.2).length < ((l1 ++ (k, v, true) :: l2).filter fun p => p.2.2).length := by
  simp [List.filter_append, List.filter_cons]
theorem left_less2 {κ ν : Type} {l1 l2 : List (κ × ν × Bool)} {k : κ} {v : ν} : ((l1 ++ l2).filter fun p => p.2.2).length < ((l1 ++ (k, v, true) :: l2).filter fun p => p.2.2).length := by
  simp [List.filter_append, List.filter_cons]
theorem grown_of_below {w w' : World} (h : Below w.heap.size w w') (row : Option Nat) : w.grownBy w' row := ⟨h.os, h.tape, h.output, h.size, fun k hk _ => h.block k hk⟩

set_option maxRecDepth 100000 in
set_option maxHeartbeats 2000000 in
theorem MapsDelete_any (w : World) (ms : Nat) (q : List (Int × Int)) (hm : MapAt w ms (entV secV Value.bool (q.map fun p => (p, true)))) (hnd : q.Nodup) (bx : Nat) (f : Int) (hb : Loc w bx #[.int .i64 f]) (hne : ms ≠ bx) :
    Calls Tryz.prog 189 #[.map (some ms), .func (.func 190) #[] #[.pointer (some ⟨bx, 0, none⟩)]] w fun e w' => e = .returned (.tuple #[]) ∧ MapAt w' ms (entV secV Value.bool ((q.filter fun p => p.1 ≠ f).map fun p => (p, true))) ∧ w.grownBy w' (some ms) := by
  have HM := Lib.hid hm
  have HX := Lib.hid hb
  have HN := Lib.hid hne
  have HI := Lib.hid (StrikeInv.start f hnd)
  clear hm hb hnd hne
  go_enter Tryz.func189, Tryz.ntmps189
  go_wp2_with (at_range; refine wpList_rangeA rfl _ 91 rfl Tryz.underlying91 rfl HM.out ?_; intro w0 hrg0 hb0 hz0)
  go_frame
  have HR0 := Lib.hid hrg0
  have HG0 := Lib.hid (grown_of_below hb0 (some ms))
  clear hrg0 hb0
  go_loopw [8] (fun _ wr => ∃ l, StrikeInv q f l ∧ RangeAt secV Value.bool wr ms w.heap.size l ∧ w.grownBy wr (some ms)) (fun _ wr => wr.rangeLeft ms w.heap.size)
  case atStart => exact ⟨_, HI.out, HR0.out, HG0.out⟩
  case round =>
    obtain ⟨l, hi, hr, hg⟩ := hrel
    obtain ⟨wo, rfl⟩ : ∃ wo : World, wo = wr := ⟨_, rfl⟩
    have HIr := Lib.hid hi
    have HRr := Lib.hid hr
    have HGr := Lib.hid hg
    have hz : w.heap.size ≤ wo.heap.size := hg.size
    clear hi hr hg
    go_wp2_with (at_next; refine wpList_nextA rfl _ rfl rfl HRr.out ?_ ?_; intro hdone; replace hdone := Lib.hid hdone; rotate_left; intro l1 k v l2 w1 hl hr1 hg1 hz1 hen; obtain ⟨ka, kb⟩ := k; replace hl := Lib.hid hl; replace hr1 := Lib.hid hr1; replace hg1 := Lib.hid hg1; unfold secV at hen; replace hz1 := Lib.hid hz1; rotate_left; go_frame)
    · go_wp2_with (fail)
      go_end0
      have hm := HRr.out.map
      rw [HIr.out.done hdone.out] at hm
      exact ⟨rfl, hm, HGr.out⟩
    · have HL := hl
      have HR1 := hr1
      have HG1 := Lib.hid (HGr.out.andThen hg1.out (fun j hj => .inl (by injection hj with hj; omega)))
      have HX1 := Lib.hid (HX.out.grown HG1.out (fun e => HN.out (by injection e)))
      clear hl hr1 hg1
      by_cases hf : ka = f
      · have HF := Lib.hid hf
        have HW : Hid (∀ w2 : World, Below w1.heap.size w1 w2 → Calls Tryz.prog 190 #[.agg #[.int .i64 ka, .int .i64 kb], .bool v, .pointer (some ⟨bx, 0, none⟩)] w2 fun e w' => e = .returned (.bool true) ∧ Below w2.heap.size w2 w') := fun w2 hb => settle2_any w2 bx f (HX1.out.below hb) (ka, kb) v true (by simpa using HF.out)
        clear hf
        go_wp2_with (first
          | (go_at_call 190; (with_reducible refine (HW.out _ (below_alloc _ _)).mono ?_); rintro e w2 ⟨rfl, hb2⟩; obtain ⟨⟨zV, kV, fV⟩, hbb⟩ := locs1 hb2; have HB2 := Lib.hid hbb; have HR2 := Lib.hid (HR1.out.grown (grown_of_below hbb none) (by simp) (by simp)); clear hbb hb2)
          | ((with_reducible show wpList _ _ _ _ _ _); refine wpList_deleteR rfl (.tmp 17) (.tmp 18) 91 119 rfl keyW_sector Tryz.underlying91 rfl HR2.out (StrikeInv.fresh (by have := HIr.out; rw [HL.out] at this; exact this)) rfl ?_; intro w3 hr3 hg3 hz3; go_frame))
        have HR3 := Lib.hid hr3
        have HG3 := Lib.hid ((HG1.out.andThen (grown_of_below HB2.out none) (fun j hj => by cases hj)).andThen hg3 (fun j hj => .inr hj))
        clear hr3 hg3 hz3
        go_roundw
        case rel =>
          have h := HIr.out
          rw [HL.out] at h
          exact ⟨_, h.strike HF.out, HR3.out, HG3.out⟩
        case measure =>
          rw [HR3.out.left, HRr.out.left, HL.out]
          exact left_less2
      · have HF := Lib.hid hf
        have HW : Hid (∀ w2 : World, Below w1.heap.size w1 w2 → Calls Tryz.prog 190 #[.agg #[.int .i64 ka, .int .i64 kb], .bool v, .pointer (some ⟨bx, 0, none⟩)] w2 fun e w' => e = .returned (.bool false) ∧ Below w2.heap.size w2 w') := fun w2 hb => settle2_any w2 bx f (HX1.out.below hb) (ka, kb) v false (by simpa using HF.out)
        clear hf
        go_wp2_with (go_at_call 190; (with_reducible refine (HW.out _ (below_alloc _ _)).mono ?_); rintro e w2 ⟨rfl, hb2⟩; obtain ⟨⟨zV, kV, fV⟩, hbb⟩ := locs1 hb2; have HB2 := Lib.hid hbb; have HR2 := Lib.hid (HR1.out.grown (grown_of_below hbb none) (by simp) (by simp)); clear hbb hb2)
        go_roundw
        case rel =>
          have h := HIr.out
          rw [HL.out] at h
          exact ⟨_, h.stay HF.out, HR2.out, HG1.out.andThen (grown_of_below HB2.out none) (fun j hj => by cases hj)⟩
        case measure =>
          rw [HR2.out.left, HRr.out.left, HL.out]
          exact left_less
section
variable {w : World} {F : Nat → Prop} {B : Nat} {d : DV} {mf ms : Nat} {Q : Option Addr} {cq : Nat} {K : Option Addr} {ck : Nat}
theorem settle_fin {V w1 w3 : World} {k : Nat} {qs : List (Int × Int)} (H : DiskAt V F B d mf ms Q cq K ck) (hk : k = qs.length)
    (ho : Own w1 0 119 2 (.slice Q k cq) k (qs.map secCells)) (hg1 : V.grownBy w1 (Value.slice Q d.queue.length cq).ownBlock)
    (hg3 : (w1.setCell ⟨B, 1, none⟩ (.slice Q k cq)).grownBy w3 (some ms)) (hm : MapAt w3 ms (entV secV Value.bool (qs.map fun p => (p, true)))) : DskTo F V B { d with queue := qs } w3 := by
  subst hk
  have nBf := loc_ne_map H.loc (by simp) H.files
  have nBs := loc_ne_map H.loc (by simp) H.set
  have nQf := own_ne_map H.queue H.files
  have nQs := own_ne_map H.queue H.set
  have nQB : (Value.slice Q d.queue.length cq).ownBlock ≠ some B := fun e => H.nq (by rw [slice_block] at e; exact e)
  have fQ : ∀ b, (Value.slice Q d.queue.length cq).ownBlock = some b → F b := fun b hb => H.fq b (by rw [← slice_block Q d.queue.length cq]; exact hb)
  have eQ : (Value.slice Q qs.length cq).ownBlock = (Value.slice Q d.queue.length cq).ownBlock := by rw [slice_block, slice_block Q d.queue.length]
  have gB := grownBy_setCell w1 ⟨B, 1, none⟩ (.slice Q qs.length cq)
  have nsB : (some ms : Option Nat) ≠ some B := fun e => nBs (by injection e with e; exact e.symm)
  have nsf : (some ms : Option Nat) ≠ some mf := fun e => H.ne (by injection e with e; exact e.symm)
  have z1 := hg1.size
  have z3 := hg3.size
  rw [World.size_setCell] at z3
  have hloc := ((H.loc.grown hg1 nQB).set_ 1 (.slice Q qs.length cq)).grown hg3 nsB
  have hfiles := ((H.files.grown hg1 nQf).grown gB (fun e => nBf (by injection e))).grown hg3 nsf
  have hq := (ho.other (p := ⟨B, 1, none⟩) (by rw [eQ]; exact nQB) (.slice Q qs.length cq)).kept hg3 (.inr (by rw [eQ]; exact nQs))
  have hK := H.keep_grown (H.keep_grown (H.keep_grown H.keep hg1 (fun b hb => .inl (fQ b hb))) gB (fun b hb => .inl (by injection hb with hb; rw [← hb]; exact H.fB))) hg3 (fun b hb => .inl (by injection hb with hb; rw [← hb]; exact H.fs))
  have hkeeps : Keeps F V w3 := ((Keeps.grown hg1 fQ).trans (Keeps.setCell (p := ⟨B, 1, none⟩) (.inl H.fB) _)).trans (Keeps.grown hg3 (fun b hb => .inl (by injection hb with hb; rw [← hb]; exact H.fs)))
  have hfin : DiskAt w3 F B { d with queue := qs } mf ms Q cq K ck := ⟨hloc, hfiles, hm, hq, hK, H.fB, H.ff, H.fs, H.fq, H.fk, H.ne, H.nq, fun b hb => by have := H.lt b hb; omega⟩
  exact ⟨F, ⟨mf, ms, Q, cq, K, ck, hfin⟩, Ext.same hkeeps, kk_of H hfin rfl⟩
theorem DskTo.from {F' : Nat → Prop} {w' w'' : World} {d' : DV} (hE : Ext F F' w w') (hk : KK B w w') (h : DskTo F' w' B d' w'') : DskTo F w B d' w'' := by
  obtain ⟨F2, h1, h2, h3⟩ := h
  exact ⟨F2, h1, hE.trans h2, hk.trans hE.keeps.size h3⟩
set_option maxRecDepth 100000 in
set_option maxHeartbeats 2000000 in
theorem settle_any (h : DiskAt w F B d mf ms Q cq K ck) (hok : DOk d) (f : Int) (s : List UInt8) :
    Calls Tryz.prog 153 #[.pointer (some ⟨B, 0, none⟩), .int .i64 f, strV s] w fun e w' => e = .returned (.tuple #[]) ∧ DskTo F w B (settleF d f s) w' := by
  have H := Lib.hid h
  have HO := Lib.hid hok
  clear h hok
  unfold strV
  go_enter Tryz.func153, Tryz.ntmps153
  go_wp2_with (fail)
  have LX := Lib.hid (Loc.new_ w #[.int .i64 f] 3)
  have HB := Lib.hid (below_alloc w (.cells #[.int .i64 f] 3))
  have HY := Lib.hid (H.out.below (below_alloc w (.cells #[.int .i64 f] 3)))
  generalize w.alloc (.cells #[.int .i64 f] 3) = Y at *
  obtain ⟨zB, kB, fB⟩ := HY.out.loc
  obtain ⟨zX, kX, fX⟩ := LX.out
  go_still_tail 8, (by kernel_rfl)
  change wpList _ _ _ _ _ Y.drew
  have HYD := Lib.hid (HY.out.below (Below.refl _ _).drew)
  have HB2 := Lib.hid HB.out.drew
  have LX2 := Lib.hid LX.out.drew
  clear zX kX fX zB kB fB HY HB LX
  generalize Y.drew = Z at *
  refine wpList_mapUpdateA rfl (.tmp 9) (.tmp 10) (.tmp 13) 90 rfl (keyW_int Tryz.underlying3) Tryz.underlying90 rfl HYD.out.files f ⟨s, s⟩ rfl rfl ?_
  intro w2 hm2 hg2 hz2
  have h2 := HYD.out.setFiles hm2 hg2
  have HD := Lib.hid h2
  have LX3 := Lib.hid (LX2.out.grown hg2 (fun e => by have := H.out.files.lt; injection e with e; omega))
  have HE : Hid (Ext F F w w2) := Ext.same ((Keeps.below HB2.out).trans ((Keeps.grown hg2 (fun b hb => by injection hb with hb; rw [← hb]; exact .inl H.out.ff))))
  clear hm2 hg2 hz2 h2
  obtain ⟨zB, kB, fB⟩ := HD.out.loc
  have hQx : (Value.slice Q d.queue.length cq).ownBlock ≠ some w.heap.size := fun e => Nat.lt_irrefl _ (H.out.queue.lt _ e).2
  have HDF := Lib.hid (DeleteFunc_any w2 Q d.queue.length cq d.queue HD.out.queue (by have := HO.out.len; omega) w.heap.size f LX3.out hQx)
  have HQX := Lib.hid hQx
  clear hQx
  go_frame
  go_wp2_with ((with_reducible refine (HDF.out).mono ?_); rintro e w3 ⟨k, rfl, hk, ho3, hg3⟩; have HK3 := Lib.hid hk; have HO3 := Lib.hid ho3; have HG3 := Lib.hid hg3; clear hk ho3 hg3 zB kB fB; obtain ⟨zB, kB, fB⟩ := HD.out.loc.grown HG3.out (fun e => HD.out.nq (by rw [slice_block] at e; exact e)))
  have hM4 := (HD.out.set.grown HG3.out (own_ne_map HD.out.queue HD.out.set)).grown (grownBy_setCell w3 ⟨B, 1, none⟩ (.slice Q k cq)) (fun e => loc_ne_map HD.out.loc (by simp) HD.out.set (by injection e))
  have hX4 := (LX3.out.grown HG3.out HQX.out).far (p := ⟨B, 1, none⟩) (by have := H.out.lt B H.out.fB; simp; omega) (.slice Q k cq)
  have HMD := Lib.hid (MapsDelete_any _ ms d.queue hM4 HO.out.nodup w.heap.size f hX4 (by have := H.out.set.lt; omega))
  clear hM4 hX4
  (with_reducible refine (HMD.out).mono ?_)
  rintro e w4 ⟨rfl, hm4, hg4⟩
  have HM4 := Lib.hid hm4
  have HG4 := Lib.hid hg4
  clear hm4 hg4
  go_wp2_with (fail)
  go_end0
  exact ⟨rfl, (settle_fin HD.out HK3.out HO3.out HG3.out HG4.out HM4.out).from HE.out (kk_of H.out HD.out rfl)⟩
end
end Go.Proofs.YtjncmlglhegnaaaGreatDoor
namespace Go.Proofs.YtjncmlglhegnaaaGreatDoor
open Go.RowKit
theorem and_mask (i : Nat) (hi : i ≤ 62) (x : Int) : bits .and .i64 x (((2 ^ i - 1 : Nat)) : Int) = x % ((2 ^ i : Nat) : Int) := by
  have hp : (2 : Nat) ^ i ≤ 2 ^ 62 := Nat.pow_le_pow_right (by omega) hi
  have hp0 : 0 < (2 : Nat) ^ i := Nat.two_pow_pos i
  have h62 : (2 : Nat) ^ 62 = 4611686018427387904 := by decide
  have h64 : (2 : Nat) ^ 64 = 18446744073709551616 := by decide
  have h1 : (BitVec.ofInt 64 (((2 ^ i - 1 : Nat)) : Int)).toNat = 2 ^ i - 1 := by
    rw [BitVec.toNat_ofInt]
    omega
  have h2 : (BitVec.ofInt 64 x).toNat = (x % 18446744073709551616).toNat := by
    rw [BitVec.toNat_ofInt]
    congr 1
  have hdvd : ((2 ^ i : Nat) : Int) ∣ 18446744073709551616 := by
    have : (2 : Nat) ^ i ∣ 2 ^ 64 := Nat.pow_dvd_pow 2 (by omega)
    rw [h64] at this
    exact Int.natCast_dvd_natCast.2 this
  have h3 : ((x % 18446744073709551616).toNat % 2 ^ i : Nat) = (x % ((2 ^ i : Nat) : Int)).toNat := by
    have e1 : (((x % 18446744073709551616).toNat % 2 ^ i : Nat) : Int) = x % ((2 ^ i : Nat) : Int) := by
      rw [Int.natCast_emod, Int.toNat_of_nonneg (by omega)]
      exact Int.emod_emod_of_dvd x hdvd
    omega
  show IntKind.i64.wrap (((BitVec.ofInt 64 x &&& BitVec.ofInt 64 (((2 ^ i - 1 : Nat)) : Int)).toNat : Nat) : Int) = _
  rw [BitVec.toNat_and, h1, h2, Nat.and_two_pow_sub_one_eq_mod, h3]
  have h4 : 0 ≤ x % ((2 ^ i : Nat) : Int) := Int.emod_nonneg _ (by omega)
  have h5 : x % ((2 ^ i : Nat) : Int) < ((2 ^ i : Nat) : Int) := Int.emod_lt_of_pos _ (by omega)
  rw [Int.toNat_of_nonneg h4, IntKind.wrap_i64]
  omega
theorem and1 (x : Int) : bits .and .i64 x 1 = x % 2 := by simpa using and_mask 1 (by omega) x
end Go.Proofs.YtjncmlglhegnaaaGreatDoor
namespace Go.Proofs.YtjncmlglhegnaaaGreatDoor
open Go.RowKit

/-- what becomes of the files by the i-th pending sector -/
def surviveStep (keep : List Int) (i : Nat) (p : Int × Int) (fs : List (Int × FileV)) : List (Int × FileV) :=
  if keep = [] ∨ (keep[i % keep.length]?).getD 0 % 2 = 0 then fs else surviveF fs p
theorem surviveAll_snoc (keep : List Int) (p : Int × Int) : ∀ (ps : List (Int × Int)) (i : Nat) (fs : List (Int × FileV)), surviveAll keep i (ps ++ [p]) fs = surviveStep keep (i + ps.length) p (surviveAll keep i ps fs)
  | [], i, fs => rfl
  | x :: ps, i, fs => by
    simp only [List.cons_append, surviveAll, List.length_cons]
    rw [surviveAll_snoc keep p ps (i + 1)]
    rw [show i + 1 + ps.length = i + (ps.length + 1) by omega]
theorem Sl.keeps {w w' : World} {F : Nat → Prop} {size n : Nat} {A : Option Addr} {xs : List (List Value)} (h : Sl w size A n xs) (hk : Keeps F w w') (hf : xs ≠ [] → ∀ ad, A = some ad → ¬ F ad.block) : Sl w' size A n xs := by
  refine ⟨h.1, fun i x hx => ?_⟩
  obtain ⟨b, o, hA, hb, hc⟩ := h.2 i x hx
  have hne : xs ≠ [] := fun e => by rw [e] at hx; simp at hx
  have hbl := hk.block b hb (hf hne _ hA)
  exact ⟨b, o, hA, Nat.lt_of_lt_of_le hb hk.size, fun j v hv => (World.cell?_of_block (w := w) (a := ⟨b, _, none⟩) hbl).trans (hc j v hv)⟩
theorem left_less3 {κ ν : Type} {l1 l2 : List (κ × ν × Bool)} {k : κ} {v u : ν} : ((l1 ++ (k, u, false) :: l2).filter fun p => p.2.2).length < ((l1 ++ (k, v, true) :: l2).filter fun p => p.2.2).length := by
  simp [List.filter_append, List.filter_cons]
/-- the files while a range loop makes their durable parts them -/
def CrashInv (fs : List (Int × FileV)) (l : List (Int × FileV × Bool)) : Prop :=
  (l.map fun p => (p.1, (⟨p.2.1.last, p.2.1.last⟩ : FileV))) = fs.map (fun p => (p.1, ⟨p.2.last, p.2.last⟩)) ∧ (∀ x ∈ l, x.2.2 = false → x.2.1 = ⟨x.2.1.last, x.2.1.last⟩)
theorem CrashInv.start (fs : List (Int × FileV)) : CrashInv fs (fs.map fun p => (p.1, p.2, true)) := by
  refine ⟨by simp [Function.comp_def], fun x hx h => ?_⟩
  obtain ⟨p, _, rfl⟩ := List.mem_map.1 hx
  cases h
theorem CrashInv.done {fs : List (Int × FileV)} {l : List (Int × FileV × Bool)} (h : CrashInv fs l) (hd : ∀ p ∈ l, p.2.2 = false) : (l.map fun p => (p.1, p.2.1)) = fs.map (fun p => (p.1, ⟨p.2.last, p.2.last⟩)) := by
  rw [← h.1]
  refine List.map_congr_left fun x hx => ?_
  have := h.2 x hx (hd x hx)
  exact congrArg (fun q => (x.1, q)) this
theorem CrashInv.next {fs : List (Int × FileV)} {l1 l2 : List (Int × FileV × Bool)} {k : Int} {v : FileV} (h : CrashInv fs (l1 ++ (k, v, true) :: l2)) : CrashInv fs (l1 ++ (k, ⟨v.last, v.last⟩, false) :: l2) := by
  refine ⟨by simpa using h.1, fun x hx hf => ?_⟩
  simp only [List.mem_append, List.mem_cons] at hx
  rcases hx with hx | rfl | hx
  · exact h.2 x (by simp [hx]) hf
  · rfl
  · exact h.2 x (by simp [hx]) hf
theorem CrashInv.keys {fs : List (Int × FileV)} {l : List (Int × FileV × Bool)} (h : CrashInv fs l) : l.map (·.1) = fs.map (·.1) := by
  have := congrArg (List.map (·.1)) h.1
  simpa [Function.comp_def] using this
theorem CrashInv.fresh {fs : List (Int × FileV)} {l1 l2 : List (Int × FileV × Bool)} {k : Int} {v : FileV} {b : Bool} (h : CrashInv fs (l1 ++ (k, v, b) :: l2)) (hn : (fs.map (·.1)).Nodup) : ∀ p ∈ l1, p.1 ≠ k := by
  intro p hp e
  rw [← h.keys, List.map_append, List.map_cons, List.nodup_append] at hn
  exact hn.2.2 p.1 (List.mem_map.2 ⟨p, hp, rfl⟩) k (by simp) e
section
variable {w : World} {F : Nat → Prop} {B : Nat} {d : DV} {mf ms : Nat} {Q : Option Addr} {cq : Nat} {K : Option Addr} {ck : Nat}
theorem crash_fin {w' : World} {fs : List (Int × FileV)} (H : DiskAt w F B d mf ms Q cq K ck) (hg : w.grownBy w' (some mf)) (hm : MapAt w' mf (entV (Value.int .i64) fileV fs)) :
    DskTo F w B { d with files := fs, queue := [] } (((w'.alloc (.map #[] 0)).setCell ⟨B, 1, none⟩ (.slice none 0 0)).setCell ⟨B, 2, none⟩ (.map (some w'.heap.size))) := by
  have H1 := (H.setFiles hm hg).below (below_alloc w' (.map #[] 0))
  have hl := (H1.loc.set_ 1 (.slice none 0 0)).set_ 2 (.map (some w'.heap.size))
  have lB := H.lt B H.fB
  have z := hg.size
  have nBf := loc_ne_map H1.loc (by simp) H1.files
  have lf := H.lt mf H.ff
  have hms := (MapAt.new_ w').grown (grownBy_setCell _ ⟨B, 1, none⟩ (.slice none 0 0)) (fun e => by injection e with e; have e' : B = w'.heap.size := e; omega)
  have hms2 := hms.grown (grownBy_setCell _ ⟨B, 2, none⟩ (.map (some w'.heap.size))) (fun e => by injection e with e; have e' : B = w'.heap.size := e; omega)
  have hmf2 := (H1.files.grown (grownBy_setCell _ ⟨B, 1, none⟩ (.slice none 0 0)) (fun e => nBf (by injection e))).grown (grownBy_setCell _ ⟨B, 2, none⟩ (.map (some w'.heap.size))) (fun e => nBf (by injection e))
  have hk := H.keep_grown (H.keep_grown H1.keep (grownBy_setCell _ ⟨B, 1, none⟩ (.slice none 0 0)) (fun b hb => .inl (by injection hb with hb; rw [← hb]; exact H.fB))) (grownBy_setCell _ ⟨B, 2, none⟩ (.map (some w'.heap.size))) (fun b hb => .inl (by injection hb with hb; rw [← hb]; exact H.fB))
  have hfin : DiskAt (((w'.alloc (.map #[] 0)).setCell ⟨B, 1, none⟩ (.slice none 0 0)).setCell ⟨B, 2, none⟩ (.map (some w'.heap.size))) (fun k => F k ∨ k = w'.heap.size) B { d with files := fs, queue := [] } mf w'.heap.size none 0 K ck := by
    refine ⟨hl, hmf2, hms2, Own.nil_ _ _ _ _, hk, .inl H.fB, .inl H.ff, .inr rfl, fun b hb => by simp [Value.ownBlock] at hb, fun hkn ad he hh => ?_, by omega, by simp [Value.ownBlock], fun b hb => ?_⟩
    · rcases hh with hh | hh
      · exact H.fk hkn ad he hh
      · have := H.keep_lt hkn ad he
        omega
    · simp only [World.size_setCell, World.size_alloc]
      rcases hb with hb | hb
      · have := H.lt b hb; omega
      · omega
  refine ⟨fun k => F k ∨ k = w'.heap.size, ⟨mf, w'.heap.size, none, 0, K, ck, hfin⟩, ⟨?_, fun _ h => .inl h, fun k hk => ?_⟩, kk_of H hfin rfl⟩
  · exact (((Keeps.grown hg (fun b hb => by injection hb with hb; rw [← hb]; exact H.ff)).trans (Keeps.below (below_alloc w' _))).trans (Keeps.setCell (p := ⟨B, 1, none⟩) (.inl H.fB) _)).trans (Keeps.setCell (p := ⟨B, 2, none⟩) (.inl H.fB) _)
  · rcases hk with hk | hk
    · exact .inl hk
    · exact .inr ⟨by omega, by simp only [World.size_setCell, World.size_alloc]; omega⟩
end
section
variable {w : World} {F : Nat → Prop} {B : Nat} {d : DV} {mf ms : Nat} {Q : Option Addr} {cq : Nat} {K : Option Addr} {ck : Nat}
set_option maxRecDepth 100000 in
set_option maxHeartbeats 2000000 in
theorem Crash_no (h : DiskAt w F B d mf ms Q cq K ck) (keep : List Int) (A : Option Addr) (c : Nat) (hd : d.down = true) :
    Calls Tryz.prog 23 #[.pointer (some ⟨B, 0, none⟩), .slice A keep.length c] w fun e w' => e = .returned (.tuple #[]) ∧ DskTo F w B (crashF d keep) w' := by
  have HR := Lib.hid (DskTo.refl h)
  obtain ⟨zB, kB, fB⟩ := h.loc
  rw [hd] at kB
  unfold crashF
  rw [if_pos hd]
  clear h hd
  go_enter Tryz.func23, Tryz.ntmps23
  go_wp2_with (fail)
  exact bodyPost_ret (v := .tuple #[]) (by simp [results, Tryz.results23, go_sem]) rfl ⟨rfl, HR.out⟩
set_option maxRecDepth 100000 in
set_option maxHeartbeats 4000000 in
theorem Crash_yes (h : DiskAt w F B d mf ms Q cq K ck) (hok : DOk d) (keep : List Int) (kn : Nat) (hkn : keep.length = kn) (A : Option Addr) (c : Nat) (hs : Sl w 1 A kn (keep.map fun k => [.int .i64 k])) (hkl : kn ≤ 5000000) (hkf : keep ≠ [] → ∀ ad, A = some ad → ¬ F ad.block) (hd : d.down = false) :
    Calls Tryz.prog 23 #[.pointer (some ⟨B, 0, none⟩), .slice A kn c] w fun e w' => e = .returned (.tuple #[]) ∧
      DskTo F w B { d with files := (surviveAll keep 0 d.queue d.files).map (fun p => (p.1, ⟨p.2.last, p.2.last⟩)), queue := [], down := true, armed := 0 } w' := by
  have HKN := Lib.hid hkn
  clear hkn
  have HS := Lib.hid hs
  have HKF := Lib.hid hkf
  have HO := Lib.hid hok
  have h1 := h.setField d.lost d.armed true (i := 4) (v := .bool true) (by simp)
  have h2 := h1.setField d.lost 0 true (i := 5) (v := .int .i64 0) (by simp)
  have H2 := Lib.hid h2
  have HF := Lib.hid h
  have hkeeps := (Keeps.setCell (w := w) (p := ⟨B, 4, none⟩) h.fB (.bool true)).trans (Keeps.setCell (w := w.setCell ⟨B, 4, none⟩ (.bool true)) (p := ⟨B, 5, none⟩) (.inl h.fB) (.int .i64 0))
  have HK := Lib.hid hkeeps
  have hql := hok.len
  obtain ⟨zB, kB, fB⟩ := h.loc
  rw [hd] at kB
  clear h h1 h2 hd hs hkf hok hkeeps
  go_enter Tryz.func23, Tryz.ntmps23
  go_wp2_with (fail)
  generalize hW : (w.setCell ⟨B, 4, none⟩ (.bool true)).setCell ⟨B, 5, none⟩ (.int .i64 0) = W at *
  clear zB kB fB hW
  go_loopw [25] (fun i wr => ∃ k : Nat, k ≤ d.queue.length ∧ i = .int .i64 k ∧ DiskAt wr F B { d with files := surviveAll keep 0 (d.queue.take k) d.files, down := true, armed := 0 } mf ms Q cq K ck ∧ Keeps F w wr) (fun i _ => d.queue.length - (intOf i).toNat)
  case atStart => exact ⟨0, Nat.zero_le _, rfl, by rw [List.take_zero]; exact H2.out, HK.out⟩
  case round =>
    obtain ⟨k, hk, rfl, hA, hE⟩ := hrel
    obtain ⟨wo, rfl⟩ : ∃ wo : World, wo = wr := ⟨_, rfl⟩
    have HE := Lib.hid hE
    by_cases hlt : k < d.queue.length
    · obtain ⟨p, hp⟩ : ∃ p, d.queue[k]? = some p := ⟨_, List.getElem?_eq_getElem hlt⟩
      have hsn : surviveAll keep 0 (d.queue.take (k + 1)) d.files = surviveStep keep k p (surviveAll keep 0 (d.queue.take k) d.files) := by
        rw [List.take_add_one, hp, Option.toList_some, surviveAll_snoc, Nat.zero_add, List.length_take, Nat.min_eq_left (by omega)]
      have hfok : FOk (surviveAll keep 0 (d.queue.take k) d.files) := FOk.surviveAll HO.out.fok
      have HSN := Lib.hid hsn
      generalize surviveAll keep 0 (d.queue.take k) d.files = fs at *
      obtain ⟨b, o, hAQ, hbl, hcell⟩ := hA.queue.sl'.2 k (secCells p) (by rw [List.getElem?_map, hp]; rfl)
      obtain ⟨pf, pn⟩ := p
      have hpr := HO.out.queue _ (List.mem_of_getElem? hp)
      obtain ⟨⟨p1, p2⟩, p3, p4⟩ := hpr
      simp only at p1 p2 p3 p4
      have c0 := hcell 0 _ rfl
      have c1 := hcell 1 _ rfl
      rw [Nat.add_zero] at c0
      have hki : (k : Int) < (d.queue.length : Int) := by omega
      have HA := Lib.hid hA
      have HFOK := Lib.hid hfok
      clear hA hE hp hsn hcell hfok
      subst hAQ
      go_wp2_with (fail)
      have LP := Lib.hid (Loc.new_ wo #[.int .i64 pf, .int .i64 pn] 119)
      have HA1 := Lib.hid (HA.out.below (below_alloc wo (.cells #[.int .i64 pf, .int .i64 pn] 119)))
      have HB := Lib.hid (below_alloc wo (.cells #[.int .i64 pf, .int .i64 pn] 119))
      generalize wo.alloc (.cells #[.int .i64 pf, .int .i64 pn] 119) = V at *
      obtain ⟨zB, kB, fB⟩ := HA1.out.loc
      obtain ⟨zP, kP, fP⟩ := LP.out
      have hlk : ∀ W, Below V.heap.size V W → _ := fun W hb => (HA1.out.below hb).look pf
      unfold fileV strV at hlk
      have HLK := Lib.hid hlk
      clear hlk
      have hxf : ({ files := fs, queue := d.queue, lost := d.lost, down := true, armed := 0, keep := d.keep } : DV).file pf = (getA pf fs).getD noFile := rfl
      have hxok := HFOK.out.get pf
      rw [hxf] at HLK
      generalize hx : (getA pf fs).getD noFile = x at *
      obtain ⟨xn, xl⟩ := x
      have hw : IntKind.i64.wrap (pn * 64) = pn * 64 := IntWalk.i64_in _ (by omega)
      have hsl := strV_len xn
      refine wpTill.start (S := fun w' => w'.cell? ⟨B, 0, none⟩ = some (.map (some mf)) ∧ w'.cell? ⟨wo.heap.size, 0, none⟩ = some (.int .i64 pf) ∧ w'.cell? ⟨wo.heap.size, 1, none⟩ = some (.int .i64 pn) ∧ (Instr.lookup 90 (.map (some mf)) (.int .i64 pf) false).run Tryz.prog w' = .ok (.agg #[.string ⟨xn.toArray⟩, .string ⟨xl.toArray⟩]) w') (T := fun _ => True) (m := 99) (by kernel_rfl) ?_
      have HS0 : Hid (V.drew.cell? ⟨B, 0, none⟩ = some (.map (some mf)) ∧ V.drew.cell? ⟨wo.heap.size, 0, none⟩ = some (.int .i64 pf) ∧ V.drew.cell? ⟨wo.heap.size, 1, none⟩ = some (.int .i64 pn) ∧ (Instr.lookup 90 (.map (some mf)) (.int .i64 pf) false).run Tryz.prog V.drew = .ok (.agg #[.string ⟨xn.toArray⟩, .string ⟨xl.toArray⟩]) V.drew) :=
        ⟨kB 0, kP 0, kP 1, HLK.out _ (Below.refl _ _).drew⟩
      refine wpTill.take (i := 0) (v := ?_) (by rfl) rfl (by kernel_rfl) (by kernel_rfl) (by kernel_rfl) (by exact fun _ _ _ h => h) HS0.out (fun _ => trivial) (Or.inl ⟨by rfl, ?_⟩) ?_
      rotate_left
      · (intro w' hSw; (try dsimp only at hSw); go_simp; (try with_reducible rfl))
      (try simp only [Act.put, List.setIfInBounds_toArray, List.set_cons_zero, List.set_cons_succ, List.getElem_toArray, List.getElem_cons_zero, List.getElem_cons_succ])
      refine wpTill.take (i := 1) (v := ?_) (by rfl) rfl (by kernel_rfl) (by kernel_rfl) (by kernel_rfl) (by exact fun _ _ _ h => h) HS0.out (fun _ => trivial) (Or.inl ⟨by rfl, ?_⟩) ?_
      rotate_left
      · (intro w' hSw; (try dsimp only at hSw); go_simp; (try with_reducible rfl))
      (try simp only [Act.put, List.setIfInBounds_toArray, List.set_cons_zero, List.set_cons_succ, List.getElem_toArray, List.getElem_cons_zero, List.getElem_cons_succ])
      refine wpTill.take (i := 2) (v := ?_) (by rfl) rfl (by kernel_rfl) (by kernel_rfl) (by kernel_rfl) (by exact fun _ _ _ h => h) HS0.out (fun _ => trivial) (Or.inl ⟨by rfl, ?_⟩) ?_
      rotate_left
      · (intro w' hSw; (try dsimp only at hSw); go_simp; (try with_reducible rfl))
      (try simp only [Act.put, List.setIfInBounds_toArray, List.set_cons_zero, List.set_cons_succ, List.getElem_toArray, List.getElem_cons_zero, List.getElem_cons_succ])
      refine wpTill.take (i := 3) (v := ?_) (by rfl) rfl (by kernel_rfl) (by kernel_rfl) (by kernel_rfl) (by exact fun _ _ _ h => h) HS0.out (fun _ => trivial) (Or.inl ⟨by rfl, ?_⟩) ?_
      rotate_left
      · (intro w' hSw; (try dsimp only at hSw); go_simp; (try with_reducible rfl))
      (try simp only [Act.put, List.setIfInBounds_toArray, List.set_cons_zero, List.set_cons_succ, List.getElem_toArray, List.getElem_cons_zero, List.getElem_cons_succ])
      refine wpTill.take (i := 4) (v := ?_) (by rfl) rfl (by kernel_rfl) (by kernel_rfl) (by kernel_rfl) (by exact fun _ _ _ h => h) HS0.out (fun _ => trivial) (Or.inl ⟨by rfl, ?_⟩) ?_
      rotate_left
      · (intro w' hSw; (try dsimp only at hSw); go_simp; (try with_reducible rfl))
      (try simp only [Act.put, List.setIfInBounds_toArray, List.set_cons_zero, List.set_cons_succ, List.getElem_toArray, List.getElem_cons_zero, List.getElem_cons_succ])
      refine wpTill.take (i := 5) (v := ?_) (by rfl) rfl (by kernel_rfl) (by kernel_rfl) (by kernel_rfl) (by exact fun _ _ _ h => h) HS0.out (fun _ => trivial) (Or.inl ⟨by rfl, ?_⟩) ?_
      rotate_left
      · (intro w' hSw; (try dsimp only at hSw); go_simp; (try with_reducible rfl))
      (try simp only [Act.put, List.setIfInBounds_toArray, List.set_cons_zero, List.set_cons_succ, List.getElem_toArray, List.getElem_cons_zero, List.getElem_cons_succ])
      refine wpTill.take (i := 6) (v := ?_) (by rfl) rfl (by kernel_rfl) (by kernel_rfl) (by kernel_rfl) (by exact fun _ _ _ h => h) HS0.out (fun _ => trivial) (Or.inl ⟨by rfl, ?_⟩) ?_
      rotate_left
      · (intro w' hSw; (try dsimp only at hSw); go_simp; (try with_reducible rfl))
      (try simp only [Act.put, List.setIfInBounds_toArray, List.set_cons_zero, List.set_cons_succ, List.getElem_toArray, List.getElem_cons_zero, List.getElem_cons_succ])
      refine wpTill.take (i := 7) (v := ?_) (by rfl) rfl (by kernel_rfl) (by kernel_rfl) (by kernel_rfl) (by exact fun _ _ _ h => h) HS0.out (fun _ => trivial) (Or.inl ⟨by rfl, ?_⟩) ?_
      rotate_left
      · (intro w' hSw; (try dsimp only at hSw); go_simp; (try with_reducible rfl))
      (try simp only [Act.put, List.setIfInBounds_toArray, List.set_cons_zero, List.set_cons_succ, List.getElem_toArray, List.getElem_cons_zero, List.getElem_cons_succ])
      refine wpTill.take (i := 8) (v := ?_) (by rfl) rfl (by kernel_rfl) (by kernel_rfl) (by kernel_rfl) (by exact fun _ _ _ h => h) HS0.out (fun _ => trivial) (Or.inl ⟨by rfl, ?_⟩) ?_
      rotate_left
      · (intro w' hSw; (try dsimp only at hSw); go_simp; (try with_reducible rfl))
      (try simp only [Act.put, List.setIfInBounds_toArray, List.set_cons_zero, List.set_cons_succ, List.getElem_toArray, List.getElem_cons_zero, List.getElem_cons_succ])
      refine wpTill.take (i := 9) (v := ?_) (by rfl) rfl (by kernel_rfl) (by kernel_rfl) (by kernel_rfl) (by exact fun _ _ _ h => h) HS0.out (fun _ => trivial) (Or.inl ⟨by rfl, ?_⟩) ?_
      rotate_left
      · (intro w' hSw; (try dsimp only at hSw); go_simp; (try with_reducible rfl))
      (try simp only [Act.put, List.setIfInBounds_toArray, List.set_cons_zero, List.set_cons_succ, List.getElem_toArray, List.getElem_cons_zero, List.getElem_cons_succ])
      refine wpTill.step (i := 10) (by kernel_rfl) (by rfl) (fun K' hK => ?_)
      replace hK := Lib.hid hK
      go_simp
      have HSa : ∀ o : Obj, Hid ((V.alloc o).drew.cell? ⟨B, 0, none⟩ = some (.map (some mf)) ∧ (V.alloc o).drew.cell? ⟨wo.heap.size, 0, none⟩ = some (.int .i64 pf) ∧ (V.alloc o).drew.cell? ⟨wo.heap.size, 1, none⟩ = some (.int .i64 pn) ∧ (Instr.lookup 90 (.map (some mf)) (.int .i64 pf) false).run Tryz.prog (V.alloc o).drew = .ok (.agg #[.string ⟨xn.toArray⟩, .string ⟨xl.toArray⟩]) (V.alloc o).drew) := fun o =>
        ⟨(HA1.out.loc.alloc o).drew.cell 0, (LP.out.alloc o).drew.cell 0, (LP.out.alloc o).drew.cell 1, HLK.out _ (below_alloc V o).drew⟩
      have HSA := Lib.hid HSa
      clear HSa
      refine hK.out _ _ (HSA.out _).out (fun _ => trivial) ?_
      clear hK K'
      (try simp only [Act.put, List.setIfInBounds_toArray, List.set_cons_zero, List.set_cons_succ, List.getElem_toArray, List.getElem_cons_zero, List.getElem_cons_succ])
      refine wpTill.step (i := 11) (by kernel_rfl) (by rfl) (fun K' hK => ?_)
      replace hK := Lib.hid hK
      go_simp
      refine hK.out _ _ (HSA.out _).out (fun _ => trivial) ?_
      clear hK K'
      (try simp only [Act.put, List.setIfInBounds_toArray, List.set_cons_zero, List.set_cons_succ, List.getElem_toArray, List.getElem_cons_zero, List.getElem_cons_succ])
      refine wpTill.take (i := 12) (v := ?_) (by rfl) rfl (by kernel_rfl) (by kernel_rfl) (by kernel_rfl) (by exact fun _ _ _ h => h) (HSA.out _).out (fun _ => trivial) (Or.inl ⟨by rfl, ?_⟩) ?_
      rotate_left
      · (intro w' hSw; (try dsimp only at hSw); go_simp; (try with_reducible rfl))
      (try simp only [Act.put, List.setIfInBounds_toArray, List.set_cons_zero, List.set_cons_succ, List.getElem_toArray, List.getElem_cons_zero, List.getElem_cons_succ])
      refine wpTill.stop (by kernel_rfl) ?_ _
      have LP2 := Lib.hid (LP.out.below (below_alloc V (.cells #[.string ⟨xn.toArray⟩, .string ⟨xl.toArray⟩] 121)).drew)
      have HA2 := Lib.hid (HA1.out.below (below_alloc V (.cells #[.string ⟨xn.toArray⟩, .string ⟨xl.toArray⟩] 121)).drew)
      have HB2 := Lib.hid (HB.out.trans ((below_alloc V (.cells #[.string ⟨xn.toArray⟩, .string ⟨xl.toArray⟩] 121)).drew.mono HB.out.size))
      have LF2 := Lib.hid (Loc.new_ V #[.string ⟨xn.toArray⟩, .string ⟨xl.toArray⟩] 121).drew
      have HVz : Hid (wo.heap.size < V.heap.size) := LP.out.lt
      clear HS0 HSA HA1 LP HB HLK hw zB kB fB zP kP fP
      generalize (V.alloc (.cells #[.string ⟨xn.toArray⟩, .string ⟨xl.toArray⟩] 121)).drew = Y at *
      generalize V.heap.size = bf at *
      obtain ⟨zP, kP, fP⟩ := LP2.out
      obtain ⟨zF, kF, fF⟩ := LF2.out
      obtain ⟨zB, kB, fB⟩ := HA2.out.loc
      have HEY : Hid (Keeps F w Y) := HE.out.trans (Keeps.below HB2.out)
      by_cases h1 : keep = []
      · obtain rfl : kn = 0 := by rw [← HKN.out, h1]; rfl
        have H1 := Lib.hid h1
        have hkz : ((0 : Nat) : Int) = 0 := rfl
        clear h1
        go_wp2_with (fail)
        go_roundw
        case rel =>
          refine ⟨k + 1, by omega, by go_num, ?_, HEY.out⟩
          rw [HSN.out, surviveStep, if_pos (Or.inl H1.out)]
          exact HA2.out
        case measure => simp [intOf]; omega
      · have hkp : 0 < kn := by rw [← HKN.out]; exact List.length_pos_iff.2 h1
        have hkz : ((kn : Int) == 0) = false := by simp; omega
        obtain ⟨i, hi⟩ : ∃ i, k % kn = i := ⟨_, rfl⟩
        have hil : i < kn := by rw [← hi]; exact Nat.mod_lt _ hkp
        have hmod : (k : Int) % (kn : Int) = (i : Int) := by rw [← hi]; simp
        obtain ⟨kv, hkv⟩ : ∃ kv, keep[i]? = some kv := ⟨_, List.getElem?_eq_getElem (by rw [HKN.out]; exact hil)⟩
        have hSk := HS.out.keeps HEY.out (fun hne => HKF.out h1)
        obtain ⟨bk, ok, hAk, _, hck⟩ := hSk.2 i [.int .i64 kv] (by rw [List.getElem?_map, hkv]; rfl)
        have c2 := hck 0 _ rfl
        rw [Nat.mul_one, Nat.add_zero] at c2
        subst hAk
        have hki2 : (i : Int) < (kn : Int) := by omega
        have hkn : ¬ ((kn : Int) = 0) := by omega
        have hst : surviveStep keep k (pf, pn) fs = if kv % 2 = 0 then fs else surviveF fs (pf, pn) := by
          unfold surviveStep
          rw [HKN.out, hi, hkv]
          simp [h1]
        have HST := Lib.hid hst
        clear hSk hck hkv hi hst h1
        have hband := and1 kv
        by_cases h2 : kv % 2 = 0
        · have hb0 : bits BinOp.and IntKind.i64 kv 1 = 0 := by omega
          have H2 := Lib.hid h2
          clear hband h2
          go_wp2_with (fail)
          go_roundw
          case rel =>
            refine ⟨k + 1, by omega, by go_num, ?_, HEY.out⟩
            rw [HSN.out, HST.out, if_pos H2.out]
            exact HA2.out
          case measure => simp [intOf]; omega
        · have hb0 : bits BinOp.and IntKind.i64 kv 1 = 1 := by omega
          have H2 := Lib.hid h2
          clear hband h2
          by_cases h3 : (xn.length : Int) ≤ pn * 64
          · have H3 := Lib.hid h3
            go_wp2_with (fail)
            go_roundw
            case rel =>
              refine ⟨k + 1, by omega, by go_num, ?_, HEY.out⟩
              rw [HSN.out, HST.out, if_neg H2.out, surviveF]
              simp only [hx]
              rw [if_pos H3.out]
              exact HA2.out
            case measure => simp [intOf]; omega
          · have h3' : pn * 64 < (xn.length : Int) := by omega
            clear h3
            obtain ⟨a, ha⟩ : ∃ a : Nat, pn * 64 = (a : Int) := ⟨(pn * 64).toNat, by omega⟩
            have hapn : (pn * 64).toNat = a := by omega
            have HAP := Lib.hid (And.intro ha hapn)
            rw [ha] at h3'
            go_wp2_with (fail)
            have hal : a < xn.length := by omega
            have hxnl : xn.length ≤ 16777216 := hxok.1
            obtain ⟨t, ht⟩ : ∃ t, (xn.drop a).take 64 = t := ⟨_, rfl⟩
            have htl : a + t.length ≤ 16777216 := by rw [← ht, List.length_take, List.length_drop]; omega
            have hp := fun w1 => put_any w1 xl t a hxok.2 htl _ rfl
            unfold strV at hp
            have HP := Lib.hid hp
            have hwr : IntKind.i64.wrap ((a : Int) + 64) = (a : Int) + 64 := IntWalk.i64_in _ (by omega)
            have HT := Lib.hid ht
            clear hp
            obtain ⟨e, he⟩ : ∃ e : Nat, min (a + 64) xn.length = e := ⟨_, rfl⟩
            have hmin : (if (xn.length : Int) < (a : Int) + 64 then (xn.length : Int) else (a : Int) + 64) = (e : Int) := by split <;> omega
            have he1 : (a : Int) ≤ (e : Int) := by omega
            have he2 : (e : Int) ≤ (xn.length : Int) := by omega
            have hex : ByteArray.extract ⟨xn.toArray⟩ a e = ⟨t.toArray⟩ := by
              rw [extract_list, ← ht]
              congr 2
              rw [List.take_eq_take_iff, List.length_drop]
              omega
            have HE2 := Lib.hid he
            clear he hal
            refine wpTill.start (S := fun w' => w'.cell? ⟨bf, 0, none⟩ = some (.string ⟨xn.toArray⟩)) (T := fun w' => w'.cell? ⟨bf, 1, none⟩ = some (.string ⟨xl.toArray⟩)) (m := 15) (by kernel_rfl) ?_
            have HS1 : Hid (Y.drew.cell? ⟨bf, 0, none⟩ = some (.string ⟨xn.toArray⟩)) := kF 0
            have HT1 : Hid (Y.drew.cell? ⟨bf, 1, none⟩ = some (.string ⟨xl.toArray⟩)) := kF 1
            refine wpTill.take (i := 0) (v := ?_) (by rfl) rfl (by kernel_rfl) (by kernel_rfl) (by kernel_rfl) (by exact fun _ _ _ h => h) HS1.out (fun _ => HT1.out) (Or.inl ⟨by rfl, ?_⟩) ?_
            rotate_left
            · (intro w' hSw; (try dsimp only at hSw); go_simp; (try with_reducible rfl))
            (try simp only [Act.put, List.setIfInBounds_toArray, List.set_cons_zero, List.set_cons_succ, List.getElem_toArray, List.getElem_cons_zero, List.getElem_cons_succ])
            refine wpTill.takeT (i := 1) (v := ?_) (by rfl) rfl (by kernel_rfl) (by kernel_rfl) (by kernel_rfl) (by exact fun _ _ _ h => h) HS1.out HT1.out rfl (by kernel_rfl) (Or.inl ⟨by rfl, ?_⟩) ?_
            rotate_left
            · (intro w' hSw; (try dsimp only at hSw); go_simp; (try with_reducible rfl))
            (try simp only [Act.put, List.setIfInBounds_toArray, List.set_cons_zero, List.set_cons_succ, List.getElem_toArray, List.getElem_cons_zero, List.getElem_cons_succ])
            refine wpTill.take (i := 2) (v := ?_) (by rfl) rfl (by kernel_rfl) (by kernel_rfl) (by kernel_rfl) (by exact fun _ _ _ h => h) HS1.out (fun _ => HT1.out) (Or.inl ⟨by rfl, ?_⟩) ?_
            rotate_left
            · (intro w' hSw; (try dsimp only at hSw); go_simp; (try with_reducible rfl))
            (try simp only [Act.put, List.setIfInBounds_toArray, List.set_cons_zero, List.set_cons_succ, List.getElem_toArray, List.getElem_cons_zero, List.getElem_cons_succ])
            refine wpTill.take (i := 3) (v := ?_) (by rfl) rfl (by kernel_rfl) (by kernel_rfl) (by kernel_rfl) (by exact fun _ _ _ h => h) HS1.out (fun _ => HT1.out) (Or.inl ⟨by rfl, ?_⟩) ?_
            rotate_left
            · (intro w' hSw; (try dsimp only at hSw); go_simp; (try with_reducible rfl))
            (try simp only [Act.put, List.setIfInBounds_toArray, List.set_cons_zero, List.set_cons_succ, List.getElem_toArray, List.getElem_cons_zero, List.getElem_cons_succ])
            refine wpTill.take (i := 4) (v := ?_) (by rfl) rfl (by kernel_rfl) (by kernel_rfl) (by kernel_rfl) (by exact fun _ _ _ h => h) HS1.out (fun _ => HT1.out) (Or.inl ⟨by rfl, ?_⟩) ?_
            rotate_left
            · (intro w' hSw; (try dsimp only at hSw); go_simp; (try with_reducible rfl))
            (try simp only [Act.put, List.setIfInBounds_toArray, List.set_cons_zero, List.set_cons_succ, List.getElem_toArray, List.getElem_cons_zero, List.getElem_cons_succ])
            refine wpTill.take (i := 5) (v := ?_) (by rfl) rfl (by kernel_rfl) (by kernel_rfl) (by kernel_rfl) (by exact fun _ _ _ h => h) HS1.out (fun _ => HT1.out) (Or.inl ⟨by rfl, ?_⟩) ?_
            rotate_left
            · (intro w' hSw; (try dsimp only at hSw); go_simp; (try with_reducible rfl))
            (try simp only [Act.put, List.setIfInBounds_toArray, List.set_cons_zero, List.set_cons_succ, List.getElem_toArray, List.getElem_cons_zero, List.getElem_cons_succ])
            refine wpTill.take (i := 6) (v := ?_) (by rfl) rfl (by kernel_rfl) (by kernel_rfl) (by kernel_rfl) (by exact fun _ _ _ h => h) HS1.out (fun _ => HT1.out) (Or.inl ⟨by rfl, ?_⟩) ?_
            rotate_left
            · (intro w' hSw; (try dsimp only at hSw); go_simp; (try with_reducible rfl))
            (try simp only [Act.put, List.setIfInBounds_toArray, List.set_cons_zero, List.set_cons_succ, List.getElem_toArray, List.getElem_cons_zero, List.getElem_cons_succ])
            refine wpTill.take (i := 7) (v := ?_) (by rfl) rfl (by kernel_rfl) (by kernel_rfl) (by kernel_rfl) (by exact fun _ _ _ h => h) HS1.out (fun _ => HT1.out) (Or.inl ⟨by rfl, ?_⟩) ?_
            rotate_left
            · (intro w' hSw; (try dsimp only at hSw); go_simp; (try with_reducible rfl))
            (try simp only [Act.put, List.setIfInBounds_toArray, List.set_cons_zero, List.set_cons_succ, List.getElem_toArray, List.getElem_cons_zero, List.getElem_cons_succ])
            refine wpTill.take (i := 8) (v := ?_) (by rfl) rfl (by kernel_rfl) (by kernel_rfl) (by kernel_rfl) (by exact fun _ _ _ h => h) HS1.out (fun _ => HT1.out) (Or.inl ⟨by rfl, ?_⟩) ?_
            rotate_left
            · (intro w' hSw; (try dsimp only at hSw); go_simp; (try with_reducible rfl))
            (try simp only [Act.put, List.setIfInBounds_toArray, List.set_cons_zero, List.set_cons_succ, List.getElem_toArray, List.getElem_cons_zero, List.getElem_cons_succ])
            refine wpTill.take (i := 9) (v := ?_) (by rfl) rfl (by kernel_rfl) (by kernel_rfl) (by kernel_rfl) (by exact fun _ _ _ h => h) HS1.out (fun _ => HT1.out) (Or.inl ⟨by rfl, ?_⟩) ?_
            rotate_left
            · (intro w' hSw; (try dsimp only at hSw); go_simp; (try with_reducible rfl))
            (try simp only [Act.put, List.setIfInBounds_toArray, List.set_cons_zero, List.set_cons_succ, List.getElem_toArray, List.getElem_cons_zero, List.getElem_cons_succ])
            refine wpTill.take (i := 10) (v := ?_) (by rfl) rfl (by kernel_rfl) (by kernel_rfl) (by kernel_rfl) (by exact fun _ _ _ h => h) HS1.out (fun _ => HT1.out) (Or.inl ⟨by rfl, ?_⟩) ?_
            rotate_left
            · (intro w' hSw; (try dsimp only at hSw); go_simp; (try with_reducible rfl))
            (try simp only [Act.put, List.setIfInBounds_toArray, List.set_cons_zero, List.set_cons_succ, List.getElem_toArray, List.getElem_cons_zero, List.getElem_cons_succ])
            refine wpTill.take (i := 11) (v := ?_) (by rfl) rfl (by kernel_rfl) (by kernel_rfl) (by kernel_rfl) (by exact fun _ _ _ h => h) HS1.out (fun _ => HT1.out) (Or.inl ⟨by rfl, ?_⟩) ?_
            rotate_left
            · (intro w' hSw; (try dsimp only at hSw); go_simp; (try with_reducible rfl))
            (try simp only [Act.put, List.setIfInBounds_toArray, List.set_cons_zero, List.set_cons_succ, List.getElem_toArray, List.getElem_cons_zero, List.getElem_cons_succ])
            refine wpTill.take (i := 12) (v := ?_) (by rfl) rfl (by kernel_rfl) (by kernel_rfl) (by kernel_rfl) (by exact fun _ _ _ h => h) HS1.out (fun _ => HT1.out) (Or.inl ⟨by rfl, ?_⟩) ?_
            rotate_left
            · (intro w' hSw; (try dsimp only at hSw); go_simp; (try with_reducible rfl))
            (try simp only [Act.put, List.setIfInBounds_toArray, List.set_cons_zero, List.set_cons_succ, List.getElem_toArray, List.getElem_cons_zero, List.getElem_cons_succ])
            refine wpTill.step (i := 13) (by kernel_rfl) (by rfl) (fun K' hK => ?_)
            replace hK := Lib.hid hK
            go_simp
            (with_reducible refine (HP.out _).mono ?_)
            rintro e w4 ⟨rfl, hb4⟩
            have LF4 := Lib.hid (LF2.out.drew.below hb4)
            have HB4 := Lib.hid hb4
            clear hb4
            go_wp2_with (fail)
            refine hK.out _ _ (LF4.out.cell 0) (fun _ => LF4.out.cell 1) ?_
            clear hK K'
            (try simp only [Act.put, List.setIfInBounds_toArray, List.set_cons_zero, List.set_cons_succ, List.getElem_toArray, List.getElem_cons_zero, List.getElem_cons_succ])
            refine wpTill.take (i := 14) (v := ?_) (by rfl) rfl (by kernel_rfl) (by kernel_rfl) (by kernel_rfl) (by exact fun _ _ _ h => h) (LF4.out.cell 0) (fun _ => LF4.out.cell 1) (Or.inl ⟨by rfl, ?_⟩) ?_
            rotate_left
            · (intro w' hSw; (try dsimp only at hSw); go_simp; (try with_reducible rfl))
            (try simp only [Act.put, List.setIfInBounds_toArray, List.set_cons_zero, List.set_cons_succ, List.getElem_toArray, List.getElem_cons_zero, List.getElem_cons_succ])
            clear zF kF fF
            obtain ⟨zF, kF, fF⟩ := LF4.out
            refine wpTill.step (i := 15) (by kernel_rfl) (by rfl) (fun K' hK => ?_)
            replace hK := Lib.hid hK
            go_simp
            have LF5 := Lib.hid (LF4.out.set_ 1 (.string ⟨(putB xl a t).toArray⟩))
            have HB5 : Hid (Below wo.heap.size wo (w4.setCell ⟨bf, 1, none⟩ (.string ⟨(putB xl a t).toArray⟩))) := (HB2.out.drew.trans (HB4.out.mono (by have := HB2.out.size; exact this))).setCell (Nat.le_of_lt HVz.out) _
            have LP5 := Lib.hid ((LP2.out.drew.below HB4.out).far (p := ⟨bf, 1, none⟩) (by have := HVz.out; simp; omega) (.string ⟨(putB xl a t).toArray⟩))
            refine hK.out _ _ (LF5.out.cell 0) (fun h => nomatch (show true = false from h)) ?_
            clear hK K'
            (try simp only [Act.put, List.setIfInBounds_toArray, List.set_cons_zero, List.set_cons_succ, List.getElem_toArray, List.getElem_cons_zero, List.getElem_cons_succ])
            refine wpTill.stop (by kernel_rfl) ?_ _
            clear HS1 HT1 HP zF kF fF zB kB fB zP kP fP LF4 hmin he1 he2 hex
            generalize w4.setCell ⟨bf, 1, none⟩ (.string ⟨(putB xl a t).toArray⟩) = Z at *
            have HA5 := Lib.hid (HA.out.below HB5.out)
            obtain ⟨zB, kB, fB⟩ := HA5.out.loc
            obtain ⟨zF, kF, fF⟩ := LF5.out
            obtain ⟨zP, kP, fP⟩ := LP5.out
            go_wp2_with (fail)
            go_still_tail 7, (by kernel_rfl)
            change wpList _ _ _ _ _ Z.drew
            have HAZ := Lib.hid (HA5.out.below (Below.refl _ _).drew)
            have HBZ := Lib.hid HB5.out.drew
            clear zB kB fB zF kF fF zP kP fP HA5 HB5 LF5 LP5
            generalize Z.drew = Z2 at *
            refine wpList_mapUpdateA rfl (.tmp 79) (.tmp 81) (.tmp 82) 90 rfl (keyW_int Tryz.underlying3) Tryz.underlying90 rfl HAZ.out.files pf ⟨xn, putB xl a t⟩ rfl rfl ?_
            intro w6 hm6 hg6 hz6
            have HA6 := Lib.hid (HAZ.out.setFiles hm6 hg6)
            have HE6 : Hid (Keeps F w w6) := (HE.out.trans (Keeps.below HBZ.out)).trans (Keeps.grown hg6 (fun b hb => .inl (by injection hb with hb; rw [← hb]; exact HF.out.ff)))
            clear hm6 hg6 hz6
            go_frame
            go_wp2_with (fail)
            go_roundw
            case rel =>
              refine ⟨k + 1, by omega, by go_num, ?_, HE6.out⟩
              have hsf : surviveF fs (pf, pn) = putA pf ⟨xn, putB xl a t⟩ fs := by
                unfold surviveF
                simp only [hx]
                rw [HAP.out.1, if_neg (by omega), Int.toNat_natCast, HT.out]
              rw [HSN.out, HST.out, if_neg H2.out, hsf]
              exact HA6.out
            case measure => simp [intOf]; omega
    · obtain rfl : k = d.queue.length := by omega
      rw [List.take_length] at hA
      have hfok : FOk (surviveAll keep 0 d.queue d.files) := FOk.surviveAll HO.out.fok
      have HFOK := Lib.hid hfok
      generalize hfs : surviveAll keep 0 d.queue d.files = fs at *
      have HFS := Lib.hid hfs
      have HA := Lib.hid hA
      obtain ⟨zB, kB, fB⟩ := hA.loc
      clear hA hE hfok hfs
      go_wp2_with (at_range; refine wpList_rangeA rfl _ 90 rfl Tryz.underlying90 rfl HA.out.files ?_; intro w0 hrg0 hb0 hz0; replace hrg0 := Lib.hid hrg0; replace hb0 := Lib.hid hb0; clear hz0)
      have HG0 := Lib.hid (grown_of_below hb0.out (some mf))
      clear zB kB fB
      go_loopw [89] (fun _ wr => ∃ l, CrashInv fs l ∧ RangeAt (Value.int .i64) fileV wr mf wo.heap.size l ∧ wo.grownBy wr (some mf)) (fun _ wr => wr.rangeLeft mf wo.heap.size)
      case atStart => exact ⟨_, CrashInv.start fs, hrg0.out, HG0.out⟩
      case round =>
        obtain ⟨l, hi, hr, hg⟩ := hrel
        obtain ⟨wu, rfl⟩ : ∃ wu : World, wu = wr := ⟨_, rfl⟩
        have HIr := Lib.hid hi
        have HRr := Lib.hid hr
        have HGr := Lib.hid hg
        have hz : wo.heap.size ≤ wu.heap.size := hg.size
        clear hi hr hg
        go_wp2_with (at_next; refine wpList_nextA rfl _ rfl rfl HRr.out ?_ ?_; intro hdone; replace hdone := Lib.hid hdone; rotate_left; intro l1 k v l2 w1 hl hr1 hg1 hz1 hen; obtain ⟨xn, xl⟩ := v; replace hl := Lib.hid hl; replace hr1 := Lib.hid hr1; replace hg1 := Lib.hid hg1; unfold fileV strV at hen; replace hz1 := Lib.hid hz1; rotate_left; go_frame)
        · have hmm := @run_makeMap Tryz.prog
          obtain ⟨zB, kB, fB⟩ := HA.out.loc.grown HGr.out (fun e => loc_ne_map HA.out.loc (by simp) HA.out.files (by injection e with e; exact e.symm))
          go_wp2_with (fail)
          go_end0
          have hm := HRr.out.map
          rw [HIr.out.done hdone.out] at hm
          have HX := crash_fin HA.out HGr.out hm
          have lB := Nat.lt_of_lt_of_le (HA.out.lt B HA.out.fB) HGr.out.size
          rw [World.setCell_alloc_past _ _ _ _ lB, World.setCell_alloc_past _ _ _ _ (by rw [World.size_setCell]; exact lB)] at HX
          rw [HFS.out]
          exact ⟨rfl, HX.from (Ext.same HE.out) (kk_of HF.out HA.out rfl)⟩
        · obtain ⟨zB, kB, fB⟩ := (HA.out.loc.grown HGr.out (fun e => loc_ne_map HA.out.loc (by simp) HA.out.files (by injection e with e; exact e.symm))).grown hg1.out (fun e => by have := HA.out.loc.lt; injection e with e; omega)
          have HLB := Lib.hid (Loc.mk zB kB fB)
          have HR1 := hr1
          have HG1 := Lib.hid (HGr.out.andThen hg1.out (fun j hj => .inl (by injection hj with hj; omega)))
          clear hr1 hg1
          go_wp2_with (fail)
          have LF := Lib.hid (Loc.new_ w1 #[.string ⟨xn.toArray⟩, .string ⟨xl.toArray⟩] 121)
          have HBx := Lib.hid (below_alloc w1 (.cells #[.string ⟨xn.toArray⟩, .string ⟨xl.toArray⟩] 121))
          have LB2 := Lib.hid (HLB.out.alloc (.cells #[.string ⟨xn.toArray⟩, .string ⟨xl.toArray⟩] 121))
          clear zB kB fB hen
          generalize w1.alloc (.cells #[.string ⟨xn.toArray⟩, .string ⟨xl.toArray⟩] 121) = V at *
          obtain ⟨zB, kB, fB⟩ := LB2.out
          obtain ⟨zF, kF, fF⟩ := LF.out
          go_still_tail 10, (by kernel_rfl)
          change wpList _ _ _ _ _ V.drew
          have HBV := Lib.hid HBx.out.drew
          clear zB kB fB zF kF fF LF HBx LB2
          generalize V.drew = Z at *
          have HRZ := Lib.hid (HR1.out.grown (grown_of_below HBV.out none) (by simp) (by simp))
          refine wpList_mapUpdateR rfl (.tmp 97) (.tmp 98) (.tmp 103) 90 rfl (keyW_int Tryz.underlying3) Tryz.underlying90 ⟨xl, xl⟩ rfl HRZ.out (CrashInv.fresh (by have := HIr.out; rw [hl.out] at this; exact this) HFOK.out.2) rfl rfl ?_
          intro w3 hr3 hg3 hz3
          have HR3 := Lib.hid hr3
          have HG3 := Lib.hid ((HG1.out.andThen (grown_of_below HBV.out none) (fun j hj => by cases hj)).andThen hg3 (fun j hj => .inr hj))
          clear hr3 hg3 hz3
          go_frame
          go_roundw
          case rel =>
            have h := HIr.out
            rw [hl.out] at h
            exact ⟨_, _, _, _, _, _, _, _, _, _, _, _, _, _, _, _, _, ⟨_, h.next, HR3.out, HG3.out⟩, rfl⟩
          case measure =>
            rw [HR3.out.left, HRr.out.left, hl.out]
            exact left_less3
end
end Go.Proofs.YtjncmlglhegnaaaGreatDoor
