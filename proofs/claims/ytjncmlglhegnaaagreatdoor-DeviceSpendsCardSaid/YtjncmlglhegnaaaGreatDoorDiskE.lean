/- disk: write. -/
import Derived.Test.YtjncmlglhegnaaaGreatDoorDiskD
import Derived.StillTailTactics
import Derived.Test.YtjncmlglhegnaaaGreatDoorOrdL
namespace Go.Proofs.YtjncmlglhegnaaaGreatDoor
open Go.RowKit

section
variable {w : World} {F : Nat → Prop} {B : Nat} {d : DV} {mf ms : Nat} {Q : Option Addr} {cq : Nat} {K : Option Addr} {ck : Nat}
/-- the files are another list of entries -/
theorem DiskAt.setFiles {w' : World} {fs : List (Int × FileV)} (h : DiskAt w F B d mf ms Q cq K ck) (hm : MapAt w' mf (entV (Value.int .i64) fileV fs)) (hg : w.grownBy w' (some mf)) : DiskAt w' F B { d with files := fs } mf ms Q cq K ck := by
  have n1 : B ≠ mf := loc_ne_map h.loc (by simp) h.files
  have hq : (Value.slice Q d.queue.length cq).ownBlock ≠ some mf := fun e => by
    obtain ⟨arr, clock, hb, _⟩ := h.files
    rcases h.queue.1.2 with ⟨hv, _⟩ | ⟨g, cap, cur, hv, _, hgb, _⟩
    · rw [hv] at e
      simp [Value.ownBlock] at e
    · rw [hv] at e
      simp only [Value.ownBlock, Option.some.injEq] at e
      subst e
      rw [hb] at hgb
      cases hgb
  refine ⟨h.loc.grown hg (fun e => n1 (by injection e with e; exact e.symm)), hm, h.set.grown hg (fun e => h.ne (by injection e)), h.queue.kept hg (.inr hq), ?_, h.fB, h.ff, h.fs, h.fq, h.fk, h.ne, h.nq, fun b hb => Nat.lt_of_lt_of_le (h.lt b hb) hg.size⟩
  refine h.keep.grown hg ?_
  by_cases hk : d.keep = []
  · exact .inl (by rw [hk]; rfl)
  · exact .inr fun ad e e' => h.fk hk ad e (by injection e' with e'; rw [← e']; exact h.ff)
theorem own_ne_map {base : Nat} {e : TypeId} {size n b : Nat} {v : Value} {xs : List (List Value)} {es : List (Value × Value)} (ho : Own w base e size v n xs) (hm : MapAt w b es) : v.ownBlock ≠ some b := fun e' => by
  obtain ⟨arr, clock, hb, _⟩ := hm
  rcases ho.1.2 with ⟨hv, _⟩ | ⟨g, cap, cur, hv, _, hgb, _⟩
  · rw [hv] at e'
    simp [Value.ownBlock] at e'
  · rw [hv] at e'
    simp only [Value.ownBlock, Option.some.injEq] at e'
    subst e'
    rw [hb] at hgb
    cases hgb
theorem DiskAt.keep_lt (h : DiskAt w F B d mf ms Q cq K ck) (hk : d.keep ≠ []) : ∀ ad, K = some ad → ad.block < w.heap.size := fun ad he => by
  obtain ⟨k, ks, e⟩ := List.exists_cons_of_ne_nil hk
  obtain ⟨b, o, hA, hb, _⟩ := h.keep.2 0 [.int .i64 k] (by rw [e]; rfl)
  rw [he] at hA
  injection hA with hA
  rw [hA]
  exact hb
/-- the keep list stays, whatever is written of F, or new -/
theorem DiskAt.keep_grown (h : DiskAt w F B d mf ms Q cq K ck) {x x' : World} {row : Option Nat} (hs : Sl x 1 K d.keep.length (d.keep.map fun k => [.int .i64 k])) (hg : x.grownBy x' row) (hr : ∀ b, row = some b → F b ∨ w.heap.size ≤ b) : Sl x' 1 K d.keep.length (d.keep.map fun k => [.int .i64 k]) := by
  refine hs.grown hg ?_
  by_cases hk : d.keep = []
  · exact .inl (by rw [hk]; rfl)
  · refine .inr fun ad e e' => ?_
    rcases hr _ e' with h1 | h1
    · exact h.fk hk ad e h1
    · have := h.keep_lt hk ad e
      omega
theorem write_fin {V w4 w5 w6 : World} {o : Obj} {A4 : Option Addr} {c4 : Nat} {p : Int × Int} (H : DiskAt V F B d mf ms Q cq K ck)
    (hown4 : Own w4 0 119 2 (.slice A4 (d.queue.length + 1) c4) (d.queue.length + 1) (d.queue.map secCells ++ [secCells p]))
    (hg4 : (V.alloc o).drew.grownBy w4 (Value.slice Q d.queue.length cq).ownBlock)
    (hat4 : (Value.slice A4 (d.queue.length + 1) c4).ownBlock = (Value.slice Q d.queue.length cq).ownBlock ∨ (Value.slice A4 (d.queue.length + 1) c4).ownBlock = some (V.alloc o).drew.heap.size)
    (hg5 : (w4.setCell ⟨B, 1, none⟩ (.slice A4 (d.queue.length + 1) c4)).grownBy w5 (some ms)) (hg6 : w5.grownBy w6 (some ms))
    (hm6 : MapAt w6 ms (entV secV Value.bool ((d.queue ++ [p]).map fun p => (p, true)))) : DskTo F V B { d with queue := d.queue ++ [p] } w6 := by
  have e0 : (V.alloc o).drew.heap.size = V.heap.size + 1 := by show (V.alloc o).heap.size = _; simp
  have H1 := H.below ((below_alloc V o).drew)
  have nBf := loc_ne_map H.loc (by simp) H.files
  have nBs := loc_ne_map H.loc (by simp) H.set
  have nQf := own_ne_map H.queue H.files
  have nQs := own_ne_map H.queue H.set
  have nQB : (Value.slice Q d.queue.length cq).ownBlock ≠ some B := fun e => H.nq (by rw [slice_block] at e; exact e)
  have lB := H.lt B H.fB
  have lf := H.lt mf H.ff
  have ls := H.lt ms H.fs
  have fQ : ∀ b, (Value.slice Q d.queue.length cq).ownBlock = some b → F b := fun b hb => H.fq b (by rw [← slice_block Q d.queue.length cq]; exact hb)
  have hA : ∀ b, (Value.slice A4 (d.queue.length + 1) c4).ownBlock = some b → F b ∨ b = V.heap.size + 1 := fun b hb => by
    rcases hat4 with h | h
    · exact .inl (fQ b (by rw [← h]; exact hb))
    · rw [h, e0] at hb
      injection hb with hb
      exact .inr hb.symm
  have aB : (Value.slice A4 (d.queue.length + 1) c4).ownBlock ≠ some B := fun e => by
    rcases hat4 with h | h
    · exact nQB (by rw [← h]; exact e)
    · rw [h, e0] at e
      injection e with e
      omega
  have as_ : (Value.slice A4 (d.queue.length + 1) c4).ownBlock ≠ some ms := fun e => by
    rcases hat4 with h | h
    · exact nQs (by rw [← h]; exact e)
    · rw [h, e0] at e
      injection e with e
      omega
  have gB := grownBy_setCell w4 ⟨B, 1, none⟩ (.slice A4 (d.queue.length + 1) c4)
  have z4 := hg4.size
  have z5 := hg5.size
  have z6 := hg6.size
  rw [World.size_setCell] at z5
  have nsB : (some ms : Option Nat) ≠ some B := fun e => nBs (by injection e with e; exact e.symm)
  have nsf : (some ms : Option Nat) ≠ some mf := fun e => H.ne (by injection e with e; exact e.symm)
  have hloc := (((H1.loc.grown hg4 nQB).set_ 1 (.slice A4 (d.queue.length + 1) c4)).grown hg5 nsB).grown hg6 nsB
  have hfiles := (((H1.files.grown hg4 nQf).grown gB (fun e => nBf (by injection e))).grown hg5 nsf).grown hg6 nsf
  have hq6 := ((hown4.other (p := ⟨B, 1, none⟩) aB (.slice A4 (d.queue.length + 1) c4)).kept hg5 (.inr as_)).kept hg6 (.inr as_)
  have hk6 := H.keep_grown (H.keep_grown (H.keep_grown (H.keep_grown H1.keep hg4 (fun b hb => .inl (fQ b hb))) gB (fun b hb => .inl (by injection hb with hb; rw [← hb]; exact H.fB))) hg5 (fun b hb => .inl (by injection hb with hb; rw [← hb]; exact H.fs))) hg6 (fun b hb => .inl (by injection hb with hb; rw [← hb]; exact H.fs))
  have hkeeps : Keeps F V w6 := ((((Keeps.below ((below_alloc V o).drew)).trans (Keeps.grown hg4 (fun b hb => .inl (fQ b hb)))).trans (Keeps.setCell (p := ⟨B, 1, none⟩) (.inl H.fB) _)).trans (Keeps.grown hg5 (fun b hb => .inl (by injection hb with hb; rw [← hb]; exact H.fs)))).trans (Keeps.grown hg6 (fun b hb => .inl (by injection hb with hb; rw [← hb]; exact H.fs)))
  have hal : ∀ b, (Value.slice A4 (d.queue.length + 1) c4).ownBlock = some b → b < w6.heap.size := fun b hb => (hq6.lt b hb).2
  have hfin : DiskAt w6 (fun k => F k ∨ (Value.slice A4 (d.queue.length + 1) c4).ownBlock = some k) B { d with queue := d.queue ++ [p] } mf ms A4 c4 K ck := by
    refine ⟨by simpa using hloc, hfiles, hm6, by simpa using hq6, hk6, .inl H.fB, .inl H.ff, .inl H.fs, fun b hb => .inr (by rw [slice_block]; exact hb), fun hk ad he hh => ?_, H.ne, fun e => aB (by rw [slice_block]; exact e), fun b hb => ?_⟩
    · rcases hh with hh | hh
      · exact H.fk hk ad he hh
      · rcases hA _ hh with h | h
        · exact H.fk hk ad he h
        · have := H.keep_lt hk ad he
          omega
    · rcases hb with hb | hb
      · have := H.lt b hb
        omega
      · exact hal b hb
  refine ⟨fun k => F k ∨ (Value.slice A4 (d.queue.length + 1) c4).ownBlock = some k, ⟨mf, ms, A4, c4, K, ck, hfin⟩, ⟨hkeeps, fun _ h => .inl h, fun k hk => ?_⟩, kk_of H hfin rfl⟩
  · rcases hk with hk | hk
    · exact .inl hk
    · rcases hA _ hk with h | h
      · exact .inl h
      · exact .inr ⟨by omega, hal _ hk⟩
theorem addQ_len : ∀ (ps q : List (Int × Int)), (addQ q ps).length ≤ q.length + ps.length
  | [], q => by simp [addQ]
  | p :: ps, q => by
    by_cases hp : p ∈ q
    · have := addQ_len ps q
      simp only [addQ, hp, if_true, List.length_cons]
      omega
    · have := addQ_len ps (q ++ [p])
      simp only [addQ, hp, if_false, List.length_cons]
      simp only [List.length_append, List.length_cons, List.length_nil] at this
      omega
theorem zeroBool (w : World) : (zeroValue 4).run Tryz.prog w = .ok (.bool false) w := by kernel_rfl
theorem getA_set (p : Int × Int) : ∀ q : List (Int × Int), getA p (q.map fun p => (p, true)) = if p ∈ q then some true else none
  | [] => rfl
  | x :: q => by
    simp only [List.map_cons, getA, List.mem_cons]
    by_cases h : p = x
    · simp [h]
    · simp [h, getA_set p q]
theorem DiskAt.has (h : DiskAt w F B d mf ms Q cq K ck) (p : Int × Int) : (Instr.lookup 91 (.map (some ms)) (secV p) false).run Tryz.prog w = .ok (.bool (decide (p ∈ d.queue))) w := by
  have := run_lookupA (P := Tryz.prog) keyW_sector Tryz.underlying91 (zeroBool w) h.set p
  rw [this, getA_set]
  by_cases hp : p ∈ d.queue <;> simp [hp]
theorem DskTo.refl (h : DiskAt w F B d mf ms Q cq K ck) : DskTo F w B d w := ⟨F, ⟨_, _, _, _, _, _, h⟩, Ext.refl _ _, KK.refl _ _⟩
set_option maxRecDepth 100000 in
set_option maxHeartbeats 2000000 in
theorem write_no (h : DiskAt w F B d mf ms Q cq K ck) (f at_ : Int) (s : List UInt8) (hat : -9223372036854775808 ≤ at_ ∧ at_ ≤ 9223372036854775807) (hs : s.length ≤ 140737488351232)
    (hno : mayF d f ≠ 0 ∨ at_ < 0 ∨ (16777216 < at_ ∨ 16777216 - at_ < s.length) ∨ s = []) :
    Calls Tryz.prog 201 #[.pointer (some ⟨B, 0, none⟩), .int .i64 f, .int .i64 at_, strV s] w fun e w' => e = .returned (.int .i64 (writeF d f at_ s).2) ∧ DskTo F w B (writeF d f at_ s).1 w' := by
  have hm' := may_any h f _ rfl
  have hl := strV_len s
  have HR := Lib.hid (DskTo.refl h)
  have HM := Lib.hid hm'
  unfold writeF
  clear h hm'
  by_cases hm : mayF d f = 0
  · rw [if_neg (by simp [hm])]
    rw [hm] at HM
    by_cases h1 : at_ < 0
    · rw [if_pos h1]
      clear hm hno
      unfold strV
      go_enter Tryz.func201, Tryz.ntmps201
      go_wp2_with ((with_reducible refine (HM.out).mono ?_); rintro _ _ ⟨rfl, rfl⟩)
      go_ret
      exact ⟨rfl, HR.out⟩
    · rw [if_neg h1]
      by_cases h2 : 16777216 < at_
      · rw [if_pos (Or.inl h2)]
        clear hm hno
        unfold strV
        go_enter Tryz.func201, Tryz.ntmps201
        go_wp2_with ((with_reducible refine (HM.out).mono ?_); rintro _ _ ⟨rfl, rfl⟩)
        go_ret
        exact ⟨rfl, HR.out⟩
      · by_cases h3 : 16777216 - at_ < s.length
        · rw [if_pos (Or.inr h3)]
          have h1' : 0 ≤ at_ := by omega
          have h2' : at_ ≤ 16777216 := by omega
          clear hm hno
          unfold strV
          go_enter Tryz.func201, Tryz.ntmps201
          go_wp2_with ((with_reducible refine (HM.out).mono ?_); rintro _ _ ⟨rfl, rfl⟩)
          go_ret
          exact ⟨rfl, HR.out⟩
        · rw [if_neg (by omega)]
          have h4 : s = [] := by
            rcases hno with h | h | h | h
            · exact absurd hm h
            · omega
            · omega
            · exact h
          subst h4
          rw [if_pos rfl]
          have h1' : 0 ≤ at_ := by omega
          have h2' : at_ ≤ 16777216 := by omega
          clear hm hno
          unfold strV
          go_enter Tryz.func201, Tryz.ntmps201
          go_wp2_with ((with_reducible refine (HM.out).mono ?_); rintro _ _ ⟨rfl, rfl⟩)
          go_ret
          exact ⟨rfl, HR.out⟩
  · rw [if_pos hm]
    have h1 : (mayF d f == 0) = false := by simpa using hm
    have h2 : (mayF d f != 0) = true := by simpa using hm
    clear hm hno
    unfold strV
    generalize mayF d f = m at *
    go_enter Tryz.func201, Tryz.ntmps201
    go_wp2_with ((with_reducible refine (HM.out).mono ?_); rintro _ _ ⟨rfl, rfl⟩)
    go_ret
    exact ⟨rfl, HR.out⟩
set_option maxRecDepth 100000 in
set_option maxHeartbeats 2000000 in
theorem write_yes (h : DiskAt w F B d mf ms Q cq K ck) (hok : DOk d) (f : Int) (a : Nat) (s : List UInt8) (hm : mayF d f = 0) (hfit : a + s.length ≤ 16777216) (hne : s ≠ []) :
    Calls Tryz.prog 201 #[.pointer (some ⟨B, 0, none⟩), .int .i64 f, .int .i64 a, strV s] w fun e w' => e = .returned (.int .i64 0) ∧ DskTo F w B { d with files := putA f ⟨putB (d.file f).now a s, (d.file f).last⟩ d.files, queue := addQ d.queue (touched f a s.length) } w' := by
  have hm' := may_any h f 0 hm
  have hl := strV_len s
  have hsn := strV_ne hne
  have hpos : 0 < s.length := List.length_pos_iff.2 hne
  have hse : s.isEmpty = false := by simp [hne]
  have H := Lib.hid h
  have HM := Lib.hid hm'
  have HO := Lib.hid hok
  have hlook := h.look f
  unfold fileV strV at hlook
  obtain ⟨zB, kB, fB⟩ := h.loc
  have hfl := hok.file f
  have hp := fun w1 => put_any w1 (d.file f).now s a hfl.1 (by omega) _ rfl
  unfold strV at hp
  have HP := Lib.hid hp
  clear hp
  have HL := Lib.hid hfl
  have b1 : (a : Int) ≤ (16777216 : Int) := by omega
  have b2 : (s.length : Int) ≤ (16777216 : Int) - (a : Int) := by omega
  have HW := Lib.hid zB
  clear h hm' hok hm hfl hne
  unfold strV
  go_enter Tryz.func201, Tryz.ntmps201
  go_wp2_with (first
    | ((with_reducible refine (HM.out).mono ?_); rintro _ _ ⟨rfl, rfl⟩)
    | ((with_reducible refine (HP.out _).mono ?_); rintro e w1 ⟨rfl, hb1⟩; obtain ⟨⟨zX, kX, fX⟩, hb0⟩ := locs1 hb1))
  have LX := Lib.hid ((⟨zX, kX, fX⟩ : Loc w1 w.heap.size _).set_ 0 (.string ⟨(putB (d.file f).now a s).toArray⟩))
  have HB1 := Lib.hid (hb0.setCell (p := ⟨w.heap.size, 0, none⟩) (Nat.le_refl _) (.string ⟨(putB (d.file f).now a s).toArray⟩))
  clear hb0 hb1 zX kX fX
  generalize w1.setCell ⟨w.heap.size, 0, none⟩ (.string ⟨(putB (d.file f).now a s).toArray⟩) = Y at *
  have HY := Lib.hid (H.out.below HB1.out)
  clear zB kB fB
  obtain ⟨zB, kB, fB⟩ := HY.out.loc
  obtain ⟨zX, kX, fX⟩ := LX.out
  clear hlook
  go_still_tail 6, (by kernel_rfl)
  change wpList _ _ _ _ _ Y.drew
  have HYD := Lib.hid (HY.out.below (Below.refl _ _).drew)
  have HB2 := Lib.hid HB1.out.drew
  clear zX kX fX zB kB fB HY HB1 LX
  generalize Y.drew = Z at *
  refine wpList_mapUpdateA rfl (.tmp 50) (.tmp 51) (.tmp 52) 90 rfl (keyW_int Tryz.underlying3) Tryz.underlying90 rfl HYD.out.files f ⟨putB (d.file f).now a s, (d.file f).last⟩ rfl rfl ?_
  intro w2 hm2 hg2 hz2
  have h2 := HYD.out.setFiles hm2 hg2
  have HD := Lib.hid h2
  have HE : Hid (Ext F F w w2) := Ext.same ((Keeps.below HB2.out).trans ((Keeps.grown hg2 (fun b hb => by injection hb with hb; rw [← hb]; exact .inl H.out.ff))))
  have HQ := Lib.hid (HO.out.putFile f ⟨putB (d.file f).now a s, (d.file f).last⟩ ⟨putB_le _ _ _ _ HL.out.1 (by omega), HL.out.2⟩)
  clear hm2 hg2 hz2 h2
  generalize hd2 : ({ d with files := putA f ⟨putB (d.file f).now a s, (d.file f).last⟩ d.files } : DV) = d2 at *
  go_wp2_with (fail)
  obtain ⟨q0, hq0⟩ : ∃ q0, a / 64 = q0 := ⟨_, rfl⟩
  obtain ⟨N, hN⟩ : ∃ N, (a + s.length - 1) / 64 - a / 64 + 1 = N := ⟨_, rfl⟩
  have hTl : (touched f a s.length).length = N := by unfold touched; rw [List.length_map, List.length_range, hN]
  have hTg : ∀ k, k < N → (touched f a s.length).take (k + 1) = (touched f a s.length).take k ++ [(f, (q0 : Int) + (k : Int))] := fun k hk => by
    rw [List.take_add_one, List.getElem?_eq_getElem (by omega)]
    simp only [touched, List.getElem_map, List.getElem_range, hq0, Option.toList_some]
    rfl
  have hTn : touched f a s.length = (touched f a s.length).take N := by rw [List.take_of_length_le (by omega)]
  have HTn := Lib.hid hTn
  have HTg := Lib.hid hTg
  have hq1 : (q0 : Int) ≤ 262144 := by omega
  have hq2 : (q0 : Int) + (N : Int) - 1 = ((a : Int) + (s.length : Int) - 1) / 64 := by omega
  have hq3 : (q0 : Int) + (N : Int) ≤ 262145 := by omega
  have HQ2 := Lib.hid hq2
  clear hTl hTg hTn hN hq2
  go_loopw [11] (fun i wr => ∃ k : Nat, k ≤ N ∧ i = .int .i64 ((q0 : Int) + (k : Int)) ∧ DskTo F w B { d2 with queue := addQ d.queue ((touched f a s.length).take k) } wr) (fun i _ => q0 + N - (intOf i).toNat)
  case atStart => exact ⟨0, Nat.zero_le _, by rw [← hq0]; simp, by rw [List.take_zero]; subst hd2; exact ⟨F, ⟨_, _, _, _, _, _, HD.out⟩, HE.out, kk_of H.out HD.out rfl⟩⟩
  case round =>
    obtain ⟨k, hk, rfl, hD⟩ := hrel
    by_cases hlt : k < N
    · obtain ⟨F1, ⟨mf', ms', Q1, cq1, K', ck', hA⟩, hE1, hkk⟩ := hD
      have HKK := Lib.hid hkk
      clear hkk
      have hT : (q0 : Int) + (k : Int) ≤ ((a : Int) + (s.length : Int) - 1) / 64 := by have := HQ2.out; omega
      have HT1 := Lib.hid (HTg.out k hlt)
      generalize hqq : addQ d.queue ((touched f a s.length).take k) = q at *
      have HA := Lib.hid hA
      have HE1 := Lib.hid hE1
      obtain ⟨zB, kB, fB⟩ := hA.loc
      have HZ := Lib.hid zB
      clear hA hE1
      obtain ⟨wo, rfl⟩ : ∃ wo : World, wo = wr := ⟨_, rfl⟩
      go_wp2_with (fail)
      have LP := Lib.hid (Loc.new_ wo #[.int .i64 f, .int .i64 ((q0 : Int) + (k : Int))] 119)
      have HA1 := Lib.hid (HA.out.below (below_alloc wo (.cells #[.int .i64 f, .int .i64 ((q0 : Int) + (k : Int))] 119)))
      have HB := Lib.hid (below_alloc wo (.cells #[.int .i64 f, .int .i64 ((q0 : Int) + (k : Int))] 119))
      generalize wo.alloc (.cells #[.int .i64 f, .int .i64 ((q0 : Int) + (k : Int))] 119) = W at *
      clear zB kB fB
      obtain ⟨zB, kB, fB⟩ := HA1.out.loc
      obtain ⟨zP, kP, fP⟩ := LP.out
      have hk0 := fun n => (HA1.out.below (bdrewN (Below.refl _ _) n)).has (f, (q0 : Int) + (k : Int))
      unfold secV at hk0
      by_cases hin : (f, (q0 : Int) + (k : Int)) ∈ q
      · simp only [hin, decide_true] at hk0
        go_quiet (fail)
        go_wp2_with (fail)
        have HAV := Lib.hid (HA1.out.below (bdrewN (Below.refl _ _) nq))
        have HBV := Lib.hid (bdrewN HB.out nq)
        generalize W.drewN nq = V at *
        clear zB kB fB zP kP fP hk0
        go_roundw
        case rel =>
          refine ⟨k + 1, by omega, by go_num, ?_⟩
          rw [HT1.out, addQ_append, hqq]
          simp only [addQ, hin, if_true]
          exact ⟨F1, ⟨_, _, _, _, _, _, HAV.out⟩, HE1.out.trans (Ext.same (Keeps.below HBV.out)), HKK.out.trans HE1.out.keeps.size (kk_of HA.out HAV.out rfl)⟩
        case measure => simp [intOf]; omega
      · simp only [hin, decide_false] at hk0
        go_quiet (fail)
        go_wp2_with (fail)
        have HAV := Lib.hid (HA1.out.below (bdrewN (Below.refl _ _) nq))
        have HBV := Lib.hid (bdrewN HB.out nq)
        have LPV := Lib.hid (LP.out.below (bdrewN (Below.refl _ _) nq))
        clear zB kB fB zP kP fP hk0
        generalize W.drewN nq = V at *
        obtain ⟨zB, kB, fB⟩ := HAV.out.loc
        obtain ⟨zP, kP, fP⟩ := LPV.out
        obtain ⟨i0, hi0, hi1, hi2, hi3⟩ := info_parts infoSector
        have hS0 : V.cell? ⟨B, 2, none⟩ = some (.map (some ms')) ∧ V.cell? ⟨wo.heap.size, 0, none⟩ = some (.int .i64 f) ∧ V.cell? ⟨wo.heap.size, 1, none⟩ = some (.int .i64 ((q0 : Int) + (k : Int))) := ⟨kB 2, kP 0, kP 1⟩
        have HS0 := Lib.hid hS0
        clear hS0
        have HQL : Hid (q.length ≤ 5000000) := by
          show q.length ≤ 5000000
          rw [← hqq]
          have h1 := addQ_len ((touched f a s.length).take k) d.queue
          have h2 := HO.out.len
          rw [List.length_take] at h1
          omega
        have hT0 : V.drew.cell? ⟨B, 1, none⟩ = some (.slice Q1 q.length cq1) := kB 1
        have HT0 := Lib.hid hT0
        clear hT0
        refine wpTill.start (S := fun w' => w'.cell? ⟨B, 2, none⟩ = some (.map (some ms')) ∧ w'.cell? ⟨wo.heap.size, 0, none⟩ = some (.int .i64 f) ∧ w'.cell? ⟨wo.heap.size, 1, none⟩ = some (.int .i64 ((q0 : Int) + (k : Int)))) (T := fun w' => w'.cell? ⟨B, 1, none⟩ = some (.slice Q1 q.length cq1)) (m := 15) (by kernel_rfl) ?_
        refine wpTill.take (i := 0) (v := ?_) (by rfl) rfl (by kernel_rfl) (by kernel_rfl) (by kernel_rfl) (by exact fun _ _ _ h => h) HS0.out (fun _ => HT0.out) (Or.inl ⟨by rfl, ?_⟩) ?_
        rotate_left
        · (intro w' hSw; (try dsimp only at hSw); go_simp; (try with_reducible rfl))
        (try simp only [Act.put, List.setIfInBounds_toArray, List.set_cons_zero, List.set_cons_succ])
        refine wpTill.take (i := 1) (v := ?_) (by rfl) rfl (by kernel_rfl) (by kernel_rfl) (by kernel_rfl) (by exact fun _ _ _ h => h) HS0.out (fun _ => HT0.out) (Or.inl ⟨by rfl, ?_⟩) ?_
        rotate_left
        · (intro w' hSw; (try dsimp only at hSw); go_simp; (try with_reducible rfl))
        (try simp only [Act.put, List.setIfInBounds_toArray, List.set_cons_zero, List.set_cons_succ])
        refine wpTill.take (i := 2) (v := ?_) (by rfl) rfl (by kernel_rfl) (by kernel_rfl) (by kernel_rfl) (by exact fun _ _ _ h => h) HS0.out (fun _ => HT0.out) (Or.inl ⟨by rfl, ?_⟩) ?_
        rotate_left
        · (intro w' hSw; (try dsimp only at hSw); go_simp; (try with_reducible rfl))
        (try simp only [Act.put, List.setIfInBounds_toArray, List.set_cons_zero, List.set_cons_succ])
        refine wpTill.take (i := 3) (v := ?_) (by rfl) rfl (by kernel_rfl) (by kernel_rfl) (by kernel_rfl) (by exact fun _ _ _ h => h) HS0.out (fun _ => HT0.out) (Or.inl ⟨by rfl, ?_⟩) ?_
        rotate_left
        · (intro w' hSw; (try dsimp only at hSw); go_simp; (try with_reducible rfl))
        (try simp only [Act.put, List.setIfInBounds_toArray, List.set_cons_zero, List.set_cons_succ])
        refine wpTill.take (i := 4) (v := ?_) (by rfl) rfl (by kernel_rfl) (by kernel_rfl) (by kernel_rfl) (by exact fun _ _ _ h => h) HS0.out (fun _ => HT0.out) (Or.inl ⟨by rfl, ?_⟩) ?_
        rotate_left
        · (intro w' hSw; (try dsimp only at hSw); go_simp; (try with_reducible rfl))
        (try simp only [Act.put, List.setIfInBounds_toArray, List.set_cons_zero, List.set_cons_succ])
        refine wpTill.take (i := 5) (v := ?_) (by rfl) rfl (by kernel_rfl) (by kernel_rfl) (by kernel_rfl) (by exact fun _ _ _ h => h) HS0.out (fun _ => HT0.out) (Or.inl ⟨by rfl, ?_⟩) ?_
        rotate_left
        · (intro w' hSw; (try dsimp only at hSw); go_simp; (try with_reducible rfl))
        (try simp only [Act.put, List.setIfInBounds_toArray, List.set_cons_zero, List.set_cons_succ])
        refine wpTill.take (i := 6) (v := ?_) (by rfl) rfl (by kernel_rfl) (by kernel_rfl) (by kernel_rfl) (by exact fun _ _ _ h => h) HS0.out (fun _ => HT0.out) (Or.inl ⟨by rfl, ?_⟩) ?_
        rotate_left
        · (intro w' hSw; (try dsimp only at hSw); go_simp; (try with_reducible rfl))
        (try simp only [Act.put, List.setIfInBounds_toArray, List.set_cons_zero, List.set_cons_succ])
        refine wpTill.take (i := 7) (v := ?_) (by rfl) rfl (by kernel_rfl) (by kernel_rfl) (by kernel_rfl) (by exact fun _ _ _ h => h) HS0.out (fun _ => HT0.out) (Or.inl ⟨by rfl, ?_⟩) ?_
        rotate_left
        · (intro w' hSw; (try dsimp only at hSw); go_simp; (try with_reducible rfl))
        (try simp only [Act.put, List.setIfInBounds_toArray, List.set_cons_zero, List.set_cons_succ])
        refine wpTill.take (i := 8) (v := ?_) (by rfl) rfl (by kernel_rfl) (by kernel_rfl) (by kernel_rfl) (by exact fun _ _ _ h => h) HS0.out (fun _ => HT0.out) (Or.inl ⟨by rfl, ?_⟩) ?_
        rotate_left
        · (intro w' hSw; (try dsimp only at hSw); go_simp; (try with_reducible rfl))
        (try simp only [Act.put, List.setIfInBounds_toArray, List.set_cons_zero, List.set_cons_succ])
        refine wpTill.takeT (i := 9) (v := ?_) (by rfl) rfl (by kernel_rfl) (by kernel_rfl) (by kernel_rfl) (by exact fun _ _ _ h => h) HS0.out HT0.out rfl (by kernel_rfl) (Or.inl ⟨by rfl, ?_⟩) ?_
        rotate_left
        · (intro w' hSw; (try dsimp only at hSw); go_simp; (try with_reducible rfl))
        (try simp only [Act.put, List.setIfInBounds_toArray, List.set_cons_zero, List.set_cons_succ])
        refine wpTill.take (i := 10) (v := ?_) (by rfl) rfl (by kernel_rfl) (by kernel_rfl) (by kernel_rfl) (by exact fun _ _ _ h => h) HS0.out (fun _ => HT0.out) (Or.inl ⟨by rfl, ?_⟩) ?_
        rotate_left
        · (intro w' hSw; (try dsimp only at hSw); go_simp; (try with_reducible rfl))
        (try simp only [Act.put, List.setIfInBounds_toArray, List.set_cons_zero, List.set_cons_succ])
        refine wpTill.step (i := 11) (by kernel_rfl) (by rfl) (fun K' hK => ?_)
        replace hK := Lib.hid hK
        go_simp
        have HS1 : Hid ((V.alloc (.cells #[.int .i64 f, .int .i64 ((q0 : Int) + (k : Int))] 119)).drew.cell? ⟨B, 2, none⟩ = some (.map (some ms')) ∧ (V.alloc (.cells #[.int .i64 f, .int .i64 ((q0 : Int) + (k : Int))] 119)).drew.cell? ⟨wo.heap.size, 0, none⟩ = some (.int .i64 f) ∧ (V.alloc (.cells #[.int .i64 f, .int .i64 ((q0 : Int) + (k : Int))] 119)).drew.cell? ⟨wo.heap.size, 1, none⟩ = some (.int .i64 ((q0 : Int) + (k : Int)))) :=
          ⟨(HAV.out.loc.alloc _).drew.cell 2, (LPV.out.alloc _).drew.cell 0, (LPV.out.alloc _).drew.cell 1⟩
        have HT1' : Hid ((V.alloc (.cells #[.int .i64 f, .int .i64 ((q0 : Int) + (k : Int))] 119)).drew.cell? ⟨B, 1, none⟩ = some (.slice Q1 q.length cq1)) := (HAV.out.loc.alloc _).drew.cell 1
        refine hK.out _ _ HS1.out (fun _ => HT1'.out) ?_
        clear hK K'
        (try simp only [Act.put, List.setIfInBounds_toArray, List.set_cons_zero, List.set_cons_succ])
        refine wpTill.step (i := 12) (by kernel_rfl) (by rfl) (fun K' hK => ?_)
        replace hK := Lib.hid hK
        refine step_append_sl _ (by rfl) (.tmp 84) (.tmp 86) _ (by rfl) 0 119 i0 _ 2 16 Tryz.underlying92 hi0 hi1 hi2 hi3 rfl (by omega) (.slice Q1 q.length cq1) q.length (q.map secCells) (by rfl) ((HAV.out.queue.alloc _).drew) (some ⟨V.heap.size, 0, none⟩) 1 1 [[.int .i64 f, .int .i64 ((q0 : Int) + (k : Int))]] (by rfl) (Sl.new_ _ _ _).drew (by simp) (by simp [Value.oneCell']) (by have := HQL.out; simp only [maxLen]; omega) (by have := HQL.out; omega) (Nat.zero_le _) ?_
        intro A4 c4 w4 hown4 hg4 hat4
        have HOW4 := Lib.hid hown4
        have HG4 := Lib.hid hg4
        have HAT4 := Lib.hid hat4
        have nQB : (Value.slice Q1 q.length cq1).ownBlock ≠ some B := fun e => HAV.out.nq (by rw [slice_block] at e; exact e)
        have nQP : (Value.slice Q1 q.length cq1).ownBlock ≠ some wo.heap.size := fun e => Nat.lt_irrefl _ (HA.out.queue.lt _ e).2
        have LB4 := Lib.hid ((HAV.out.loc.alloc _).drew.grown hg4 nQB)
        have LP4 := Lib.hid ((LPV.out.alloc _).drew.grown hg4 nQP)
        clear hown4 hg4 hat4
        have HS2 : Hid (w4.cell? ⟨B, 2, none⟩ = some (.map (some ms')) ∧ w4.cell? ⟨wo.heap.size, 0, none⟩ = some (.int .i64 f) ∧ w4.cell? ⟨wo.heap.size, 1, none⟩ = some (.int .i64 ((q0 : Int) + (k : Int)))) := ⟨LB4.out.cell 2, LP4.out.cell 0, LP4.out.cell 1⟩
        have HT2 : Hid (w4.cell? ⟨B, 1, none⟩ = some (.slice Q1 q.length cq1)) := LB4.out.cell 1
        refine hK.out _ _ HS2.out (fun _ => HT2.out) ?_
        clear hK K'
        (try simp only [Act.put, List.setIfInBounds_toArray, List.set_cons_zero, List.set_cons_succ])
        refine wpTill.take (i := 13) (v := ?_) (by rfl) rfl (by kernel_rfl) (by kernel_rfl) (by kernel_rfl) (by exact fun _ _ _ h => h) HS2.out (fun _ => HT2.out) (Or.inl ⟨by rfl, ?_⟩) ?_
        rotate_left
        · (intro w' hSw; (try dsimp only at hSw); go_simp; (try with_reducible rfl))
        (try simp only [Act.put, List.setIfInBounds_toArray, List.set_cons_zero, List.set_cons_succ])
        refine wpTill.take (i := 14) (v := ?_) (by rfl) rfl (by kernel_rfl) (by kernel_rfl) (by kernel_rfl) (by exact fun _ _ _ h => h) HS2.out (fun _ => HT2.out) (Or.inl ⟨by rfl, ?_⟩) ?_
        rotate_left
        · (intro w' hSw; (try dsimp only at hSw); go_simp; (try with_reducible rfl))
        (try simp only [Act.put, List.setIfInBounds_toArray, List.set_cons_zero, List.set_cons_succ])
        clear zB kB fB zP kP fP
        obtain ⟨zB, kB, fB⟩ := LB4.out
        refine wpTill.step (i := 15) (by kernel_rfl) (by rfl) (fun K' hK => ?_)
        replace hK := Lib.hid hK
        go_simp
        have LB5 := Lib.hid (LB4.out.set_ 1 (.slice A4 (q.length + 1) c4))
        have LP5 := Lib.hid (LP4.out.far (p := ⟨B, 1, none⟩) (by have := HZ.out; simp; omega) (.slice A4 (q.length + 1) c4))
        have hM4 := ((HAV.out.set.below ((below_alloc V _).drew)).grown HG4.out (own_ne_map HAV.out.queue HAV.out.set)).grown (grownBy_setCell w4 ⟨B, 1, none⟩ (.slice A4 (q.length + 1) c4)) (fun e => loc_ne_map HAV.out.loc (by simp) HAV.out.set (by injection e))
        have hgn : getA (f, (q0 : Int) + (k : Int)) (q.map fun p => (p, true)) = none := by rw [getA_set, if_neg hin]
        obtain ⟨w5, stamp, hrun5, hg5, hz5, hst⟩ := run_mapEntryA (P := Tryz.prog) keyW_sector Tryz.underlying91 (z := false) zeroBool hM4 (f, (q0 : Int) + (k : Int)) hgn
        obtain ⟨w6, hrun6, hm6, hg6, hz6⟩ := hst w5 rfl (by rw [hz5]; exact hM4.lt) true
        unfold secV at hrun5
        unfold goInt at hrun6
        have HG5 := Lib.hid hg5
        have HG6 := Lib.hid hg6
        have HM6 := Lib.hid hm6
        have nsB : (some ms' : Option Nat) ≠ some B := fun e => loc_ne_map HAV.out.loc (by simp) HAV.out.set (by injection e with e; exact e.symm)
        have nsP : (some ms' : Option Nat) ≠ some wo.heap.size := fun e => by injection e with e; have := HA.out.set.lt; omega
        have LB6 := Lib.hid (LB5.out.grown hg5 nsB)
        have LP6 := Lib.hid (LP5.out.grown hg5 nsP)
        have LB7 := Lib.hid (LB6.out.grown hg6 nsB)
        have LP7 := Lib.hid (LP6.out.grown hg6 nsP)
        clear hM4 hgn hg5 hz5 hst hm6 hg6 hz6
        refine hK.out _ _ ⟨LB5.out.cell 2, LP5.out.cell 0, LP5.out.cell 1⟩ (fun h => nomatch (show true = false from h)) ?_
        clear hK K'
        (try simp only [Act.put, List.setIfInBounds_toArray, List.set_cons_zero, List.set_cons_succ])
        refine wpTill.step (i := 16) (by kernel_rfl) (by rfl) (fun K' hK => ?_)
        replace hK := Lib.hid hK
        go_simp
        refine hK.out _ _ ⟨LB6.out.cell 2, LP6.out.cell 0, LP6.out.cell 1⟩ (fun h => nomatch (show true = false from h)) ?_
        clear hK K'
        (try simp only [Act.put, List.setIfInBounds_toArray, List.set_cons_zero, List.set_cons_succ])
        refine wpTill.take (i := 17) (v := ?_) (by rfl) rfl (by kernel_rfl) (by kernel_rfl) (by kernel_rfl) (by exact fun _ _ _ h => h) ⟨LB6.out.cell 2, LP6.out.cell 0, LP6.out.cell 1⟩ (fun h => nomatch (show true = false from h)) (Or.inl ⟨by rfl, ?_⟩) ?_
        rotate_left
        · (intro w' hSw; (try dsimp only at hSw); go_simp; (try with_reducible rfl))
        (try simp only [Act.put, List.setIfInBounds_toArray, List.set_cons_zero, List.set_cons_succ])
        refine wpTill.step (i := 18) (by kernel_rfl) (by rfl) (fun K' hK => ?_)
        replace hK := Lib.hid hK
        go_simp
        refine hK.out _ _ ⟨LB7.out.cell 2, LP7.out.cell 0, LP7.out.cell 1⟩ (fun h => nomatch (show true = false from h)) ?_
        clear hK K' hrun5 hrun6
        (try simp only [Act.put, List.setIfInBounds_toArray, List.set_cons_zero, List.set_cons_succ])
        refine wpTill.stop (by kernel_rfl) ?_ _
        go_wp2_with (fail)
        go_roundw
        case rel =>
          refine ⟨k + 1, by omega, by go_num, ?_⟩
          rw [HT1.out, addQ_append, hqq]
          simp only [addQ, hin, if_false]
          obtain ⟨F2, hD2, hE2, hk2⟩ := write_fin HAV.out HOW4.out HG4.out HAT4.out HG5.out HG6.out (by simpa using HM6.out)
          exact ⟨F2, hD2, (HE1.out.trans (Ext.same (Keeps.below HBV.out))).trans hE2, (HKK.out.trans HE1.out.keeps.size (kk_of HA.out HAV.out rfl)).trans (HE1.out.trans (Ext.same (Keeps.below HBV.out))).keeps.size hk2⟩
        case measure => simp [intOf]; omega
    · obtain rfl : k = N := by omega
      have hT : ¬ (q0 : Int) + (k : Int) ≤ ((a : Int) + (s.length : Int) - 1) / 64 := by have := HQ2.out; omega
      have HX := Lib.hid hD
      clear hD hlt
      go_wp2_with (fail)
      go_ret
      rw [HTn.out]
      subst hd2
      exact ⟨rfl, HX.out⟩
end
end Go.Proofs.YtjncmlglhegnaaaGreatDoor
