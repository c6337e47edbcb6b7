/- kerbsideref02: Crash, walked. -/
import Derived.Test.YthnechlnaacgfaaRefH
namespace Go.Proofs.Ythnechlnaacgfaa
open Go.RowKit

def surviveStepR (keep : List Int) (i : Nat) (p : Int × Int) (fs : List (Int × FileV)) : List (Int × FileV) :=
  if keep = [] ∨ (keep[i % keep.length]?).getD 0 % 2 = 0 then fs else surviveR fs p
theorem surviveAllR_snoc (keep : List Int) (p : Int × Int) : ∀ (ps : List (Int × Int)) (i : Nat) (fs : List (Int × FileV)), surviveAllR keep i (ps ++ [p]) fs = surviveStepR keep (i + ps.length) p (surviveAllR keep i ps fs)
  | [], i, fs => rfl
  | x :: ps, i, fs => by
    simp only [List.cons_append, surviveAllR, List.length_cons]
    rw [surviveAllR_snoc keep p ps (i + 1)]
    rw [show i + 1 + ps.length = i + (ps.length + 1) by omega]
theorem surviveAllR_nil : ∀ (ps : List (Int × Int)) (i : Nat) (fs : List (Int × FileV)), surviveAllR [] i ps fs = fs
  | [], _, _ => rfl
  | x :: ps, i, fs => by
    simp only [surviveAllR, true_or, if_true]
    exact surviveAllR_nil ps _ fs
def lostC (p : Int × FileV) : Int × FileV := (p.1, ⟨p.2.last, p.2.last⟩)
section
variable {w w' : World} {F G : Nat → Prop} {B : Nat} {r : DV} {FA : Option Addr} {cf : Nat} {Q : Option Addr} {cq : Nat} {K : Option Addr} {ck : Nat}
/-- behind both loops -/
theorem RefAt.crashed {w5 : World} (h : RefAt w F B r FA cf Q cq K ck) (hb : Below w.heap.size w w5) {A : Option Addr} {c n : Nat} {fs : List (Int × FileV)}
    (ho : Own w5 w.heap.size 65 3 (.slice A n c) n (fs.map fileCells)) :
    RefTo F w B { r with files := fs, queue := [] } ((w5.setCell ⟨B, 0, none⟩ (.slice A n c)).setCell ⟨B, 1, none⟩ (.slice none 0 0)) := by
  have h1 := (h.below hb).setFiles (base := w.heap.size) (fun k hf => h.lt k hf) ho
  have hz : (w5.setCell ⟨B, 0, none⟩ (.slice A n c)).heap.size = w5.heap.size := World.size_setCell _ _ _
  have h2 := h1.setQueue (base := w5.heap.size) (fun k hf => by rw [← hz]; exact h1.lt k hf) (q := []) (A := none) (c := 0) (n := 0) (Own.nil_ _ _ _ _)
  refine ⟨_, h2.ref, ?_⟩
  have hzw := hb.size
  refine ⟨((Keeps.below hb).trans (Keeps.setCell (p := ⟨B, 0, none⟩) (.inl h.fB) _)).trans (Keeps.setCell (p := ⟨B, 1, none⟩) (.inl h.fB) _), fun _ h => .inl (.inl h), fun k hk => ?_⟩
  unfold Plus
  rw [World.size_setCell, hz]
  rcases hk with (hk | hk) | hk
  · exact .inl hk
  · exact .inr hk
  · rw [hz] at hk; omega
set_option maxRecDepth 100000 in
set_option maxHeartbeats 4000000 in
theorem Crash_ref (h : RefAt w F B r FA cf Q cq K ck) (hok : ROk r) (keep : List Int) (kn : Nat) (hkn : keep.length = kn) (A : Option Addr) (c : Nat) (hkl : kn ≤ 5000000)
    (hst : ∀ F' w' r' FA cf Q cq, RefAt w' F' B r' FA cf Q cq K ck → r'.keep = r.keep → Ext F F' w w' → Sl w' 1 A kn (keep.map fun k => [.int .i64 k])) :
    Calls Try.prog 36 #[.pointer (some ⟨B, 0, none⟩), .slice A kn c] w fun e w' => e = .returned (.tuple #[]) ∧ RefTo F w B (crashR r keep) w' := by
  unfold crashR
  by_cases hd : r.down = true
  · rw [if_pos hd]
    have HR := Lib.hid (RefTo.refl h)
    obtain ⟨zB, kB, fB⟩ := h.loc
    rw [hd] at kB
    clear h hd
    go_enter Try.func36, Try.ntmps36
    go_wp2_with (fail)
    exact bodyPost_ret (v := .tuple #[]) (by simp [results, Try.results36, go_sem]) rfl ⟨rfl, HR.out⟩
  rw [if_neg hd]
  have hd0 : r.down = false := by simpa using hd
  have HRK : Hid (∀ k, ROk { r with files := surviveAllR keep 0 (r.queue.take k) r.files, down := true, armed := 0 }) := Lib.hid fun k => by
    have hf := hok.fs.surviveAll (keep := keep) (i := 0) (ps := r.queue.take k) (fun p hp => hok.ok.queue p (List.mem_of_mem_take hp))
    exact ⟨⟨by simp, hok.ok.lost, hf.len, hf.keys, hok.ok.queue, hok.ok.nodup, hok.ok.klen⟩, hf.rng⟩
  have HQ := Lib.hid hok.ok.queue
  have hqn := hok.len
  obtain ⟨qn, hqnn⟩ : ∃ qn, r.queue.length = qn := ⟨_, rfl⟩
  rw [hqnn] at hqn
  have HQN := Lib.hid hqnn
  have HKN := Lib.hid hkn
  have HST := Lib.hid hst
  have h1 := (h.setField r.lost r.armed true (i := 3) (v := .bool true) (by simp)).setField r.lost 0 true (i := 4) (v := .int .i64 0) (by simp)
  have HE : Hid (Ext F F w ((w.setCell ⟨B, 3, none⟩ (.bool true)).setCell ⟨B, 4, none⟩ (.int .i64 0))) := Ext.same ((Keeps.setCell (p := ⟨B, 3, none⟩) h.fB (.bool true)).trans (Keeps.setCell (p := ⟨B, 4, none⟩) (.inl h.fB) (.int .i64 0)))
  have H1 := Lib.hid h1
  obtain ⟨zB, kB, fB⟩ := h.loc
  rw [hd0] at kB
  clear h hok hd hd0 hst h1 hqnn hkn
  go_enter Try.func36, Try.ntmps36
  go_wp2_with (fail)
  clear zB kB fB
  generalize (w.setCell ⟨B, 3, none⟩ (.bool true)).setCell ⟨B, 4, none⟩ (.int .i64 0) = w1 at *
  go_loopw [4] (fun i wr => ∃ k : Nat, k ≤ qn ∧ i = .int .i64 (k : Int) ∧ RefToK F w B { r with files := surviveAllR keep 0 (r.queue.take k) r.files, down := true, armed := 0 } K ck wr) (fun i _ => qn - (intOf i).toNat)
  case atStart => exact ⟨0, Nat.zero_le _, rfl, F, _, _, _, _, H1.out, HE.out⟩
  case round =>
    obtain ⟨k, hk, rfl, F2, FA2, cf2, Q2, cq2, h2, hE2⟩ := hrel
    obtain ⟨wo, rfl⟩ : ∃ wo : World, wo = wr := ⟨_, rfl⟩
    have HR := Lib.hid (HRK.out k)
    have H2 := Lib.hid h2
    have HE2 := Lib.hid hE2
    have HSK := Lib.hid (HST.out _ _ _ _ _ _ _ h2 rfl hE2)
    have hlo := h2.loc
    simp only [HQN.out] at hlo
    have hqs := h2.queue.sl'
    simp only [HQN.out] at hqs
    have HQS := Lib.hid hqs
    obtain ⟨zB, kB, fB⟩ := hlo
    have HKZ : Hid (keep = [] ∨ 0 < kn) := by
      by_cases hk0 : keep = []
      · exact .inl hk0
      · exact .inr (by rw [← HKN.out]; exact List.length_pos_iff.2 hk0)
    clear h2 hE2 hqs
    by_cases hlt : k < qn ∧ 0 < kn
    · obtain ⟨hlt, hkp⟩ := hlt
      obtain ⟨p, hp⟩ : ∃ p, r.queue[k]? = some p := ⟨_, List.getElem?_eq_getElem (by rw [HQN.out]; exact hlt)⟩
      obtain ⟨b, o, rfl, hbl, hcell⟩ := HQS.out.2 k (secCells p) (by rw [List.getElem?_map, hp]; rfl)
      have c0 := hcell 0 _ rfl
      have c1 := hcell 1 _ rfl
      rw [Nat.add_zero] at c0
      have hki : (k : Int) < (qn : Int) := by omega
      have hkp' : (0 : Int) < (kn : Int) := by omega
      have hk0 : (0 : Int) ≤ (k : Int) := Int.natCast_nonneg _
      obtain ⟨i, hi⟩ : ∃ i, k % kn = i := ⟨_, rfl⟩
      have hil : i < kn := by rw [← hi]; exact Nat.mod_lt _ hkp
      have hmod : (k : Int) % (kn : Int) = (i : Int) := by rw [← hi]; simp
      have htm : (k : Int).tmod (kn : Int) = (i : Int) := by rw [Int.tmod_eq_emod_of_nonneg (by omega)]; exact hmod
      obtain ⟨kv, hkv⟩ : ∃ kv, keep[i]? = some kv := ⟨_, List.getElem?_eq_getElem (by rw [HKN.out]; exact hil)⟩
      obtain ⟨bk, ok, hAk, _, hck⟩ := HSK.out.2 i [.int .i64 kv] (by rw [List.getElem?_map, hkv]; rfl)
      have c2 := hck 0 _ rfl
      rw [Nat.mul_one, Nat.add_zero] at c2
      subst hAk
      have hki2 : (i : Int) < (kn : Int) := by omega
      have hi0 : (0 : Int) ≤ (i : Int) := Int.natCast_nonneg _
      have hknz : ¬ ((kn : Int) = 0) := by omega
      have HNX := Lib.hid (show surviveAllR keep 0 (r.queue.take (k + 1)) r.files = if kv % 2 = 0 then surviveAllR keep 0 (r.queue.take k) r.files else surviveR (surviveAllR keep 0 (r.queue.take k) r.files) p by
        rw [List.take_add_one, hp]
        show surviveAllR keep 0 (_ ++ [p]) _ = _
        rw [surviveAllR_snoc, surviveStepR, List.length_take, HQN.out, Nat.min_eq_left (by omega), Nat.zero_add, HKN.out, hi, hkv]
        have : keep ≠ [] := fun e => by rw [e] at hkv; simp at hkv
        simp [this])
      have hpq := HQ.out p (List.mem_of_getElem? hp)
      have HSV := Lib.hid (survive_ref H2.out HR.out p.1 p.2 hpq.2.1 hpq.2.2)
      have HLT := Lib.hid hlt
      have hband := and1 kv
      clear hcell hp hck hkv hi hlt hpq
      by_cases h2 : kv % 2 = 0
      · have hb0 : bits BinOp.and IntKind.i64 kv 1 = 0 := by omega
        have HN := Lib.hid h2
        clear hband h2
        go_wp2_with (fail)
        go_roundw
        case rel => exact ⟨k + 1, HLT.out, by go_num, by rw [HNX.out, if_pos HN.out]; exact ⟨_, _, _, _, _, H2.out, HE2.out⟩⟩
        case measure => have := HLT.out; simp [intOf]; omega
      · have hb0 : bits BinOp.and IntKind.i64 kv 1 = 1 := by omega
        have HN := Lib.hid h2
        clear hband h2
        go_wp2_with ((with_reducible refine (HSV.out).mono ?_); rintro e w3 ⟨rfl, h3⟩; have H3 := Lib.hid (h3.from HE2.out); clear h3)
        go_roundw
        case rel => exact ⟨k + 1, HLT.out, by go_num, by rw [HNX.out, if_neg HN.out]; exact H3.out⟩
        case measure => have := HLT.out; simp [intOf]; omega
    · have hall : surviveAllR keep 0 (r.queue.take k) r.files = surviveAllR keep 0 r.queue r.files := by
        rcases HKZ.out with hk0 | hk0
        · rw [hk0, surviveAllR_nil, surviveAllR_nil]
        · rw [List.take_of_length_le (by rw [HQN.out]; omega)]
      rw [hall] at H2 HR
      have hn16 := HR.out.few
      have HFF := Lib.hid (show (surviveAllR keep 0 r.queue r.files).map (fun p => (p.1, ⟨p.2.last, p.2.last⟩)) = (surviveAllR keep 0 r.queue r.files).map lostC from rfl)
      simp only at hn16
      have hfl := H2.out.files
      simp only at hfl
      generalize hfs : surviveAllR keep 0 r.queue r.files = fs at *
      have HFS := Lib.hid hfs
      clear hfs
      obtain ⟨n, hn⟩ : ∃ n, fs.length = n := ⟨_, rfl⟩
      have HN := Lib.hid hn
      rw [hn] at hfl hn16
      have hlo2 := H2.out.loc
      simp only [hn, HQN.out] at hlo2
      clear zB kB fB
      obtain ⟨zB, kB, fB⟩ := hlo2
      have HLB := Lib.hid (Loc.mk zB kB fB)
      have HS := Lib.hid hfl
      have HZB := Lib.hid zB
      obtain ⟨i0, hi0, hi1, hi2, hi3⟩ := info_parts infoFile
      have hex : ¬ (k : Int) < (qn : Int) ∨ ((k : Int) < (qn : Int) ∧ ¬ (0 : Int) < (kn : Int)) := by omega
      clear hall hfl hn HSK hlt
      rcases hex with hx1 | ⟨hx1, hx2⟩
      all_goals
        go_wp2_with (fail)
        clear zB kB fB
        go_loopw [5, 6] (fun v i wr => ∃ (j : Nat) (A2 : Option Addr) (c2 : Nat), j ≤ n ∧ i = .int .i64 (j : Int) ∧ v = .slice A2 j c2 ∧ Below wo.heap.size wo wr ∧
          Own wr wo.heap.size 65 3 (.slice A2 j c2) j (((fs.map lostC).take j).map fileCells)) (fun _ i _ => n - (intOf i).toNat)
        case atStart => exact ⟨0, none, 0, Nat.zero_le _, rfl, rfl, Below.refl _ _, Own.nil_ _ _ _ _⟩
        case round =>
          obtain ⟨j, A2, c2, hj, rfl, rfl, hb, ho⟩ := hrel
          obtain ⟨wp, rfl⟩ : ∃ wp : World, wp = wr := ⟨_, rfl⟩
          have HB := Lib.hid hb
          have HOW := Lib.hid ho
          have HLB1 := Lib.hid (HLB.out.below hb)
          obtain ⟨zB, kB, fB⟩ := HLB1.out
          have hbz := hb.size
          clear hb ho
          by_cases hjn : j < n
          · obtain ⟨p, hp⟩ : ∃ p, fs[j]? = some p := ⟨_, List.getElem?_eq_getElem (by rw [HN.out]; exact hjn)⟩
            obtain ⟨b, o, rfl, hbl, hcell⟩ := HS.out.2 j (fileCells p) (by rw [List.getElem?_map, hp]; rfl)
            have HSB : Hid (∀ w', Below wo.heap.size wo w' → w'.cell? ⟨B, 0, none⟩ = some (.slice (some ⟨b, o, none⟩) n cf2) ∧ w'.cell? ⟨b, o + j * 3, none⟩ = some (.int .i64 p.1) ∧ w'.cell? ⟨b, o + j * 3 + 2, none⟩ = some (.string ⟨p.2.last.toArray⟩)) :=
              Lib.hid fun w' hw => ⟨(HLB.out.below hw).cell 0, (hw.cell (p := ⟨b, o + j * 3, none⟩) hbl).trans (hcell 0 _ rfl), (hw.cell (p := ⟨b, o + j * 3 + 2, none⟩) hbl).trans (hcell 2 _ rfl)⟩
            have hji : (j : Int) < (n : Int) := by omega
            have hj0 : (0 : Int) ≤ (j : Int) := Int.natCast_nonneg _
            have hnx : ((fs.map lostC).take (j + 1)).map fileCells = ((fs.map lostC).take j).map fileCells ++ [fileCells (lostC p)] := by
              rw [List.take_add_one, List.getElem?_map, hp]
              simp
            have HNX := Lib.hid hnx
            have HJN := Lib.hid hjn
            clear hcell hp hnx hjn
            go_wp2_with (fail)
            have hbl2 : b < wp.heap.size := Nat.lt_of_lt_of_le hbl hbz
            have hS1 := HSB.out _ HB.out.drew
            have HS1 := Lib.hid hS1
            clear hS1
            refine wpTill.start (S := fun w' => w'.cell? ⟨B, 0, none⟩ = some (.slice (some ⟨b, o, none⟩) n cf2) ∧ w'.cell? ⟨b, o + j * 3, none⟩ = some (.int .i64 p.1) ∧ w'.cell? ⟨b, o + j * 3 + 2, none⟩ = some (.string ⟨p.2.last.toArray⟩)) (T := fun _ => True) (m := 99) (by kernel_rfl) ?_
            refine wpTill.take (i := 0) (v := ?_) (by rfl) rfl (by kernel_rfl) (by kernel_rfl) (by kernel_rfl) (by exact fun _ _ _ h => h) HS1.out (fun _ => trivial) (Or.inl ⟨by rfl, ?_⟩) ?_
            rotate_left
            · (intro w' hSw; (try dsimp only at hSw); go_simp; (try with_reducible rfl))
            (try simp only [Act.put, List.setIfInBounds_toArray, List.set_cons_zero, List.set_cons_succ])
            refine wpTill.take (i := 1) (v := ?_) (by rfl) rfl (by kernel_rfl) (by kernel_rfl) (by kernel_rfl) (by exact fun _ _ _ h => h) HS1.out (fun _ => trivial) (Or.inl ⟨by rfl, ?_⟩) ?_
            rotate_left
            · (intro w' hSw; (try dsimp only at hSw); go_simp; (try with_reducible rfl))
            (try simp only [Act.put, List.setIfInBounds_toArray, List.set_cons_zero, List.set_cons_succ])
            refine wpTill.take (i := 2) (v := ?_) (by rfl) rfl (by kernel_rfl) (by kernel_rfl) (by kernel_rfl) (by exact fun _ _ _ h => h) HS1.out (fun _ => trivial) (Or.inl ⟨by rfl, ?_⟩) ?_
            rotate_left
            · (intro w' hSw; (try dsimp only at hSw); go_simp; (try with_reducible rfl))
            (try simp only [Act.put, List.setIfInBounds_toArray, List.set_cons_zero, List.set_cons_succ])
            refine wpTill.take (i := 3) (v := ?_) (by rfl) rfl (by kernel_rfl) (by kernel_rfl) (by kernel_rfl) (by exact fun _ _ _ h => h) HS1.out (fun _ => trivial) (Or.inl ⟨by rfl, ?_⟩) ?_
            rotate_left
            · (intro w' hSw; (try dsimp only at hSw); go_simp; (try with_reducible rfl))
            (try simp only [Act.put, List.setIfInBounds_toArray, List.set_cons_zero, List.set_cons_succ])
            refine wpTill.take (i := 4) (v := ?_) (by rfl) rfl (by kernel_rfl) (by kernel_rfl) (by kernel_rfl) (by exact fun _ _ _ h => h) HS1.out (fun _ => trivial) (Or.inl ⟨by rfl, ?_⟩) ?_
            rotate_left
            · (intro w' hSw; (try dsimp only at hSw); go_simp; (try with_reducible rfl))
            (try simp only [Act.put, List.setIfInBounds_toArray, List.set_cons_zero, List.set_cons_succ])
            refine wpTill.take (i := 5) (v := ?_) (by rfl) rfl (by kernel_rfl) (by kernel_rfl) (by kernel_rfl) (by exact fun _ _ _ h => h) HS1.out (fun _ => trivial) (Or.inl ⟨by rfl, ?_⟩) ?_
            rotate_left
            · (intro w' hSw; (try dsimp only at hSw); go_simp; (try with_reducible rfl))
            (try simp only [Act.put, List.setIfInBounds_toArray, List.set_cons_zero, List.set_cons_succ])
            refine wpTill.take (i := 6) (v := ?_) (by rfl) rfl (by kernel_rfl) (by kernel_rfl) (by kernel_rfl) (by exact fun _ _ _ h => h) HS1.out (fun _ => trivial) (Or.inl ⟨by rfl, ?_⟩) ?_
            rotate_left
            · (intro w' hSw; (try dsimp only at hSw); go_simp; (try with_reducible rfl))
            (try simp only [Act.put, List.setIfInBounds_toArray, List.set_cons_zero, List.set_cons_succ])
            refine wpTill.take (i := 7) (v := ?_) (by rfl) rfl (by kernel_rfl) (by kernel_rfl) (by kernel_rfl) (by exact fun _ _ _ h => h) HS1.out (fun _ => trivial) (Or.inl ⟨by rfl, ?_⟩) ?_
            rotate_left
            · (intro w' hSw; (try dsimp only at hSw); go_simp; (try with_reducible rfl))
            (try simp only [Act.put, List.setIfInBounds_toArray, List.set_cons_zero, List.set_cons_succ])
            refine wpTill.take (i := 8) (v := ?_) (by rfl) rfl (by kernel_rfl) (by kernel_rfl) (by kernel_rfl) (by exact fun _ _ _ h => h) HS1.out (fun _ => trivial) (Or.inl ⟨by rfl, ?_⟩) ?_
            rotate_left
            · (intro w' hSw; (try dsimp only at hSw); go_simp; (try with_reducible rfl))
            (try simp only [Act.put, List.setIfInBounds_toArray, List.set_cons_zero, List.set_cons_succ])
            refine wpTill.take (i := 9) (v := ?_) (by rfl) rfl (by kernel_rfl) (by kernel_rfl) (by kernel_rfl) (by exact fun _ _ _ h => h) HS1.out (fun _ => trivial) (Or.inl ⟨by rfl, ?_⟩) ?_
            rotate_left
            · (intro w' hSw; (try dsimp only at hSw); go_simp; (try with_reducible rfl))
            (try simp only [Act.put, List.setIfInBounds_toArray, List.set_cons_zero, List.set_cons_succ])
            refine wpTill.take (i := 10) (v := ?_) (by rfl) rfl (by kernel_rfl) (by kernel_rfl) (by kernel_rfl) (by exact fun _ _ _ h => h) HS1.out (fun _ => trivial) (Or.inl ⟨by rfl, ?_⟩) ?_
            rotate_left
            · (intro w' hSw; (try dsimp only at hSw); go_simp; (try with_reducible rfl))
            (try simp only [Act.put, List.setIfInBounds_toArray, List.set_cons_zero, List.set_cons_succ])
            refine wpTill.take (i := 11) (v := ?_) (by rfl) rfl (by kernel_rfl) (by kernel_rfl) (by kernel_rfl) (by exact fun _ _ _ h => h) HS1.out (fun _ => trivial) (Or.inl ⟨by rfl, ?_⟩) ?_
            rotate_left
            · (intro w' hSw; (try dsimp only at hSw); go_simp; (try with_reducible rfl))
            (try simp only [Act.put, List.setIfInBounds_toArray, List.set_cons_zero, List.set_cons_succ])
            refine wpTill.take (i := 12) (v := ?_) (by rfl) rfl (by kernel_rfl) (by kernel_rfl) (by kernel_rfl) (by exact fun _ _ _ h => h) HS1.out (fun _ => trivial) (Or.inl ⟨by rfl, ?_⟩) ?_
            rotate_left
            · (intro w' hSw; (try dsimp only at hSw); go_simp; (try with_reducible rfl))
            (try simp only [Act.put, List.setIfInBounds_toArray, List.set_cons_zero, List.set_cons_succ])
            refine wpTill.take (i := 13) (v := ?_) (by rfl) rfl (by kernel_rfl) (by kernel_rfl) (by kernel_rfl) (by exact fun _ _ _ h => h) HS1.out (fun _ => trivial) (Or.inl ⟨by rfl, ?_⟩) ?_
            rotate_left
            · (intro w' hSw; (try dsimp only at hSw); go_simp; (try with_reducible rfl))
            (try simp only [Act.put, List.setIfInBounds_toArray, List.set_cons_zero, List.set_cons_succ])
            refine wpTill.take (i := 14) (v := ?_) (by rfl) rfl (by kernel_rfl) (by kernel_rfl) (by kernel_rfl) (by exact fun _ _ _ h => h) HS1.out (fun _ => trivial) (Or.inl ⟨by rfl, ?_⟩) ?_
            rotate_left
            · (intro w' hSw; (try dsimp only at hSw); go_simp; (try with_reducible rfl))
            (try simp only [Act.put, List.setIfInBounds_toArray, List.set_cons_zero, List.set_cons_succ])
            refine wpTill.take (i := 15) (v := ?_) (by rfl) rfl (by kernel_rfl) (by kernel_rfl) (by kernel_rfl) (by exact fun _ _ _ h => h) HS1.out (fun _ => trivial) (Or.inl ⟨by rfl, ?_⟩) ?_
            rotate_left
            · (intro w' hSw; (try dsimp only at hSw); go_simp; (try with_reducible rfl))
            (try simp only [Act.put, List.setIfInBounds_toArray, List.set_cons_zero, List.set_cons_succ])
            refine wpTill.take (i := 16) (v := ?_) (by rfl) rfl (by kernel_rfl) (by kernel_rfl) (by kernel_rfl) (by exact fun _ _ _ h => h) HS1.out (fun _ => trivial) (Or.inl ⟨by rfl, ?_⟩) ?_
            rotate_left
            · (intro w' hSw; (try dsimp only at hSw); go_simp; (try with_reducible rfl))
            (try simp only [Act.put, List.setIfInBounds_toArray, List.set_cons_zero, List.set_cons_succ])
            refine wpTill.take (i := 17) (v := ?_) (by rfl) rfl (by kernel_rfl) (by kernel_rfl) (by kernel_rfl) (by exact fun _ _ _ h => h) HS1.out (fun _ => trivial) (Or.inl ⟨by rfl, ?_⟩) ?_
            rotate_left
            · (intro w' hSw; (try dsimp only at hSw); go_simp; (try with_reducible rfl))
            (try simp only [Act.put, List.setIfInBounds_toArray, List.set_cons_zero, List.set_cons_succ])
            refine wpTill.take (i := 18) (v := ?_) (by rfl) rfl (by kernel_rfl) (by kernel_rfl) (by kernel_rfl) (by exact fun _ _ _ h => h) HS1.out (fun _ => trivial) (Or.inl ⟨by rfl, ?_⟩) ?_
            rotate_left
            · (intro w' hSw; (try dsimp only at hSw); go_simp; (try with_reducible rfl))
            (try simp only [Act.put, List.setIfInBounds_toArray, List.set_cons_zero, List.set_cons_succ])
            refine wpTill.take (i := 19) (v := ?_) (by rfl) rfl (by kernel_rfl) (by kernel_rfl) (by kernel_rfl) (by exact fun _ _ _ h => h) HS1.out (fun _ => trivial) (Or.inl ⟨by rfl, ?_⟩) ?_
            rotate_left
            · (intro w' hSw; (try dsimp only at hSw); go_simp; (try with_reducible rfl))
            (try simp only [Act.put, List.setIfInBounds_toArray, List.set_cons_zero, List.set_cons_succ])
            refine wpTill.take (i := 20) (v := ?_) (by rfl) rfl (by kernel_rfl) (by kernel_rfl) (by kernel_rfl) (by exact fun _ _ _ h => h) HS1.out (fun _ => trivial) (Or.inl ⟨by rfl, ?_⟩) ?_
            rotate_left
            · (intro w' hSw; (try dsimp only at hSw); go_simp; (try with_reducible rfl))
            (try simp only [Act.put, List.setIfInBounds_toArray, List.set_cons_zero, List.set_cons_succ])
            refine wpTill.take (i := 21) (v := ?_) (by rfl) rfl (by kernel_rfl) (by kernel_rfl) (by kernel_rfl) (by exact fun _ _ _ h => h) HS1.out (fun _ => trivial) (Or.inl ⟨by rfl, ?_⟩) ?_
            rotate_left
            · (intro w' hSw; (try dsimp only at hSw); go_simp; (try with_reducible rfl))
            (try simp only [Act.put, List.setIfInBounds_toArray, List.set_cons_zero, List.set_cons_succ])
            refine wpTill.take (i := 22) (v := ?_) (by rfl) rfl (by kernel_rfl) (by kernel_rfl) (by kernel_rfl) (by exact fun _ _ _ h => h) HS1.out (fun _ => trivial) (Or.inl ⟨by rfl, ?_⟩) ?_
            rotate_left
            · (intro w' hSw; (try dsimp only at hSw); go_simp; (try with_reducible rfl))
            (try simp only [Act.put, List.setIfInBounds_toArray, List.set_cons_zero, List.set_cons_succ])
            refine wpTill.take (i := 23) (v := ?_) (by rfl) rfl (by kernel_rfl) (by kernel_rfl) (by kernel_rfl) (by exact fun _ _ _ h => h) HS1.out (fun _ => trivial) (Or.inl ⟨by rfl, ?_⟩) ?_
            rotate_left
            · (intro w' hSw; (try dsimp only at hSw); go_simp; (try with_reducible rfl))
            (try simp only [Act.put, List.setIfInBounds_toArray, List.set_cons_zero, List.set_cons_succ])
            refine wpTill.take (i := 24) (v := ?_) (by rfl) rfl (by kernel_rfl) (by kernel_rfl) (by kernel_rfl) (by exact fun _ _ _ h => h) HS1.out (fun _ => trivial) (Or.inl ⟨by rfl, ?_⟩) ?_
            rotate_left
            · (intro w' hSw; (try dsimp only at hSw); go_simp; (try with_reducible rfl))
            (try simp only [Act.put, List.setIfInBounds_toArray, List.set_cons_zero, List.set_cons_succ])
            refine wpTill.take (i := 25) (v := ?_) (by rfl) rfl (by kernel_rfl) (by kernel_rfl) (by kernel_rfl) (by exact fun _ _ _ h => h) HS1.out (fun _ => trivial) (Or.inl ⟨by rfl, ?_⟩) ?_
            rotate_left
            · (intro w' hSw; (try dsimp only at hSw); go_simp; (try with_reducible rfl))
            (try simp only [Act.put, List.setIfInBounds_toArray, List.set_cons_zero, List.set_cons_succ])
            refine wpTill.step (i := 26) (by kernel_rfl) (by rfl) (fun K' hK => ?_)
            replace hK := Lib.hid hK
            go_simp
            have hSa := HSB.out _ (HB.out.alloc hbz (.cells #[.int .i64 p.1, .string ⟨p.2.last.toArray⟩, .string ⟨p.2.last.toArray⟩] 65)).drew
            have HSA := Lib.hid hSa
            clear hSa
            refine hK.out _ _ HSA.out (fun _ => trivial) ?_
            clear hK K'
            (try simp only [Act.put, List.setIfInBounds_toArray, List.set_cons_zero, List.set_cons_succ])
            refine wpTill.step (i := 27) (by kernel_rfl) (by rfl) (fun K' hK => ?_)
            replace hK := Lib.hid hK
            refine step_append_sl _ (by rfl) (.tmp 58) (.tmp 84) _ (by rfl) wo.heap.size 65 i0 _ 3 40 Try.underlying57 hi0 hi1 hi2 hi3 rfl (by omega) (.slice A2 j c2) j _ (by rfl) ((HOW.out.alloc _).drew) (some ⟨wp.heap.size, 0, none⟩) 1 1 [fileCells (lostC p)] (by rfl) (sl_file wp (lostC p) _).drew (by simp [fileCells]) (file_one (lostC p)) (by simp only [maxLen]; omega) (by omega) (by show _ ≤ (wp.alloc _).heap.size; simp only [World.size_alloc]; omega) ?_
            intro A4 c4 w4 hown4 hg4 hat4
            have hb4 := ((HOW.out.alloc (.cells #[.int .i64 p.1, .string ⟨p.2.last.toArray⟩, .string ⟨p.2.last.toArray⟩] 65)).drew).below_grown (B := wo.heap.size) (Nat.le_refl _) (by show _ ≤ (wp.alloc _).heap.size; simp only [World.size_alloc]; omega) (HB.out.alloc hbz (.cells #[.int .i64 p.1, .string ⟨p.2.last.toArray⟩, .string ⟨p.2.last.toArray⟩] 65)).drew hg4
            have HB4 := Lib.hid hb4
            rw [← HNX.out] at hown4
            have HOW4 := Lib.hid hown4
            clear hb4 hown4 hg4 hat4
            refine hK.out _ _ (HSB.out _ HB4.out) (fun _ => trivial) ?_
            clear hK K'
            (try simp only [Act.put, List.setIfInBounds_toArray, List.set_cons_zero, List.set_cons_succ])
            refine wpTill.take (i := 28) (v := ?_) (by rfl) rfl (by kernel_rfl) (by kernel_rfl) (by kernel_rfl) (by exact fun _ _ _ h => h) (HSB.out _ HB4.out) (fun _ => trivial) (Or.inl ⟨by rfl, ?_⟩) ?_
            rotate_left
            · (intro w' hSw; (try dsimp only at hSw); go_simp; (try with_reducible rfl))
            (try simp only [Act.put, List.setIfInBounds_toArray, List.set_cons_zero, List.set_cons_succ])
            refine wpTill.stop (by kernel_rfl) ?_ _
            clear zB kB fB
            go_wp2_with (fail)
            go_roundw
            case rel => exact ⟨j + 1, A4, c4, HJN.out, by go_num, rfl, HB4.out, HOW4.out⟩
            case measure => have := HJN.out; simp [intOf]; omega
          · obtain rfl : j = n := by omega
            have hji : ¬ (j : Int) < (j : Int) := by omega
            go_wp2_with (fail)
            go_end0
            rw [HFS.out, HFF.out]
            have hown := HOW.out
            rw [List.take_of_length_le (by rw [List.length_map, HN.out]; exact Nat.le_refl _)] at hown
            exact ⟨rfl, (RefAt.crashed H2.out HB.out hown).from HE2.out⟩
end
end Go.Proofs.Ythnechlnaacgfaa
