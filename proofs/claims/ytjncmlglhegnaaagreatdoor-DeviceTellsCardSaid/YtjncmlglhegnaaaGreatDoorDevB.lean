/- journal: a journal as a thing apart from others; Open, walked. -/
/- journal: Append, Sync, walked. -/
/- device: read, slices.ContainsFunc with Open's closure, walked. -/
import Derived.Test.YtjncmlglhegnaaaGreatDoorJrnB
import Derived.Test.YtjncmlglhegnaaaGreatDoorDiskQ
import Derived.StillTailTactics
import Derived.Deep.DeepCutAuto
import Derived.Test.YtjncmlglhegnaaaGreatDoorSees
import Derived.Test.YtjncmlglhegnaaaGreatDoorChainJ
namespace Go.Proofs.YtjncmlglhegnaaaGreatDoor
open Go.RowKit Go.Sort Go.Lib

def jourX (B : Nat) (j : JV) (A : Option Addr) (c : Nat) : Array Value := #[.pointer (some ⟨B, 0, none⟩), .int .i64 j.file, .slice A j.recs.length c, .int .i64 j.bytes, .bool j.broken]
/-- a journal on the disk of block B -/
def jourR (B J : Nat) (j : JV) : Res where
  P := fun w F => ∃ A c, (Loc w J (jourX B j A c) ∧ Own w 0 9 1 (.slice A j.recs.length c) j.recs.length (j.recs.map strC)) ∧ (Value.slice A j.recs.length c).ownBlock ≠ some J ∧ ∀ k, F k ↔ k = J ∨ (Value.slice A j.recs.length c).ownBlock = some k
  lt := fun w F ⟨A, c, h, _, hF⟩ k hk => by
    rcases (hF k).1 hk with h1 | h1
    · rw [h1]; exact h.1.lt
    · exact (h.2.lt k h1).2
  keep := fun w w' F ⟨A, c, h, hne, hF⟩ hz hb => ⟨A, c, ⟨h.1.atBlock hz (hb J ((hF J).2 (.inl rfl))), h.2.ofBlock (fun b hq => hb b ((hF b).2 (.inr hq)))⟩, hne, hF⟩
section
variable {w0 w w' : World} {Rs : List Res} {B J : Nat} {d d' : DV} {j : JV}
theorem Sep.jour_part (h : Sep w0 w (jourR B J j :: Rs)) : ∃ A c, Sep w0 w (boxR J (jourX B j A c) :: ownR 9 1 (.slice A j.recs.length c) j.recs.length (j.recs.map strC) :: Rs) := by
  obtain ⟨⟨F, ⟨A, c, h1, hne, hF⟩, hG, hr⟩, hb⟩ := h
  exact ⟨A, c, Sep.part (R := jourR B J j) ⟨⟨F, ⟨A, c, h1, hne, hF⟩, hG, hr⟩, hb⟩ fun F' hF' => by
    obtain ⟨A', c', h1', hne', hF'⟩ := hF'
    have e : Value.slice A' j.recs.length c' = .slice A j.recs.length c := by
      have e1 := h1.1.cell 2
      have e2 := h1'.1.cell 2
      rw [e1] at e2
      have e3 : Value.slice A j.recs.length c = .slice A' j.recs.length c' := by simpa [jourX] using e2
      exact e3.symm
    injection e with ea _ ec
    subst ea ec
    exact ⟨fun k => k = J, fun k => (Value.slice A' j.recs.length c').ownBlock = some k, ⟨h1'.1, fun _ => Iff.rfl⟩, ⟨h1'.2, fun _ => Iff.rfl⟩, fun k hk => ⟨(hF' k).2 (.inl hk), fun hk2 => hne' (by rw [hk2, hk])⟩, fun k hk => (hF' k).2 (.inr hk)⟩⟩
theorem Sep.jour_join {A : Option Addr} {c n : Nat} {X : Array Value} {xs : List (List Value)} (h : Sep w0 w (boxR J X :: ownR 9 1 (.slice A n c) n xs :: Rs)) (hX : X = jourX B j A c) (hn : n = j.recs.length) (hx : xs = j.recs.map strC) : Sep w0 w (jourR B J j :: Rs) := by
  subst hX hn hx
  refine h.join fun F1 F2 h1 h2 hd => ⟨A, c, ⟨h1.1, h2.1⟩, fun e => hd J ((h1.2 J).2 rfl) ((h2.2 J).2 e), fun k => ?_⟩
  show F1 k ∨ F2 k ↔ _
  rw [h1.2 k, h2.2 k]
theorem sync_up {d : DV} {f : Int} (h : (SyncF d f).2 = 0) : mayF (SyncF d f).1 f = 0 := by
  unfold SyncF at h ⊢
  dsimp only at h ⊢
  by_cases hm : mayF (beginF d) f = 0
  · rw [if_neg (by simp [hm])] at h ⊢
    split at h
    · cases h
    · rename_i hl
      rw [if_neg hl]
      exact hm
  · rw [if_pos hm] at h
    exact absurd h hm
/-- what Open leaves -/
def OpenPost (w0 : World) (Rs : List Res) (B : Nat) : DV × Option JV × Int → Ending → World → Prop
  | (d, some j, er), e, w' => ∃ J, e = .returned (.tuple #[.pointer (some ⟨J, 0, none⟩), .int .i64 er]) ∧ Sep w0 w' (jourR B J j :: diskR B d :: Rs)
  | (d, none, er), e, w' => e = .returned (.tuple #[.pointer none, .int .i64 er]) ∧ Sep w0 w' (diskR B d :: Rs)
set_option maxRecDepth 100000 in
set_option maxHeartbeats 8000000 in
theorem Open_sep (h : Sep w0 w (diskR B d :: Rs)) (hE : Env w0.heap.size w0) (f : Int) (r : DV × Option JV × Int) (hr : openJ d f = r) :
    Calls Tryz.prog 61 #[.pointer (some ⟨B, 0, none⟩), .int .i64 f] w (OpenPost w0 Rs B r) := by
  have HP := Lib.hid h
  have HE := Lib.hid (fun W (hb : Below w0.heap.size w0 W) => hE.below hb)
  clear h hE
  unfold openJ at hr
  by_cases h1 : f < 0
  · rw [if_pos (.inl h1)] at hr
    subst hr
    go_enter Tryz.func61, Tryz.ntmps61
    go_wp2_with (fail)
    go_ret2
    exact ⟨rfl, HP.out⟩
  have h1i : 0 ≤ f := by omega
  by_cases h2 : 15 < f
  · rw [if_pos (.inr h2)] at hr
    subst hr
    clear h1
    go_enter Tryz.func61, Tryz.ntmps61
    go_wp2_with (fail)
    go_ret2
    exact ⟨rfl, HP.out⟩
  have h2i : f ≤ 15 := by omega
  rw [if_neg (by omega)] at hr
  obtain ⟨⟨d1, e1⟩, hs⟩ : ∃ x, SyncF d f = x := ⟨_, rfl⟩
  rw [hs] at hr
  have C1 := Lib.hid (fun W (h : Sep w0 W (diskR B d :: Rs)) => Sync_sep h f (d1, e1) hs)
  clear h1 h2
  by_cases h3 : e1 = 0
  case neg =>
    rw [if_pos h3] at hr
    subst hr
    have hb : (e1 == 0) = false := by rw [beq_eq_false_iff_ne]; exact h3
    have hn : (e1 != 0) = true := by rw [bne_iff_ne]; exact h3
    clear hs h3
    go_enter Tryz.func61, Tryz.ntmps61
    go_wp2_with (fail)
    ((with_reducible refine (C1.out _ HP.out).mono ?_); rintro _ w1 ⟨rfl, h1⟩)
    have HP1 := Lib.hid h1
    clear h1
    go_wp2_with (fail)
    go_ret2
    exact ⟨rfl, HP1.out⟩
  subst h3
  rw [if_neg (by simp)] at hr
  have hup : mayF d1 f = 0 := by have h := sync_up (d := d) (f := f) (by rw [hs]); rwa [hs] at h
  obtain ⟨s, hsn⟩ : ∃ s, (d1.file f).now = s := ⟨_, rfl⟩
  dsimp only at hr
  rw [hsn] at hr
  have hrd : ReadF d1 f 0 (s.length : Int) = (s, 0) := by
    rw [ReadF_ok hup 0 _ (by omega) (by omega), hsn]
    simp
  have C2 := Lib.hid (fun W (h : Sep w0 W (diskR B d1 :: Rs)) => Size_sep h f (s.length : Int) (by rw [hsn]))
  have C3 := Lib.hid (fun W (h : Sep w0 W (diskR B d1 :: Rs)) => Read_sep h f 0 (s.length : Int) (s, 0) hrd)
  have C4 := Lib.hid (fun W (h : Sep w0 W (diskR B d1 :: Rs)) => read_any W (HE.out W h.base) h.base.size s (by have := (h.disk_ok.file f).1; rw [hsn] at this; exact this))
  obtain ⟨l, hl⟩ : ∃ l, recsF s = l := ⟨_, rfl⟩
  obtain ⟨m, hm⟩ : ∃ m, (formsB l).length = m := ⟨_, rfl⟩
  rw [hl, hm] at hr C4
  have hsz := str_size s
  have HR := Lib.hid hr
  clear hs hsn hrd hl hm hr
  go_enter Tryz.func61, Tryz.ntmps61
  go_wp2_with (fail)
  ((with_reducible refine (C1.out _ HP.out).mono ?_); rintro _ w1 ⟨rfl, h1⟩)
  replace HP := Lib.hid h1
  clear h1 C1
  go_wp2_with (fail)
  ((with_reducible refine (C2.out _ HP.out).mono ?_); rintro _ w2 ⟨rfl, hw⟩; obtain rfl := hw)
  go_wp2_with (fail)
  ((with_reducible refine (C3.out _ HP.out).mono ?_); rintro _ w2 ⟨rfl, hw⟩; obtain rfl := hw)
  go_wp2_with (fail)
  ((with_reducible refine (C4.out _ HP.out).mono ?_); rintro _ w2 ⟨A, c, rfl, ho, hb⟩)
  replace HP := Lib.hid (HP.out.ownNew hb ho)
  clear ho hb C2 C3 C4
  by_cases h4 : m < s.length
  · have h4i : (m : Int) < (s.length : Int) := by omega
    have hr := HR.out
    rw [if_pos h4] at hr
    obtain ⟨⟨d2, e2⟩, ht⟩ : ∃ x, TruncF d1 f (m : Int) = x := ⟨_, rfl⟩
    rw [ht] at hr
    have C5 := Lib.hid (fun W (h : Sep w0 W (diskR B d1 :: ownR 9 1 (.slice A l.length c) l.length (l.map strC) :: Rs)) => Trunc_sep h f (m : Int) (d2, e2) ht)
    by_cases h5 : e2 = 0
    · subst h5
      rw [if_neg (by simp)] at hr
      subst hr
      clear ht h4 HR
      go_wp2_with (fail)
      ((with_reducible refine (C5.out _ HP.out.sw).mono ?_); rintro _ w3 ⟨rfl, h3⟩)
      replace HP := Lib.hid h3
      clear h3
      go_wp2_with (fail)
      go_ret2
      refine ⟨_, rfl, Sep.jour_join (A := A) (c := c) (n := l.length) (xs := l.map strC) (HP.out.sw.box _ _) rfl rfl rfl⟩
    · rw [if_pos h5] at hr
      subst hr
      have hb : (e2 == 0) = false := by rw [beq_eq_false_iff_ne]; exact h5
      have hn : (e2 != 0) = true := by rw [bne_iff_ne]; exact h5
      clear ht h4 HR h5
      go_wp2_with (fail)
      ((with_reducible refine (C5.out _ HP.out.sw).mono ?_); rintro _ w3 ⟨rfl, h3⟩)
      replace HP := Lib.hid h3
      clear h3
      go_wp2_with (fail)
      go_ret2
      exact ⟨rfl, HP.out.drop2⟩
  · have h4i : (s.length : Int) ≤ (m : Int) := by omega
    have hr := HR.out
    rw [if_neg h4] at hr
    subst hr
    clear h4 HR
    go_wp2_with (fail)
    go_ret2
    exact ⟨_, rfl, Sep.jour_join (A := A) (c := c) (n := l.length) (xs := l.map strC) (HP.out.box _ _) rfl rfl rfl⟩
end
end Go.Proofs.YtjncmlglhegnaaaGreatDoor
namespace Go.Proofs.YtjncmlglhegnaaaGreatDoor
open Go.RowKit Go.Sort Go.Lib

section
variable {w0 w w' : World} {Rs : List Res} {B J : Nat} {d d' : DV} {j : JV}
set_option maxRecDepth 100000 in
set_option maxHeartbeats 16000000 in
theorem Append_sep (h : Sep w0 w (jourR B J j :: diskR B d :: Rs)) (hE : Env w0.heap.size w0) (hjb : -9223372036854775808 ≤ j.bytes ∧ j.bytes ≤ 4611686018427387904) (hjl : j.recs.length ≤ 1099511627776) (t : List UInt8) (ht : t.length ≤ 1099511627776) (r : DV × JV × Int) (hr : appendJ d j t = r) :
    Calls Tryz.prog 128 #[.pointer (some ⟨J, 0, none⟩), .string ⟨t.toArray⟩] w fun e w' => e = .returned (.int .i64 r.2.2) ∧ Sep w0 w' (jourR B J r.2.1 :: diskR B r.1 :: Rs) := by
  have HE := Lib.hid (fun W (hb : Below w0.heap.size w0 W) => hE.below hb)
  obtain ⟨f, hf⟩ : ∃ f, formB t = f := ⟨_, rfl⟩
  have hfl : f.length ≤ t.length + 60 := by
    rw [← hf]
    have h1 := encT_len (s := t) (by omega)
    have h2 := sumF_rng t
    have h3 : (encN (sumF t)).length ≤ 21 := by unfold encN; rw [if_neg (by omega)]; exact encI_len ⟨by omega, by omega⟩
    unfold formB
    rw [List.length_append]
    omega
  have C1 := Lib.hid (fun W (hb : Below w0.heap.size w0 W) => form_any W (HE.out W hb) hb.size t ht f hf)
  obtain ⟨A, c, hp⟩ := h.jour_part
  have HP := Lib.hid hp
  have HJL := Lib.hid hjl
  unfold appendJ at hr
  rw [hf] at hr
  have htz := str_size t
  have hfz := str_size f
  obtain ⟨file, recs, bytes, broken⟩ := j
  simp only at hr hjb hjl
  have HJB := Lib.hid hjb
  have HTL := Lib.hid ht
  have HFL := Lib.hid hfl
  clear h hE hf hfl hp hjl hjb ht
  cases broken
  case true =>
    simp only [if_true] at hr
    subst hr
    go_enter Tryz.func128, Tryz.ntmps128
    go_wp2_with (fail)
    ((with_reducible refine (C1.out _ HP.out.base).mono ?_); rintro _ w1 ⟨rfl, hb1⟩)
    replace HP := Lib.hid (HP.out.below hb1)
    clear hb1
    obtain ⟨zJ, kJ, fJ⟩ := HP.out.loc
    simp only [jourX] at kJ
    go_wp2_with (fail)
    go_ret
    exact ⟨rfl, HP.out.jour_join rfl rfl rfl⟩
  simp only [Bool.false_eq_true, if_false] at hr
  by_cases h1 : 20000 < t.length
  · rw [if_pos h1] at hr
    subst hr
    have h1i : 20000 < (t.length : Int) := by omega
    clear h1
    go_enter Tryz.func128, Tryz.ntmps128
    go_wp2_with (fail)
    ((with_reducible refine (C1.out _ HP.out.base).mono ?_); rintro _ w1 ⟨rfl, hb1⟩)
    replace HP := Lib.hid (HP.out.below hb1)
    clear hb1
    obtain ⟨zJ, kJ, fJ⟩ := HP.out.loc
    simp only [jourX] at kJ
    go_wp2_with (fail)
    go_ret
    exact ⟨rfl, HP.out.jour_join rfl rfl rfl⟩
  rw [if_neg h1] at hr
  have h1i : (t.length : Int) ≤ 20000 := by omega
  have hws : IntKind.i64.wrap (bytes + (f.length : Int)) = bytes + (f.length : Int) := IntWalk.i64_in _ (by have := HJB.out; have := HFL.out; have := HTL.out; omega)
  by_cases h2 : 1048576 < bytes + (f.length : Int)
  · rw [if_pos h2] at hr
    subst hr
    clear h1
    go_enter Tryz.func128, Tryz.ntmps128
    go_wp2_with (fail)
    ((with_reducible refine (C1.out _ HP.out.base).mono ?_); rintro _ w1 ⟨rfl, hb1⟩)
    replace HP := Lib.hid (HP.out.below hb1)
    clear hb1
    obtain ⟨zJ, kJ, fJ⟩ := HP.out.loc
    simp only [jourX] at kJ
    go_wp2_with (fail)
    go_ret
    exact ⟨rfl, HP.out.jour_join rfl rfl rfl⟩
  rw [if_neg h2] at hr
  have h2i : bytes + (f.length : Int) ≤ 1048576 := by omega
  obtain ⟨⟨d1, e1⟩, hw⟩ : ∃ x, WriteF d file bytes f = x := ⟨_, rfl⟩
  rw [hw] at hr
  have C2 := Lib.hid (fun W Rs (h : Sep w0 W (diskR B d :: Rs)) => Write_sep h file bytes f (by have := HJB.out; omega) (by have := HFL.out; have := HTL.out; omega) (d1, e1) hw)
  have HR := Lib.hid hr
  have HWS := Lib.hid hws
  have H2 := Lib.hid h2i
  clear hr h1 h2 hw
  go_enter Tryz.func128, Tryz.ntmps128
  go_wp2_with (fail)
  ((with_reducible refine (C1.out _ HP.out.base).mono ?_); rintro _ w1 ⟨rfl, hb1⟩)
  replace HP := Lib.hid (HP.out.below hb1)
  clear hb1 C1
  obtain ⟨zJ, kJ, fJ⟩ := HP.out.loc
  simp only [jourX] at kJ
  go_upto_region 8 with (fail)
  go_still_tail 13, (by kernel_rfl)
  change wpList _ _ _ _ _ w1.drew
  replace HP := Lib.hid HP.out.drew
  clear zJ kJ fJ hws
  generalize w1.drew = W at *
  go_wp2_with (fail)
  ((with_reducible refine (C2.out _ _ HP.out.r3).mono ?_); rintro _ w2 ⟨rfl, h2⟩)
  replace HP := Lib.hid h2.l3
  clear h2 C2
  obtain ⟨zJ, kJ, fJ⟩ := HP.out.loc
  simp only [jourX] at kJ
  by_cases he : e1 = 0
  case neg =>
    have hr := HR.out
    rw [if_pos he] at hr
    subst hr
    have hb : (e1 == 0) = false := by rw [beq_eq_false_iff_ne]; exact he
    have hn : (e1 != 0) = true := by rw [bne_iff_ne]; exact he
    clear HR he
    go_wp2_with (fail)
    go_ret
    exact ⟨rfl, Sep.jour_join (A := A) (c := c) (n := recs.length) (xs := recs.map strC) (HP.out.set_ 4 (.bool true)) rfl rfl rfl⟩
  subst he
  have hr := HR.out
  rw [if_neg (by simp)] at hr
  subst hr
  clear HR
  go_upto_region 12 with (fail)
  obtain ⟨i0, hi0, hi1, hi2, hi3⟩ := info_parts infoStr
  have HO := Lib.hid HP.out.sw.own
  have HNB : Hid ((Value.slice A recs.length c).ownBlock ≠ some J) := Lib.hid (by
    obtain ⟨F, ⟨A', c', h1, h2, _⟩, _⟩ := (HP.out.jour_join (j := ⟨file, recs, bytes, false⟩) (A := A) (c := c) rfl rfl rfl).get
    have e1 := h1.1.cell 2
    have e3 : Value.slice A recs.length c = .slice A' recs.length c' := by
      have h3 := HP.out.loc.cell 2
      rw [e1] at h3
      have h4 : Value.slice A' recs.length c' = .slice A recs.length c := by simpa [jourX] using h3
      exact h4.symm
    rw [e3]
    exact h2)
  have hws := HWS.out
  go_cut [] (fun wx => Sep w0 wx (jourR B J ⟨file, recs ++ [t], bytes + (f.length : Int), false⟩ :: diskR B d1 :: Rs))
  case first =>
    go_region_law (first
      | (refine step_append_sl _ (by rfl) (.tmp 52) (.tmp 54) _ (by rfl) w0.heap.size 9 i0 _ 1 16 Tryz.underlying104 hi0 hi1 hi2 hi3 rfl (by omega) (.slice A recs.length c) recs.length (recs.map strC) (by rfl) (by first | exact HO.out | exact HO.out.alloc _ | exact (HO.out.alloc _).drew) (some ⟨w2.heap.size, 0, none⟩) 1 1 [[.string ⟨t.toArray⟩]] (by rfl) (by first | exact Sl.new_ _ _ _ | exact Sl.drew (Sl.new_ _ _ _)) (by simp) (by simp [Value.oneCell']) (by have := HJL.out; simp only [maxLen]; omega) (by have := HJL.out; omega) (by have := HP.out.base.size; simp; omega) ?_
         intro A4 c4 w4 hown hg hat
         obtain ⟨z4, k4, f4⟩ := (((HP.out.loc.drew).alloc (.cells #[.string ⟨t.toArray⟩] 9)).grown hg HNB.out)
         simp only [jourX] at k4
         have hs4 := (((HP.out.drew).alloc (.cells #[.string ⟨t.toArray⟩] 9)).sw.grown hown hg hat).sw))
    all_goals
      go_wp2_with (fail)
      go_meet
      first
        | exact ((hs4.set_ 2 _).set_ 3 _).jour_join (A := A4) (c := c4) (n := recs.length + 1) (by simp [jourX]) (by simp) (by simp [strC])
        | exact ((hs4.set_ 3 _).set_ 2 _).jour_join (A := A4) (c := c4) (n := recs.length + 1) (by simp [jourX]) (by simp) (by simp [strC])
  case rest =>
    have HF := Lib.hid hcut
    clear hcut zJ kJ fJ
    go_wp2_with (fail)
    go_ret
    exact ⟨rfl, HF.out⟩
set_option maxRecDepth 100000 in
set_option maxHeartbeats 8000000 in
theorem SyncJ_sep (h : Sep w0 w (jourR B J j :: diskR B d :: Rs)) (r : DV × JV × Int) (hr : syncJ d j = r) :
    Calls Tryz.prog 83 #[.pointer (some ⟨J, 0, none⟩)] w fun e w' => e = .returned (.int .i64 r.2.2) ∧ Sep w0 w' (jourR B J r.2.1 :: diskR B r.1 :: Rs) := by
  obtain ⟨A, c, hp⟩ := h.jour_part
  have HP := Lib.hid hp
  unfold syncJ at hr
  obtain ⟨file, recs, bytes, broken⟩ := j
  simp only at hr
  clear h hp
  cases broken
  case true =>
    simp only [if_true] at hr
    subst hr
    obtain ⟨zJ, kJ, fJ⟩ := HP.out.loc
    simp only [jourX] at kJ
    go_enter Tryz.func83, Tryz.ntmps83
    go_wp2_with (fail)
    go_ret
    exact ⟨rfl, HP.out.jour_join rfl rfl rfl⟩
  simp only [Bool.false_eq_true, if_false] at hr
  obtain ⟨⟨d1, e1⟩, hs⟩ : ∃ x, SyncF d file = x := ⟨_, rfl⟩
  rw [hs] at hr
  have C2 := Lib.hid (fun W Rs (h : Sep w0 W (diskR B d :: Rs)) => Sync_sep h file (d1, e1) hs)
  subst hr
  obtain ⟨zJ, kJ, fJ⟩ := HP.out.loc
  simp only [jourX] at kJ
  clear hs
  go_enter Tryz.func83, Tryz.ntmps83
  go_upto_region 3 with (fail)
  go_still_tail 8, (by kernel_rfl)
  change wpList _ _ _ _ _ w.drew
  replace HP := Lib.hid HP.out.drew
  clear zJ kJ fJ
  generalize w.drew = W at *
  go_wp2_with (fail)
  ((with_reducible refine (C2.out _ _ HP.out.r3).mono ?_); rintro _ w2 ⟨rfl, h2⟩)
  replace HP := Lib.hid h2.l3
  clear h2 C2
  obtain ⟨zJ, kJ, fJ⟩ := HP.out.loc
  simp only [jourX] at kJ
  by_cases he : e1 = 0
  · subst he
    go_wp2_with (fail)
    go_ret
    exact ⟨rfl, Sep.jour_join (A := A) (c := c) (n := recs.length) (xs := recs.map strC) (HP.out.set_ 4 (.bool false)) (by simp [jourX]) rfl rfl⟩
  · have hb : (e1 == 0) = false := by rw [beq_eq_false_iff_ne]; exact he
    have hn : (e1 != 0) = true := by rw [bne_iff_ne]; exact he
    have hde : decide (e1 ≠ 0) = true := decide_eq_true he
    have HDE := Lib.hid hde
    clear he hde
    go_wp2_with (fail)
    go_ret
    exact ⟨rfl, Sep.jour_join (A := A) (c := c) (n := recs.length) (xs := recs.map strC) (HP.out.set_ 4 (.bool true)) (by simp [jourX, HDE.out]) rfl rfl⟩
end
end Go.Proofs.YtjncmlglhegnaaaGreatDoor
namespace Go.Proofs.YtjncmlglhegnaaaGreatDoor
open Go.RowKit Go.Sort

theorem SepIn.append {w : World} : ∀ {Ss Rs : List Res} {G H : Nat → Prop}, SepIn w Ss G → SepIn w Rs H → (∀ k, G k → ¬ H k) → SepIn w (Ss ++ Rs) (fun k => G k ∨ H k)
  | [], _, _, _, _, h2, _ => h2.mono fun _ hk => .inr hk
  | R :: Ss, Rs, G, H, ⟨F, a, b, c⟩, h2, hd => ⟨F, a, fun k hk => .inl (b k hk), (SepIn.append c h2 fun k hk => hd k hk.1).mono fun k hk => by
      rcases hk with hk | hk
      · exact ⟨.inl hk.1, hk.2⟩
      · exact ⟨.inr hk, fun hf => hd k (b k hf) hk⟩⟩
theorem VarIn.up {B B' : Nat} {w : World} {name : String} {cs : Array Value} (h : VarIn B w name cs) (hb : B ≤ B') : VarIn B' w name cs := by
  obtain ⟨g, h1, h2, h3⟩ := h
  exact ⟨g, h1, Nat.lt_of_lt_of_le h2 hb, h3⟩
theorem Env.up {B B' : Nat} {w : World} (h : Env B w) (hb : B ≤ B') : Env B' w :=
  ⟨h.tab.up hb, by obtain ⟨tp, p, h⟩ := h.syn; exact ⟨tp, p, h.up hb⟩, by obtain ⟨tp, p, h⟩ := h.rng; exact ⟨tp, p, h.up hb⟩⟩
/-- what a call has made beside other things -/
theorem Sep.graft {w0 w w' : World} {Ss Rs : List Res} (h : Sep w0 w Rs) (h2 : Sep w w' Ss) : Sep w0 w' (Ss ++ Rs) :=
  ⟨(SepIn.append h2.1 (h.1.keep h2.2.size fun k _ hl => h2.2.block k hl) fun k hk hk2 => by have := hk.1; have := hk2.2; omega).mono fun k hk => by
      rcases hk with hk | hk
      · exact ⟨Nat.le_trans h.2.size hk.1, hk.2⟩
      · exact ⟨hk.1, Nat.lt_of_lt_of_le hk.2 h2.2.size⟩, h.2.trans (h2.2.mono h.2.size)⟩
/-- the entries' lists lie in memory -/
def SeenAt (es : List EntC) (W : World) : Prop := ∀ u ∈ es, EntAt W u
/-- what read hands back -/
def ReadP (w : World) (recs : List (List UInt8)) (e : Ending) (w' : World) : Prop :=
  (∃ (A : Option Addr) (c : Nat) (es : List EntC), decAll recs = some (vsOf es) ∧ e = .returned (.tuple #[.slice A es.length c, .bool true]) ∧ Sep w w' (ownR 32 5 (.slice A es.length c) es.length (es.map EntC.cells) :: seesR (SeenAt es) :: [])) ∨
  (decAll recs = none ∧ e = .returned (.tuple #[.slice none 0 0, .bool false]) ∧ Below w.heap.size w w')
theorem decAll_snoc {l : List (List UInt8)} {s : List UInt8} {vs : List EntV} (h : decAll l = some vs) : decAll (l ++ [s]) = if (decodeF s).2 = true then some (vs ++ [(decodeF s).1]) else none := by
  induction l generalizing vs with
  | nil =>
    have : vs = [] := by simpa [decAll] using h.symm
    subst this
    show decAll [s] = _
    simp only [decAll]
    split <;> rfl
  | cons x r ih =>
    simp only [decAll, List.cons_append] at h ⊢
    by_cases hx : (decodeF x).2 = true
    · rw [if_pos hx] at h ⊢
      cases hr : decAll r with
      | none => rw [hr] at h; cases h
      | some us =>
        rw [hr] at h
        have : vs = (decodeF x).1 :: us := by simpa using h.symm
        subst this
        rw [ih hr]
        split <;> rfl
    · rw [if_neg hx] at h; cases h
theorem decAll_no : ∀ {l m : List (List UInt8)}, decAll l = none → decAll (l ++ m) = none
  | [], _, h => by simp [decAll] at h
  | x :: r, m, h => by
    simp only [decAll, List.cons_append] at h ⊢
    by_cases hx : (decodeF x).2 = true
    · rw [if_pos hx] at h ⊢
      have hr : decAll r = none := by cases hr : decAll r with | none => rfl | some us => rw [hr] at h; cases h
      rw [decAll_no hr]; rfl
    · rw [if_neg hx]
set_option maxRecDepth 100000 in
set_option maxHeartbeats 4000000 in
theorem read_dev (w : World) (hE : Env w.heap.size w) (A : Option Addr) (n c : Nat) (recs : List (List UInt8)) (hs : Sl w 1 A n (recs.map strC)) (hn : n ≤ 20000000) (hsm : ∀ s ∈ recs, s.length ≤ 100000) :
    Calls Tryz.prog 62 #[.slice A n c] w (ReadP w recs) := by
  obtain ⟨ie, he0, he1, he2, he3⟩ := info_parts infoEnt
  have HE := Lib.hid (fun W (hb : Below w.heap.size w W) => hE.below hb)
  have HS := Lib.hid hs
  have HSM := Lib.hid hsm
  have HLL : Hid (recs.length = n) := Lib.hid (by simpa using hs.1)
  have HS0 := Lib.hid (((Sep.start w).seesNew (φ := SeenAt []) fun _ u hu => by simp at hu).ownNil 32 5)
  clear hE hs hsm
  go_enter Tryz.func62, Tryz.ntmps62
  go_wp2_with (fail)
  go_loopw [4, 11] (fun ov iv wr => ∃ (k : Nat) (A' : Option Addr) (c' : Nat) (es : List EntC), ov = .slice A' k c' ∧ iv = .int .i64 (k : Int) ∧ k ≤ n ∧ es.length = k ∧ decAll (recs.take k) = some (vsOf es) ∧ Sep w wr (ownR 32 5 (.slice A' k c') k (es.map EntC.cells) :: seesR (SeenAt es) :: [])) (fun _ iv _ => n - (Go.RowKit.intOf iv).toNat)
  case atStart => exact ⟨0, none, 0, [], rfl, rfl, Nat.zero_le _, rfl, rfl, HS0.out⟩
  case round =>
    obtain ⟨k, A', c', es, rfl, rfl, hk, hel, hd, hS⟩ := hrel
    obtain ⟨wo, rfl⟩ : ∃ wo : World, wo = wr := ⟨_, rfl⟩
    have HSO := Lib.hid hS
    have HD := Lib.hid hd
    have HEL := Lib.hid hel
    clear hS hd hel HS0
    by_cases hlt : k < n
    · obtain ⟨s, hsx⟩ : ∃ v, recs[k]? = some v := ⟨_, List.getElem?_eq_getElem (by rw [HLL.out]; exact hlt)⟩
      obtain ⟨b, o, rfl, hbl, d0⟩ := (HS.out.below HSO.out.base).at1 (k := k) (v := .string ⟨s.toArray⟩) (by rw [List.getElem?_map, hsx]; rfl)
      have htk : recs.take (k + 1) = recs.take k ++ [s] := by rw [List.take_add_one, hsx]; rfl
      obtain ⟨⟨v, db⟩, hv⟩ : ∃ v, decodeF s = v := ⟨_, rfl⟩
      have hsn := decAll_snoc (s := s) HD.out
      rw [← htk, hv] at hsn
      simp only at hsn
      have HSN := Lib.hid hsn
      have HDE := Lib.hid (Decode_any wo ((HE.out wo HSO.out.base).up HSO.out.base.size) s (HSM.out s (List.mem_of_getElem? hsx)) _ hv)
      have HLT := Lib.hid hlt
      have hki : (k : Int) < (n : Int) := by omega
      have hk0 : (0 : Int) ≤ (k : Int) := by omega
      have hwk : IntKind.i64.wrap ((k : Int) + 1) = (k : Int) + 1 := IntWalk.i64_in _ (by omega)
      have HTK : Hid (recs = recs.take (k + 1) ++ recs.drop (k + 1)) := Lib.hid (List.take_append_drop _ _).symm
      clear hsx htk hv hsn hlt hk hbl
      go_wp2_with (fail)
      ((with_reducible refine HDE.out.mono ?_); rintro _ w2 ⟨⟨⟨xd, xn, xy, xs, xt⟩, xA, xc⟩, hxv, rfl, hxf, hb2⟩)
      simp only at hxv
      simp only [EntC.cells]
      have HXV := Lib.hid hxv
      have hsl2 : SlF wo w2 1 xA xs.length (xs.map intC) := hxf
      have HS2 := Lib.hid (((HSO.out.sw.seesAdd hb2 (Sl.rests hsl2)).seesTurn (ψ := SeenAt (es ++ [⟨⟨xd, xn, xy, xs, xt⟩, xA, xc⟩])) fun W h u hu => by
        rcases List.mem_append.1 hu with h1 | h1
        · exact h.1 u h1
        · rw [List.mem_singleton.1 h1]; exact h.2).sw.alloc (.cells #[.int .i64 xd, .int .i64 xn, .int .i64 xy, .slice xA xs.length xc, .string ⟨xt.toArray⟩] 32))
      have LX := Lib.hid (Loc.new_ w2 #[.int .i64 xd, .int .i64 xn, .int .i64 xy, .slice xA xs.length xc, .string ⟨xt.toArray⟩] 32)
      clear hxv hxf hb2 hsl2 HDE d0
      go_upto_region 6 with (fail)
      generalize hWX : w2.alloc (.cells #[.int .i64 xd, .int .i64 xn, .int .i64 xy, .slice xA xs.length xc, .string ⟨xt.toArray⟩] 32) = W at *
      generalize hbX : w2.heap.size = bX at *
      clear hWX hbX HSO
      cases db
      · have hno : decAll recs = none := by
          rw [HTK.out]
          refine decAll_no ?_
          rw [HSN.out, if_neg (by simp)]
        have HNO := Lib.hid hno
        clear hno
        go_wp2_with (fail)
        go_ret2
        exact .inr ⟨HNO.out, rfl, HS2.out.base⟩
      · have HDN : Hid (decAll (recs.take (k + 1)) = some (vsOf (es ++ [⟨⟨xd, xn, xy, xs, xt⟩, xA, xc⟩]))) := Lib.hid (by
          rw [HSN.out, if_pos rfl, ← HXV.out]
          simp [vsOf])
        obtain ⟨zX, kX, fX⟩ := LX.out
        have HS3 := Lib.hid (HS2.out.alloc (.cells #[.int .i64 xd, .int .i64 xn, .int .i64 xy, .slice xA xs.length xc, .string ⟨xt.toArray⟩] 32))
        have HN3 := Lib.hid (Sl.new_ W 32 (EntC.cells ⟨⟨xd, xn, xy, xs, xt⟩, xA, xc⟩))
        simp only [EntC.cells] at HN3
        have hk6 : k ≤ 20000000 := by have := HLT.out; omega
        go_wp2_with (at_builtin; (refine wpList_append_sl _ rfl (.tmp 22) (.tmp 24) _ rfl w.heap.size 32 ie _ 5 64 Tryz.underlying22 he0 he1 he2 he3 rfl (by omega) _ k (es.map EntC.cells) rfl HS3.out.own (some ⟨W.heap.size, 0, none⟩) 1 1 ([(⟨⟨xd, xn, xy, xs, xt⟩, xA, xc⟩ : EntC)].map EntC.cells) rfl HN3.out (ents_len _) (ents_one _) (by simp only [maxLen]; omega) (by omega) HS3.out.base.size ?_); intro A9 c9 w9 hown9 hg9 hat9
                     have HS9 := Lib.hid (HS3.out.grown hown9 hg9 hat9)
                     clear hown9 hg9 hat9)
        go_roundw
        case rel => exact ⟨k + 1, A9, c9, es ++ [⟨⟨xd, xn, xy, xs, xt⟩, xA, xc⟩], rfl, by go_num, HLT.out, by rw [List.length_append, HEL.out]; rfl, HDN.out, by rw [List.map_append]; exact HS9.out⟩
        case measure => have := HLT.out; simp [Go.RowKit.intOf]; omega
    · obtain rfl : k = n := by omega
      have hki : ¬ ((k : Int) < (k : Int)) := by omega
      have hd := HD.out
      rw [List.take_of_length_le (by rw [HLL.out]; exact Nat.le_refl _)] at hd
      have HD2 := Lib.hid hd
      clear hd hlt hk
      go_wp2_with (fail)
      go_ret2
      exact .inl ⟨A', c', es, HD2.out, by rw [HEL.out]; rfl, by rw [HEL.out]; exact HSO.out⟩
/-- Open's closure: an entry of another device -/
theorem other_any (w : World) (bx : Nat) (f : Int) (hb : Loc w bx #[.int .i64 f]) (x : EntC) (r : Bool) (hr : decide (x.v.dev ≠ f) = r) :
    Calls Tryz.prog 64 #[.agg x.cells.toArray, .pointer (some ⟨bx, 0, none⟩)] w fun e w' => e = .returned (.bool r) ∧ Below w.heap.size w w' := by
  obtain ⟨⟨xd, xn, xy, xs, xt⟩, xA, xc⟩ := x
  obtain ⟨zX, kX, fX⟩ := hb
  have HR := Lib.hid hr
  clear hr
  simp only [EntC.cells]
  go_enter Tryz.func64, Tryz.ntmps64
  go_wp2_with (fail)
  go_ret
  exact ⟨ret_bool (by rw [← HR.out, Bool.eq_iff_iff]; simp), below_alloc _ _⟩
def AllOf (f : Int) (l : List EntC) (k : Nat) : Prop := ∀ x ∈ l.take k, x.v.dev = f
set_option maxRecDepth 100000 in
set_option maxHeartbeats 1000000 in
theorem IndexOther_any (w : World) (A : Option Addr) (n c : Nat) (l : List EntC) (hs : Sl w 5 A n (l.map EntC.cells)) (hn : n ≤ 1099511627776) (bx : Nat) (f : Int) (hb : Loc w bx #[.int .i64 f]) :
    Calls Tryz.prog 110 #[.slice A n c, .func (.func 64) #[] #[.pointer (some ⟨bx, 0, none⟩)]] w fun e w' => ∃ i : Int, e = .returned (.int .i64 i) ∧ (i = -1 ∧ AllOf f l n ∨ 0 ≤ i ∧ ∃ x ∈ l, x.v.dev ≠ f) ∧ Below w.heap.size w w' := by
  have HLL : Hid (l.length = n) := Lib.hid (by simpa using hs.1)
  have HS := Lib.hid hs
  have HX := Lib.hid hb
  clear hs hb
  go_enter Tryz.func110, Tryz.ntmps110
  go_wp2_with (fail)
  go_loopw [8] (fun iv wr => ∃ k : Nat, k ≤ n ∧ iv = .int .i64 (k : Int) ∧ Below w.heap.size w wr ∧ AllOf f l k) (fun iv _ => n - (Go.RowKit.intOf iv).toNat)
  case atStart => exact ⟨0, Nat.zero_le _, rfl, Below.refl _ _, fun x hx => by simp at hx⟩
  case round =>
    obtain ⟨k, hk, rfl, hb, ha⟩ := hrel
    obtain ⟨wo, rfl⟩ : ∃ wo : World, wo = wr := ⟨_, rfl⟩
    have HB := Lib.hid hb
    have HA := Lib.hid ha
    clear hb ha
    by_cases hlt : k < n
    · obtain ⟨x, hx⟩ : ∃ v, l[k]? = some v := ⟨_, List.getElem?_eq_getElem (by rw [HLL.out]; exact hlt)⟩
      obtain ⟨b, o, rfl, hbl, d0, d1, d2, d3, d4⟩ := ent_at (HS.out.below HB.out) hx
      obtain ⟨r, hr⟩ : ∃ r, decide (x.v.dev ≠ f) = r := ⟨_, rfl⟩
      have HC := Lib.hid (other_any wo bx f (HX.out.below HB.out) x r hr)
      simp only [EntC.cells] at HC
      have hki : (k : Int) < (n : Int) := by omega
      have hk0 : (0 : Int) ≤ (k : Int) := by omega
      have hwk : IntKind.i64.wrap ((k : Int) + 1) = (k : Int) + 1 := IntWalk.i64_in _ (by omega)
      have HR := Lib.hid hr
      have HXI := Lib.hid hx
      have HLT := Lib.hid hlt
      clear hx hr hlt hk hbl
      go_wp2_with (fail)
      ((with_reducible refine HC.out.mono ?_); rintro _ w2 ⟨rfl, hb2⟩)
      have HB2 := Lib.hid (HB.out.trans (hb2.mono HB.out.size))
      clear hb2 HC d0 d1 d2 d3 d4
      cases r
      · go_wp2_with (fail)
        go_roundw
        case rel => exact ⟨k + 1, HLT.out, by go_num, HB2.out, fun y hy => by
          rw [List.take_add_one, HXI.out, Option.toList_some] at hy
          rcases List.mem_append.1 hy with h | h
          · exact HA.out y h
          · rw [List.mem_singleton.1 h]; simpa using HR.out⟩
        case measure => have := HLT.out; simp [Go.RowKit.intOf]; omega
      · go_wp2_with (fail)
        go_ret
        exact ⟨(k : Int), rfl, .inr ⟨by omega, x, List.mem_of_getElem? HXI.out, by simpa using HR.out⟩, HB2.out⟩
    · obtain rfl : k = n := by omega
      have hki : ¬ ((k : Int) < (k : Int)) := by omega
      clear hlt hk
      go_wp2_with (fail)
      go_ret
      exact ⟨-1, rfl, .inl ⟨rfl, HA.out⟩, HB.out⟩
set_option maxRecDepth 100000 in
set_option maxHeartbeats 1000000 in
theorem ContainsOther_any (w : World) (A : Option Addr) (n c : Nat) (l : List EntC) (hs : Sl w 5 A n (l.map EntC.cells)) (hn : n ≤ 1099511627776) (bx : Nat) (f : Int) (hb : Loc w bx #[.int .i64 f]) (r : Bool) (hr : ((vsOf l).all fun x => decide (x.dev = f)) = !r) :
    Calls Tryz.prog 66 #[.slice A n c, .func (.func 64) #[] #[.pointer (some ⟨bx, 0, none⟩)]] w fun e w' => e = .returned (.bool r) ∧ Below w.heap.size w w' := by
  have HLL : l.length = n := by simpa using hs.1
  have HC := Lib.hid (IndexOther_any w A n c l hs hn bx f hb)
  have hf : ∀ i : Int, (i = -1 ∧ AllOf f l n ∨ 0 ≤ i ∧ ∃ x ∈ l, x.v.dev ≠ f) → decide (0 ≤ i) = r := fun i h => by
    rcases h with ⟨rfl, h⟩ | ⟨h0, x, hx, h⟩
    · have : ((vsOf l).all fun x => decide (x.dev = f)) = true := by
        rw [List.all_eq_true]
        intro v hv
        obtain ⟨u, hu, rfl⟩ := List.mem_map.1 hv
        exact decide_eq_true (h u (by rw [List.take_of_length_le (by omega)]; exact hu))
      rw [this] at hr
      have : r = false := by cases r with | false => rfl | true => cases hr
      rw [this]; rfl
    · have : ((vsOf l).all fun x => decide (x.dev = f)) = false := by
        rw [Bool.eq_false_iff]
        intro h2
        rw [List.all_eq_true] at h2
        exact h (of_decide_eq_true (h2 x.v (List.mem_map.2 ⟨x, hx, rfl⟩)))
      rw [this] at hr
      have : r = true := by cases r with | true => rfl | false => cases hr
      rw [this]; exact decide_eq_true h0
  have HF := Lib.hid hf
  clear hs hb hr hf HLL
  go_enter Tryz.func66, Tryz.ntmps66
  go_wp2_with ((with_reducible refine HC.out.mono ?_); rintro _ w9 ⟨i, rfl, hi, hb9⟩)
  go_ret
  exact ⟨by rw [← HF.out i hi]; rfl, hb9⟩
end Go.Proofs.YtjncmlglhegnaaaGreatDoor
