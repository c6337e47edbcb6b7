/- journal: a journal as a thing apart from others; Open, walked. -/
/- journal: Append, Sync, walked. -/
import Derived.Test.YtjncmlglhegnaaaGreatDoorJrnB
import Derived.Test.YtjncmlglhegnaaaGreatDoorJrnD
import Derived.Test.YtjncmlglhegnaaaGreatDoorDiskQ
import Derived.StillTailTactics
import Derived.Deep.DeepCutAuto
namespace Go.Proofs.YtjncmlglhegnaaaGreatDoor
open Go.RowKit Go.Sort Go.Lib

def jourX (B : Nat) (j : JV) (A : Option Addr) (c : Nat) : Array Value := #[.pointer (some ⟨B, 0, none⟩), .int .i64 j.file, .slice A j.recs.length c, .int .i64 j.bytes, .bool j.broken]
/-- a journal on the disk of block B -/
def jourR (B J : Nat) (j : JV) : Res where
  P := fun w F => ∃ A c, (Loc w J (jourX B j A c) ∧ Own w 0 9 1 (.slice A j.recs.length c) j.recs.length (j.recs.map strC)) ∧ (Value.slice A j.recs.length c).ownBlock ≠ some J ∧ ∀ k, F k ↔ k = J ∨ (Value.slice A j.recs.length c).ownBlock = some k
  lt := fun w F ⟨A, c, h, _, hF⟩ k hk => by
    rcases (hF k).1 hk with h1 | h1
    · rw [h1]; exact h.1.lt
    · exact (h.2.lt k h1).2
  keep := fun w w' F ⟨A, c, h, hne, hF⟩ hz hb => ⟨A, c, ⟨h.1.atBlock hz (hb J ((hF J).2 (.inl rfl))), h.2.ofBlock (fun b hq => hb b ((hF b).2 (.inr hq)))⟩, hne, hF⟩
section
variable {w0 w w' : World} {Rs : List Res} {B J : Nat} {d d' : DV} {j : JV}
theorem Sep.jour_part (h : Sep w0 w (jourR B J j :: Rs)) : ∃ A c, Sep w0 w (boxR J (jourX B j A c) :: ownR 9 1 (.slice A j.recs.length c) j.recs.length (j.recs.map strC) :: Rs) := by
  obtain ⟨⟨F, ⟨A, c, h1, hne, hF⟩, hG, hr⟩, hb⟩ := h
  exact ⟨A, c, Sep.part (R := jourR B J j) ⟨⟨F, ⟨A, c, h1, hne, hF⟩, hG, hr⟩, hb⟩ fun F' hF' => by
    obtain ⟨A', c', h1', hne', hF'⟩ := hF'
    have e : Value.slice A' j.recs.length c' = .slice A j.recs.length c := by
      have e1 := h1.1.cell 2
      have e2 := h1'.1.cell 2
      rw [e1] at e2
      have e3 : Value.slice A j.recs.length c = .slice A' j.recs.length c' := by simpa [jourX] using e2
      exact e3.symm
    injection e with ea _ ec
    subst ea ec
    exact ⟨fun k => k = J, fun k => (Value.slice A' j.recs.length c').ownBlock = some k, ⟨h1'.1, fun _ => Iff.rfl⟩, ⟨h1'.2, fun _ => Iff.rfl⟩, fun k hk => ⟨(hF' k).2 (.inl hk), fun hk2 => hne' (by rw [hk2, hk])⟩, fun k hk => (hF' k).2 (.inr hk)⟩⟩
theorem Sep.jour_join {A : Option Addr} {c n : Nat} {X : Array Value} {xs : List (List Value)} (h : Sep w0 w (boxR J X :: ownR 9 1 (.slice A n c) n xs :: Rs)) (hX : X = jourX B j A c) (hn : n = j.recs.length) (hx : xs = j.recs.map strC) : Sep w0 w (jourR B J j :: Rs) := by
  subst hX hn hx
  refine h.join fun F1 F2 h1 h2 hd => ⟨A, c, ⟨h1.1, h2.1⟩, fun e => hd J ((h1.2 J).2 rfl) ((h2.2 J).2 e), fun k => ?_⟩
  show F1 k ∨ F2 k ↔ _
  rw [h1.2 k, h2.2 k]
theorem sync_up {d : DV} {f : Int} (h : (SyncF d f).2 = 0) : mayF (SyncF d f).1 f = 0 := by
  unfold SyncF at h ⊢
  dsimp only at h ⊢
  by_cases hm : mayF (beginF d) f = 0
  · rw [if_neg (by simp [hm])] at h ⊢
    split at h
    · cases h
    · rename_i hl
      rw [if_neg hl]
      exact hm
  · rw [if_pos hm] at h
    exact absurd h hm
/-- what Open leaves -/
def OpenPost (w0 : World) (Rs : List Res) (B : Nat) : DV × Option JV × Int → Ending → World → Prop
  | (d, some j, er), e, w' => ∃ J, e = .returned (.tuple #[.pointer (some ⟨J, 0, none⟩), .int .i64 er]) ∧ Sep w0 w' (jourR B J j :: diskR B d :: Rs)
  | (d, none, er), e, w' => e = .returned (.tuple #[.pointer none, .int .i64 er]) ∧ Sep w0 w' (diskR B d :: Rs)
set_option maxRecDepth 100000 in
set_option maxHeartbeats 8000000 in
theorem Open_sep (h : Sep w0 w (diskR B d :: Rs)) (hE : Env w0.heap.size w0) (f : Int) (r : DV × Option JV × Int) (hr : openJ d f = r) :
    Calls Tryz.prog 61 #[.pointer (some ⟨B, 0, none⟩), .int .i64 f] w (OpenPost w0 Rs B r) := by
  have HP := Lib.hid h
  have HE := Lib.hid (fun W (hb : Below w0.heap.size w0 W) => hE.below hb)
  clear h hE
  unfold openJ at hr
  by_cases h1 : f < 0
  · rw [if_pos (.inl h1)] at hr
    subst hr
    go_enter Tryz.func61, Tryz.ntmps61
    go_wp2_with (fail)
    go_ret2
    exact ⟨rfl, HP.out⟩
  have h1i : 0 ≤ f := by omega
  by_cases h2 : 15 < f
  · rw [if_pos (.inr h2)] at hr
    subst hr
    clear h1
    go_enter Tryz.func61, Tryz.ntmps61
    go_wp2_with (fail)
    go_ret2
    exact ⟨rfl, HP.out⟩
  have h2i : f ≤ 15 := by omega
  rw [if_neg (by omega)] at hr
  obtain ⟨⟨d1, e1⟩, hs⟩ : ∃ x, SyncF d f = x := ⟨_, rfl⟩
  rw [hs] at hr
  have C1 := Lib.hid (fun W (h : Sep w0 W (diskR B d :: Rs)) => Sync_sep h f (d1, e1) hs)
  clear h1 h2
  by_cases h3 : e1 = 0
  case neg =>
    rw [if_pos h3] at hr
    subst hr
    have hb : (e1 == 0) = false := by rw [beq_eq_false_iff_ne]; exact h3
    have hn : (e1 != 0) = true := by rw [bne_iff_ne]; exact h3
    clear hs h3
    go_enter Tryz.func61, Tryz.ntmps61
    go_wp2_with (fail)
    ((with_reducible refine (C1.out _ HP.out).mono ?_); rintro _ w1 ⟨rfl, h1⟩)
    have HP1 := Lib.hid h1
    clear h1
    go_wp2_with (fail)
    go_ret2
    exact ⟨rfl, HP1.out⟩
  subst h3
  rw [if_neg (by simp)] at hr
  have hup : mayF d1 f = 0 := by have h := sync_up (d := d) (f := f) (by rw [hs]); rwa [hs] at h
  obtain ⟨s, hsn⟩ : ∃ s, (d1.file f).now = s := ⟨_, rfl⟩
  dsimp only at hr
  rw [hsn] at hr
  have hrd : ReadF d1 f 0 (s.length : Int) = (s, 0) := by
    rw [ReadF_ok hup 0 _ (by omega) (by omega), hsn]
    simp
  have C2 := Lib.hid (fun W (h : Sep w0 W (diskR B d1 :: Rs)) => Size_sep h f (s.length : Int) (by rw [hsn]))
  have C3 := Lib.hid (fun W (h : Sep w0 W (diskR B d1 :: Rs)) => Read_sep h f 0 (s.length : Int) (s, 0) hrd)
  have C4 := Lib.hid (fun W (h : Sep w0 W (diskR B d1 :: Rs)) => read_any W (HE.out W h.base) h.base.size s (by have := (h.disk_ok.file f).1; rw [hsn] at this; exact this))
  obtain ⟨l, hl⟩ : ∃ l, recsF s = l := ⟨_, rfl⟩
  obtain ⟨m, hm⟩ : ∃ m, (formsB l).length = m := ⟨_, rfl⟩
  rw [hl, hm] at hr C4
  have hsz := str_size s
  have HR := Lib.hid hr
  clear hs hsn hrd hl hm hr
  go_enter Tryz.func61, Tryz.ntmps61
  go_wp2_with (fail)
  ((with_reducible refine (C1.out _ HP.out).mono ?_); rintro _ w1 ⟨rfl, h1⟩)
  replace HP := Lib.hid h1
  clear h1 C1
  go_wp2_with (fail)
  ((with_reducible refine (C2.out _ HP.out).mono ?_); rintro _ w2 ⟨rfl, hw⟩; obtain rfl := hw)
  go_wp2_with (fail)
  ((with_reducible refine (C3.out _ HP.out).mono ?_); rintro _ w2 ⟨rfl, hw⟩; obtain rfl := hw)
  go_wp2_with (fail)
  ((with_reducible refine (C4.out _ HP.out).mono ?_); rintro _ w2 ⟨A, c, rfl, ho, hb⟩)
  replace HP := Lib.hid (HP.out.ownNew hb ho)
  clear ho hb C2 C3 C4
  by_cases h4 : m < s.length
  · have h4i : (m : Int) < (s.length : Int) := by omega
    have hr := HR.out
    rw [if_pos h4] at hr
    obtain ⟨⟨d2, e2⟩, ht⟩ : ∃ x, TruncF d1 f (m : Int) = x := ⟨_, rfl⟩
    rw [ht] at hr
    have C5 := Lib.hid (fun W (h : Sep w0 W (diskR B d1 :: ownR 9 1 (.slice A l.length c) l.length (l.map strC) :: Rs)) => Trunc_sep h f (m : Int) (d2, e2) ht)
    by_cases h5 : e2 = 0
    · subst h5
      rw [if_neg (by simp)] at hr
      subst hr
      clear ht h4 HR
      go_wp2_with (fail)
      ((with_reducible refine (C5.out _ HP.out.sw).mono ?_); rintro _ w3 ⟨rfl, h3⟩)
      replace HP := Lib.hid h3
      clear h3
      go_wp2_with (fail)
      go_ret2
      refine ⟨_, rfl, Sep.jour_join (A := A) (c := c) (n := l.length) (xs := l.map strC) (HP.out.sw.box _ _) rfl rfl rfl⟩
    · rw [if_pos h5] at hr
      subst hr
      have hb : (e2 == 0) = false := by rw [beq_eq_false_iff_ne]; exact h5
      have hn : (e2 != 0) = true := by rw [bne_iff_ne]; exact h5
      clear ht h4 HR h5
      go_wp2_with (fail)
      ((with_reducible refine (C5.out _ HP.out.sw).mono ?_); rintro _ w3 ⟨rfl, h3⟩)
      replace HP := Lib.hid h3
      clear h3
      go_wp2_with (fail)
      go_ret2
      exact ⟨rfl, HP.out.drop2⟩
  · have h4i : (s.length : Int) ≤ (m : Int) := by omega
    have hr := HR.out
    rw [if_neg h4] at hr
    subst hr
    clear h4 HR
    go_wp2_with (fail)
    go_ret2
    exact ⟨_, rfl, Sep.jour_join (A := A) (c := c) (n := l.length) (xs := l.map strC) (HP.out.box _ _) rfl rfl rfl⟩
end
end Go.Proofs.YtjncmlglhegnaaaGreatDoor
namespace Go.Proofs.YtjncmlglhegnaaaGreatDoor
open Go.RowKit Go.Sort Go.Lib

section
variable {w0 w w' : World} {Rs : List Res} {B J : Nat} {d d' : DV} {j : JV}
set_option maxRecDepth 100000 in
set_option maxHeartbeats 16000000 in
theorem Append_sep (h : Sep w0 w (jourR B J j :: diskR B d :: Rs)) (hE : Env w0.heap.size w0) (hjb : -9223372036854775808 ≤ j.bytes ∧ j.bytes ≤ 4611686018427387904) (hjl : j.recs.length ≤ 1099511627776) (t : List UInt8) (ht : t.length ≤ 1099511627776) (r : DV × JV × Int) (hr : appendJ d j t = r) :
    Calls Tryz.prog 128 #[.pointer (some ⟨J, 0, none⟩), .string ⟨t.toArray⟩] w fun e w' => e = .returned (.int .i64 r.2.2) ∧ Sep w0 w' (jourR B J r.2.1 :: diskR B r.1 :: Rs) := by
  have HE := Lib.hid (fun W (hb : Below w0.heap.size w0 W) => hE.below hb)
  obtain ⟨f, hf⟩ : ∃ f, formB t = f := ⟨_, rfl⟩
  have hfl : f.length ≤ t.length + 60 := by
    rw [← hf]
    have h1 := encT_len (s := t) (by omega)
    have h2 := sumF_rng t
    have h3 : (encN (sumF t)).length ≤ 21 := by unfold encN; rw [if_neg (by omega)]; exact encI_len ⟨by omega, by omega⟩
    unfold formB
    rw [List.length_append]
    omega
  have C1 := Lib.hid (fun W (hb : Below w0.heap.size w0 W) => form_any W (HE.out W hb) hb.size t ht f hf)
  obtain ⟨A, c, hp⟩ := h.jour_part
  have HP := Lib.hid hp
  have HJL := Lib.hid hjl
  unfold appendJ at hr
  rw [hf] at hr
  have htz := str_size t
  have hfz := str_size f
  obtain ⟨file, recs, bytes, broken⟩ := j
  simp only at hr hjb hjl
  have HJB := Lib.hid hjb
  have HTL := Lib.hid ht
  have HFL := Lib.hid hfl
  clear h hE hf hfl hp hjl hjb ht
  cases broken
  case true =>
    simp only [if_true] at hr
    subst hr
    go_enter Tryz.func128, Tryz.ntmps128
    go_wp2_with (fail)
    ((with_reducible refine (C1.out _ HP.out.base).mono ?_); rintro _ w1 ⟨rfl, hb1⟩)
    replace HP := Lib.hid (HP.out.below hb1)
    clear hb1
    obtain ⟨zJ, kJ, fJ⟩ := HP.out.loc
    simp only [jourX] at kJ
    go_wp2_with (fail)
    go_ret
    exact ⟨rfl, HP.out.jour_join rfl rfl rfl⟩
  simp only [Bool.false_eq_true, if_false] at hr
  by_cases h1 : 20000 < t.length
  · rw [if_pos h1] at hr
    subst hr
    have h1i : 20000 < (t.length : Int) := by omega
    clear h1
    go_enter Tryz.func128, Tryz.ntmps128
    go_wp2_with (fail)
    ((with_reducible refine (C1.out _ HP.out.base).mono ?_); rintro _ w1 ⟨rfl, hb1⟩)
    replace HP := Lib.hid (HP.out.below hb1)
    clear hb1
    obtain ⟨zJ, kJ, fJ⟩ := HP.out.loc
    simp only [jourX] at kJ
    go_wp2_with (fail)
    go_ret
    exact ⟨rfl, HP.out.jour_join rfl rfl rfl⟩
  rw [if_neg h1] at hr
  have h1i : (t.length : Int) ≤ 20000 := by omega
  have hws : IntKind.i64.wrap (bytes + (f.length : Int)) = bytes + (f.length : Int) := IntWalk.i64_in _ (by have := HJB.out; have := HFL.out; have := HTL.out; omega)
  by_cases h2 : 1048576 < bytes + (f.length : Int)
  · rw [if_pos h2] at hr
    subst hr
    clear h1
    go_enter Tryz.func128, Tryz.ntmps128
    go_wp2_with (fail)
    ((with_reducible refine (C1.out _ HP.out.base).mono ?_); rintro _ w1 ⟨rfl, hb1⟩)
    replace HP := Lib.hid (HP.out.below hb1)
    clear hb1
    obtain ⟨zJ, kJ, fJ⟩ := HP.out.loc
    simp only [jourX] at kJ
    go_wp2_with (fail)
    go_ret
    exact ⟨rfl, HP.out.jour_join rfl rfl rfl⟩
  rw [if_neg h2] at hr
  have h2i : bytes + (f.length : Int) ≤ 1048576 := by omega
  obtain ⟨⟨d1, e1⟩, hw⟩ : ∃ x, WriteF d file bytes f = x := ⟨_, rfl⟩
  rw [hw] at hr
  have C2 := Lib.hid (fun W Rs (h : Sep w0 W (diskR B d :: Rs)) => Write_sep h file bytes f (by have := HJB.out; omega) (by have := HFL.out; have := HTL.out; omega) (d1, e1) hw)
  have HR := Lib.hid hr
  have HWS := Lib.hid hws
  have H2 := Lib.hid h2i
  clear hr h1 h2 hw
  go_enter Tryz.func128, Tryz.ntmps128
  go_wp2_with (fail)
  ((with_reducible refine (C1.out _ HP.out.base).mono ?_); rintro _ w1 ⟨rfl, hb1⟩)
  replace HP := Lib.hid (HP.out.below hb1)
  clear hb1 C1
  obtain ⟨zJ, kJ, fJ⟩ := HP.out.loc
  simp only [jourX] at kJ
  go_upto_region 8 with (fail)
  go_still_tail 13, (by kernel_rfl)
  change wpList _ _ _ _ _ w1.drew
  replace HP := Lib.hid HP.out.drew
  clear zJ kJ fJ hws
  generalize w1.drew = W at *
  go_wp2_with (fail)
  ((with_reducible refine (C2.out _ _ HP.out.r3).mono ?_); rintro _ w2 ⟨rfl, h2⟩)
  replace HP := Lib.hid h2.l3
  clear h2 C2
  obtain ⟨zJ, kJ, fJ⟩ := HP.out.loc
  simp only [jourX] at kJ
  by_cases he : e1 = 0
  case neg =>
    have hr := HR.out
    rw [if_pos he] at hr
    subst hr
    have hb : (e1 == 0) = false := by rw [beq_eq_false_iff_ne]; exact he
    have hn : (e1 != 0) = true := by rw [bne_iff_ne]; exact he
    clear HR he
    go_wp2_with (fail)
    go_ret
    exact ⟨rfl, Sep.jour_join (A := A) (c := c) (n := recs.length) (xs := recs.map strC) (HP.out.set_ 4 (.bool true)) rfl rfl rfl⟩
  subst he
  have hr := HR.out
  rw [if_neg (by simp)] at hr
  subst hr
  clear HR
  go_upto_region 12 with (fail)
  obtain ⟨i0, hi0, hi1, hi2, hi3⟩ := info_parts infoStr
  have HO := Lib.hid HP.out.sw.own
  have HNB : Hid ((Value.slice A recs.length c).ownBlock ≠ some J) := Lib.hid (by
    obtain ⟨F, ⟨A', c', h1, h2, _⟩, _⟩ := (HP.out.jour_join (j := ⟨file, recs, bytes, false⟩) (A := A) (c := c) rfl rfl rfl).get
    have e1 := h1.1.cell 2
    have e3 : Value.slice A recs.length c = .slice A' recs.length c' := by
      have h3 := HP.out.loc.cell 2
      rw [e1] at h3
      have h4 : Value.slice A' recs.length c' = .slice A recs.length c := by simpa [jourX] using h3
      exact h4.symm
    rw [e3]
    exact h2)
  have hws := HWS.out
  go_cut [] (fun wx => Sep w0 wx (jourR B J ⟨file, recs ++ [t], bytes + (f.length : Int), false⟩ :: diskR B d1 :: Rs))
  case first =>
    go_region_law (first
      | (refine step_append_sl _ (by rfl) (.tmp 52) (.tmp 54) _ (by rfl) w0.heap.size 9 i0 _ 1 16 Tryz.underlying104 hi0 hi1 hi2 hi3 rfl (by omega) (.slice A recs.length c) recs.length (recs.map strC) (by rfl) (by first | exact HO.out | exact HO.out.alloc _ | exact (HO.out.alloc _).drew) (some ⟨w2.heap.size, 0, none⟩) 1 1 [[.string ⟨t.toArray⟩]] (by rfl) (by first | exact Sl.new_ _ _ _ | exact Sl.drew (Sl.new_ _ _ _)) (by simp) (by simp [Value.oneCell']) (by have := HJL.out; simp only [maxLen]; omega) (by have := HJL.out; omega) (by have := HP.out.base.size; simp; omega) ?_
         intro A4 c4 w4 hown hg hat
         obtain ⟨z4, k4, f4⟩ := (((HP.out.loc.drew).alloc (.cells #[.string ⟨t.toArray⟩] 9)).grown hg HNB.out)
         simp only [jourX] at k4
         have hs4 := (((HP.out.drew).alloc (.cells #[.string ⟨t.toArray⟩] 9)).sw.grown hown hg hat).sw))
    all_goals
      go_wp2_with (fail)
      go_meet
      first
        | exact ((hs4.set_ 2 _).set_ 3 _).jour_join (A := A4) (c := c4) (n := recs.length + 1) (by simp [jourX]) (by simp) (by simp [strC])
        | exact ((hs4.set_ 3 _).set_ 2 _).jour_join (A := A4) (c := c4) (n := recs.length + 1) (by simp [jourX]) (by simp) (by simp [strC])
  case rest =>
    have HF := Lib.hid hcut
    clear hcut zJ kJ fJ
    go_wp2_with (fail)
    go_ret
    exact ⟨rfl, HF.out⟩
set_option maxRecDepth 100000 in
set_option maxHeartbeats 8000000 in
theorem SyncJ_sep (h : Sep w0 w (jourR B J j :: diskR B d :: Rs)) (r : DV × JV × Int) (hr : syncJ d j = r) :
    Calls Tryz.prog 83 #[.pointer (some ⟨J, 0, none⟩)] w fun e w' => e = .returned (.int .i64 r.2.2) ∧ Sep w0 w' (jourR B J r.2.1 :: diskR B r.1 :: Rs) := by
  obtain ⟨A, c, hp⟩ := h.jour_part
  have HP := Lib.hid hp
  unfold syncJ at hr
  obtain ⟨file, recs, bytes, broken⟩ := j
  simp only at hr
  clear h hp
  cases broken
  case true =>
    simp only [if_true] at hr
    subst hr
    obtain ⟨zJ, kJ, fJ⟩ := HP.out.loc
    simp only [jourX] at kJ
    go_enter Tryz.func83, Tryz.ntmps83
    go_wp2_with (fail)
    go_ret
    exact ⟨rfl, HP.out.jour_join rfl rfl rfl⟩
  simp only [Bool.false_eq_true, if_false] at hr
  obtain ⟨⟨d1, e1⟩, hs⟩ : ∃ x, SyncF d file = x := ⟨_, rfl⟩
  rw [hs] at hr
  have C2 := Lib.hid (fun W Rs (h : Sep w0 W (diskR B d :: Rs)) => Sync_sep h file (d1, e1) hs)
  subst hr
  obtain ⟨zJ, kJ, fJ⟩ := HP.out.loc
  simp only [jourX] at kJ
  clear hs
  go_enter Tryz.func83, Tryz.ntmps83
  go_upto_region 3 with (fail)
  go_still_tail 8, (by kernel_rfl)
  change wpList _ _ _ _ _ w.drew
  replace HP := Lib.hid HP.out.drew
  clear zJ kJ fJ
  generalize w.drew = W at *
  go_wp2_with (fail)
  ((with_reducible refine (C2.out _ _ HP.out.r3).mono ?_); rintro _ w2 ⟨rfl, h2⟩)
  replace HP := Lib.hid h2.l3
  clear h2 C2
  obtain ⟨zJ, kJ, fJ⟩ := HP.out.loc
  simp only [jourX] at kJ
  by_cases he : e1 = 0
  · subst he
    go_wp2_with (fail)
    go_ret
    exact ⟨rfl, Sep.jour_join (A := A) (c := c) (n := recs.length) (xs := recs.map strC) (HP.out.set_ 4 (.bool false)) (by simp [jourX]) rfl rfl⟩
  · have hb : (e1 == 0) = false := by rw [beq_eq_false_iff_ne]; exact he
    have hn : (e1 != 0) = true := by rw [bne_iff_ne]; exact he
    have hde : decide (e1 ≠ 0) = true := decide_eq_true he
    have HDE := Lib.hid hde
    clear he hde
    go_wp2_with (fail)
    go_ret
    exact ⟨rfl, Sep.jour_join (A := A) (c := c) (n := recs.length) (xs := recs.map strC) (HP.out.set_ 4 (.bool true)) (by simp [jourX, HDE.out]) rfl rfl⟩
end
end Go.Proofs.YtjncmlglhegnaaaGreatDoor
