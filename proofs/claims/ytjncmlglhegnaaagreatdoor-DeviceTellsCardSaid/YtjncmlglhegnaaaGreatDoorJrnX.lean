/- the reference's disk as a thing apart from others (Sep); its methods by contract. -/
/- kerbsideref03: a journal of the reference as a thing apart from others; Open, Append, Sync, walked. -/
import Derived.Test.YtjncmlglhegnaaaGreatDoorDiskQ
import Derived.Test.YtjncmlglhegnaaaGreatDoorRefK
import Derived.Test.YtjncmlglhegnaaaGreatDoorJrnW
import Derived.Test.YtjncmlglhegnaaaGreatDoorOrdL
import Derived.StillTailTactics
import Derived.Deep.DeepCutAuto
import Derived.Deep.RegionHeld3
namespace Go.Proofs.YtjncmlglhegnaaaGreatDoor
open Go.RowKit

theorem RefAt.ofBlocks {w w' : World} {F : Nat → Prop} {B : Nat} {r : DV} {FA : Option Addr} {cf : Nat} {Q : Option Addr} {cq : Nat} {K : Option Addr} {ck : Nat} (h : RefAt w F B r FA cf Q cq K ck) (hz : w.heap.size ≤ w'.heap.size) (hb : ∀ k, F k → w'.heap[k]? = w.heap[k]?) : RefAt w' F B r FA cf Q cq K ck :=
  ⟨h.loc.ofBlock hz (hb B h.fB), h.files.ofBlock hz (fun hne ad he => hb _ (h.ff (fun e => hne (by rw [e]; rfl)) ad he).1), h.queue.ofBlock (fun b hq => hb b (h.fq b (by rw [← slice_block Q r.queue.length cq]; exact hq))),
    h.keep.ofBlock hz (fun hne ad he => hb _ (h.fk (fun e => hne (by rw [e]; rfl)) ad he).1), h.fB, h.fq, h.ff, h.fk, h.nq, fun b hf => Nat.lt_of_lt_of_le (h.lt b hf) hz⟩
/-- a reference's disk -/
def refR (C : Nat) (r : DV) : Res where
  P := fun w F => ROk r ∧ Ref w F C r
  lt := fun w F ⟨_, _, _, _, _, _, _, h⟩ k hk => h.lt k hk
  keep := fun w w' F ⟨hok, FA, cf, Q, cq, K, ck, h⟩ hz hb => ⟨hok, FA, cf, Q, cq, K, ck, h.ofBlocks hz hb⟩
section
variable {w0 w w' : World} {Rs : List Res} {C : Nat} {r r' : DV}
theorem Sep.ref_ok (h : Sep w0 w (refR C r :: Rs)) : ROk r := by
  obtain ⟨F, h1, _⟩ := h.get
  exact h1.1
/-- a call that works on the reference's disk -/
theorem Sep.ref {P : Program} {fn : FuncId} {args : Array Value} {E : Ending} (h : Sep w0 w (refR C r :: Rs)) (hok : ROk r')
    (hc : ∀ G FA cf Q cq K ck, RefAt w G C r FA cf Q cq K ck → (∀ k, G k → w0.heap.size ≤ k) → Calls P fn args w fun e w' => e = E ∧ RefTo G w C r' w') :
    Calls P fn args w fun e w' => e = E ∧ Sep w0 w' (refR C r' :: Rs) := by
  refine (Sep.call (ι := Unit) (Q := fun e _ => e = E) (R' := fun _ => refR C r') h fun F hF h0 => ?_).mono fun e w' ⟨_, h1, h2⟩ => ⟨h1, h2⟩
  obtain ⟨_, FA, cf, Q, cq, K, ck, hD⟩ := hF
  exact (hc F FA cf Q cq K ck hD h0).mono fun e w' ⟨he, F', hR, hE⟩ => ⟨(), he, F', ⟨hok, hR⟩, hE.sup, hE.keeps⟩
/-- a call that only reads it -/
theorem Sep.refRead {P : Program} {fn : FuncId} {args : Array Value} {E : Ending} (h : Sep w0 w (refR C r :: Rs)) (hc : ∀ G FA cf Q cq K ck, RefAt w G C r FA cf Q cq K ck → Calls P fn args w fun e w' => e = E ∧ Below w.heap.size w w') :
    Calls P fn args w fun e w' => e = E ∧ Sep w0 w' (refR C r :: Rs) := by
  obtain ⟨F, ⟨_, FA, cf, Q, cq, K, ck, hD⟩, _⟩ := h.get
  exact (hc F FA cf Q cq K ck hD).mono fun e w' ⟨he, hb⟩ => ⟨he, h.below hb⟩
theorem NewR_sep (h : Sep w0 w Rs) : Calls Tryz.prog 16 #[] w fun e w' => ∃ C, e = .returned (.pointer (some ⟨C, 0, none⟩)) ∧ Sep w0 w' (refR C newD :: Rs) :=
  (New_ref w).mono fun e w' ⟨C, he, hR, hb⟩ => ⟨C, he, h.add hb ⟨ROk.new, hR⟩ fun k hk => hk.1⟩
theorem WriteR_sep (h : Sep w0 w (refR C r :: Rs)) (f at_ : Int) (s : List UInt8) (hat : -9223372036854775808 ≤ at_ ∧ at_ ≤ 9223372036854775807) (hs : s.length ≤ 140737488351232) (x : DV × Int) (hr : WriteR r f at_ s = x) :
    Calls Tryz.prog 176 #[.pointer (some ⟨C, 0, none⟩), .int .i64 f, .int .i64 at_, .string ⟨s.toArray⟩] w fun e w' => e = .returned (.int .i64 x.2) ∧ Sep w0 w' (refR C x.1 :: Rs) := by
  subst hr
  exact h.ref (h.ref_ok.Write _ _ _) fun F FA cf Q cq K ck hd _ => Write_ref hd h.ref_ok f at_ s hs hat
theorem SyncR_sep (h : Sep w0 w (refR C r :: Rs)) (f : Int) (x : DV × Int) (hr : SyncR r f = x) :
    Calls Tryz.prog 112 #[.pointer (some ⟨C, 0, none⟩), .int .i64 f] w fun e w' => e = .returned (.int .i64 x.2) ∧ Sep w0 w' (refR C x.1 :: Rs) := by
  subst hr
  exact h.ref (h.ref_ok.Sync _) fun F FA cf Q cq K ck hd _ => Sync_ref hd h.ref_ok f
theorem TruncR_sep (h : Sep w0 w (refR C r :: Rs)) (f n : Int) (x : DV × Int) (hr : TruncR r f n = x) :
    Calls Tryz.prog 117 #[.pointer (some ⟨C, 0, none⟩), .int .i64 f, .int .i64 n] w fun e w' => e = .returned (.int .i64 x.2) ∧ Sep w0 w' (refR C x.1 :: Rs) := by
  subst hr
  exact h.ref (h.ref_ok.Trunc _ _) fun F FA cf Q cq K ck hd _ => Trunc_ref hd h.ref_ok f n
theorem ReadR_sep (h : Sep w0 w (refR C r :: Rs)) (f at_ n : Int) (x : List UInt8 × Int) (hr : ReadF r f at_ n = x) :
    Calls Tryz.prog 113 #[.pointer (some ⟨C, 0, none⟩), .int .i64 f, .int .i64 at_, .int .i64 n] w fun e w' => e = .returned (.tuple #[.string ⟨x.1.toArray⟩, .int .i64 x.2]) ∧ Sep w0 w' (refR C r :: Rs) :=
  h.refRead fun F FA cf Q cq K ck hd => Read_ref hd h.ref_ok f at_ n x hr
theorem SizeR_sep (h : Sep w0 w (refR C r :: Rs)) (f : Int) (x : Int) (hr : ((r.file f).now.length : Int) = x) :
    Calls Tryz.prog 114 #[.pointer (some ⟨C, 0, none⟩), .int .i64 f] w fun e w' => e = .returned (.int .i64 x) ∧ Sep w0 w' (refR C r :: Rs) :=
  h.refRead fun F FA cf Q cq K ck hd => Size_ref hd h.ref_ok.few f x hr.symm
/-- what came in lies in no block of the disk's -/
theorem Sep.ref_far {keep : List Int} {A : Option Addr} {F : Nat → Prop} (hs : Sl w0 1 A keep.length (keep.map fun k => [.int .i64 k])) (h0 : ∀ k, F k → w0.heap.size ≤ k) : keep ≠ [] → ∀ ad, A = some ad → ¬ F ad.block := fun hne ad he hf => by
  have h1 := h0 _ hf
  obtain ⟨x, hx⟩ : ∃ x, keep[0]? = some x := ⟨_, List.getElem?_eq_getElem (List.length_pos_iff.2 hne)⟩
  obtain ⟨b, o, hA, hb, _⟩ := hs.2 0 [.int .i64 x] (by rw [List.getElem?_map, hx]; rfl)
  rw [hA] at he
  injection he with he
  rw [← he] at h1
  exact absurd hb (Nat.not_lt.2 h1)
theorem CrashR_sep (h : Sep w0 w (refR C r :: Rs)) (keep : List Int) (A : Option Addr) (c : Nat) (hs : Sl w0 1 A keep.length (keep.map fun k => [.int .i64 k])) (hkl : keep.length ≤ 5000000) (r' : DV) (hr : crashR r keep = r') :
    Calls Tryz.prog 24 #[.pointer (some ⟨C, 0, none⟩), .slice A keep.length c] w fun e w' => e = .returned (.tuple #[]) ∧ Sep w0 w' (refR C r' :: Rs) := by
  subst hr
  exact h.ref (h.ref_ok.crash _) fun F FA cf Q cq K ck hd h0 => Crash_ref hd h.ref_ok keep keep.length rfl A c hkl fun _ _ _ _ _ _ _ _ _ hE => (hs.below h.base).keeps hE.keeps (fun hne => Sep.ref_far hs h0 (fun e => hne (by rw [e]; rfl)))
theorem ArmR_sep (h : Sep w0 w (refR C r :: Rs)) (n : Int) (hn : n ≤ 9223372036854775807) (keep : List Int) (A : Option Addr) (c : Nat) (hs : Sl w0 1 A keep.length (keep.map fun k => [.int .i64 k])) (hk : keep.length ≤ 60) (r' : DV) (hr : ArmF r n keep = r') :
    Calls Tryz.prog 22 #[.pointer (some ⟨C, 0, none⟩), .int .i64 n, .slice A keep.length c] w fun e w' => e = .returned (.tuple #[]) ∧ Sep w0 w' (refR C r' :: Rs) := by
  subst hr
  exact h.ref ⟨h.ref_ok.ok.Arm n hn keep (by omega), h.ref_ok.rng⟩ fun F FA cf Q cq K ck hd h0 => Arm_ref hd n keep A c (hs.below h.base) hk (Sep.ref_far hs h0)
theorem StartR_sep (h : Sep w0 w (refR C r :: Rs)) (r' : DV) (hr : StartF r = r') :
    Calls Tryz.prog 26 #[.pointer (some ⟨C, 0, none⟩)] w fun e w' => e = .returned (.tuple #[]) ∧ Sep w0 w' (refR C r' :: Rs) := by
  subst hr
  exact h.ref ⟨h.ref_ok.ok.Start, h.ref_ok.rng⟩ fun F FA cf Q cq K ck hd _ => Start_ref hd
theorem LoseR_sep (h : Sep w0 w (refR C r :: Rs)) (n : Int) (hn : n ≤ 9223372036854775807) (r' : DV) (hr : LoseF r n = r') :
    Calls Tryz.prog 20 #[.pointer (some ⟨C, 0, none⟩), .int .i64 n] w fun e w' => e = .returned (.tuple #[]) ∧ Sep w0 w' (refR C r' :: Rs) := by
  subst hr
  exact h.ref ⟨h.ref_ok.ok.Lose n hn, h.ref_ok.rng⟩ fun F FA cf Q cq K ck hd _ => Lose_ref hd n
end
end Go.Proofs.YtjncmlglhegnaaaGreatDoor
namespace Go.Proofs.YtjncmlglhegnaaaGreatDoor
open Go.RowKit Go.Sort Go.Lib

def jrefX (C : Nat) (j : JR) (A : Option Addr) (c : Nat) : Array Value := #[.pointer (some ⟨C, 0, none⟩), .int .i64 j.file, .slice A j.recs.length c, .bool j.bad]
/-- a journal on the reference's disk of block C -/
def jrefR (C J : Nat) (j : JR) : Res where
  P := fun w F => ∃ A c, (Loc w J (jrefX C j A c) ∧ Own w 0 9 1 (.slice A j.recs.length c) j.recs.length (j.recs.map strC)) ∧ (Value.slice A j.recs.length c).ownBlock ≠ some J ∧ ∀ k, F k ↔ k = J ∨ (Value.slice A j.recs.length c).ownBlock = some k
  lt := fun w F ⟨A, c, h, _, hF⟩ k hk => by
    rcases (hF k).1 hk with h1 | h1
    · rw [h1]; exact h.1.lt
    · exact (h.2.lt k h1).2
  keep := fun w w' F ⟨A, c, h, hne, hF⟩ hz hb => ⟨A, c, ⟨h.1.atBlock hz (hb J ((hF J).2 (.inl rfl))), h.2.ofBlock (fun b hq => hb b ((hF b).2 (.inr hq)))⟩, hne, hF⟩
section
variable {w0 w w' : World} {Rs : List Res} {C J : Nat} {r r' : DV} {j : JR}
theorem Sep.jref_part (h : Sep w0 w (jrefR C J j :: Rs)) : ∃ A c, Sep w0 w (boxR J (jrefX C j A c) :: ownR 9 1 (.slice A j.recs.length c) j.recs.length (j.recs.map strC) :: Rs) := by
  obtain ⟨⟨F, ⟨A, c, h1, hne, hF⟩, hG, hr⟩, hb⟩ := h
  exact ⟨A, c, Sep.part (R := jrefR C J j) ⟨⟨F, ⟨A, c, h1, hne, hF⟩, hG, hr⟩, hb⟩ fun F' hF' => by
    obtain ⟨A', c', h1', hne', hF'⟩ := hF'
    have e : Value.slice A' j.recs.length c' = .slice A j.recs.length c := by
      have e1 := h1.1.cell 2
      have e2 := h1'.1.cell 2
      rw [e1] at e2
      have e3 : Value.slice A j.recs.length c = .slice A' j.recs.length c' := by simpa [jrefX] using e2
      exact e3.symm
    injection e with ea _ ec
    subst ea ec
    exact ⟨fun k => k = J, fun k => (Value.slice A' j.recs.length c').ownBlock = some k, ⟨h1'.1, fun _ => Iff.rfl⟩, ⟨h1'.2, fun _ => Iff.rfl⟩, fun k hk => ⟨(hF' k).2 (.inl hk), fun hk2 => hne' (by rw [hk2, hk])⟩, fun k hk => (hF' k).2 (.inr hk)⟩⟩
theorem Sep.jref_join {A : Option Addr} {c n : Nat} {X : Array Value} {xs : List (List Value)} (h : Sep w0 w (boxR J X :: ownR 9 1 (.slice A n c) n xs :: Rs)) (hX : X = jrefX C j A c) (hn : n = j.recs.length) (hx : xs = j.recs.map strC) : Sep w0 w (jrefR C J j :: Rs) := by
  subst hX hn hx
  refine h.join fun F1 F2 h1 h2 hd => ⟨A, c, ⟨h1.1, h2.1⟩, fun e => hd J ((h1.2 J).2 rfl) ((h2.2 J).2 e), fun k => ?_⟩
  show F1 k ∨ F2 k ↔ _
  rw [h1.2 k, h2.2 k]
theorem syncR_up {r : DV} {f : Int} (h : (SyncR r f).2 = 0) : mayF (SyncR r f).1 f = 0 := by
  unfold SyncR at h ⊢
  dsimp only at h ⊢
  by_cases hm : mayF (comesR r 0 0 []) f = 0
  · rw [if_neg (by simp [hm])] at h ⊢
    split at h
    · cases h
    · rename_i hl
      rw [if_neg hl]
      exact hm
  · rw [if_pos hm] at h
    exact absurd h hm
/-- what Open leaves -/
def OpenPostR (w0 : World) (Rs : List Res) (C : Nat) : DV × Option JR × Int → Ending → World → Prop
  | (r, some j, er), e, w' => ∃ J, e = .returned (.tuple #[.pointer (some ⟨J, 0, none⟩), .int .i64 er]) ∧ Sep w0 w' (jrefR C J j :: refR C r :: Rs)
  | (r, none, er), e, w' => e = .returned (.tuple #[.pointer none, .int .i64 er]) ∧ Sep w0 w' (refR C r :: Rs)
set_option maxRecDepth 100000 in
set_option maxHeartbeats 8000000 in
theorem OpenRJ_sep (h : Sep w0 w (refR C r :: Rs)) (f : Int) (x : DV × Option JR × Int) (hr : openR r f = x) :
    Calls Tryz.prog 68 #[.pointer (some ⟨C, 0, none⟩), .int .i64 f] w (OpenPostR w0 Rs C x) := by
  have HP := Lib.hid h
  clear h
  unfold openR at hr
  by_cases h1 : f < 0
  · rw [if_pos (.inl h1)] at hr
    subst hr
    go_enter Tryz.func68, Tryz.ntmps68
    go_wp2_with (fail)
    go_ret2
    exact ⟨rfl, HP.out⟩
  have h1i : 0 ≤ f := by omega
  by_cases h2 : 15 < f
  · rw [if_pos (.inr h2)] at hr
    subst hr
    clear h1
    go_enter Tryz.func68, Tryz.ntmps68
    go_wp2_with (fail)
    go_ret2
    exact ⟨rfl, HP.out⟩
  have h2i : f ≤ 15 := by omega
  rw [if_neg (by omega)] at hr
  obtain ⟨⟨d1, e1⟩, hs⟩ : ∃ x, SyncR r f = x := ⟨_, rfl⟩
  rw [hs] at hr
  have C1 := Lib.hid (fun W (h : Sep w0 W (refR C r :: Rs)) => SyncR_sep h f (d1, e1) hs)
  clear h1 h2
  by_cases h3 : e1 = 0
  case neg =>
    rw [if_pos h3] at hr
    subst hr
    have hb : (e1 == 0) = false := by rw [beq_eq_false_iff_ne]; exact h3
    have hn : (e1 != 0) = true := by rw [bne_iff_ne]; exact h3
    clear hs h3
    go_enter Tryz.func68, Tryz.ntmps68
    go_wp2_with (fail)
    ((with_reducible refine (C1.out _ HP.out).mono ?_); rintro _ w1 ⟨rfl, h1⟩)
    have HP1 := Lib.hid h1
    clear h1
    go_wp2_with (fail)
    go_ret2
    exact ⟨rfl, HP1.out⟩
  subst h3
  rw [if_neg (by simp)] at hr
  have hup : mayF d1 f = 0 := by have h := syncR_up (r := r) (f := f) (by rw [hs]); rwa [hs] at h
  obtain ⟨s, hsn⟩ : ∃ s, (d1.file f).now = s := ⟨_, rfl⟩
  dsimp only at hr
  rw [hsn] at hr
  have hrd : ReadF d1 f 0 (s.length : Int) = (s, 0) := by
    rw [ReadF_ok hup 0 _ (by omega) (by omega), hsn]
    simp
  have C2 := Lib.hid (fun W (h : Sep w0 W (refR C d1 :: Rs)) => SizeR_sep h f (s.length : Int) (by rw [hsn]))
  have C3 := Lib.hid (fun W (h : Sep w0 W (refR C d1 :: Rs)) => ReadR_sep h f 0 (s.length : Int) (s, 0) hrd)
  have HFL := Lib.hid (fun W (h : Sep w0 W (refR C d1 :: Rs)) => show s.length ≤ 16777216 by have := (h.ref_ok.file f).1; rw [hsn] at this; exact this)
  obtain ⟨l, hl⟩ : ∃ l, recsF s = l := ⟨_, rfl⟩
  obtain ⟨F, hF⟩ : ∃ F, formsB l = F := ⟨_, rfl⟩
  have C4 := Lib.hid (fun W (h : s.length ≤ 16777216) => RRecords_any W s h l hl)
  have C6 := Lib.hid (fun W A c (h : s.length ≤ 16777216) (hs : Sl W 1 A l.length (l.map strC)) => RForms_any W A l.length c l hs (by have h1 := (recs_prefix s).length_le; rw [hl] at h1; omega) F hF)
  rw [hl, hF] at hr
  have hsz := str_size s
  have hfz := str_size F
  have HR := Lib.hid hr
  clear hs hsn hrd hl hF hr
  go_enter Tryz.func68, Tryz.ntmps68
  go_wp2_with (fail)
  ((with_reducible refine (C1.out _ HP.out).mono ?_); rintro _ w1 ⟨rfl, h1⟩)
  replace HP := Lib.hid h1
  clear h1 C1
  go_wp2_with (fail)
  ((with_reducible refine (C2.out _ HP.out).mono ?_); rintro _ w2 ⟨rfl, h2⟩)
  replace HP := Lib.hid h2
  clear h2
  go_wp2_with (fail)
  ((with_reducible refine (C3.out _ HP.out).mono ?_); rintro _ w3 ⟨rfl, h3⟩)
  replace HP := Lib.hid h3
  clear h3
  have HSL := Lib.hid (HFL.out _ HP.out)
  go_wp2_with (fail)
  ((with_reducible refine (C4.out _ HSL.out).mono ?_); rintro _ w4 ⟨A, c, rfl, ho, hb⟩)
  replace HP := Lib.hid (HP.out.ownNew hb ho)
  have HPX : Hid (Sep w0 (w4.alloc (.cells #[.pointer (some ⟨C, 0, none⟩), .int .i64 f, .slice A l.length c, .bool false] 114)) (boxR w4.heap.size #[.pointer (some ⟨C, 0, none⟩), .int .i64 f, .slice A l.length c, .bool false] :: ownR 9 1 (.slice A l.length c) l.length (l.map strC) :: refR C d1 :: Rs)) := Lib.hid (HP.out.box _ _)
  clear ho hb C2 C3 C4
  go_wp2_with (fail)
  ((with_reducible refine (C6.out _ A c HSL.out (HP.out.own.sl'.below (below_alloc _ _))).mono ?_); rintro _ w5 ⟨rfl, hb5⟩)
  replace HPX := Lib.hid (HPX.out.below hb5)
  clear hb5 C6 HP
  by_cases h4 : F.length < s.length
  · have h4i : (F.length : Int) < (s.length : Int) := by omega
    have hr := HR.out
    rw [if_pos h4] at hr
    obtain ⟨⟨d2, e2⟩, ht⟩ : ∃ x, TruncR d1 f (F.length : Int) = x := ⟨_, rfl⟩
    rw [ht] at hr
    have C5 := Lib.hid (fun W Rs (h : Sep w0 W (refR C d1 :: Rs)) => TruncR_sep h f (F.length : Int) (d2, e2) ht)
    by_cases h5 : e2 = 0
    · subst h5
      rw [if_neg (by simp)] at hr
      subst hr
      clear ht h4 HR
      go_wp2_with (fail)
      ((with_reducible refine (C5.out _ _ HPX.out.r3).mono ?_); rintro _ w6 ⟨rfl, h6⟩)
      replace HPX := Lib.hid h6.l3
      clear h6
      go_wp2_with (fail)
      go_ret2
      exact ⟨_, rfl, Sep.jref_join (A := A) (c := c) (n := l.length) (xs := l.map strC) HPX.out rfl rfl rfl⟩
    · rw [if_pos h5] at hr
      subst hr
      have hb : (e2 == 0) = false := by rw [beq_eq_false_iff_ne]; exact h5
      have hn : (e2 != 0) = true := by rw [bne_iff_ne]; exact h5
      clear ht h4 HR h5
      go_wp2_with (fail)
      ((with_reducible refine (C5.out _ _ HPX.out.r3).mono ?_); rintro _ w6 ⟨rfl, h6⟩)
      replace HPX := Lib.hid h6.l3
      clear h6
      go_wp2_with (fail)
      go_ret2
      exact ⟨rfl, HPX.out.r3.drop2.drop2⟩
  · have h4i : (s.length : Int) ≤ (F.length : Int) := by omega
    have hr := HR.out
    rw [if_neg h4] at hr
    subst hr
    clear h4 HR
    go_wp2_with (fail)
    go_ret2
    exact ⟨_, rfl, Sep.jref_join (A := A) (c := c) (n := l.length) (xs := l.map strC) HPX.out rfl rfl rfl⟩
set_option maxRecDepth 100000 in
set_option maxHeartbeats 8000000 in
theorem SyncRJ_sep (h : Sep w0 w (jrefR C J j :: refR C r :: Rs)) (x : DV × JR × Int) (hr : syncRJ r j = x) :
    Calls Tryz.prog 81 #[.pointer (some ⟨J, 0, none⟩)] w fun e w' => e = .returned (.int .i64 x.2.2) ∧ Sep w0 w' (jrefR C J x.2.1 :: refR C x.1 :: Rs) := by
  obtain ⟨A, c, hp⟩ := h.jref_part
  have HP := Lib.hid hp
  unfold syncRJ at hr
  obtain ⟨file, recs, bad⟩ := j
  simp only at hr
  clear h hp
  cases bad
  case true =>
    simp only [if_true] at hr
    subst hr
    obtain ⟨zJ, kJ, fJ⟩ := HP.out.loc
    simp only [jrefX] at kJ
    go_enter Tryz.func81, Tryz.ntmps81
    go_wp2_with (fail)
    go_ret
    exact ⟨rfl, HP.out.jref_join rfl rfl rfl⟩
  simp only [Bool.false_eq_true, if_false] at hr
  obtain ⟨⟨d1, e1⟩, hs⟩ : ∃ x, SyncR r file = x := ⟨_, rfl⟩
  rw [hs] at hr
  have C2 := Lib.hid (fun W Rs (h : Sep w0 W (refR C r :: Rs)) => SyncR_sep h file (d1, e1) hs)
  subst hr
  obtain ⟨zJ, kJ, fJ⟩ := HP.out.loc
  simp only [jrefX] at kJ
  clear hs
  go_enter Tryz.func81, Tryz.ntmps81
  go_upto_region 3 with (fail)
  go_still_tail 8, (by kernel_rfl)
  change wpList _ _ _ _ _ w.drew
  replace HP := Lib.hid HP.out.drew
  clear zJ kJ fJ
  generalize w.drew = W at *
  go_wp2_with (fail)
  ((with_reducible refine (C2.out _ _ HP.out.r3).mono ?_); rintro _ w2 ⟨rfl, h2⟩)
  replace HP := Lib.hid h2.l3
  clear h2 C2
  obtain ⟨zJ, kJ, fJ⟩ := HP.out.loc
  simp only [jrefX] at kJ
  by_cases he : e1 = 0
  · subst he
    go_wp2_with (fail)
    go_ret
    exact ⟨rfl, Sep.jref_join (A := A) (c := c) (n := recs.length) (xs := recs.map strC) (HP.out.set_ 3 (.bool false)) (by simp [jrefX]) rfl rfl⟩
  · have hb : (e1 == 0) = false := by rw [beq_eq_false_iff_ne]; exact he
    have hn : (e1 != 0) = true := by rw [bne_iff_ne]; exact he
    have hde : decide (e1 ≠ 0) = true := decide_eq_true he
    have HDE := Lib.hid hde
    clear he hde
    go_wp2_with (fail)
    go_ret
    exact ⟨rfl, Sep.jref_join (A := A) (c := c) (n := recs.length) (xs := recs.map strC) (HP.out.set_ 3 (.bool true)) (by simp [jrefX, HDE.out]) rfl rfl⟩
set_option maxRecDepth 100000 in
set_option maxHeartbeats 16000000 in
theorem AppendRJ_sep (h : Sep w0 w (jrefR C J j :: refR C r :: Rs)) (hjl : (formsB j.recs).length ≤ 1099511627776) (t : List UInt8) (ht : t.length ≤ 1099511627776) (x : DV × JR × Int) (hr : appendR r j t = x) :
    Calls Tryz.prog 131 #[.pointer (some ⟨J, 0, none⟩), .string ⟨t.toArray⟩] w fun e w' => e = .returned (.int .i64 x.2.2) ∧ Sep w0 w' (jrefR C J x.2.1 :: refR C x.1 :: Rs) := by
  obtain ⟨f, hf⟩ : ∃ f, formB t = f := ⟨_, rfl⟩
  have hfl : f.length ≤ t.length + 60 := by
    rw [← hf]
    have h1 := encT_len (s := t) (by omega)
    have h2 := sumF_rng t
    have h3 : (encN (sumF t)).length ≤ 21 := by unfold encN; rw [if_neg (by omega)]; exact encI_len ⟨by omega, by omega⟩
    unfold formB
    rw [List.length_append]
    omega
  have C1 := Lib.hid (fun W => RForm_any W t ht f hf)
  obtain ⟨A, c, hp⟩ := h.jref_part
  have HP := Lib.hid hp
  unfold appendR at hr
  rw [hf] at hr
  have htz := str_size t
  have hfz := str_size f
  obtain ⟨file, recs, bad⟩ := j
  simp only at hr hjl
  obtain ⟨F, hF⟩ : ∃ F, formsB recs = F := ⟨_, rfl⟩
  rw [hF] at hr hjl
  have C6 := Lib.hid (fun W A c (hs : Sl W 1 A recs.length (recs.map strC)) => RForms_any W A recs.length c recs hs (by rw [hF]; exact hjl) F hF)
  have HRL : Hid (recs.length ≤ 1099511627776) := Lib.hid (by have := formsB_len recs; rw [hF] at this; omega)
  have hFz := str_size F
  have HJL := Lib.hid hjl
  have HTL := Lib.hid ht
  have HFL := Lib.hid hfl
  clear h hf hF hfl hp hjl ht
  cases bad
  case true =>
    simp only [if_true] at hr
    subst hr
    obtain ⟨zJ, kJ, fJ⟩ := HP.out.loc
    simp only [jrefX] at kJ
    go_enter Tryz.func131, Tryz.ntmps131
    go_wp2_with (fail)
    go_ret
    exact ⟨rfl, HP.out.jref_join rfl rfl rfl⟩
  simp only [Bool.false_eq_true, if_false] at hr
  by_cases h1 : 20000 < t.length
  · rw [if_pos h1] at hr
    subst hr
    have h1i : 20000 < (t.length : Int) := by omega
    clear h1
    obtain ⟨zJ, kJ, fJ⟩ := HP.out.loc
    simp only [jrefX] at kJ
    go_enter Tryz.func131, Tryz.ntmps131
    go_wp2_with (fail)
    go_ret
    exact ⟨rfl, HP.out.jref_join rfl rfl rfl⟩
  rw [if_neg h1] at hr
  have h1i : (t.length : Int) ≤ 20000 := by omega
  have hws : IntKind.i64.wrap ((F.length : Int) + (f.length : Int)) = (F.length : Int) + (f.length : Int) := IntWalk.i64_in _ (by have := HJL.out; have := HFL.out; have := HTL.out; omega)
  obtain ⟨zJ, kJ, fJ⟩ := HP.out.loc
  simp only [jrefX] at kJ
  have C7 := Lib.hid (C6.out w A c HP.out.sw.own.sl')
  by_cases h2 : 1048576 < (F.length : Int) + (f.length : Int)
  · rw [if_pos (by omega)] at hr
    subst hr
    clear h1
    go_enter Tryz.func131, Tryz.ntmps131
    go_wp2_with (fail)
    ((with_reducible refine (C7.out).mono ?_); rintro _ w1 ⟨rfl, hb1⟩)
    replace HP := Lib.hid (HP.out.below hb1)
    clear hb1
    go_wp2_with (fail)
    ((with_reducible refine (C1.out _).mono ?_); rintro _ w2 ⟨rfl, hb2⟩)
    replace HP := Lib.hid (HP.out.below hb2)
    clear hb2
    go_wp2_with (fail)
    go_ret
    exact ⟨rfl, HP.out.jref_join rfl rfl rfl⟩
  rw [if_neg (by omega)] at hr
  have h2i : (F.length : Int) + (f.length : Int) ≤ 1048576 := by omega
  obtain ⟨⟨d1, e1⟩, hw⟩ : ∃ x, WriteR r file (F.length : Int) f = x := ⟨_, rfl⟩
  rw [hw] at hr
  have C2 := Lib.hid (fun W Rs (h : Sep w0 W (refR C r :: Rs)) => WriteR_sep h file (F.length : Int) f (by have := HJL.out; omega) (by have := HFL.out; have := HTL.out; omega) (d1, e1) hw)
  have HR := Lib.hid hr
  clear hr h1 h2 hw
  go_enter Tryz.func131, Tryz.ntmps131
  go_wp2_with (fail)
  ((with_reducible refine (C7.out).mono ?_); rintro _ w1 ⟨rfl, hb1⟩)
  replace HP := Lib.hid (HP.out.below hb1)
  clear hb1 zJ kJ fJ
  go_wp2_with (fail)
  ((with_reducible refine (C1.out _).mono ?_); rintro _ w2 ⟨rfl, hb2⟩)
  replace HP := Lib.hid (HP.out.below hb2)
  clear hb2
  obtain ⟨zJ, kJ, fJ⟩ := HP.out.loc
  simp only [jrefX] at kJ
  go_wp2_with (fail)
  have HSS : Hid (∀ W Rs, Sep w0 W (boxR J #[.pointer (some ⟨C, 0, none⟩), .int .i64 file, .slice A recs.length c, .bool false] :: Rs) → W.cell? ⟨J, 0, none⟩ = some (.pointer (some ⟨C, 0, none⟩)) ∧ W.cell? ⟨J, 1, none⟩ = some (.int .i64 file)) := Lib.hid (fun W Rs h => ⟨h.loc.cell 0, h.loc.cell 1⟩)
  clear zJ kJ fJ
  refine wpTill.startN 13 (S := fun W => W.cell? ⟨J, 0, none⟩ = some (.pointer (some ⟨C, 0, none⟩)) ∧ W.cell? ⟨J, 1, none⟩ = some (.int .i64 file)) (T := fun _ => True) (m := 99) rfl (by kernel_rfl) ?_
  replace HP := Lib.hid HP.out.drew
  generalize w2.drew = W2 at *
  have HS0 := Lib.hid (HSS.out _ _ HP.out)
  refine wpTill.take (i := 0) (v := ?_) (by rfl) rfl (by kernel_rfl) (by kernel_rfl) (by kernel_rfl) (by exact fun _ _ _ h => h) HS0.out (fun _ => trivial) (Or.inl ⟨by rfl, ?_⟩) ?_
  rotate_left
  · (intro w' hSw; (try dsimp only at hSw); go_simp; (try with_reducible rfl))
  (try simp only [Act.put, List.setIfInBounds_toArray, List.set_cons_zero, List.set_cons_succ, List.getElem_toArray, List.getElem_cons_zero, List.getElem_cons_succ])
  refine wpTill.take (i := 1) (v := ?_) (by rfl) rfl (by kernel_rfl) (by kernel_rfl) (by kernel_rfl) (by exact fun _ _ _ h => h) HS0.out (fun _ => trivial) (Or.inl ⟨by rfl, ?_⟩) ?_
  rotate_left
  · (intro w' hSw; (try dsimp only at hSw); go_simp; (try with_reducible rfl))
  (try simp only [Act.put, List.setIfInBounds_toArray, List.set_cons_zero, List.set_cons_succ, List.getElem_toArray, List.getElem_cons_zero, List.getElem_cons_succ])
  refine wpTill.take (i := 2) (v := ?_) (by rfl) rfl (by kernel_rfl) (by kernel_rfl) (by kernel_rfl) (by exact fun _ _ _ h => h) HS0.out (fun _ => trivial) (Or.inl ⟨by rfl, ?_⟩) ?_
  rotate_left
  · (intro w' hSw; (try dsimp only at hSw); go_simp; (try with_reducible rfl))
  (try simp only [Act.put, List.setIfInBounds_toArray, List.set_cons_zero, List.set_cons_succ, List.getElem_toArray, List.getElem_cons_zero, List.getElem_cons_succ])
  refine wpTill.take (i := 3) (v := ?_) (by rfl) rfl (by kernel_rfl) (by kernel_rfl) (by kernel_rfl) (by exact fun _ _ _ h => h) HS0.out (fun _ => trivial) (Or.inl ⟨by rfl, ?_⟩) ?_
  rotate_left
  · (intro w' hSw; (try dsimp only at hSw); go_simp; (try with_reducible rfl))
  (try simp only [Act.put, List.setIfInBounds_toArray, List.set_cons_zero, List.set_cons_succ, List.getElem_toArray, List.getElem_cons_zero, List.getElem_cons_succ])
  refine wpTill.take (i := 4) (v := ?_) (by rfl) rfl (by kernel_rfl) (by kernel_rfl) (by kernel_rfl) (by exact fun _ _ _ h => h) HS0.out (fun _ => trivial) (Or.inl ⟨by rfl, ?_⟩) ?_
  rotate_left
  · (intro w' hSw; (try dsimp only at hSw); go_simp; (try with_reducible rfl))
  (try simp only [Act.put, List.setIfInBounds_toArray, List.set_cons_zero, List.set_cons_succ, List.getElem_toArray, List.getElem_cons_zero, List.getElem_cons_succ])
  refine wpTill.take (i := 5) (v := ?_) (by rfl) rfl (by kernel_rfl) (by kernel_rfl) (by kernel_rfl) (by exact fun _ _ _ h => h) HS0.out (fun _ => trivial) (Or.inl ⟨by rfl, ?_⟩) ?_
  rotate_left
  · (intro w' hSw; (try dsimp only at hSw); go_simp; (try with_reducible rfl))
  (try simp only [Act.put, List.setIfInBounds_toArray, List.set_cons_zero, List.set_cons_succ, List.getElem_toArray, List.getElem_cons_zero, List.getElem_cons_succ])
  refine wpTill.take (i := 6) (v := ?_) (by rfl) rfl (by kernel_rfl) (by kernel_rfl) (by kernel_rfl) (by exact fun _ _ _ h => h) HS0.out (fun _ => trivial) (Or.inl ⟨by rfl, ?_⟩) ?_
  rotate_left
  · (intro w' hSw; (try dsimp only at hSw); go_simp; (try with_reducible rfl))
  (try simp only [Act.put, List.setIfInBounds_toArray, List.set_cons_zero, List.set_cons_succ, List.getElem_toArray, List.getElem_cons_zero, List.getElem_cons_succ])
  refine wpTill.take (i := 7) (v := ?_) (by rfl) rfl (by kernel_rfl) (by kernel_rfl) (by kernel_rfl) (by exact fun _ _ _ h => h) HS0.out (fun _ => trivial) (Or.inl ⟨by rfl, ?_⟩) ?_
  rotate_left
  · (intro w' hSw; (try dsimp only at hSw); go_simp; (try with_reducible rfl))
  (try simp only [Act.put, List.setIfInBounds_toArray, List.set_cons_zero, List.set_cons_succ, List.getElem_toArray, List.getElem_cons_zero, List.getElem_cons_succ])
  refine wpTill.take (i := 8) (v := ?_) (by rfl) rfl (by kernel_rfl) (by kernel_rfl) (by kernel_rfl) (by exact fun _ _ _ h => h) HS0.out (fun _ => trivial) (Or.inl ⟨by rfl, ?_⟩) ?_
  rotate_left
  · (intro w' hSw; (try dsimp only at hSw); go_simp; (try with_reducible rfl))
  (try simp only [Act.put, List.setIfInBounds_toArray, List.set_cons_zero, List.set_cons_succ, List.getElem_toArray, List.getElem_cons_zero, List.getElem_cons_succ])
  refine wpTill.take (i := 9) (v := ?_) (by rfl) rfl (by kernel_rfl) (by kernel_rfl) (by kernel_rfl) (by exact fun _ _ _ h => h) HS0.out (fun _ => trivial) (Or.inl ⟨by rfl, ?_⟩) ?_
  rotate_left
  · (intro w' hSw; (try dsimp only at hSw); go_simp; (try with_reducible rfl))
  (try simp only [Act.put, List.setIfInBounds_toArray, List.set_cons_zero, List.set_cons_succ, List.getElem_toArray, List.getElem_cons_zero, List.getElem_cons_succ])
  refine wpTill.step (i := 10) (by kernel_rfl) (by rfl) (fun K' hK => ?_)
  replace hK := Lib.hid hK
  go_simp
  go_at_call 166
  ((with_reducible refine (C1.out _).mono ?_); rintro _ w3 ⟨rfl, hb3⟩)
  replace HP := Lib.hid (HP.out.below hb3)
  have HS1 := Lib.hid (HSS.out _ _ HP.out)
  clear hb3
  refine hK.out _ _ HS1.out (fun _ => trivial) ?_
  clear hK K'
  (try simp only [Act.put, List.setIfInBounds_toArray, List.set_cons_zero, List.set_cons_succ, List.getElem_toArray, List.getElem_cons_zero, List.getElem_cons_succ])
  refine wpTill.step (i := 11) (by kernel_rfl) (by rfl) (fun K' hK => ?_)
  replace hK := Lib.hid hK
  go_simp
  go_at_call 176
  ((with_reducible refine (C2.out _ _ HP.out.r3).mono ?_); rintro _ w4 ⟨rfl, h4⟩)
  replace HP := Lib.hid h4.l3
  have HS2 := Lib.hid (HSS.out _ _ HP.out)
  clear h4
  refine hK.out _ _ HS2.out (fun _ => trivial) ?_
  clear hK K'
  (try simp only [Act.put, List.setIfInBounds_toArray, List.set_cons_zero, List.set_cons_succ, List.getElem_toArray, List.getElem_cons_zero, List.getElem_cons_succ])
  refine wpTill.take (i := 12) (v := ?_) (by rfl) rfl (by kernel_rfl) (by kernel_rfl) (by kernel_rfl) (by exact fun _ _ _ h => h) HS2.out (fun _ => trivial) (Or.inl ⟨by rfl, ?_⟩) ?_
  rotate_left
  · (intro w' hSw; (try dsimp only at hSw); go_simp; (try with_reducible rfl))
  (try simp only [Act.put, List.setIfInBounds_toArray, List.set_cons_zero, List.set_cons_succ, List.getElem_toArray, List.getElem_cons_zero, List.getElem_cons_succ])
  refine wpTill.stop (by kernel_rfl) ?_ _
  clear C1 C2 C6 C7 HSS HS0 HS1 HS2
  obtain ⟨zJ, kJ, fJ⟩ := HP.out.loc
  simp only [jrefX] at kJ
  by_cases he : e1 = 0
  case neg =>
    have hr := HR.out
    rw [if_pos he] at hr
    subst hr
    have hb : (e1 == 0) = false := by rw [beq_eq_false_iff_ne]; exact he
    have hn : (e1 != 0) = true := by rw [bne_iff_ne]; exact he
    clear HR he
    go_wp2_with (fail)
    go_ret
    exact ⟨rfl, Sep.jref_join (A := A) (c := c) (n := recs.length) (xs := recs.map strC) (HP.out.set_ 3 (.bool true)) rfl rfl rfl⟩
  subst he
  have hr := HR.out
  rw [if_neg (by simp)] at hr
  subst hr
  clear HR
  obtain ⟨i0, hi0, hi1, hi2, hi3⟩ := info_parts infoStr
  have HPB : Hid (Sep w0 (w4.alloc (.cells #[] 9)) (ownR 9 1 (.slice (some ⟨w4.heap.size, 0, none⟩) 0 0) 0 [] :: boxR J #[.pointer (some ⟨C, 0, none⟩), .int .i64 file, .slice A recs.length c, .bool false] :: ownR 9 1 (.slice A recs.length c) recs.length (recs.map strC) :: refR C d1 :: Rs)) := Lib.hid (HP.out.ownNew (below_alloc w4 _) (Own.empty rfl (Nat.le_refl _)))
  have HZ0 : Hid (w0.heap.size ≤ w4.heap.size) := Lib.hid HP.out.base.size
  go_wp2_with (first
    | (at_builtin; refine wpList_append_sl _ rfl (.tmp 45) (.tmp 49) _ rfl w0.heap.size 9 i0 _ 1 16 Tryz.underlying104 hi0 hi1 hi2 hi3 rfl (by omega) (.slice (some ⟨w4.heap.size, 0, none⟩) 0 0) 0 [] rfl HPB.out.own A recs.length c (recs.map strC) rfl HPB.out.r3.own.sl' (strs_len recs) (strs_one recs) (by have := HRL.out; simp only [maxLen]; omega) (by have := HRL.out; omega) (by have := HZ0.out; simp only [World.size_alloc]; omega) ?_
       intro A5 c5 w5 hown hg hat
       have hx := HPB.out.grown hown hg hat
       rw [Nat.zero_add, List.nil_append] at hx
       have HX := Lib.hid hx
       have HZ5 : Hid (w0.heap.size ≤ w5.heap.size) := Lib.hid hx.base.size
       obtain ⟨zJ5, kJ5, fJ5⟩ := hx.sw.loc
       clear hown hg hat hx)
    | (at_builtin; refine wpList_append_sl _ rfl (.tmp 50) (.tmp 52) _ rfl w0.heap.size 9 i0 _ 1 16 Tryz.underlying104 hi0 hi1 hi2 hi3 rfl (by omega) (.slice A5 recs.length c5) recs.length (recs.map strC) rfl ((HX.out.alloc (.cells #[.string ⟨t.toArray⟩] 9)).own) (some ⟨w5.heap.size, 0, none⟩) 1 1 [[.string ⟨t.toArray⟩]] rfl (Sl.new_ _ _ _) (by simp) (by simp [Value.oneCell']) (by have := HRL.out; simp only [maxLen]; omega) (by have := HRL.out; omega) (by have := HZ5.out; simp only [World.size_alloc]; omega) ?_
       intro A6 c6 w6 hown hg hat
       have hx := (HX.out.alloc (.cells #[.string ⟨t.toArray⟩] 9)).grown hown hg hat
       have HY := Lib.hid hx
       obtain ⟨zJ6, kJ6, fJ6⟩ := hx.sw.loc
       clear hown hg hat hx))
  go_ret
  have hm : recs.map strC ++ [[.string ⟨t.toArray⟩]] = (recs ++ [t]).map strC := by rw [List.map_append]; rfl
  have hy := HY.out
  rw [hm] at hy
  exact ⟨rfl, Sep.jref_join (A := A6) (c := c6) (n := recs.length + 1) (xs := (recs ++ [t]).map strC) ((hy.sw.set_ 2 (.slice A6 (recs.length + 1) c6)).r3.drop) (by simp [jrefX]) (by simp) rfl⟩
end
end Go.Proofs.YtjncmlglhegnaaaGreatDoor
