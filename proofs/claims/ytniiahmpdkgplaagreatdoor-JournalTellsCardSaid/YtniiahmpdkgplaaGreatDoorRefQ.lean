/- the reference's disk as a thing apart from others (Sep); its methods by contract. -/
import Derived.Test.YtniiahmpdkgplaaGreatDoorJrnD
import Derived.Test.YtniiahmpdkgplaaGreatDoorRefK
namespace Go.Proofs.YtniiahmpdkgplaaGreatDoor
open Go.RowKit

theorem RefAt.ofBlocks {w w' : World} {F : Nat → Prop} {B : Nat} {r : DV} {FA : Option Addr} {cf : Nat} {Q : Option Addr} {cq : Nat} {K : Option Addr} {ck : Nat} (h : RefAt w F B r FA cf Q cq K ck) (hz : w.heap.size ≤ w'.heap.size) (hb : ∀ k, F k → w'.heap[k]? = w.heap[k]?) : RefAt w' F B r FA cf Q cq K ck :=
  ⟨h.loc.ofBlock hz (hb B h.fB), h.files.ofBlock hz (fun hne ad he => hb _ (h.ff (fun e => hne (by rw [e]; rfl)) ad he).1), h.queue.ofBlock (fun b hq => hb b (h.fq b (by rw [← slice_block Q r.queue.length cq]; exact hq))),
    h.keep.ofBlock hz (fun hne ad he => hb _ (h.fk (fun e => hne (by rw [e]; rfl)) ad he).1), h.fB, h.fq, h.ff, h.fk, h.nq, fun b hf => Nat.lt_of_lt_of_le (h.lt b hf) hz⟩
/-- a reference's disk -/
def refR (C : Nat) (r : DV) : Res where
  P := fun w F => ROk r ∧ Ref w F C r
  lt := fun w F ⟨_, _, _, _, _, _, _, h⟩ k hk => h.lt k hk
  keep := fun w w' F ⟨hok, FA, cf, Q, cq, K, ck, h⟩ hz hb => ⟨hok, FA, cf, Q, cq, K, ck, h.ofBlocks hz hb⟩
section
variable {w0 w w' : World} {Rs : List Res} {C : Nat} {r r' : DV}
theorem Sep.ref_ok (h : Sep w0 w (refR C r :: Rs)) : ROk r := by
  obtain ⟨F, h1, _⟩ := h.get
  exact h1.1
/-- a call that works on the reference's disk -/
theorem Sep.ref {P : Program} {fn : FuncId} {args : Array Value} {E : Ending} (h : Sep w0 w (refR C r :: Rs)) (hok : ROk r')
    (hc : ∀ G FA cf Q cq K ck, RefAt w G C r FA cf Q cq K ck → (∀ k, G k → w0.heap.size ≤ k) → Calls P fn args w fun e w' => e = E ∧ RefTo G w C r' w') :
    Calls P fn args w fun e w' => e = E ∧ Sep w0 w' (refR C r' :: Rs) := by
  refine (Sep.call (ι := Unit) (Q := fun e _ => e = E) (R' := fun _ => refR C r') h fun F hF h0 => ?_).mono fun e w' ⟨_, h1, h2⟩ => ⟨h1, h2⟩
  obtain ⟨_, FA, cf, Q, cq, K, ck, hD⟩ := hF
  exact (hc F FA cf Q cq K ck hD h0).mono fun e w' ⟨he, F', hR, hE⟩ => ⟨(), he, F', ⟨hok, hR⟩, hE.sup, hE.keeps⟩
/-- a call that only reads it -/
theorem Sep.refRead {P : Program} {fn : FuncId} {args : Array Value} {E : Ending} (h : Sep w0 w (refR C r :: Rs)) (hc : ∀ G FA cf Q cq K ck, RefAt w G C r FA cf Q cq K ck → Calls P fn args w fun e w' => e = E ∧ Below w.heap.size w w') :
    Calls P fn args w fun e w' => e = E ∧ Sep w0 w' (refR C r :: Rs) := by
  obtain ⟨F, ⟨_, FA, cf, Q, cq, K, ck, hD⟩, _⟩ := h.get
  exact (hc F FA cf Q cq K ck hD).mono fun e w' ⟨he, hb⟩ => ⟨he, h.below hb⟩
theorem NewR_sep (h : Sep w0 w Rs) : Calls Tryz.prog 7 #[] w fun e w' => ∃ C, e = .returned (.pointer (some ⟨C, 0, none⟩)) ∧ Sep w0 w' (refR C newD :: Rs) :=
  (New_ref w).mono fun e w' ⟨C, he, hR, hb⟩ => ⟨C, he, h.add hb ⟨ROk.new, hR⟩ fun k hk => hk.1⟩
theorem WriteR_sep (h : Sep w0 w (refR C r :: Rs)) (f at_ : Int) (s : List UInt8) (hat : -9223372036854775808 ≤ at_ ∧ at_ ≤ 9223372036854775807) (hs : s.length ≤ 140737488351232) (x : DV × Int) (hr : WriteR r f at_ s = x) :
    Calls Tryz.prog 42 #[.pointer (some ⟨C, 0, none⟩), .int .i64 f, .int .i64 at_, .string ⟨s.toArray⟩] w fun e w' => e = .returned (.int .i64 x.2) ∧ Sep w0 w' (refR C x.1 :: Rs) := by
  subst hr
  exact h.ref (h.ref_ok.Write _ _ _) fun F FA cf Q cq K ck hd _ => Write_ref hd h.ref_ok f at_ s hs hat
theorem SyncR_sep (h : Sep w0 w (refR C r :: Rs)) (f : Int) (x : DV × Int) (hr : SyncR r f = x) :
    Calls Tryz.prog 36 #[.pointer (some ⟨C, 0, none⟩), .int .i64 f] w fun e w' => e = .returned (.int .i64 x.2) ∧ Sep w0 w' (refR C x.1 :: Rs) := by
  subst hr
  exact h.ref (h.ref_ok.Sync _) fun F FA cf Q cq K ck hd _ => Sync_ref hd h.ref_ok f
theorem TruncR_sep (h : Sep w0 w (refR C r :: Rs)) (f n : Int) (x : DV × Int) (hr : TruncR r f n = x) :
    Calls Tryz.prog 39 #[.pointer (some ⟨C, 0, none⟩), .int .i64 f, .int .i64 n] w fun e w' => e = .returned (.int .i64 x.2) ∧ Sep w0 w' (refR C x.1 :: Rs) := by
  subst hr
  exact h.ref (h.ref_ok.Trunc _ _) fun F FA cf Q cq K ck hd _ => Trunc_ref hd h.ref_ok f n
theorem ReadR_sep (h : Sep w0 w (refR C r :: Rs)) (f at_ n : Int) (x : List UInt8 × Int) (hr : ReadF r f at_ n = x) :
    Calls Tryz.prog 28 #[.pointer (some ⟨C, 0, none⟩), .int .i64 f, .int .i64 at_, .int .i64 n] w fun e w' => e = .returned (.tuple #[.string ⟨x.1.toArray⟩, .int .i64 x.2]) ∧ Sep w0 w' (refR C r :: Rs) :=
  h.refRead fun F FA cf Q cq K ck hd => Read_ref hd h.ref_ok f at_ n x hr
theorem SizeR_sep (h : Sep w0 w (refR C r :: Rs)) (f : Int) (x : Int) (hr : ((r.file f).now.length : Int) = x) :
    Calls Tryz.prog 29 #[.pointer (some ⟨C, 0, none⟩), .int .i64 f] w fun e w' => e = .returned (.int .i64 x) ∧ Sep w0 w' (refR C r :: Rs) :=
  h.refRead fun F FA cf Q cq K ck hd => Size_ref hd h.ref_ok.few f x hr.symm
/-- what came in lies in no block of the disk's -/
theorem Sep.ref_far {keep : List Int} {A : Option Addr} {F : Nat → Prop} (hs : Sl w0 1 A keep.length (keep.map fun k => [.int .i64 k])) (h0 : ∀ k, F k → w0.heap.size ≤ k) : keep ≠ [] → ∀ ad, A = some ad → ¬ F ad.block := fun hne ad he hf => by
  have h1 := h0 _ hf
  obtain ⟨x, hx⟩ : ∃ x, keep[0]? = some x := ⟨_, List.getElem?_eq_getElem (List.length_pos_iff.2 hne)⟩
  obtain ⟨b, o, hA, hb, _⟩ := hs.2 0 [.int .i64 x] (by rw [List.getElem?_map, hx]; rfl)
  rw [hA] at he
  injection he with he
  rw [← he] at h1
  exact absurd hb (Nat.not_lt.2 h1)
theorem CrashR_sep (h : Sep w0 w (refR C r :: Rs)) (keep : List Int) (A : Option Addr) (c : Nat) (hs : Sl w0 1 A keep.length (keep.map fun k => [.int .i64 k])) (hkl : keep.length ≤ 5000000) (r' : DV) (hr : crashR r keep = r') :
    Calls Tryz.prog 21 #[.pointer (some ⟨C, 0, none⟩), .slice A keep.length c] w fun e w' => e = .returned (.tuple #[]) ∧ Sep w0 w' (refR C r' :: Rs) := by
  subst hr
  exact h.ref (h.ref_ok.crash _) fun F FA cf Q cq K ck hd h0 => Crash_ref hd h.ref_ok keep keep.length rfl A c hkl fun _ _ _ _ _ _ _ _ _ hE => (hs.below h.base).keeps hE.keeps (fun hne => Sep.ref_far hs h0 (fun e => hne (by rw [e]; rfl)))
theorem ArmR_sep (h : Sep w0 w (refR C r :: Rs)) (n : Int) (hn : n ≤ 9223372036854775807) (keep : List Int) (A : Option Addr) (c : Nat) (hs : Sl w0 1 A keep.length (keep.map fun k => [.int .i64 k])) (hk : keep.length ≤ 60) (r' : DV) (hr : ArmF r n keep = r') :
    Calls Tryz.prog 19 #[.pointer (some ⟨C, 0, none⟩), .int .i64 n, .slice A keep.length c] w fun e w' => e = .returned (.tuple #[]) ∧ Sep w0 w' (refR C r' :: Rs) := by
  subst hr
  exact h.ref ⟨h.ref_ok.ok.Arm n hn keep (by omega), h.ref_ok.rng⟩ fun F FA cf Q cq K ck hd h0 => Arm_ref hd n keep A c (hs.below h.base) hk (Sep.ref_far hs h0)
theorem StartR_sep (h : Sep w0 w (refR C r :: Rs)) (r' : DV) (hr : StartF r = r') :
    Calls Tryz.prog 23 #[.pointer (some ⟨C, 0, none⟩)] w fun e w' => e = .returned (.tuple #[]) ∧ Sep w0 w' (refR C r' :: Rs) := by
  subst hr
  exact h.ref ⟨h.ref_ok.ok.Start, h.ref_ok.rng⟩ fun F FA cf Q cq K ck hd _ => Start_ref hd
theorem LoseR_sep (h : Sep w0 w (refR C r :: Rs)) (n : Int) (hn : n ≤ 9223372036854775807) (r' : DV) (hr : LoseF r n = r') :
    Calls Tryz.prog 17 #[.pointer (some ⟨C, 0, none⟩), .int .i64 n] w fun e w' => e = .returned (.tuple #[]) ∧ Sep w0 w' (refR C r' :: Rs) := by
  subst hr
  exact h.ref ⟨h.ref_ok.ok.Lose n hn, h.ref_ok.rng⟩ fun F FA cf Q cq K ck hd _ => Lose_ref hd n
end
end Go.Proofs.YtniiahmpdkgplaaGreatDoor
