/- the disk as a thing apart from others (Sep); its methods by contract. -/
import Derived.Test.YtjncmlglhegnaaaGreatDoorSep
import Derived.Test.YtjncmlglhegnaaaGreatDoorDiskL
namespace Go.Proofs.YtjncmlglhegnaaaGreatDoor
open Go.RowKit

theorem Sl.ofBlock {w w' : World} {size n : Nat} {A : Option Addr} {xs : List (List Value)} (h : Sl w size A n xs) (hz : w.heap.size ≤ w'.heap.size) (hb : xs ≠ [] → ∀ ad, A = some ad → w'.heap[ad.block]? = w.heap[ad.block]?) : Sl w' size A n xs := by
  refine ⟨h.1, fun i x hx => ?_⟩
  obtain ⟨b, o, hA, hlb, hc⟩ := h.2 i x hx
  have hbb := hb (fun e => by rw [e] at hx; simp at hx) ⟨b, o, none⟩ hA
  refine ⟨b, o, hA, Nat.lt_of_lt_of_le hlb hz, fun j v hv => ?_⟩
  exact (World.cell?_of_block (w := w) (a := ⟨b, o + i * size + j, none⟩) hbb).trans (hc j v hv)
theorem DiskAt.ofBlocks {w w' : World} {F : Nat → Prop} {B : Nat} {d : DV} {mf ms : Nat} {Q : Option Addr} {cq : Nat} {K : Option Addr} {ck : Nat} (h : DiskAt w F B d mf ms Q cq K ck) (hz : w.heap.size ≤ w'.heap.size) (hb : ∀ k, F k → w'.heap[k]? = w.heap[k]?) (hK : d.keep ≠ [] → ∀ ad, K = some ad → w'.heap[ad.block]? = w.heap[ad.block]?) : DiskAt w' F B d mf ms Q cq K ck :=
  ⟨h.loc.ofBlock hz (hb B h.fB), h.files.ofBlock (hb mf h.ff), h.set.ofBlock (hb ms h.fs), h.queue.ofBlock (fun b hq => hb b (h.fq b (by rw [← slice_block Q d.queue.length cq]; exact hq))),
    h.keep.ofBlock hz (fun hne => hK (fun e => hne (by rw [e]; rfl))), h.fB, h.ff, h.fs, h.fq, h.fk, h.ne, h.nq, fun b hf => Nat.lt_of_lt_of_le (h.lt b hf) hz⟩
/-- a disk -/
def diskR (B : Nat) (d : DV) : Res where
  P := fun w F => DOk d ∧ ∃ F1 mf ms Q cq K ck, DiskAt w F1 B d mf ms Q cq K ck ∧ ∀ k, F k ↔ F1 k ∨ (d.keep ≠ [] ∧ ∃ ad, K = some ad ∧ ad.block = k)
  lt := fun w F ⟨_, F1, mf, ms, Q, cq, K, ck, h, hF⟩ k hk => by
    rcases (hF k).1 hk with h1 | ⟨h1, ad, h2, h3⟩
    · exact h.lt k h1
    · rw [← h3]; exact h.keep_lt h1 ad h2
  keep := fun w w' F ⟨hok, F1, mf, ms, Q, cq, K, ck, h, hF⟩ hz hb => ⟨hok, F1, mf, ms, Q, cq, K, ck, h.ofBlocks hz (fun k hk => hb k ((hF k).2 (.inl hk))) (fun hne ad he => hb _ ((hF _).2 (.inr ⟨hne, ad, he, rfl⟩))), hF⟩
section
variable {w0 w w' : World} {Rs : List Res} {B : Nat} {d d' : DV}
theorem Sep.disk_ok (h : Sep w0 w (diskR B d :: Rs)) : DOk d := by
  obtain ⟨F, h1, _⟩ := h.get
  exact h1.1
/-- a call that works on the disk -/
theorem Sep.disk {P : Program} {fn : FuncId} {args : Array Value} {E : Ending} (h : Sep w0 w (diskR B d :: Rs)) (hok : DOk d')
    (hc : ∀ F mf ms Q cq K ck, DiskAt w F B d mf ms Q cq K ck → (∀ k, F k → w0.heap.size ≤ k) → Calls P fn args w fun e w' => e = E ∧ DskTo F w B d' w') :
    Calls P fn args w fun e w' => e = E ∧ Sep w0 w' (diskR B d' :: Rs) := by
  refine (Sep.call (ι := Unit) (Q := fun e _ => e = E) (R' := fun _ => diskR B d') h fun F hF h0 => ?_).mono fun e w' ⟨_, h1, h2⟩ => ⟨h1, h2⟩
  obtain ⟨_, F1, mf, ms, Q, cq, K, ck, hD, hFF⟩ := hF
  refine (hc F1 mf ms Q cq K ck hD fun k hk => h0 k ((hFF k).2 (.inl hk))).mono fun e w' ⟨he, F1', ⟨mf', ms', Q', cq', K', ck', hD'⟩, hE, hkk⟩ => ⟨(), he, _, ⟨hok, F1', mf', ms', Q', cq', K', ck', hD', fun k => Iff.rfl⟩, fun k hk => ?_, hE.keeps.mono fun k hk => (hFF k).2 (.inl hk)⟩
  rcases hk with hk | ⟨hne, ad, he', hk⟩
  · rcases hE.sup k hk with h1 | h1
    · exact .inl ((hFF k).2 (.inl h1))
    · exact .inr h1
  · have h6' := hD'.loc.cell 6
    have h6 := hD.loc.cell 6
    rcases hkk with hkk | hkk
    · rw [hkk, h6] at h6'
      have h7 : Value.slice K d.keep.length ck = .slice K' d'.keep.length ck' := by simpa using h6'
      injection h7 with h8 h9
      refine .inl ((hFF k).2 (.inr ⟨fun e => hne ?_, ad, h8.trans he', hk⟩))
      rw [e] at h9
      exact List.eq_nil_of_length_eq_zero h9.symm
    · have h1 := hkk K' d'.keep.length ck' (by rw [h6']; rfl) ad he'
      have h2 := hD'.keep_lt hne ad he'
      exact .inr ⟨by rw [← hk]; exact h1, by rw [← hk]; exact h2⟩
/-- a call that only reads it -/
theorem Sep.diskRead {P : Program} {fn : FuncId} {args : Array Value} {R : Ending → World → Prop} (h : Sep w0 w (diskR B d :: Rs)) (hc : ∀ F mf ms Q cq K ck, DiskAt w F B d mf ms Q cq K ck → Calls P fn args w R) : Calls P fn args w R := by
  obtain ⟨F, ⟨_, F1, mf, ms, Q, cq, K, ck, hD, _⟩, _⟩ := h.get
  exact hc F1 mf ms Q cq K ck hD
theorem New_sep (h : Sep w0 w Rs) : Calls Tryz.prog 15 #[] w fun e w' => ∃ B, e = .returned (.pointer (some ⟨B, 0, none⟩)) ∧ Sep w0 w' (diskR B newD :: Rs) :=
  (New_any w).mono fun e w' ⟨B, he, ⟨mf, ms, Q, cq, K, ck, hD⟩, hb⟩ => ⟨B, he, h.add hb (F := fun k => w.heap.size ≤ k ∧ k < w'.heap.size) ⟨DOk.new, _, mf, ms, Q, cq, K, ck, hD, fun k => ⟨.inl, fun hk => by
    rcases hk with hk | ⟨hk, _⟩
    · exact hk
    · exact absurd rfl hk⟩⟩ fun k hk => hk.1⟩
theorem Write_sep (h : Sep w0 w (diskR B d :: Rs)) (f at_ : Int) (s : List UInt8) (hat : -9223372036854775808 ≤ at_ ∧ at_ ≤ 9223372036854775807) (hs : s.length ≤ 140737488351232) (r : DV × Int) (hr : WriteF d f at_ s = r) :
    Calls Tryz.prog 173 #[.pointer (some ⟨B, 0, none⟩), .int .i64 f, .int .i64 at_, .string ⟨s.toArray⟩] w fun e w' => e = .returned (.int .i64 r.2) ∧ Sep w0 w' (diskR B r.1 :: Rs) := by
  subst hr
  exact h.disk (h.disk_ok.Write _ _ _) fun F mf ms Q cq K ck hd _ => Write_any hd h.disk_ok f at_ s hat hs
theorem Sync_sep (h : Sep w0 w (diskR B d :: Rs)) (f : Int) (r : DV × Int) (hr : SyncF d f = r) :
    Calls Tryz.prog 103 #[.pointer (some ⟨B, 0, none⟩), .int .i64 f] w fun e w' => e = .returned (.int .i64 r.2) ∧ Sep w0 w' (diskR B r.1 :: Rs) := by
  subst hr
  exact h.disk (h.disk_ok.Sync _) fun F mf ms Q cq K ck hd _ => Sync_any hd h.disk_ok f
theorem Trunc_sep (h : Sep w0 w (diskR B d :: Rs)) (f n : Int) (r : DV × Int) (hr : TruncF d f n = r) :
    Calls Tryz.prog 107 #[.pointer (some ⟨B, 0, none⟩), .int .i64 f, .int .i64 n] w fun e w' => e = .returned (.int .i64 r.2) ∧ Sep w0 w' (diskR B r.1 :: Rs) := by
  subst hr
  exact h.disk (h.disk_ok.Trunc _ _) fun F mf ms Q cq K ck hd _ => Trunc_any hd h.disk_ok f n
theorem Read_sep (h : Sep w0 w (diskR B d :: Rs)) (f at_ n : Int) (r : List UInt8 × Int) (hr : ReadF d f at_ n = r) :
    Calls Tryz.prog 104 #[.pointer (some ⟨B, 0, none⟩), .int .i64 f, .int .i64 at_, .int .i64 n] w fun e w' => e = .returned (.tuple #[.string ⟨r.1.toArray⟩, .int .i64 r.2]) ∧ w = w' :=
  h.diskRead fun F mf ms Q cq K ck hd => Read_any hd f at_ n r hr
theorem Size_sep (h : Sep w0 w (diskR B d :: Rs)) (f : Int) (r : Int) (hr : ((d.file f).now.length : Int) = r) :
    Calls Tryz.prog 105 #[.pointer (some ⟨B, 0, none⟩), .int .i64 f] w fun e w' => e = .returned (.int .i64 r) ∧ w = w' :=
  h.diskRead fun F mf ms Q cq K ck hd => Size_any hd f r hr.symm
theorem Crash_sep (h : Sep w0 w (diskR B d :: Rs)) (keep : List Int) (A : Option Addr) (c : Nat) (hs : Sl w0 1 A keep.length (keep.map fun k => [.int .i64 k])) (hkl : keep.length ≤ 5000000) (d' : DV) (hr : crashF d keep = d') :
    Calls Tryz.prog 23 #[.pointer (some ⟨B, 0, none⟩), .slice A keep.length c] w fun e w' => e = .returned (.tuple #[]) ∧ Sep w0 w' (diskR B d' :: Rs) := by
  subst hr
  exact h.disk (h.disk_ok.crash _) fun F mf ms Q cq K ck hd h0 => Crash_any hd h.disk_ok keep A c (hs.below h.base) hkl fun hne ad he hf => by
    have h1 := h0 _ hf
    obtain ⟨x, hx⟩ : ∃ x, keep[0]? = some x := ⟨_, List.getElem?_eq_getElem (List.length_pos_iff.2 hne)⟩
    obtain ⟨b, o, hA, hb, _⟩ := hs.2 0 [.int .i64 x] (by rw [List.getElem?_map, hx]; rfl)
    rw [hA] at he
    injection he with he
    rw [← he] at h1
    exact absurd hb (Nat.not_lt.2 h1)
theorem Arm_sep (h : Sep w0 w (diskR B d :: Rs)) (n : Int) (hn : n ≤ 9223372036854775807) (keep : List Int) (A : Option Addr) (c : Nat) (hs : Sl w0 1 A keep.length (keep.map fun k => [.int .i64 k])) (hk : keep.length ≤ 4194320) (d' : DV) (hr : ArmF d n keep = d') :
    Calls Tryz.prog 21 #[.pointer (some ⟨B, 0, none⟩), .int .i64 n, .slice A keep.length c] w fun e w' => e = .returned (.tuple #[]) ∧ Sep w0 w' (diskR B d' :: Rs) := by
  subst hr
  exact h.disk (h.disk_ok.Arm n hn keep hk) fun F mf ms Q cq K ck hd _ => Arm_any hd n keep A c (hs.below h.base) hk
theorem DskTo.same {F : Nat → Prop} {mf ms : Nat} {Q : Option Addr} {cq : Nat} {K : Option Addr} {ck : Nat} (h : DiskAt w F B d mf ms Q cq K ck) (h' : DiskAt w' F B d' mf ms Q cq K ck) (e : d'.keep = d.keep) (hk : Keeps F w w') : DskTo F w B d' w' :=
  ⟨F, ⟨mf, ms, Q, cq, K, ck, h'⟩, Ext.same hk, kk_of h h' e⟩
theorem Start_sep (h : Sep w0 w (diskR B d :: Rs)) (d' : DV) (hr : StartF d = d') :
    Calls Tryz.prog 25 #[.pointer (some ⟨B, 0, none⟩)] w fun e w' => e = .returned (.tuple #[]) ∧ Sep w0 w' (diskR B d' :: Rs) := by
  subst hr
  exact h.disk h.disk_ok.Start fun F mf ms Q cq K ck hd _ => (Start_any hd).mono fun e w' ⟨he, h1, h2, _⟩ => ⟨he, DskTo.same hd h1 rfl h2⟩
theorem Lose_sep (h : Sep w0 w (diskR B d :: Rs)) (n : Int) (hn : n ≤ 9223372036854775807) (d' : DV) (hr : LoseF d n = d') :
    Calls Tryz.prog 19 #[.pointer (some ⟨B, 0, none⟩), .int .i64 n] w fun e w' => e = .returned (.tuple #[]) ∧ Sep w0 w' (diskR B d' :: Rs) := by
  subst hr
  exact h.disk (h.disk_ok.Lose n hn) fun F mf ms Q cq K ck hd _ => (Lose_any hd n).mono fun e w' ⟨he, h1, h2, _⟩ => ⟨he, DskTo.same hd h1 rfl h2⟩
end
end Go.Proofs.YtjncmlglhegnaaaGreatDoor
