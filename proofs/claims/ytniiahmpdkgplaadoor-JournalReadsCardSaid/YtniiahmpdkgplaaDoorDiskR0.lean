/- disk: plain laws: a settled file, a successful sync; without the acts. -/
import Derived.Test.YtniiahmpdkgplaaDoorDiskQ
namespace Go.Proofs.YtniiahmpdkgplaaDoor
/- a file that is settled -/
def Stb (f : Int) (X : List UInt8) (d : DV) : Prop := d.file f = ⟨X, X⟩ ∧ ∀ p ∈ d.queue, p.1 ≠ f
theorem getA_survive_ne {f : Int} {p : Int × Int} (h : p.1 ≠ f) (fs : List (Int × FileV)) : getA f (surviveF fs p) = getA f fs := by
  unfold surviveF
  dsimp only
  split
  · rfl
  · exact getA_put_ne _ (fun e => h e.symm) _
theorem getA_surviveAll_ne {f : Int} (keep : List Int) : ∀ (ps : List (Int × Int)) (i : Nat) (fs : List (Int × FileV)), (∀ p ∈ ps, p.1 ≠ f) → getA f (surviveAll keep i ps fs) = getA f fs
  | [], _, _, _ => rfl
  | p :: ps, i, fs, h => by
    unfold surviveAll
    rw [getA_surviveAll_ne keep ps (i + 1) _ (fun q hq => h q (by simp [hq]))]
    split
    · rfl
    · exact getA_survive_ne (h p (by simp)) fs
namespace Stb
variable {f : Int} {X : List UInt8} {d : DV}
theorem of (h : Stb f X d) {d' : DV} (h1 : d'.files = d.files) (h2 : d'.queue = d.queue) : Stb f X d' := ⟨by rw [DV.file_of h1]; exact h.1, by rw [h2]; exact h.2⟩
theorem crash (h : Stb f X d) (keep : List Int) : Stb f X (crashF d keep) := by
  cases hd : d.down with
  | true => rw [crashF, if_pos hd]; exact h
  | false =>
    refine ⟨?_, ?_⟩
    · rw [crash_file hd, getA_surviveAll_ne keep _ _ _ h.2]
      have := h.1
      unfold DV.file at this
      rw [this]
    · unfold crashF
      rw [if_neg (by simp [hd])]
      simp
theorem ends (h : Stb f X d) : Stb f X (endsF d).1 := by
  unfold endsF
  split
  · exact h
  · exact h.of rfl rfl
theorem begin_ (h : Stb f X d) : Stb f X (beginF d) := by
  unfold beginF
  dsimp only
  split
  · exact h.ends.crash _
  · exact h.ends
theorem write (h : Stb f X d) {g : Int} (hg : g ≠ f) (a : Int) (s : List UInt8) : Stb f X (writeF d g a s).1 := by
  unfold writeF
  split
  · exact h
  · split
    · exact h
    · split
      · exact h
      · split
        · exact h
        · refine ⟨?_, fun p hp => ?_⟩
          · have h1 : ({ d with files := putA g ⟨putB (d.file g).now a.toNat s, (d.file g).last⟩ d.files, queue := addQ d.queue (touched g a.toNat s.length) } : DV).file f = d.file f := by
              unfold DV.file
              rw [getA_put_ne _ (fun e => hg e.symm)]
            exact h1.trans h.1
          · rcases (addQ_mem _ _).1 hp with hp | hp
            · exact h.2 p hp
            · rw [(touched_mem hp).1]; exact hg
theorem settle (h : Stb f X d) {g : Int} (hg : g ≠ f) (s : List UInt8) : Stb f X (settleF d g s) := by
  refine ⟨?_, fun p hp => h.2 p (List.mem_filter.1 hp).1⟩
  have h1 : (settleF d g s).file f = d.file f := by
    unfold DV.file settleF
    rw [getA_put_ne _ (fun e => hg e.symm)]
  exact h1.trans h.1
theorem Write (h : Stb f X d) {g : Int} (hg : g ≠ f) (a : Int) (s : List UInt8) : Stb f X (WriteF d g a s).1 := by
  unfold WriteF
  dsimp only
  split
  · exact (h.ends.write hg a s).crash _
  · exact h.ends.write hg a s
theorem Sync (h : Stb f X d) {g : Int} (hg : g ≠ f) : Stb f X (SyncF d g).1 := by
  unfold SyncF
  dsimp only
  split
  · exact h.begin_
  · split
    · exact h.begin_.of rfl rfl
    · exact h.begin_.settle hg _
theorem Trunc (h : Stb f X d) {g : Int} (hg : g ≠ f) (n : Int) : Stb f X (TruncF d g n).1 := by
  unfold TruncF
  dsimp only
  split
  · exact h.begin_
  · split
    · exact h.begin_
    · exact h.begin_.settle hg _
theorem read (h : Stb f X d) (hok : DOk d) (h0 : 0 ≤ f) (h1 : f < 16) (keep : List Int) : ReadF (StartF (crashF d keep)) f 0 16777216 = (X, 0) := by
  have hc := h.crash keep
  rw [ReadF_ok (mayB rfl h0 h1) _ _ (by omega) (by omega), Start_file, hc.1]
  have := (hok.file f).1
  rw [h.1] at this
  simp only [Int.toNat_zero, List.drop_zero]
  rw [List.take_of_length_le (by simpa using this)]
end Stb
theorem crash_is_down (d : DV) (keep : List Int) : (crashF d keep).down = true := by
  unfold crashF
  split
  · assumption
  · rfl
theorem sync_ok {d : DV} {f : Int} (hok : DOk d) (h : (SyncF d f).2 = 0) :
    (0 ≤ f ∧ f < 16) ∧ ReadF d f 0 16777216 = ((d.file f).now, 0) ∧ Stb f (d.file f).now (SyncF d f).1 ∧ ReadF (SyncF d f).1 f 0 16777216 = ((d.file f).now, 0) := by
  unfold SyncF at h ⊢
  dsimp only at h ⊢
  by_cases hm : mayF (beginF d) f = 0
  · obtain ⟨hd, h0, h1⟩ := DOk.may hm
    have hb : (endsF d).2 = false := by
      cases he : (endsF d).2
      · rfl
      · have : beginF d = crashF (endsF d).1 (endsF d).1.keep := by
          unfold beginF
          simp [he]
        rw [this, crash_is_down] at hd
        cases hd
    have hbe : beginF d = (endsF d).1 := by
      unfold beginF
      simp [hb]
    have hf1 : (beginF d).files = d.files := by
      rw [hbe]
      unfold endsF
      split <;> rfl
    have hd1 : (beginF d).down = d.down := by
      rw [hbe]
      unfold endsF
      split <;> rfl
    have hfile : (beginF d).file f = d.file f := DV.file_of hf1 f
    rw [if_neg (by simp [hm])] at h ⊢
    split at h
    · cases h
    · rename_i hl
      rw [if_neg hl]
      have hlen := (hok.file f).1
      refine ⟨⟨h0, h1⟩, ?_, ⟨?_, ?_⟩, ?_⟩
      · rw [ReadF_ok (mayB (by rw [← hd1]; exact hd) h0 h1) _ _ (by omega) (by omega)]
        simp only [Int.toNat_zero, List.drop_zero]
        rw [List.take_of_length_le (by simpa using hlen)]
      · rw [hfile]; exact settle_file _ _ _
      · intro p hp
        have := (List.mem_filter.1 hp).2
        simpa using this
      · rw [ReadF_ok (mayB (d := settleF (beginF d) f ((beginF d).file f).now) hd h0 h1) _ _ (by omega) (by omega), settle_file, hfile]
        simp only [Int.toNat_zero, List.drop_zero]
        rw [List.take_of_length_le (by simpa using hlen)]
  · rw [if_pos hm] at h
    exact absurd h hm

/- two disks that are alike but for a scheduled crash -/
structure Sim (d c : DV) : Prop where
  files : d.files = c.files
  queue : d.queue = c.queue
  lost : d.lost = c.lost
  down : d.down = c.down
namespace Sim
variable {d c : DV}
theorem file (h : Sim d c) (f : Int) : d.file f = c.file f := DV.file_of h.files f
theorem may (h : Sim d c) (f : Int) : mayF d f = mayF c f := by unfold mayF; rw [h.down]
theorem write (h : Sim d c) (f a : Int) (s : List UInt8) : (writeF d f a s).2 = (writeF c f a s).2 ∧ Sim (writeF d f a s).1 (writeF c f a s).1 ∧ (writeF d f a s).1.armed = d.armed ∧ (writeF d f a s).1.keep = d.keep := by
  unfold writeF
  rw [h.may f]
  split
  · exact ⟨rfl, h, rfl, rfl⟩
  · split
    · exact ⟨rfl, h, rfl, rfl⟩
    · split
      · exact ⟨rfl, h, rfl, rfl⟩
      · split
        · exact ⟨rfl, h, rfl, rfl⟩
        · exact ⟨rfl, ⟨by show putA _ _ _ = putA _ _ _; rw [h.file f, h.files], by show addQ _ _ = addQ _ _; rw [h.queue], h.lost, h.down⟩, rfl, rfl⟩
theorem settle (h : Sim d c) (f : Int) (s : List UInt8) : Sim (settleF d f s) (settleF c f s) :=
  ⟨by show putA _ _ _ = putA _ _ _; rw [h.files], by show List.filter _ _ = List.filter _ _; rw [h.queue], h.lost, h.down⟩
theorem crash (h : Sim d c) (keep : List Int) : (crashF d keep).files = (crashF c keep).files ∧ Sim (crashF d keep) (crashF c keep) := by
  unfold crashF
  rw [h.down]
  split
  · exact ⟨h.files, h⟩
  · exact ⟨by show List.map _ _ = List.map _ _; rw [h.files, h.queue], by show List.map _ _ = List.map _ _; rw [h.files, h.queue], rfl, h.lost, rfl⟩
theorem armed (h : Sim d c) (n : Int) : Sim { d with armed := n } c := ⟨h.files, h.queue, h.lost, h.down⟩
end Sim
/-- where the disk that is to crash and the other one stand: 'left' counted calls are left -/
structure ArmRel (keep : List Int) (left : Int) (d c : DV) : Prop where
  sim : Sim d c
  up : d.down = false
  armed : d.armed = left
  calm : c.armed = 0
  keep : d.keep = keep
/-- behind the crash -/
structure DownRel (d c : DV) : Prop where
  files : d.files = c.files
  d : d.down = true
  c : c.down = true
theorem ends_more {d : DV} {left : Int} (hu : d.down = false) (ha : d.armed = left) (hl : 1 < left) : endsF d = ({ d with armed := left - 1 }, false) := by
  unfold endsF
  rw [if_neg (by rw [hu, ha]; simp; omega), ha]
  simp
  omega
theorem ends_now {d : DV} (hu : d.down = false) (ha : d.armed = 1) : endsF d = ({ d with armed := 0 }, true) := by
  unfold endsF
  rw [if_neg (by rw [hu, ha]; simp), ha]
  simp
/-- what 'same' asks -/
def SameD (d c : DV) : Prop := d.down = c.down ∧ d.files = c.files
theorem SameD.read {d c : DV} (h : SameD d c) (f a n : Int) : ReadF d f a n = ReadF c f a n := by
  unfold ReadF mayF
  rw [h.1, DV.file_of h.2]
end Go.Proofs.YtniiahmpdkgplaaDoor
