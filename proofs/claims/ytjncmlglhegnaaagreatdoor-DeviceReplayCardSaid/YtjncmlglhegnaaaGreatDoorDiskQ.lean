/- disk: plain laws: what DiskReads asks. -/
import Derived.Test.YtjncmlglhegnaaaGreatDoorDiskP2
namespace Go.Proofs.YtjncmlglhegnaaaGreatDoor

theorem DV.file_of {d d' : DV} (h : d'.files = d.files) (f : Int) : d'.file f = d.file f := by unfold DV.file; rw [h]
theorem file_put (d : DV) (f : Int) (x : FileV) : ({ d with files := putA f x d.files } : DV).file f = x := by
  unfold DV.file
  rw [getA_put_same]
  rfl
theorem file_put' {d' : DV} {f : Int} {x : FileV} {fs : List (Int × FileV)} (h : d'.files = putA f x fs) : d'.file f = x := by
  unfold DV.file
  rw [h, getA_put_same]
  rfl
theorem file_put_ne (d : DV) {f g : Int} (h : g ≠ f) (x : FileV) : ({ d with files := putA f x d.files } : DV).file g = d.file g := by
  unfold DV.file
  rw [getA_put_ne x h]
theorem ends_calm {d : DV} (h : d.armed = 0) : endsF d = (d, false) := by unfold endsF; rw [if_pos (Or.inr h)]
theorem WriteF_calm {d : DV} (h : d.armed = 0) (f a : Int) (s : List UInt8) : WriteF d f a s = writeF d f a s := by
  simp only [WriteF, ends_calm h]
  simp
theorem begin_calm {d : DV} (h : d.armed = 0) : beginF d = d := by
  simp only [beginF, ends_calm h]
  simp
theorem Start_file (d : DV) (f : Int) : (StartF d).file f = d.file f := rfl
/-- a crash in which nothing survives -/
theorem surviveAll_nil : ∀ (ps : List (Int × Int)) (i : Nat) (fs : List (Int × FileV)), surviveAll [] i ps fs = fs
  | [], _, _ => rfl
  | p :: ps, i, fs => by
    unfold surviveAll
    rw [if_pos (Or.inl rfl)]
    exact surviveAll_nil ps (i + 1) fs
theorem lost_file (fs : List (Int × FileV)) (f : Int) : (getA f (fs.map fun p => (p.1, (⟨p.2.last, p.2.last⟩ : FileV)))).getD noFile = ⟨((getA f fs).getD noFile).last, ((getA f fs).getD noFile).last⟩ := by
  have := getA_map (fun v : FileV => (⟨v.last, v.last⟩ : FileV)) f fs
  rw [this]
  cases getA f fs <;> rfl
theorem crash_file {d : DV} (h : d.down = false) (keep : List Int) (f : Int) : (crashF d keep).file f = ⟨((getA f (surviveAll keep 0 d.queue d.files)).getD noFile).last, ((getA f (surviveAll keep 0 d.queue d.files)).getD noFile).last⟩ := by
  unfold crashF DV.file
  rw [h]
  exact lost_file _ _
theorem putB_drop (s t : List UInt8) (n : Nat) : ((putB s n t).drop n).take t.length = t := by
  by_cases h : t = []
  · subst h; simp
  · rw [putB, if_neg h, List.append_assoc, List.drop_append_of_le_length (by simp; omega), List.drop_of_length_le (by simp; omega), List.nil_append, List.take_append_of_le_length (Nat.le_refl _), List.take_length]
theorem may_of {d d' : DV} (h : d'.down = d.down) (f : Int) : mayF d' f = mayF d f := by unfold mayF; rw [h]
theorem write_calm {d : DV} {f : Int} (hm : mayF d f = 0) (a : Nat) (s : List UInt8) (hfit : a + s.length ≤ 16777216) :
    ∃ d1, writeF d f a s = (d1, 0) ∧ d1.down = d.down ∧ d1.armed = d.armed ∧ d1.keep = d.keep ∧ d1.lost = d.lost ∧ (d1.file f).now = putB (d.file f).now a s ∧ (d1.file f).last = (d.file f).last := by
  unfold writeF
  rw [if_neg (by simp [hm]), if_neg (by omega), if_neg (by omega)]
  by_cases hs : s = []
  · subst hs
    exact ⟨d, by rw [if_pos rfl], rfl, rfl, rfl, rfl, (putB_nil _ _).symm, rfl⟩
  · rw [if_neg hs]
    have hx : ({ d with files := putA f ⟨putB (d.file f).now (a : Int).toNat s, (d.file f).last⟩ d.files, queue := addQ d.queue (touched f (a : Int).toNat s.length) } : DV).file f = ⟨putB (d.file f).now (a : Int).toNat s, (d.file f).last⟩ := file_put' rfl
    exact ⟨_, rfl, rfl, rfl, rfl, rfl, by rw [hx]; rfl, by rw [hx]⟩
theorem ReadF_ok {d : DV} {f : Int} (hm : mayF d f = 0) (a n : Int) (ha : 0 ≤ a) (hn : 0 ≤ n) : ReadF d f a n = (((d.file f).now.drop a.toNat).take n.toNat, 0) := by
  unfold ReadF
  rw [if_neg (by simp [hm]), if_neg (by omega)]
theorem settle_file (d : DV) (f : Int) (s : List UInt8) : (settleF d f s).file f = ⟨s, s⟩ := by
  have := DV.file_of (d := { d with files := putA f ⟨s, s⟩ d.files }) (d' := settleF d f s) rfl f
  rw [this, file_put]
theorem mayB {d : DV} {f : Int} (hd : d.down = false) (h0 : 0 ≤ f) (h1 : f < 16) : mayF d f = 0 := by
  unfold mayF
  rw [hd]
  simp
  omega
theorem reads_law {d : DV} (hok : DOk d) (ha : d.armed = 0) (f : Int) (hm : mayF d f = 0) (a : Nat) (hfit : a ≤ 3000) (s : List UInt8) (hs : s.length ≤ 300) (size : Int) (hz : 0 ≤ size) :
    ∃ d1 X fr d2, WriteF d f a s = (d1, 0) ∧ ReadF d1 f a s.length = (s, 0) ∧ (d1.file f).now = X ∧ X.length ≤ 16777216 ∧ ReadF d1 f 0 X.length = (X, 0) ∧ min a X.length = fr ∧
      ReadF d1 f a size = ((X.drop fr).take (min size.toNat (X.length - fr)), 0) ∧ TruncF d1 f fr = (d2, 0) ∧ ReadF (StartF (crashF d2 [])) f 0 16777216 = (X.take fr, 0) := by
  obtain ⟨d1, hw, h1, h2, _, _, h3, _⟩ := write_calm hm a s (by omega)
  have hok1 : DOk d1 := by have := hok.write f a s; rwa [hw] at this
  have hm1 : mayF d1 f = 0 := by rw [may_of h1]; exact hm
  obtain ⟨hd, f0, f1⟩ := DOk.may hm
  refine ⟨d1, (d1.file f).now, min a (d1.file f).now.length, settleF d1 f ((d1.file f).now.take (min a (d1.file f).now.length)), by rw [WriteF_calm ha, hw], ?_, rfl, (hok1.file f).1, ?_, rfl, ?_, ?_, ?_⟩
  · rw [ReadF_ok hm1 _ _ (by omega) (by omega), Int.toNat_natCast, Int.toNat_natCast, h3, putB_drop]
  · rw [ReadF_ok hm1 _ _ (by omega) (by omega)]
    simp
  · rw [ReadF_ok hm1 _ _ (by omega) hz, Int.toNat_natCast]
    congr 1
    by_cases hal : a ≤ (d1.file f).now.length
    · rw [Nat.min_eq_left hal]
      rw [List.take_eq_take_iff, List.length_drop]
      omega
    · have hmn : min a (d1.file f).now.length = (d1.file f).now.length := by omega
      rw [hmn, List.drop_of_length_le (by omega), List.drop_of_length_le (Nat.le_refl _)]
      simp
  · unfold TruncF
    rw [begin_calm (h2.trans ha)]
    simp only [hm1]
    rw [if_neg (by simp), if_neg (by omega), Int.toNat_natCast]
  · skip
    have hdn : (settleF d1 f ((d1.file f).now.take (min a (d1.file f).now.length))).down = false := by rw [← hd, ← h1]; rfl
    have hfile : (StartF (crashF (settleF d1 f ((d1.file f).now.take (min a (d1.file f).now.length))) [])).file f = ⟨(d1.file f).now.take (min a (d1.file f).now.length), (d1.file f).now.take (min a (d1.file f).now.length)⟩ := by
      rw [Start_file, crash_file hdn, surviveAll_nil]
      have hs := settle_file d1 f ((d1.file f).now.take (min a (d1.file f).now.length))
      have e : (getA f (settleF d1 f ((d1.file f).now.take (min a (d1.file f).now.length))).files).getD noFile = (settleF d1 f ((d1.file f).now.take (min a (d1.file f).now.length))).file f := rfl
      rw [e, hs]
    rw [ReadF_ok (mayB rfl f0 f1) _ _ (by omega) (by omega), hfile]
    simp only [Int.toNat_zero, List.drop_zero]
    rw [List.take_of_length_le (i := Int.toNat 16777216)]
    have := (hok1.file f).1
    simp only [List.length_take]
    omega
end Go.Proofs.YtjncmlglhegnaaaGreatDoor
