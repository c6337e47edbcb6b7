/- kerbsideref02: what holds of a reference's disk, in plain Lean. -/
import Derived.Test.YthnechlnaacgfaaRefP
namespace Go.Proofs.Ythnechlnaacgfaa

theorem mem_setL {f : Int} {x : FileV} {p : Int × FileV} {fs : List (Int × FileV)} (h : p ∈ setL f x fs) : p = (f, x) ∨ p ∈ fs := by
  unfold setL at h
  rcases List.mem_append.1 h with h | h
  · exact .inr (List.mem_filter.1 h).1
  · exact .inl (by simpa using h)
theorem setL_nodup {f : Int} {x : FileV} {fs : List (Int × FileV)} (h : (fs.map (·.1)).Nodup) : ((setL f x fs).map (·.1)).Nodup := by
  unfold setL
  rw [List.map_append, List.nodup_append]
  refine ⟨h.sublist (List.Sublist.map _ List.filter_sublist), by simp, fun a ha b hb => ?_⟩
  obtain ⟨p, hp, rfl⟩ := List.mem_map.1 ha
  have h1 : p.1 ≠ f := by simpa using (List.mem_filter.1 hp).2
  simp only [List.map_cons, List.map_nil, List.mem_singleton] at hb
  rw [hb]
  exact h1
/-- the reference's files -/
structure RFs (fs : List (Int × FileV)) : Prop where
  len : ∀ p ∈ fs, p.2.now.length ≤ 16777216 ∧ p.2.last.length ≤ 16777216
  keys : (fs.map (·.1)).Nodup
  rng : ∀ p ∈ fs, 0 ≤ p.1 ∧ p.1 < 16
namespace RFs
variable {fs : List (Int × FileV)}
theorem few (h : RFs fs) : fs.length ≤ 16 := by
  have h1 := pigeon 16 ((fs.map (·.1)).map Int.toNat) (by
    rw [List.nodup_iff_pairwise_ne, List.pairwise_map]
    refine (List.nodup_iff_pairwise_ne.1 h.keys).imp_of_mem fun {a b} ha hb hne e => hne ?_
    obtain ⟨p, hp, rfl⟩ := List.mem_map.1 ha
    obtain ⟨q, hq, rfl⟩ := List.mem_map.1 hb
    have h1 := h.rng p hp
    have h2 := h.rng q hq
    omega) (fun x hx => by
    obtain ⟨k, hk, rfl⟩ := List.mem_map.1 hx
    obtain ⟨p, hp, rfl⟩ := List.mem_map.1 hk
    have := h.rng p hp
    omega)
  simpa using h1
theorem get (h : RFs fs) (f : Int) : ((getA f fs).getD noFile).now.length ≤ 16777216 ∧ ((getA f fs).getD noFile).last.length ≤ 16777216 := FOk.get ⟨h.len, h.keys⟩ f
theorem set (h : RFs fs) {f : Int} (h0 : 0 ≤ f) (h1 : f < 16) {x : FileV} (hx : x.now.length ≤ 16777216 ∧ x.last.length ≤ 16777216) : RFs (setL f x fs) :=
  ⟨fun p hp => by
    rcases mem_setL hp with rfl | hp
    · exact hx
    · exact h.len p hp, setL_nodup h.keys, fun p hp => by
    rcases mem_setL hp with rfl | hp
    · exact ⟨h0, h1⟩
    · exact h.rng p hp⟩
theorem survive (h : RFs fs) (p : Int × Int) (h0 : 0 ≤ p.1) (h1 : p.1 < 16) (h2 : 0 ≤ p.2) : RFs (surviveR fs p) := by
  have hg := h.get p.1
  unfold surviveR
  dsimp only
  refine h.set h0 h1 ?_
  split
  · refine ⟨hg.1, putB_le _ _ _ _ hg.2 ?_⟩
    simp only [List.length_take, List.length_drop]
    omega
  · exact hg
theorem surviveAll {keep : List Int} : ∀ {ps : List (Int × Int)} {i : Nat} {fs : List (Int × FileV)}, (∀ p ∈ ps, (0 ≤ p.1 ∧ p.1 < 16) ∧ 0 ≤ p.2 ∧ p.2 ≤ 262144) → RFs fs → RFs (surviveAllR keep i ps fs)
  | [], _, _, _, h => h
  | p :: ps, i, fs, hq, h => by
    unfold surviveAllR
    refine surviveAll (fun q hq' => hq q (by simp [hq'])) ?_
    split
    · exact h
    · have := hq p (by simp)
      exact h.survive p this.1.1 this.1.2 this.2.1
theorem lost (h : RFs fs) : RFs (fs.map fun p => (p.1, (⟨p.2.last, p.2.last⟩ : FileV))) := by
  refine ⟨fun p hp => ?_, by simpa [Function.comp_def] using h.keys, fun p hp => ?_⟩
  · obtain ⟨q, hq, rfl⟩ := List.mem_map.1 hp
    exact ⟨(h.len q hq).2, (h.len q hq).2⟩
  · obtain ⟨q, hq, rfl⟩ := List.mem_map.1 hp
    exact h.rng q hq
end RFs
/-- the reference's disk -/
structure ROk (r : DV) : Prop where
  ok : DOk r
  rng : ∀ p ∈ r.files, 0 ≤ p.1 ∧ p.1 < 16
namespace ROk
variable {r : DV}
theorem fs (h : ROk r) : RFs r.files := ⟨h.ok.files, h.ok.keys, h.rng⟩
theorem few (h : ROk r) : r.files.length ≤ 16 := h.fs.few
theorem len (h : ROk r) : r.queue.length ≤ 4194320 := h.ok.len
theorem file (h : ROk r) (f : Int) : (r.file f).now.length ≤ 16777216 ∧ (r.file f).last.length ≤ 16777216 := h.ok.file f
theorem new : ROk newD := ⟨DOk.new, by simp [newD]⟩
theorem files (h : ROk r) {fs : List (Int × FileV)} (hf : RFs fs) : ROk { r with files := fs } :=
  ⟨⟨h.ok.armed, h.ok.lost, hf.len, hf.keys, h.ok.queue, h.ok.nodup, h.ok.klen⟩, hf.rng⟩
theorem queue (h : ROk r) {q : List (Int × Int)} (hq : ∀ p ∈ q, (0 ≤ p.1 ∧ p.1 < 16) ∧ 0 ≤ p.2 ∧ p.2 ≤ 262144) (hn : q.Nodup) : ROk { r with queue := q } :=
  ⟨⟨h.ok.armed, h.ok.lost, h.ok.files, h.ok.keys, hq, hn, h.ok.klen⟩, h.rng⟩
theorem fits {at_ : Int} {s : List UInt8} (h : fitsR at_ s = true) : 0 ≤ at_ ∧ at_ ≤ 16777216 ∧ at_ + s.length ≤ 16777216 := by
  unfold fitsR at h
  simp only [Bool.and_eq_true, decide_eq_true_eq] at h
  exact ⟨h.1.1, h.1.2, h.2⟩
theorem touch {f at_ : Int} {s : List UInt8} (h0 : 0 ≤ f) (h1 : f < 16) (hf : fitsR at_ s = true) (hs : s ≠ []) : ∀ p ∈ touched f at_.toNat s.length, (0 ≤ p.1 ∧ p.1 < 16) ∧ 0 ≤ p.2 ∧ p.2 ≤ 262144 := fun p hp => by
  have h2 := fits hf
  have h3 : 0 < s.length := List.length_pos_iff.2 hs
  obtain ⟨rfl, k, hk, h5, h6⟩ := touched_mem hp
  exact ⟨⟨h0, h1⟩, by omega, by omega⟩
theorem addQ_ok {q ps : List (Int × Int)} (hq : ∀ p ∈ q, (0 ≤ p.1 ∧ p.1 < 16) ∧ 0 ≤ p.2 ∧ p.2 ≤ 262144) (hp : ∀ p ∈ ps, (0 ≤ p.1 ∧ p.1 < 16) ∧ 0 ≤ p.2 ∧ p.2 ≤ 262144) : ∀ p ∈ addQ q ps, (0 ≤ p.1 ∧ p.1 < 16) ∧ 0 ≤ p.2 ∧ p.2 ≤ 262144 := fun p h => by
  rcases (addQ_mem _ _).1 h with h | h
  · exact hq p h
  · exact hp p h
theorem put (h : ROk r) {f at_ : Int} {s : List UInt8} (h0 : 0 ≤ f) (h1 : f < 16) (hf : fitsR at_ s = true) : ROk { r with files := setL f ⟨putB (r.file f).now at_.toNat s, (r.file f).last⟩ r.files } := by
  have h2 := fits hf
  have h3 := h.file f
  exact h.files (h.fs.set h0 h1 ⟨putB_le _ _ _ _ h3.1 (by omega), h3.2⟩)
theorem add (h : ROk r) {f at_ : Int} {s : List UInt8} (h0 : 0 ≤ f) (h1 : f < 16) (hf : fitsR at_ s = true) : ROk (addR r f at_ s) := by
  unfold addR
  split
  · exact h
  · rename_i hs
    exact (h.put h0 h1 hf).queue (addQ_ok h.ok.queue (touch h0 h1 hf hs)) (addQ_nodup _ _ h.ok.nodup)
theorem crash (h : ROk r) (keep : List Int) : ROk (crashR r keep) := by
  unfold crashR
  split
  · exact h
  · have hf := (h.fs.surviveAll (keep := keep) (i := 0) h.ok.queue).lost
    exact ⟨⟨by simp, h.ok.lost, hf.len, hf.keys, by simp, by simp, h.ok.klen⟩, hf.rng⟩
theorem turn (h : ROk r) (ha : r.armed ≠ 0) : ROk { r with armed := r.armed - 1 } := by
  have := h.ok.armed
  exact ⟨⟨by show 0 ≤ r.armed - 1 ∧ r.armed - 1 ≤ _; omega, h.ok.lost, h.ok.files, h.ok.keys, h.ok.queue, h.ok.nodup, h.ok.klen⟩, h.rng⟩
theorem comes (h : ROk r) (f at_ : Int) (s : List UInt8) : ROk (comesR r f at_ s) := by
  unfold comesR
  split
  · exact h
  · rename_i hc
    have ht := h.turn (fun c => hc (.inr c))
    split
    · exact ht
    · refine ROk.crash ?_ _
      split
      · rename_i hf
        exact ht.add hf.1 (by omega) hf.2.2
      · exact ht
theorem may_rng {f : Int} (h : ¬ mayF r f ≠ 0) : 0 ≤ f ∧ f < 16 := (DOk.may (by simpa using h)).2
theorem Write (h : ROk r) (f at_ : Int) (s : List UInt8) : ROk (WriteR r f at_ s).1 := by
  rw [WriteR_last]
  have hc := h.comes f at_ s
  unfold lastR
  split
  · exact hc
  · rename_i hm
    split
    · exact hc
    · split
      · exact hc
      · rename_i hf
        exact hc.add (may_rng hm).1 (may_rng hm).2 (by simpa using hf)
theorem settle (h : ROk r) {f : Int} (h0 : 0 ≤ f) (h1 : f < 16) (s : List UInt8) (hs : s.length ≤ 16777216) : ROk (settleR r f s) :=
  (h.files (h.fs.set h0 h1 (x := ⟨s, s⟩) ⟨hs, hs⟩)).queue (fun p hp => h.ok.queue p (List.mem_filter.1 hp).1) (h.ok.nodup.filter _)
theorem Sync (h : ROk r) (f : Int) : ROk (SyncR r f).1 := by
  have hc := h.comes 0 0 []
  unfold SyncR
  dsimp only
  split
  · exact hc
  · rename_i hm
    split
    · have := hc.ok.lost
      exact ⟨⟨hc.ok.armed, by show 0 ≤ _ - 1 ∧ _ - 1 ≤ _; omega, hc.ok.files, hc.ok.keys, hc.ok.queue, hc.ok.nodup, hc.ok.klen⟩, hc.rng⟩
    · exact hc.settle (may_rng hm).1 (may_rng hm).2 _ (hc.file f).1
theorem Trunc (h : ROk r) (f n : Int) : ROk (TruncR r f n).1 := by
  have hc := h.comes 0 0 []
  unfold TruncR
  dsimp only
  split
  · exact hc
  · rename_i hm
    split
    · exact hc
    · refine hc.settle (may_rng hm).1 (may_rng hm).2 _ ?_
      have := (hc.file f).1
      simp only [List.length_take]
      omega
theorem tell (h : ROk r) {a : ActC} (ha : a.ok) (hk : a.keep.length ≤ 60) : ROk (tellF r a).1 := by
  unfold tellF
  split
  · exact h.Sync _
  · split
    · exact h.Trunc _ _
    · split
      · exact ⟨h.ok.Lose _ (by omega), h.rng⟩
      · split
        · exact ⟨h.ok.Arm _ ha.2.2.2 _ (by omega), h.rng⟩
        · split
          · exact h.crash _
          · split
            · exact ⟨h.ok.Start, h.rng⟩
            · exact h.Write _ _ _
end ROk
end Go.Proofs.Ythnechlnaacgfaa
