/- disk: plain laws: what stays right of a disk. -/
import Derived.Test.YtjncmlglhegnaaaGreatDoorDiskP
namespace Go.Proofs.YtjncmlglhegnaaaGreatDoor

section
variable {κ ν : Type} [DecidableEq κ]
theorem getA_put_same (k : κ) (v : ν) : ∀ es : List (κ × ν), getA k (putA k v es) = some v
  | [] => by simp [putA, getA]
  | (k', v') :: es => by
    by_cases h : k = k'
    · simp [putA, getA, h]
    · simp [putA, getA, h, getA_put_same k v es]
theorem getA_put_ne {k k1 : κ} (v : ν) (hne : k1 ≠ k) : ∀ es : List (κ × ν), getA k1 (putA k v es) = getA k1 es
  | [] => by simp [putA, getA, hne]
  | (k', v') :: es => by
    by_cases h : k = k'
    · subst h; simp [putA, getA, hne]
    · by_cases h1 : k1 = k'
      · simp [putA, getA, h, h1]
      · simp [putA, getA, h, h1, getA_put_ne v hne es]
theorem mem_putA {k : κ} {v : ν} {p : κ × ν} : ∀ {es : List (κ × ν)}, p ∈ putA k v es → p = (k, v) ∨ p ∈ es
  | [], h => by simp [putA] at h; exact .inl h
  | (k', v') :: es, h => by
    unfold putA at h
    split at h
    · rcases List.mem_cons.1 h with h | h
      · exact .inl h
      · exact .inr (List.mem_cons_of_mem _ h)
    · rcases List.mem_cons.1 h with h | h
      · exact .inr (by simp [h])
      · rcases mem_putA h with h | h
        · exact .inl h
        · exact .inr (List.mem_cons_of_mem _ h)
theorem putA_nodup {k : κ} {v : ν} : ∀ {es : List (κ × ν)}, (es.map (·.1)).Nodup → ((putA k v es).map (·.1)).Nodup
  | [], _ => by simp [putA]
  | (k', v') :: es, h => by
    simp only [List.map_cons, List.nodup_cons] at h
    unfold putA
    split
    · rename_i hk
      subst hk
      simpa using h
    · rename_i hk
      simp only [List.map_cons, List.nodup_cons]
      refine ⟨fun hm => ?_, putA_nodup h.2⟩
      obtain ⟨p, hp, hpk⟩ := List.mem_map.1 hm
      rcases mem_putA hp with rfl | hp
      · exact hk hpk
      · exact h.1 (List.mem_map.2 ⟨p, hp, hpk⟩)
theorem getA_mem {k : κ} {v : ν} : ∀ {es : List (κ × ν)}, getA k es = some v → (k, v) ∈ es
  | [], h => by simp [getA] at h
  | (k', v') :: es, h => by
    unfold getA at h
    split at h
    · rename_i hk
      subst hk
      simp only [Option.some.injEq] at h
      simp [h]
    · exact List.mem_cons_of_mem _ (getA_mem h)
theorem getA_map {ν' : Type} (f : ν → ν') (k : κ) : ∀ es : List (κ × ν), getA k (es.map fun p => (p.1, f p.2)) = (getA k es).map f
  | [] => rfl
  | (k', v') :: es => by
    by_cases h : k = k'
    · simp [getA, h]
    · simp [getA, h, getA_map f k es]
end
/-- as many different numbers below M: no more than M -/
theorem pigeon : ∀ (M : Nat) (l : List Nat), l.Nodup → (∀ x ∈ l, x < M) → l.length ≤ M
  | 0, l, _, h => by
    cases l with
    | nil => simp
    | cons a l => exact absurd (h a (by simp)) (by omega)
  | M + 1, l, hn, h => by
    have h1 := pigeon M (l.erase M) (hn.erase _) (fun x hx => by
      have hx' := List.Nodup.mem_erase_iff hn |>.1 hx
      have := h x hx'.2
      have := hx'.1
      omega)
    have h2 : l.length ≤ (l.erase M).length + 1 := by
      rw [List.length_erase]
      split <;> omega
    omega

theorem putB_length (s t : List UInt8) (n : Nat) (ht : t ≠ []) : (putB s n t).length = max s.length (n + t.length) := by
  rw [putB, if_neg ht]
  simp
  omega
theorem putB_nil (s : List UInt8) (n : Nat) : putB s n [] = s := by simp [putB]
theorem putB_le (s t : List UInt8) (n M : Nat) (hs : s.length ≤ M) (ht : n + t.length ≤ M) : (putB s n t).length ≤ M := by
  by_cases h : t = []
  · subst h; rw [putB_nil]; exact hs
  · rw [putB_length _ _ _ h]; omega

structure DOk (d : DV) : Prop where
  armed : 0 ≤ d.armed ∧ d.armed ≤ 9223372036854775807
  lost : 0 ≤ d.lost ∧ d.lost ≤ 9223372036854775807
  files : ∀ p ∈ d.files, p.2.now.length ≤ 16777216 ∧ p.2.last.length ≤ 16777216
  keys : (d.files.map (·.1)).Nodup
  queue : ∀ p ∈ d.queue, (0 ≤ p.1 ∧ p.1 < 16) ∧ 0 ≤ p.2 ∧ p.2 ≤ 262144
  nodup : d.queue.Nodup
  klen : d.keep.length ≤ 4194320
namespace DOk
variable {d : DV}
theorem file (h : DOk d) (f : Int) : (d.file f).now.length ≤ 16777216 ∧ (d.file f).last.length ≤ 16777216 := by
  unfold DV.file
  cases hg : getA f d.files with
  | none => simp [noFile]
  | some x => exact h.files _ (getA_mem hg)
theorem len (h : DOk d) : d.queue.length ≤ 4194320 := by
  have h1 := pigeon 4194320 (d.queue.map fun p => p.1.toNat * 262145 + p.2.toNat) (by
    rw [List.nodup_iff_pairwise_ne, List.pairwise_map]
    refine (List.nodup_iff_pairwise_ne.1 h.nodup).imp_of_mem fun {a b} ha hb hne e => hne ?_
    have h1 := h.queue a ha
    have h2 := h.queue b hb
    ext <;> omega) (fun x hx => by
    obtain ⟨p, hp, rfl⟩ := List.mem_map.1 hx
    have := h.queue p hp
    omega)
  simpa using h1
theorem new : DOk newD := ⟨by simp [newD], by simp [newD], by simp [newD], by simp [newD], by simp [newD], by simp [newD], by simp [newD]⟩
theorem ends (h : DOk d) : DOk (endsF d).1 := by
  unfold endsF
  split
  · exact h
  · rename_i hc
    have := h.armed
    exact ⟨by show 0 ≤ d.armed - 1 ∧ d.armed - 1 ≤ _; omega, h.lost, h.files, h.keys, h.queue, h.nodup, h.klen⟩
theorem putFile (h : DOk d) (f : Int) (x : FileV) (hx : x.now.length ≤ 16777216 ∧ x.last.length ≤ 16777216) : DOk { d with files := putA f x d.files } :=
  ⟨h.armed, h.lost, fun p hp => by
    rcases mem_putA hp with rfl | hp
    · exact hx
    · exact h.files p hp, putA_nodup h.keys, h.queue, h.nodup, h.klen⟩
end DOk
theorem addQ_mem {p : Int × Int} : ∀ (ps q : List (Int × Int)), p ∈ addQ q ps ↔ p ∈ q ∨ p ∈ ps
  | [], q => by simp [addQ]
  | x :: ps, q => by
    unfold addQ
    rw [addQ_mem ps]
    split
    · rename_i hx
      constructor
      · rintro (h | h)
        · exact .inl h
        · exact .inr (List.mem_cons_of_mem _ h)
      · rintro (h | h)
        · exact .inl h
        · rcases List.mem_cons.1 h with rfl | h
          · exact .inl hx
          · exact .inr h
    · simp only [List.mem_append, List.mem_cons, List.not_mem_nil, or_false]
      constructor
      · rintro ((h | h) | h)
        · exact .inl h
        · exact .inr (.inl h)
        · exact .inr (.inr h)
      · rintro (h | h | h)
        · exact .inl (.inl h)
        · exact .inl (.inr h)
        · exact .inr h
theorem addQ_nodup : ∀ (ps q : List (Int × Int)), q.Nodup → (addQ q ps).Nodup
  | [], q, h => h
  | x :: ps, q, h => by
    unfold addQ
    refine addQ_nodup ps _ ?_
    split
    · exact h
    · rename_i hx
      rw [List.nodup_append]
      refine ⟨h, by simp, fun a ha b hb => ?_⟩
      simp only [List.mem_singleton] at hb
      rintro rfl
      exact hx (hb ▸ ha)
theorem addQ_append : ∀ (ps qs q : List (Int × Int)), addQ q (ps ++ qs) = addQ (addQ q ps) qs
  | [], qs, q => rfl
  | x :: ps, qs, q => by simp only [List.cons_append, addQ]; exact addQ_append ps qs _
theorem touched_mem {f : Int} {at_ n : Nat} {p : Int × Int} (h : p ∈ touched f at_ n) : p.1 = f ∧ ∃ k : Nat, p.2 = (k : Int) ∧ at_ / 64 ≤ k ∧ k ≤ at_ / 64 + (((at_ + n - 1) / 64) - at_ / 64) := by
  unfold touched at h
  obtain ⟨i, hi, rfl⟩ := List.mem_map.1 h
  have := List.mem_range.1 hi
  exact ⟨rfl, at_ / 64 + i, rfl, by omega, by omega⟩
namespace DOk
variable {d : DV}
theorem may {f : Int} (h : mayF d f = 0) : d.down = false ∧ 0 ≤ f ∧ f < 16 := by
  unfold mayF at h
  split at h
  · cases h
  · rename_i hd
    split at h
    · cases h
    · exact ⟨by simpa using hd, by omega, by omega⟩
theorem write (h : DOk d) (f at_ : Int) (s : List UInt8) : DOk (writeF d f at_ s).1 := by
  unfold writeF
  split
  · exact h
  · rename_i hm
    have hm' := may (by omega : mayF d f = 0)
    split
    · exact h
    · split
      · exact h
      · split
        · exact h
        · rename_i h1 h2 h3
          have hf := h.file f
          have hs : 0 < s.length := List.length_pos_iff.2 h3
          have h4 := h.putFile f ⟨putB (d.file f).now at_.toNat s, (d.file f).last⟩ ⟨putB_le _ _ _ _ hf.1 (by omega), hf.2⟩
          refine ⟨h4.armed, h4.lost, h4.files, h4.keys, fun p hp => ?_, addQ_nodup _ _ h.nodup, h.klen⟩
          rcases (addQ_mem _ _).1 hp with hp | hp
          · exact h.queue p hp
          · obtain ⟨rfl, k, hk, h5, h6⟩ := touched_mem hp
            exact ⟨hm'.2, by omega, by omega⟩
theorem settle (h : DOk d) (f : Int) (s : List UInt8) (hs : s.length ≤ 16777216) : DOk (settleF d f s) := by
  have h4 := h.putFile f ⟨s, s⟩ ⟨hs, hs⟩
  exact ⟨h4.armed, h4.lost, h4.files, h4.keys, fun p hp => h.queue p (List.mem_filter.1 hp).1, h.nodup.filter _, h.klen⟩
end DOk
/-- the files alone, while sectors survive -/
def FOk (fs : List (Int × FileV)) : Prop := (∀ p ∈ fs, p.2.now.length ≤ 16777216 ∧ p.2.last.length ≤ 16777216) ∧ (fs.map (·.1)).Nodup
theorem FOk.get {fs : List (Int × FileV)} (h : FOk fs) (f : Int) : ((getA f fs).getD noFile).now.length ≤ 16777216 ∧ ((getA f fs).getD noFile).last.length ≤ 16777216 := by
  cases hg : getA f fs with
  | none => simp [noFile]
  | some x => exact h.1 _ (getA_mem hg)
theorem FOk.survive {fs : List (Int × FileV)} (h : FOk fs) (p : Int × Int) : FOk (surviveF fs p) := by
  have hg := h.get p.1
  unfold surviveF
  dsimp only
  split
  · exact h
  · rename_i hlt
    refine ⟨fun q hq => ?_, putA_nodup h.2⟩
    rcases mem_putA hq with rfl | hq
    · refine ⟨hg.1, putB_le _ _ _ _ hg.2 ?_⟩
      simp only [List.length_take, List.length_drop]
      omega
    · exact h.1 q hq
theorem FOk.surviveAll : ∀ {keep : List Int} {ps : List (Int × Int)} {i : Nat} {fs : List (Int × FileV)}, FOk fs → FOk (surviveAll keep i ps fs)
  | _, [], _, _, h => h
  | keep, p :: ps, i, fs, h => by
    unfold Go.Proofs.YtjncmlglhegnaaaGreatDoor.surviveAll
    refine FOk.surviveAll ?_
    split
    · exact h
    · exact h.survive p
namespace DOk
variable {d : DV}
theorem fok (h : DOk d) : FOk d.files := ⟨h.files, h.keys⟩
theorem crash (h : DOk d) (keep : List Int) : DOk (crashF d keep) := by
  unfold crashF
  split
  · exact h
  · have hf := FOk.surviveAll (keep := keep) (ps := d.queue) (i := 0) h.fok
    refine ⟨by simp, h.lost, fun p hp => ?_, ?_, by simp, by simp, h.klen⟩
    · obtain ⟨q, hq, rfl⟩ := List.mem_map.1 hp
      exact ⟨(hf.1 q hq).2, (hf.1 q hq).2⟩
    · simpa [Function.comp_def] using hf.2
theorem Write (h : DOk d) (f at_ : Int) (s : List UInt8) : DOk (WriteF d f at_ s).1 := by
  unfold WriteF
  dsimp only
  split
  · exact (h.ends.write f at_ s).crash _
  · exact h.ends.write f at_ s
theorem begin_ (h : DOk d) : DOk (beginF d) := by
  unfold beginF
  dsimp only
  split
  · exact h.ends.crash _
  · exact h.ends
theorem Sync (h : DOk d) (f : Int) : DOk (SyncF d f).1 := by
  unfold SyncF
  dsimp only
  have hb := h.begin_
  split
  · exact hb
  · split
    · have := hb.lost
      exact ⟨hb.armed, by show 0 ≤ _ - 1 ∧ _ - 1 ≤ _; omega, hb.files, hb.keys, hb.queue, hb.nodup, hb.klen⟩
    · exact hb.settle _ _ (hb.file f).1
theorem Trunc (h : DOk d) (f n : Int) : DOk (TruncF d f n).1 := by
  unfold TruncF
  dsimp only
  have hb := h.begin_
  split
  · exact hb
  · split
    · exact hb
    · refine hb.settle _ _ ?_
      have := (hb.file f).1
      simp only [List.length_take]
      omega
theorem Lose (h : DOk d) (n : Int) (hn : n ≤ 9223372036854775807) : DOk (LoseF d n) := ⟨h.armed, by show 0 ≤ max n 0 ∧ max n 0 ≤ _; omega, h.files, h.keys, h.queue, h.nodup, h.klen⟩
theorem Arm (h : DOk d) (n : Int) (hn : n ≤ 9223372036854775807) (keep : List Int) (hk : keep.length ≤ 4194320) : DOk (ArmF d n keep) := ⟨by show 0 ≤ max n 0 ∧ max n 0 ≤ _; omega, h.lost, h.files, h.keys, h.queue, h.nodup, hk⟩
theorem Start (h : DOk d) : DOk (StartF d) := ⟨h.armed, h.lost, h.files, h.keys, h.queue, h.nodup, h.klen⟩
end DOk
end Go.Proofs.YtjncmlglhegnaaaGreatDoor
