/- disk: plain laws: what is durable, what survives; without the acts. -/
import Derived.Test.YtjncmlglhegnaaaGreatDoorDiskR0
namespace Go.Proofs.YtjncmlglhegnaaaGreatDoor
def byteN (l : List UInt8) (i : Nat) : UInt8 := (l[i]?).getD 0
theorem byteN_lt {l : List UInt8} {i : Nat} (h : i < l.length) : l[i]? = some (byteN l i) := by
  unfold byteN
  rw [List.getElem?_eq_getElem h]
  rfl
theorem byteN_ge {l : List UInt8} {i : Nat} (h : l.length ≤ i) : byteN l i = 0 := by
  unfold byteN
  rw [List.getElem?_eq_none h]
  rfl
theorem putB_byte (s t : List UInt8) (n i : Nat) (ht : t ≠ []) : byteN (putB s n t) i = if i < n then byteN s i else if i < n + t.length then byteN t (i - n) else byteN s i := by
  unfold byteN
  rw [putB, if_neg ht]
  have hl : (List.take n (s ++ List.replicate (n - s.length) 0)).length = n := by simp; omega
  by_cases h1 : i < n
  · rw [if_pos h1, List.append_assoc, List.getElem?_append_left (by rw [hl]; exact h1), List.getElem?_take, if_pos h1]
    by_cases h2 : i < s.length
    · rw [List.getElem?_append_left h2]
    · rw [List.getElem?_append_right (by omega), List.getElem?_replicate, List.getElem?_eq_none (l := s) (by omega)]
      split <;> rfl
  · rw [if_neg h1]
    by_cases h2 : i < n + t.length
    · rw [if_pos h2, List.append_assoc, List.getElem?_append_right (by rw [hl]; omega), hl, List.getElem?_append_left (by omega)]
    · rw [if_neg h2, List.getElem?_append_right (by rw [List.length_append, hl]; omega), List.length_append, hl, List.getElem?_drop]
      congr 2
      omega
/-- what is durable, what is pending -/
def Inv (d : DV) : Prop := ∀ f, (d.file f).last.length ≤ (d.file f).now.length ∧
  (∀ i, i < (d.file f).now.length → (f, ((i / 64 : Nat) : Int)) ∉ d.queue → byteN (d.file f).now i = byteN (d.file f).last i) ∧
  ((d.file f).last.length < (d.file f).now.length → (f, ((((d.file f).now.length - 1) / 64 : Nat) : Int)) ∈ d.queue)
namespace Inv
variable {d : DV}
theorem new : Inv newD := fun f => ⟨by simp [newD, DV.file, getA, noFile], by simp [newD, DV.file, getA, noFile], by simp [newD, DV.file, getA, noFile]⟩
theorem of (h : Inv d) {d' : DV} (h1 : d'.files = d.files) (h2 : d'.queue = d.queue) : Inv d' := fun f => by rw [DV.file_of h1, h2]; exact h f
theorem touched_has (f : Int) (a n i : Nat) (h1 : a / 64 ≤ i) (h2 : i ≤ (a + n - 1) / 64) : (f, (i : Int)) ∈ touched f a n := by
  unfold touched
  refine List.mem_map.2 ⟨i - a / 64, List.mem_range.2 (by omega), ?_⟩
  rw [show a / 64 + (i - a / 64) = i by omega]
theorem write (h : Inv d) (g at_ : Int) (s : List UInt8) : Inv (writeF d g at_ s).1 := by
  unfold writeF
  split
  · exact h
  · split
    · exact h
    · split
      · exact h
      · split
        · exact h
        · rename_i h1 h2 h3
          have hs : 0 < s.length := List.length_pos_iff.2 h3
          intro f
          by_cases hf : f = g
          · subst hf
            have hfile : ({ d with files := putA f ⟨putB (d.file f).now at_.toNat s, (d.file f).last⟩ d.files, queue := addQ d.queue (touched f at_.toNat s.length) } : DV).file f = ⟨putB (d.file f).now at_.toNat s, (d.file f).last⟩ := file_put' rfl
            rw [hfile]
            simp only
            generalize at_.toNat = a at *
            obtain ⟨i1, i2, i3⟩ := h f
            have hlen := putB_length (d.file f).now s a h3
            refine ⟨by rw [hlen]; omega, fun i hi hq => ?_, fun hlt => ?_⟩
            · have hnt : ¬ (a / 64 ≤ i / 64 ∧ i / 64 ≤ (a + s.length - 1) / 64) := fun ⟨x1, x2⟩ => hq ((addQ_mem _ _).2 (.inr (touched_has f a s.length (i / 64) x1 x2)))
              have hq0 : (f, ((i / 64 : Nat) : Int)) ∉ d.queue := fun hx => hq ((addQ_mem _ _).2 (.inl hx))
              rw [putB_byte _ _ _ _ h3]
              rw [hlen] at hi
              have e : (if i < a then byteN (d.file f).now i else if i < a + s.length then byteN s (i - a) else byteN (d.file f).now i) = byteN (d.file f).now i := by
                split
                · rfl
                · rw [if_neg (by omega)]
              rw [e]
              by_cases hin : i < (d.file f).now.length
              · exact i2 i hin hq0
              · rw [byteN_ge (by omega), byteN_ge (by omega)]
            · rw [addQ_mem]
              by_cases hx : (d.file f).now.length ≤ a + s.length
              · refine .inr ?_
                have e : (putB (d.file f).now a s).length = a + s.length := by omega
                rw [e]
                exact touched_has f a s.length _ (by omega) (Nat.le_refl _)
              · refine .inl ?_
                have e : (putB (d.file f).now a s).length = (d.file f).now.length := by omega
                rw [e]
                exact i3 (by omega)
          · have hfile : ({ d with files := putA g ⟨putB (d.file g).now at_.toNat s, (d.file g).last⟩ d.files, queue := addQ d.queue (touched g at_.toNat s.length) } : DV).file f = d.file f := by
              unfold DV.file
              rw [getA_put_ne _ hf]
            rw [hfile]
            have hq : ∀ x : Int, (f, x) ∈ addQ d.queue (touched g at_.toNat s.length) ↔ (f, x) ∈ d.queue := fun x => by
              rw [addQ_mem]
              refine ⟨fun hx => hx.elim id fun hx => absurd (touched_mem hx).1 hf, .inl⟩
            obtain ⟨i1, i2, i3⟩ := h f
            exact ⟨i1, fun i hi hx => i2 i hi (fun hy => hx ((hq _).2 hy)), fun hlt => (hq _).2 (i3 hlt)⟩
theorem settle (h : Inv d) (g : Int) (s : List UInt8) : Inv (settleF d g s) := by
  intro f
  by_cases hf : f = g
  · subst hf
    rw [settle_file]
    exact ⟨Nat.le_refl _, fun _ _ _ => rfl, fun hlt => absurd hlt (Nat.lt_irrefl _)⟩
  · have hfile : (settleF d g s).file f = d.file f := by
      unfold DV.file settleF
      rw [getA_put_ne _ hf]
    rw [hfile]
    have hq : ∀ x : Int, (f, x) ∈ (settleF d g s).queue ↔ (f, x) ∈ d.queue := fun x => by
      unfold settleF
      simp [hf]
    obtain ⟨i1, i2, i3⟩ := h f
    exact ⟨i1, fun i hi hx => i2 i hi (fun hy => hx ((hq _).2 hy)), fun hlt => (hq _).2 (i3 hlt)⟩
theorem crash (h : Inv d) (keep : List Int) : Inv (crashF d keep) := by
  cases hd : d.down with
  | true => rw [crashF, if_pos hd]; exact h
  | false =>
    intro f
    rw [crash_file hd]
    exact ⟨Nat.le_refl _, fun _ _ _ => rfl, fun hlt => absurd hlt (Nat.lt_irrefl _)⟩
theorem ends (h : Inv d) : Inv (endsF d).1 := by
  unfold endsF
  split
  · exact h
  · exact h.of rfl rfl
theorem begin_ (h : Inv d) : Inv (beginF d) := by
  unfold beginF
  dsimp only
  split
  · exact h.ends.crash _
  · exact h.ends
end Inv
/-- what a file's durable part has become: the sectors of S are what the file has there, the others are as they were -/
structure Surv (now last : List UInt8) (S : Nat → Bool) (last' : List UInt8) : Prop where
  ge : last.length ≤ last'.length
  le : last'.length ≤ max last.length now.length
  byte : ∀ j, j < last'.length → byteN last' j = if S (j / 64) = true ∧ j < now.length then byteN now j else byteN last j
  full : ∀ m, S m = true → 64 * m < now.length → min (64 * m + 64) now.length ≤ last'.length
theorem Surv.refl (now last : List UInt8) : Surv now last (fun _ => false) last := ⟨Nat.le_refl _, by omega, fun j _ => by simp, fun m h => by cases h⟩
theorem Surv.trans {now last last1 last2 : List UInt8} {S1 S2 : Nat → Bool} (h1 : Surv now last S1 last1) (h2 : Surv now last1 S2 last2) : Surv now last (fun m => S1 m || S2 m) last2 := by
  have a1 := h1.ge
  have a2 := h2.ge
  have b1 := h1.le
  have b2 := h2.le
  refine ⟨by omega, by omega, fun j hj => ?_, fun m hm hlt => ?_⟩
  · rw [h2.byte j hj]
    by_cases hs2 : S2 (j / 64) = true ∧ j < now.length
    · rw [if_pos hs2, if_pos (by simp [hs2])]
    · rw [if_neg hs2]
      by_cases hj1 : j < last1.length
      · rw [h1.byte j hj1]
        by_cases hs1 : S1 (j / 64) = true ∧ j < now.length
        · rw [if_pos hs1, if_pos (by simp [hs1])]
        · rw [if_neg hs1, if_neg (fun h => by
            simp only [Bool.or_eq_true] at h
            rcases h.1 with h' | h'
            · exact hs1 ⟨h', h.2⟩
            · exact hs2 ⟨h', h.2⟩)]
      · rw [byteN_ge (by omega)]
        by_cases hs1 : S1 (j / 64) = true ∧ j < now.length
        · have := h1.full (j / 64) hs1.1 (by omega)
          omega
        · rw [if_neg (fun h => by
            simp only [Bool.or_eq_true] at h
            rcases h.1 with h' | h'
            · exact hs1 ⟨h', h.2⟩
            · exact hs2 ⟨h', h.2⟩), byteN_ge (by omega)]
  · simp only [Bool.or_eq_true] at hm
    rcases hm with hm | hm
    · have := h1.full m hm hlt
      omega
    · exact h2.full m hm hlt
theorem Surv.one (now last : List UInt8) (m : Nat) : (now.length ≤ 64 * m → Surv now last (fun k => k == m) last) ∧ (64 * m < now.length → Surv now last (fun k => k == m) (putB last (64 * m) ((now.drop (64 * m)).take 64))) := by
  refine ⟨fun hle => ⟨Nat.le_refl _, by omega, fun j _ => ?_, fun k hk hlt => ?_⟩, fun hlt => ?_⟩
  · rw [if_neg (fun h => by
      have : j / 64 = m := by simpa using h.1
      omega)]
  · have : k = m := by simpa using hk
    omega
  · have htl : ((now.drop (64 * m)).take 64).length = min 64 (now.length - 64 * m) := by simp
    have hne : (now.drop (64 * m)).take 64 ≠ [] := fun e => by
      rw [e] at htl
      simp at htl
      omega
    have hlen := putB_length last _ (64 * m) hne
    rw [htl] at hlen
    refine ⟨by omega, by omega, fun j hj => ?_, fun k hk _ => ?_⟩
    · rw [putB_byte _ _ _ _ hne, htl]
      by_cases h1 : j < 64 * m
      · rw [if_pos h1, if_neg (fun h => by
          have : j / 64 = m := by simpa using h.1
          omega)]
      · rw [if_neg h1]
        by_cases h2 : j < 64 * m + min 64 (now.length - 64 * m)
        · rw [if_pos h2, if_pos ⟨by simp; omega, by omega⟩]
          unfold byteN
          rw [List.getElem?_take, if_pos (by omega), List.getElem?_drop]
          congr 2
          omega
        · rw [if_neg h2, if_neg (fun h => by
            have : j / 64 = m := by simpa using h.1
            omega)]
    · have : k = m := by simpa using hk
      omega
def odd (keep : List Int) : Prop := keep ≠ [] ∧ ∀ i, (keep[i % keep.length]?).getD 0 % 2 ≠ 0
theorem surv_all (keep : List Int) (f : Int) (now : List UInt8) : ∀ (ps : List (Int × Int)) (i : Nat) (fs : List (Int × FileV)) (last : List UInt8), (getA f fs).getD noFile = ⟨now, last⟩ → (∀ p ∈ ps, 0 ≤ p.2) →
    ∃ S last', (getA f (surviveAll keep i ps fs)).getD noFile = ⟨now, last'⟩ ∧ Surv now last S last' ∧ (odd keep → ∀ m : Nat, (f, (m : Int)) ∈ ps → S m = true)
  | [], i, fs, last, h, _ => ⟨_, last, h, Surv.refl now last, fun _ m hm => by cases hm⟩
  | (g, x) :: ps, i, fs, last, h, hp => by
    obtain ⟨m, rfl⟩ : ∃ m : Nat, x = (m : Int) := ⟨x.toNat, by have := hp (g, x) (by simp); omega⟩
    have step : ∃ S1 last1, (getA f (if keep = [] ∨ (keep[i % keep.length]?).getD 0 % 2 = 0 then fs else surviveF fs (g, (m : Int)))).getD noFile = ⟨now, last1⟩ ∧ Surv now last S1 last1 ∧ (odd keep → g = f → S1 m = true) := by
      by_cases hk : keep = [] ∨ (keep[i % keep.length]?).getD 0 % 2 = 0
      · rw [if_pos hk]
        refine ⟨_, last, h, Surv.refl now last, fun ho _ => ?_⟩
        rcases hk with hk | hk
        · exact absurd hk ho.1
        · exact absurd hk (ho.2 i)
      · rw [if_neg hk]
        by_cases hg : g = f
        · subst hg
          have h1 := Surv.one now last m
          unfold surviveF
          dsimp only
          rw [h]
          by_cases hle : (now.length : Int) ≤ (m : Int) * 64
          · rw [if_pos hle]
            exact ⟨_, last, h, h1.1 (by omega), fun _ _ => by simp⟩
          · rw [if_neg hle, getA_put_same]
            have e : ((m : Int) * 64).toNat = 64 * m := by omega
            rw [e]
            exact ⟨_, _, rfl, h1.2 (by omega), fun _ _ => by simp⟩
        · rw [getA_survive_ne hg]
          exact ⟨_, last, h, Surv.refl now last, fun _ e => absurd e hg⟩
    obtain ⟨S1, last1, e1, s1, o1⟩ := step
    obtain ⟨S2, last2, e2, s2, o2⟩ := surv_all keep f now ps (i + 1) _ last1 e1 (fun p hp' => hp p (by simp [hp']))
    refine ⟨_, last2, by unfold surviveAll; exact e2, s1.trans s2, fun ho k hk => ?_⟩
    simp only [Bool.or_eq_true]
    rcases List.mem_cons.1 hk with hk | hk
    · simp only [Prod.mk.injEq] at hk
      have : k = m := by omega
      subst this
      exact .inl (o1 ho hk.1.symm)
    · exact .inr (o2 ho k hk)
theorem ext_byte {a b : List UInt8} (hl : a.length = b.length) (h : ∀ j, j < a.length → byteN a j = byteN b j) : a = b := by
  apply List.ext_getElem?
  intro j
  by_cases hj : j < a.length
  · rw [byteN_lt hj, byteN_lt (by omega), h j hj]
  · rw [List.getElem?_eq_none (by omega), List.getElem?_eq_none (by omega)]
end Go.Proofs.YtjncmlglhegnaaaGreatDoor
