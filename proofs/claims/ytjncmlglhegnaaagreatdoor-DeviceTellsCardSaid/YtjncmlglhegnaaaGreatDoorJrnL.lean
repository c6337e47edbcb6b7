/- disk: plain laws: a settled file, a successful sync; without the acts. -/
/- disk: plain laws: what is durable, what survives; without the acts. -/
/- journal: torn strings (bytes missing at the end, or 0), in plain Lean. -/
/- journal: the file of a journal on a disk that tears, in plain Lean. -/
/- journal: Append, Sync, Open on a disk that tears, in plain Lean. -/
/- kerbsidelaw03: what JournalLasts and JournalStays keep from round to round, in plain Lean; lists that are read alone. -/
/- kerbsidelaw03: what JournalReads and JournalTorn ask of Open: a disk that is up, with nothing armed or lost, in plain Lean. -/
import Derived.Test.YtjncmlglhegnaaaGreatDoorDiskQ
import Derived.Test.YtjncmlglhegnaaaGreatDoorDevP
import Derived.Test.YtjncmlglhegnaaaGreatDoorDevO
import Derived.Test.YtjncmlglhegnaaaGreatDoorDevB
namespace Go.Proofs.YtjncmlglhegnaaaGreatDoor
/- a file that is settled -/
def Stb (f : Int) (X : List UInt8) (d : DV) : Prop := d.file f = ⟨X, X⟩ ∧ ∀ p ∈ d.queue, p.1 ≠ f
theorem getA_survive_ne {f : Int} {p : Int × Int} (h : p.1 ≠ f) (fs : List (Int × FileV)) : getA f (surviveF fs p) = getA f fs := by
  unfold surviveF
  dsimp only
  split
  · rfl
  · exact getA_put_ne _ (fun e => h e.symm) _
theorem getA_surviveAll_ne {f : Int} (keep : List Int) : ∀ (ps : List (Int × Int)) (i : Nat) (fs : List (Int × FileV)), (∀ p ∈ ps, p.1 ≠ f) → getA f (surviveAll keep i ps fs) = getA f fs
  | [], _, _, _ => rfl
  | p :: ps, i, fs, h => by
    unfold surviveAll
    rw [getA_surviveAll_ne keep ps (i + 1) _ (fun q hq => h q (by simp [hq]))]
    split
    · rfl
    · exact getA_survive_ne (h p (by simp)) fs
namespace Stb
variable {f : Int} {X : List UInt8} {d : DV}
theorem of (h : Stb f X d) {d' : DV} (h1 : d'.files = d.files) (h2 : d'.queue = d.queue) : Stb f X d' := ⟨by rw [DV.file_of h1]; exact h.1, by rw [h2]; exact h.2⟩
theorem crash (h : Stb f X d) (keep : List Int) : Stb f X (crashF d keep) := by
  cases hd : d.down with
  | true => rw [crashF, if_pos hd]; exact h
  | false =>
    refine ⟨?_, ?_⟩
    · rw [crash_file hd, getA_surviveAll_ne keep _ _ _ h.2]
      have := h.1
      unfold DV.file at this
      rw [this]
    · unfold crashF
      rw [if_neg (by simp [hd])]
      simp
theorem ends (h : Stb f X d) : Stb f X (endsF d).1 := by
  unfold endsF
  split
  · exact h
  · exact h.of rfl rfl
theorem begin_ (h : Stb f X d) : Stb f X (beginF d) := by
  unfold beginF
  dsimp only
  split
  · exact h.ends.crash _
  · exact h.ends
theorem write (h : Stb f X d) {g : Int} (hg : g ≠ f) (a : Int) (s : List UInt8) : Stb f X (writeF d g a s).1 := by
  unfold writeF
  split
  · exact h
  · split
    · exact h
    · split
      · exact h
      · split
        · exact h
        · refine ⟨?_, fun p hp => ?_⟩
          · have h1 : ({ d with files := putA g ⟨putB (d.file g).now a.toNat s, (d.file g).last⟩ d.files, queue := addQ d.queue (touched g a.toNat s.length) } : DV).file f = d.file f := by
              unfold DV.file
              rw [getA_put_ne _ (fun e => hg e.symm)]
            exact h1.trans h.1
          · rcases (addQ_mem _ _).1 hp with hp | hp
            · exact h.2 p hp
            · rw [(touched_mem hp).1]; exact hg
theorem settle (h : Stb f X d) {g : Int} (hg : g ≠ f) (s : List UInt8) : Stb f X (settleF d g s) := by
  refine ⟨?_, fun p hp => h.2 p (List.mem_filter.1 hp).1⟩
  have h1 : (settleF d g s).file f = d.file f := by
    unfold DV.file settleF
    rw [getA_put_ne _ (fun e => hg e.symm)]
  exact h1.trans h.1
theorem Write (h : Stb f X d) {g : Int} (hg : g ≠ f) (a : Int) (s : List UInt8) : Stb f X (WriteF d g a s).1 := by
  unfold WriteF
  dsimp only
  split
  · exact (h.ends.write hg a s).crash _
  · exact h.ends.write hg a s
theorem Sync (h : Stb f X d) {g : Int} (hg : g ≠ f) : Stb f X (SyncF d g).1 := by
  unfold SyncF
  dsimp only
  split
  · exact h.begin_
  · split
    · exact h.begin_.of rfl rfl
    · exact h.begin_.settle hg _
theorem Trunc (h : Stb f X d) {g : Int} (hg : g ≠ f) (n : Int) : Stb f X (TruncF d g n).1 := by
  unfold TruncF
  dsimp only
  split
  · exact h.begin_
  · split
    · exact h.begin_
    · exact h.begin_.settle hg _
theorem read (h : Stb f X d) (hok : DOk d) (h0 : 0 ≤ f) (h1 : f < 16) (keep : List Int) : ReadF (StartF (crashF d keep)) f 0 16777216 = (X, 0) := by
  have hc := h.crash keep
  rw [ReadF_ok (mayB rfl h0 h1) _ _ (by omega) (by omega), Start_file, hc.1]
  have := (hok.file f).1
  rw [h.1] at this
  simp only [Int.toNat_zero, List.drop_zero]
  rw [List.take_of_length_le (by simpa using this)]
end Stb
theorem crash_is_down (d : DV) (keep : List Int) : (crashF d keep).down = true := by
  unfold crashF
  split
  · assumption
  · rfl
theorem sync_ok {d : DV} {f : Int} (hok : DOk d) (h : (SyncF d f).2 = 0) :
    (0 ≤ f ∧ f < 16) ∧ ReadF d f 0 16777216 = ((d.file f).now, 0) ∧ Stb f (d.file f).now (SyncF d f).1 ∧ ReadF (SyncF d f).1 f 0 16777216 = ((d.file f).now, 0) := by
  unfold SyncF at h ⊢
  dsimp only at h ⊢
  by_cases hm : mayF (beginF d) f = 0
  · obtain ⟨hd, h0, h1⟩ := DOk.may hm
    have hb : (endsF d).2 = false := by
      cases he : (endsF d).2
      · rfl
      · have : beginF d = crashF (endsF d).1 (endsF d).1.keep := by
          unfold beginF
          simp [he]
        rw [this, crash_is_down] at hd
        cases hd
    have hbe : beginF d = (endsF d).1 := by
      unfold beginF
      simp [hb]
    have hf1 : (beginF d).files = d.files := by
      rw [hbe]
      unfold endsF
      split <;> rfl
    have hd1 : (beginF d).down = d.down := by
      rw [hbe]
      unfold endsF
      split <;> rfl
    have hfile : (beginF d).file f = d.file f := DV.file_of hf1 f
    rw [if_neg (by simp [hm])] at h ⊢
    split at h
    · cases h
    · rename_i hl
      rw [if_neg hl]
      have hlen := (hok.file f).1
      refine ⟨⟨h0, h1⟩, ?_, ⟨?_, ?_⟩, ?_⟩
      · rw [ReadF_ok (mayB (by rw [← hd1]; exact hd) h0 h1) _ _ (by omega) (by omega)]
        simp only [Int.toNat_zero, List.drop_zero]
        rw [List.take_of_length_le (by simpa using hlen)]
      · rw [hfile]; exact settle_file _ _ _
      · intro p hp
        have := (List.mem_filter.1 hp).2
        simpa using this
      · rw [ReadF_ok (mayB (d := settleF (beginF d) f ((beginF d).file f).now) hd h0 h1) _ _ (by omega) (by omega), settle_file, hfile]
        simp only [Int.toNat_zero, List.drop_zero]
        rw [List.take_of_length_le (by simpa using hlen)]
  · rw [if_pos hm] at h
    exact absurd h hm

/- two disks that are alike but for a scheduled crash -/
structure Sim (d c : DV) : Prop where
  files : d.files = c.files
  queue : d.queue = c.queue
  lost : d.lost = c.lost
  down : d.down = c.down
namespace Sim
variable {d c : DV}
theorem file (h : Sim d c) (f : Int) : d.file f = c.file f := DV.file_of h.files f
theorem may (h : Sim d c) (f : Int) : mayF d f = mayF c f := by unfold mayF; rw [h.down]
theorem write (h : Sim d c) (f a : Int) (s : List UInt8) : (writeF d f a s).2 = (writeF c f a s).2 ∧ Sim (writeF d f a s).1 (writeF c f a s).1 ∧ (writeF d f a s).1.armed = d.armed ∧ (writeF d f a s).1.keep = d.keep := by
  unfold writeF
  rw [h.may f]
  split
  · exact ⟨rfl, h, rfl, rfl⟩
  · split
    · exact ⟨rfl, h, rfl, rfl⟩
    · split
      · exact ⟨rfl, h, rfl, rfl⟩
      · split
        · exact ⟨rfl, h, rfl, rfl⟩
        · exact ⟨rfl, ⟨by show putA _ _ _ = putA _ _ _; rw [h.file f, h.files], by show addQ _ _ = addQ _ _; rw [h.queue], h.lost, h.down⟩, rfl, rfl⟩
theorem settle (h : Sim d c) (f : Int) (s : List UInt8) : Sim (settleF d f s) (settleF c f s) :=
  ⟨by show putA _ _ _ = putA _ _ _; rw [h.files], by show List.filter _ _ = List.filter _ _; rw [h.queue], h.lost, h.down⟩
theorem crash (h : Sim d c) (keep : List Int) : (crashF d keep).files = (crashF c keep).files ∧ Sim (crashF d keep) (crashF c keep) := by
  unfold crashF
  rw [h.down]
  split
  · exact ⟨h.files, h⟩
  · exact ⟨by show List.map _ _ = List.map _ _; rw [h.files, h.queue], by show List.map _ _ = List.map _ _; rw [h.files, h.queue], rfl, h.lost, rfl⟩
theorem armed (h : Sim d c) (n : Int) : Sim { d with armed := n } c := ⟨h.files, h.queue, h.lost, h.down⟩
end Sim
/-- what 'same' asks -/
def SameD (d c : DV) : Prop := d.down = c.down ∧ d.files = c.files
theorem SameD.read {d c : DV} (h : SameD d c) (f a n : Int) : ReadF d f a n = ReadF c f a n := by
  unfold ReadF mayF
  rw [h.1, DV.file_of h.2]
end Go.Proofs.YtjncmlglhegnaaaGreatDoor
namespace Go.Proofs.YtjncmlglhegnaaaGreatDoor
def byteN (l : List UInt8) (i : Nat) : UInt8 := (l[i]?).getD 0
theorem byteN_lt {l : List UInt8} {i : Nat} (h : i < l.length) : l[i]? = some (byteN l i) := by
  unfold byteN
  rw [List.getElem?_eq_getElem h]
  rfl
theorem byteN_ge {l : List UInt8} {i : Nat} (h : l.length ≤ i) : byteN l i = 0 := by
  unfold byteN
  rw [List.getElem?_eq_none h]
  rfl
theorem putB_byte (s t : List UInt8) (n i : Nat) (ht : t ≠ []) : byteN (putB s n t) i = if i < n then byteN s i else if i < n + t.length then byteN t (i - n) else byteN s i := by
  unfold byteN
  rw [putB, if_neg ht]
  have hl : (List.take n (s ++ List.replicate (n - s.length) 0)).length = n := by simp; omega
  by_cases h1 : i < n
  · rw [if_pos h1, List.append_assoc, List.getElem?_append_left (by rw [hl]; exact h1), List.getElem?_take, if_pos h1]
    by_cases h2 : i < s.length
    · rw [List.getElem?_append_left h2]
    · rw [List.getElem?_append_right (by omega), List.getElem?_replicate, List.getElem?_eq_none (l := s) (by omega)]
      split <;> rfl
  · rw [if_neg h1]
    by_cases h2 : i < n + t.length
    · rw [if_pos h2, List.append_assoc, List.getElem?_append_right (by rw [hl]; omega), hl, List.getElem?_append_left (by omega)]
    · rw [if_neg h2, List.getElem?_append_right (by rw [List.length_append, hl]; omega), List.length_append, hl, List.getElem?_drop]
      congr 2
      omega
/-- what is durable, what is pending -/
def Inv (d : DV) : Prop := ∀ f, (d.file f).last.length ≤ (d.file f).now.length ∧
  (∀ i, i < (d.file f).now.length → (f, ((i / 64 : Nat) : Int)) ∉ d.queue → byteN (d.file f).now i = byteN (d.file f).last i) ∧
  ((d.file f).last.length < (d.file f).now.length → (f, ((((d.file f).now.length - 1) / 64 : Nat) : Int)) ∈ d.queue)
namespace Inv
variable {d : DV}
theorem new : Inv newD := fun f => ⟨by simp [newD, DV.file, getA, noFile], by simp [newD, DV.file, getA, noFile], by simp [newD, DV.file, getA, noFile]⟩
theorem of (h : Inv d) {d' : DV} (h1 : d'.files = d.files) (h2 : d'.queue = d.queue) : Inv d' := fun f => by rw [DV.file_of h1, h2]; exact h f
theorem touched_has (f : Int) (a n i : Nat) (h1 : a / 64 ≤ i) (h2 : i ≤ (a + n - 1) / 64) : (f, (i : Int)) ∈ touched f a n := by
  unfold touched
  refine List.mem_map.2 ⟨i - a / 64, List.mem_range.2 (by omega), ?_⟩
  rw [show a / 64 + (i - a / 64) = i by omega]
theorem write (h : Inv d) (g at_ : Int) (s : List UInt8) : Inv (writeF d g at_ s).1 := by
  unfold writeF
  split
  · exact h
  · split
    · exact h
    · split
      · exact h
      · split
        · exact h
        · rename_i h1 h2 h3
          have hs : 0 < s.length := List.length_pos_iff.2 h3
          intro f
          by_cases hf : f = g
          · subst hf
            have hfile : ({ d with files := putA f ⟨putB (d.file f).now at_.toNat s, (d.file f).last⟩ d.files, queue := addQ d.queue (touched f at_.toNat s.length) } : DV).file f = ⟨putB (d.file f).now at_.toNat s, (d.file f).last⟩ := file_put' rfl
            rw [hfile]
            simp only
            generalize at_.toNat = a at *
            obtain ⟨i1, i2, i3⟩ := h f
            have hlen := putB_length (d.file f).now s a h3
            refine ⟨by rw [hlen]; omega, fun i hi hq => ?_, fun hlt => ?_⟩
            · have hnt : ¬ (a / 64 ≤ i / 64 ∧ i / 64 ≤ (a + s.length - 1) / 64) := fun ⟨x1, x2⟩ => hq ((addQ_mem _ _).2 (.inr (touched_has f a s.length (i / 64) x1 x2)))
              have hq0 : (f, ((i / 64 : Nat) : Int)) ∉ d.queue := fun hx => hq ((addQ_mem _ _).2 (.inl hx))
              rw [putB_byte _ _ _ _ h3]
              rw [hlen] at hi
              have e : (if i < a then byteN (d.file f).now i else if i < a + s.length then byteN s (i - a) else byteN (d.file f).now i) = byteN (d.file f).now i := by
                split
                · rfl
                · rw [if_neg (by omega)]
              rw [e]
              by_cases hin : i < (d.file f).now.length
              · exact i2 i hin hq0
              · rw [byteN_ge (by omega), byteN_ge (by omega)]
            · rw [addQ_mem]
              by_cases hx : (d.file f).now.length ≤ a + s.length
              · refine .inr ?_
                have e : (putB (d.file f).now a s).length = a + s.length := by omega
                rw [e]
                exact touched_has f a s.length _ (by omega) (Nat.le_refl _)
              · refine .inl ?_
                have e : (putB (d.file f).now a s).length = (d.file f).now.length := by omega
                rw [e]
                exact i3 (by omega)
          · have hfile : ({ d with files := putA g ⟨putB (d.file g).now at_.toNat s, (d.file g).last⟩ d.files, queue := addQ d.queue (touched g at_.toNat s.length) } : DV).file f = d.file f := by
              unfold DV.file
              rw [getA_put_ne _ hf]
            rw [hfile]
            have hq : ∀ x : Int, (f, x) ∈ addQ d.queue (touched g at_.toNat s.length) ↔ (f, x) ∈ d.queue := fun x => by
              rw [addQ_mem]
              refine ⟨fun hx => hx.elim id fun hx => absurd (touched_mem hx).1 hf, .inl⟩
            obtain ⟨i1, i2, i3⟩ := h f
            exact ⟨i1, fun i hi hx => i2 i hi (fun hy => hx ((hq _).2 hy)), fun hlt => (hq _).2 (i3 hlt)⟩
theorem settle (h : Inv d) (g : Int) (s : List UInt8) : Inv (settleF d g s) := by
  intro f
  by_cases hf : f = g
  · subst hf
    rw [settle_file]
    exact ⟨Nat.le_refl _, fun _ _ _ => rfl, fun hlt => absurd hlt (Nat.lt_irrefl _)⟩
  · have hfile : (settleF d g s).file f = d.file f := by
      unfold DV.file settleF
      rw [getA_put_ne _ hf]
    rw [hfile]
    have hq : ∀ x : Int, (f, x) ∈ (settleF d g s).queue ↔ (f, x) ∈ d.queue := fun x => by
      unfold settleF
      simp [hf]
    obtain ⟨i1, i2, i3⟩ := h f
    exact ⟨i1, fun i hi hx => i2 i hi (fun hy => hx ((hq _).2 hy)), fun hlt => (hq _).2 (i3 hlt)⟩
theorem crash (h : Inv d) (keep : List Int) : Inv (crashF d keep) := by
  cases hd : d.down with
  | true => rw [crashF, if_pos hd]; exact h
  | false =>
    intro f
    rw [crash_file hd]
    exact ⟨Nat.le_refl _, fun _ _ _ => rfl, fun hlt => absurd hlt (Nat.lt_irrefl _)⟩
theorem ends (h : Inv d) : Inv (endsF d).1 := by
  unfold endsF
  split
  · exact h
  · exact h.of rfl rfl
theorem begin_ (h : Inv d) : Inv (beginF d) := by
  unfold beginF
  dsimp only
  split
  · exact h.ends.crash _
  · exact h.ends
end Inv
/-- what a file's durable part has become: the sectors of S are what the file has there, the others are as they were -/
structure Surv (now last : List UInt8) (S : Nat → Bool) (last' : List UInt8) : Prop where
  ge : last.length ≤ last'.length
  le : last'.length ≤ max last.length now.length
  byte : ∀ j, j < last'.length → byteN last' j = if S (j / 64) = true ∧ j < now.length then byteN now j else byteN last j
  full : ∀ m, S m = true → 64 * m < now.length → min (64 * m + 64) now.length ≤ last'.length
theorem Surv.refl (now last : List UInt8) : Surv now last (fun _ => false) last := ⟨Nat.le_refl _, by omega, fun j _ => by simp, fun m h => by cases h⟩
theorem Surv.trans {now last last1 last2 : List UInt8} {S1 S2 : Nat → Bool} (h1 : Surv now last S1 last1) (h2 : Surv now last1 S2 last2) : Surv now last (fun m => S1 m || S2 m) last2 := by
  have a1 := h1.ge
  have a2 := h2.ge
  have b1 := h1.le
  have b2 := h2.le
  refine ⟨by omega, by omega, fun j hj => ?_, fun m hm hlt => ?_⟩
  · rw [h2.byte j hj]
    by_cases hs2 : S2 (j / 64) = true ∧ j < now.length
    · rw [if_pos hs2, if_pos (by simp [hs2])]
    · rw [if_neg hs2]
      by_cases hj1 : j < last1.length
      · rw [h1.byte j hj1]
        by_cases hs1 : S1 (j / 64) = true ∧ j < now.length
        · rw [if_pos hs1, if_pos (by simp [hs1])]
        · rw [if_neg hs1, if_neg (fun h => by
            simp only [Bool.or_eq_true] at h
            rcases h.1 with h' | h'
            · exact hs1 ⟨h', h.2⟩
            · exact hs2 ⟨h', h.2⟩)]
      · rw [byteN_ge (by omega)]
        by_cases hs1 : S1 (j / 64) = true ∧ j < now.length
        · have := h1.full (j / 64) hs1.1 (by omega)
          omega
        · rw [if_neg (fun h => by
            simp only [Bool.or_eq_true] at h
            rcases h.1 with h' | h'
            · exact hs1 ⟨h', h.2⟩
            · exact hs2 ⟨h', h.2⟩), byteN_ge (by omega)]
  · simp only [Bool.or_eq_true] at hm
    rcases hm with hm | hm
    · have := h1.full m hm hlt
      omega
    · exact h2.full m hm hlt
theorem Surv.one (now last : List UInt8) (m : Nat) : (now.length ≤ 64 * m → Surv now last (fun k => k == m) last) ∧ (64 * m < now.length → Surv now last (fun k => k == m) (putB last (64 * m) ((now.drop (64 * m)).take 64))) := by
  refine ⟨fun hle => ⟨Nat.le_refl _, by omega, fun j _ => ?_, fun k hk hlt => ?_⟩, fun hlt => ?_⟩
  · rw [if_neg (fun h => by
      have : j / 64 = m := by simpa using h.1
      omega)]
  · have : k = m := by simpa using hk
    omega
  · have htl : ((now.drop (64 * m)).take 64).length = min 64 (now.length - 64 * m) := by simp
    have hne : (now.drop (64 * m)).take 64 ≠ [] := fun e => by
      rw [e] at htl
      simp at htl
      omega
    have hlen := putB_length last _ (64 * m) hne
    rw [htl] at hlen
    refine ⟨by omega, by omega, fun j hj => ?_, fun k hk _ => ?_⟩
    · rw [putB_byte _ _ _ _ hne, htl]
      by_cases h1 : j < 64 * m
      · rw [if_pos h1, if_neg (fun h => by
          have : j / 64 = m := by simpa using h.1
          omega)]
      · rw [if_neg h1]
        by_cases h2 : j < 64 * m + min 64 (now.length - 64 * m)
        · rw [if_pos h2, if_pos ⟨by simp; omega, by omega⟩]
          unfold byteN
          rw [List.getElem?_take, if_pos (by omega), List.getElem?_drop]
          congr 2
          omega
        · rw [if_neg h2, if_neg (fun h => by
            have : j / 64 = m := by simpa using h.1
            omega)]
    · have : k = m := by simpa using hk
      omega
def odd (keep : List Int) : Prop := keep ≠ [] ∧ ∀ i, (keep[i % keep.length]?).getD 0 % 2 ≠ 0
theorem surv_all (keep : List Int) (f : Int) (now : List UInt8) : ∀ (ps : List (Int × Int)) (i : Nat) (fs : List (Int × FileV)) (last : List UInt8), (getA f fs).getD noFile = ⟨now, last⟩ → (∀ p ∈ ps, 0 ≤ p.2) →
    ∃ S last', (getA f (surviveAll keep i ps fs)).getD noFile = ⟨now, last'⟩ ∧ Surv now last S last' ∧ (odd keep → ∀ m : Nat, (f, (m : Int)) ∈ ps → S m = true)
  | [], i, fs, last, h, _ => ⟨_, last, h, Surv.refl now last, fun _ m hm => by cases hm⟩
  | (g, x) :: ps, i, fs, last, h, hp => by
    obtain ⟨m, rfl⟩ : ∃ m : Nat, x = (m : Int) := ⟨x.toNat, by have := hp (g, x) (by simp); omega⟩
    have step : ∃ S1 last1, (getA f (if keep = [] ∨ (keep[i % keep.length]?).getD 0 % 2 = 0 then fs else surviveF fs (g, (m : Int)))).getD noFile = ⟨now, last1⟩ ∧ Surv now last S1 last1 ∧ (odd keep → g = f → S1 m = true) := by
      by_cases hk : keep = [] ∨ (keep[i % keep.length]?).getD 0 % 2 = 0
      · rw [if_pos hk]
        refine ⟨_, last, h, Surv.refl now last, fun ho _ => ?_⟩
        rcases hk with hk | hk
        · exact absurd hk ho.1
        · exact absurd hk (ho.2 i)
      · rw [if_neg hk]
        by_cases hg : g = f
        · subst hg
          have h1 := Surv.one now last m
          unfold surviveF
          dsimp only
          rw [h]
          by_cases hle : (now.length : Int) ≤ (m : Int) * 64
          · rw [if_pos hle]
            exact ⟨_, last, h, h1.1 (by omega), fun _ _ => by simp⟩
          · rw [if_neg hle, getA_put_same]
            have e : ((m : Int) * 64).toNat = 64 * m := by omega
            rw [e]
            exact ⟨_, _, rfl, h1.2 (by omega), fun _ _ => by simp⟩
        · rw [getA_survive_ne hg]
          exact ⟨_, last, h, Surv.refl now last, fun _ e => absurd e hg⟩
    obtain ⟨S1, last1, e1, s1, o1⟩ := step
    obtain ⟨S2, last2, e2, s2, o2⟩ := surv_all keep f now ps (i + 1) _ last1 e1 (fun p hp' => hp p (by simp [hp']))
    refine ⟨_, last2, by unfold surviveAll; exact e2, s1.trans s2, fun ho k hk => ?_⟩
    simp only [Bool.or_eq_true]
    rcases List.mem_cons.1 hk with hk | hk
    · simp only [Prod.mk.injEq] at hk
      have : k = m := by omega
      subst this
      exact .inl (o1 ho hk.1.symm)
    · exact .inr (o2 ho k hk)
theorem ext_byte {a b : List UInt8} (hl : a.length = b.length) (h : ∀ j, j < a.length → byteN a j = byteN b j) : a = b := by
  apply List.ext_getElem?
  intro j
  by_cases hj : j < a.length
  · rw [byteN_lt hj, byteN_lt (by omega), h j hj]
  · rw [List.getElem?_eq_none (by omega), List.getElem?_eq_none (by omega)]
end Go.Proofs.YtjncmlglhegnaaaGreatDoor
namespace Go.Proofs.YtjncmlglhegnaaaGreatDoor
open Go.Lib

/-- some bytes are 0, and some at the end are missing -/
def Zed : List UInt8 → List UInt8 → Prop
  | [], _ => True
  | _ :: _, [] => False
  | a :: z, b :: x => (a = b ∨ a = 0) ∧ Zed z x
theorem Zed.refl : ∀ x : List UInt8, Zed x x
  | [] => trivial
  | _ :: x => ⟨.inl rfl, Zed.refl x⟩
theorem Zed.nil (x : List UInt8) : Zed [] x := by cases x <;> trivial
theorem Zed.len : ∀ {z x : List UInt8}, Zed z x → z.length ≤ x.length
  | [], _, _ => Nat.zero_le _
  | _ :: _, [], h => h.elim
  | _ :: _, _ :: _, h => Nat.succ_le_succ h.2.len
theorem Zed.app : ∀ {a b x : List UInt8}, Zed (a ++ b) x → Zed a x ∧ Zed b (x.drop a.length)
  | [], _, _, h => ⟨Zed.nil _, h⟩
  | _ :: _, _, [], h => h.elim
  | _ :: a, _, _ :: x, h => ⟨⟨h.1, (Zed.app (a := a) h.2).1⟩, (Zed.app (a := a) h.2).2⟩
theorem Zed.pre : ∀ {z x : List UInt8}, Zed z x → (∀ c ∈ z, c ≠ 0) → z <+: x
  | [], _, _, _ => List.nil_prefix
  | _ :: _, [], h, _ => h.elim
  | a :: z, b :: x, h, hn => by
    rcases h.1 with h1 | h1
    · subst h1
      exact (List.cons_prefix_cons).2 ⟨rfl, h.2.pre fun c hc => hn c (List.mem_cons_of_mem _ hc)⟩
    · exact absurd h1 (hn a (List.mem_cons_self ..))
theorem Zed.cut : ∀ {z x y : List UInt8}, Zed z (x ++ y) → z.length ≤ x.length → Zed z x
  | [], _, _, _, _ => Zed.nil _
  | _ :: _, [], _, _, h => by simp at h
  | _ :: _, _ :: _, _, h, hl => ⟨h.1, h.2.cut (by simpa using hl)⟩
theorem Zed.more : ∀ {z x : List UInt8} (y : List UInt8), Zed z x → Zed z (x ++ y)
  | [], _, _, _ => Zed.nil _
  | _ :: _, [], _, h => h.elim
  | _ :: _, _ :: _, y, h => ⟨h.1, h.2.more y⟩
/-- the byte at a place -/
theorem zed_at : ∀ {z x : List UInt8}, Zed z x ↔ z.length ≤ x.length ∧ ∀ i, i < z.length → z[i]? = x[i]? ∨ z[i]? = some 0
  | [], x => ⟨fun _ => ⟨Nat.zero_le _, fun i hi => by simp at hi⟩, fun _ => Zed.nil x⟩
  | a :: z, [] => ⟨fun h => h.elim, fun h => by have := h.1; simp at this⟩
  | a :: z, b :: x => by
    constructor
    · rintro ⟨h1, h2⟩
      obtain ⟨h3, h4⟩ := zed_at.1 h2
      refine ⟨by simpa using h3, fun i hi => ?_⟩
      cases i with
      | zero => rcases h1 with rfl | rfl <;> simp
      | succ k => simpa using h4 k (by simpa using hi)
    · rintro ⟨h1, h2⟩
      refine ⟨?_, zed_at.2 ⟨by simpa using h1, fun i hi => by simpa using h2 (i + 1) (by simpa using hi)⟩⟩
      have h3 := h2 0 (by simp)
      simpa using h3
/-- the sum of a short record -/
def wsum : List UInt8 → Nat → Nat
  | [], _ => 0
  | c :: l, i => c.toNat * (i + 1) + wsum l (i + 1)
theorem wsum_le : ∀ (l : List UInt8) (i : Nat), 2 * wsum l i ≤ 255 * (l.length * (2 * i + l.length + 1))
  | [], _ => Nat.zero_le _
  | c :: l, i => by
    have h1 := wsum_le l (i + 1)
    have h2 : c.toNat ≤ 255 := Nat.le_of_lt_succ c.toNat_lt
    have h3 : c.toNat * (i + 1) ≤ 255 * (i + 1) := Nat.mul_le_mul h2 (Nat.le_refl _)
    have e : (l.length + 1) * (2 * i + (l.length + 1) + 1) = l.length * (2 * (i + 1) + l.length + 1) + 2 * (i + 1) := by
      have e1 : l.length * (2 * (i + 1) + l.length + 1) = l.length * (2 * i + l.length + 2) + l.length := by
        rw [show 2 * (i + 1) + l.length + 1 = (2 * i + l.length + 2) + 1 by omega]; exact Nat.mul_succ _ _
      have e2 : (l.length + 1) * (2 * i + (l.length + 1) + 1) = l.length * (2 * i + l.length + 2) + (2 * i + l.length + 2) := by
        rw [show 2 * i + (l.length + 1) + 1 = 2 * i + l.length + 2 by omega]; exact Nat.succ_mul _ _
      rw [e1, e2]
      generalize l.length * (2 * i + l.length + 2) = q
      omega
    simp only [wsum, List.length_cons]
    rw [e]
    omega
theorem sumGo_is : ∀ (l : List UInt8) (i n : Nat), n + wsum l i < 2147483647 → sumGo l i (n : Int) = ((n + wsum l i : Nat) : Int)
  | [], _, _, _ => rfl
  | c :: l, i, n, h => by
    simp only [wsum] at h
    have e : ((n : Int) + (c.toNat : Int) * ((i : Int) + 1)) % 2147483647 = ((n + c.toNat * (i + 1) : Nat) : Int) := by
      have e1 : (n : Int) + (c.toNat : Int) * ((i : Int) + 1) = ((n + c.toNat * (i + 1) : Nat) : Int) := by push_cast; rfl
      rw [e1]
      exact Int.emod_eq_of_lt (by omega) (by omega)
    simp only [sumGo, wsum]
    rw [e, sumGo_is l (i + 1) _ (by omega)]
    congr 1
    omega
theorem sumF_is {l : List UInt8} (h : l.length ≤ 4000) : sumF l = (wsum l 0 : Int) := by
  have h0 := wsum_le l 0
  have h2 : l.length * (2 * 0 + l.length + 1) ≤ 4000 * 4001 := Nat.mul_le_mul h (by omega)
  have h1 := sumGo_is l 0 0 (by omega)
  rw [Nat.zero_add] at h1
  exact h1
theorem wsum_zed : ∀ {z x : List UInt8} (i : Nat), Zed z x → z.length = x.length → wsum z i ≤ wsum x i ∧ (wsum z i = wsum x i → z = x)
  | [], [], _, _, _ => ⟨Nat.le_refl _, fun _ => rfl⟩
  | [], _ :: _, _, _, h => by simp at h
  | _ :: _, [], _, h, _ => h.elim
  | a :: z, b :: x, i, h, hl => by
    have ih := wsum_zed (i + 1) h.2 (by simpa using hl)
    simp only [wsum]
    rcases h.1 with h1 | h1
    · subst h1
      refine ⟨by omega, fun e => ?_⟩
      rw [ih.2 (by omega)]
    · subst h1
      have h0 : (0 : UInt8).toNat * (i + 1) = 0 := by simp
      refine ⟨by omega, fun e => ?_⟩
      have hb : b.toNat * (i + 1) = 0 := by omega
      have hb0 : b.toNat = 0 := by
        rcases Nat.mul_eq_zero.1 hb with h | h
        · exact h
        · omega
      have hb1 : b = 0 := UInt8.toNat_inj.1 (by simpa using hb0)
      rw [hb1, ih.2 (by omega)]
theorem sum_zed {z x : List UInt8} (h : Zed z x) (hl : z.length = x.length) (hx : x.length ≤ 4000) (e : sumF z = sumF x) : z = x := by
  rw [sumF_is (by omega), sumF_is hx] at e
  exact (wsum_zed 0 h hl).2 (by omega)
theorem itoa_nz (n : Int) : ∀ c ∈ itoa n, c ≠ 0 := fun c hc h => by
  rcases itoa_chars n c hc with h1 | h1
  · rw [h] at h1; cases h1
  · rw [h] at h1; exact absurd h1.1 (by decide)
/-- a number that stands at the beginning of another one, up to its end -/
theorem num_pre {a b : Int} {e : UInt8} (he : Ender e) (he0 : e ≠ 0) {z y : List UInt8} (ha : -9223372036854775808 ≤ a ∧ a ≤ 9223372036854775807) (hb : -9223372036854775808 ≤ b ∧ b ≤ 9223372036854775807) (h : Zed (itoa a ++ e :: z) (itoa b ++ e :: y)) : a = b ∧ Zed z y := by
  have h0 : Zed ((itoa a ++ [e]) ++ z) (itoa b ++ e :: y) := by rw [List.append_assoc]; exact h
  obtain ⟨h1, h2⟩ := h0.app
  have hp := h1.pre fun c hc => by
    rcases List.mem_append.1 hc with hc | hc
    · exact itoa_nz a c hc
    · simp only [List.mem_singleton] at hc; rw [hc]; exact he0
  obtain ⟨r, hr⟩ := hp
  have p1 := placeOf_here (t := r) (itoa_no he a)
  have p2 := placeOf_here (t := y) (itoa_no he b)
  have hr' : itoa a ++ e :: r = itoa b ++ e :: y := by rw [← hr, List.append_assoc]; rfl
  rw [hr', p2] at p1
  have hlen : (itoa a).length = (itoa b).length := (Option.some.inj p1).symm
  have hi := (List.append_inj hr' hlen).1
  have hab := itoa_inj ha hb hi
  refine ⟨hab, ?_⟩
  subst hab
  rw [show (itoa a ++ [e]).length = (itoa a).length + 1 by simp] at h2
  have e2 : (itoa a ++ e :: y).drop ((itoa a).length + 1) = y := by
    rw [show itoa a ++ e :: y = (itoa a ++ [e]) ++ y by rw [List.append_assoc]; rfl, show (itoa a).length + 1 = (itoa a ++ [e]).length by simp, List.drop_left]
  rwa [e2] at h2
theorem encN_nat {n : Int} (h : 0 ≤ n) : encN n = itoa n ++ [59] := by unfold encN; rw [if_neg (by omega)]; rfl
/-- a form in a torn string is whole -/
theorem torn_form {t t' r x : List UInt8} (ht : t.length ≤ 4000) (ht' : t'.length ≤ 20000) (h : Zed (formB t' ++ r) (formB t ++ x)) : t' = t ∧ Zed r x := by
  have hs := sumF_rng t
  have hs' := sumF_rng t'
  have e1 : formB t' ++ r = itoa (t'.length : Int) ++ 58 :: (t' ++ 44 :: (itoa (sumF t') ++ 59 :: r)) := by
    unfold formB encT; rw [encN_nat hs'.1]; simp
  have e2 : formB t ++ x = itoa (t.length : Int) ++ 58 :: (t ++ 44 :: (itoa (sumF t) ++ 59 :: x)) := by
    unfold formB encT; rw [encN_nat hs.1]; simp
  rw [e1, e2] at h
  obtain ⟨hl, h1⟩ := num_pre ender_58 (by decide) (by omega) (by omega) h
  have hl' : t'.length = t.length := by omega
  obtain ⟨h2, h3⟩ := h1.app
  rw [hl', List.drop_left] at h3
  have h4 := h2.cut (by omega)
  obtain ⟨hn, h5⟩ := num_pre ender_59 (by decide) (by omega) (by omega) h3.2
  exact ⟨sum_zed h4 hl' ht hn, h5⟩
/-- short records -/
def Short (l : List (List UInt8)) : Prop := ∀ t ∈ l, t.length ≤ 4000
theorem torn_recs : ∀ (l : List (List UInt8)) (z : List UInt8), Short l → Zed z (formsB l) → recsF z <+: l
  | [], z, _, h => by
    have := h.len
    obtain rfl : z = [] := List.length_eq_zero_iff.1 (Nat.le_zero.1 this)
    rw [recsF_nil]
    exact List.nil_prefix
  | t :: l, z, hl, h => by
    cases hs : stepJ z with
    | none => rw [recsF_none hs]; exact List.nil_prefix
    | some t' =>
      obtain ⟨h1, r, rfl⟩ := stepJ_iff.1 hs
      rw [formsB_cons] at h
      obtain ⟨rfl, h2⟩ := torn_form (hl t (List.mem_cons_self ..)) h1 h
      rw [recsF_some hs, List.drop_left]
      exact (List.cons_prefix_cons).2 ⟨rfl, torn_recs l r (fun x hx => hl x (List.mem_cons_of_mem _ hx)) h2⟩
theorem recs_has {m : List (List UInt8)} {z : List UInt8} (hm : Small m) (h : formsB m <+: z) : m <+: recsF z := by
  obtain ⟨r, rfl⟩ := h
  rw [recsF_forms m r hm]
  exact List.prefix_append _ _
theorem Short.small {l : List (List UInt8)} (h : Short l) : Small l := fun t ht => by have := h t ht; omega
end Go.Proofs.YtjncmlglhegnaaaGreatDoor
namespace Go.Proofs.YtjncmlglhegnaaaGreatDoor
open Go.Lib

/-- records that a law writes -/
def Tiny (l : List (List UInt8)) : Prop := ∀ t ∈ l, t.length ≤ 3400
theorem Tiny.short {l : List (List UInt8)} (h : Tiny l) : Short l := fun t ht => by have := h t ht; omega
theorem Tiny.app {l m : List (List UInt8)} (h : Tiny l) (k : Tiny m) : Tiny (l ++ m) := fun t ht => (List.mem_append.1 ht).elim (h t) (k t)
theorem Tiny.one {t : List UInt8} (h : t.length ≤ 3400) : Tiny [t] := fun x hx => by simp only [List.mem_singleton] at hx; subst hx; exact h
theorem Tiny.pre {l m : List (List UInt8)} (h : Tiny l) (k : m <+: l) : Tiny m := fun t ht => h t (k.mem ht)
theorem encT_le {s : List UInt8} (h : s.length ≤ 140737488351232) : (encT s).length ≤ s.length + 22 := by
  have := itoa_length (n := (s.length : Int)) (by omega) (by omega)
  unfold encT
  simp
  omega
theorem formB_le {t : List UInt8} (h : t.length ≤ 3400) : (formB t).length ≤ 3460 := by
  have h1 := encT_le (s := t) (by omega)
  have h2 := sumF_rng t
  have h3 := itoa_length (n := sumF t) (by omega) (by omega)
  unfold formB
  rw [encN_nat h2.1]
  simp only [List.length_append, List.length_cons, List.length_nil]
  omega
theorem formsB_le : ∀ {l : List (List UInt8)}, Tiny l → (formsB l).length ≤ 3460 * l.length
  | [], _ => by simp [formsB]
  | t :: l, h => by
    have h1 := formB_le (h t (List.mem_cons_self ..))
    have h2 := formsB_le (l := l) fun x hx => h x (List.mem_cons_of_mem _ hx)
    rw [formsB_cons, List.length_append, List.length_cons]
    omega
theorem formsB_pre {l m : List (List UInt8)} (h : m <+: l) : formsB m <+: formsB l := by
  obtain ⟨r, rfl⟩ := h
  rw [formsB_app]
  exact List.prefix_append _ _
/-! a crash -/
theorem crash_now {d : DV} (h : d.down = false) (hok : DOk d) (keep : List Int) (f : Int) : ∃ S z, (crashF d keep).file f = ⟨z, z⟩ ∧ Surv (d.file f).now (d.file f).last S z := by
  obtain ⟨S, z, e1, s1, _⟩ := surv_all keep f (d.file f).now d.queue 0 d.files (d.file f).last rfl (fun p hp => (hok.queue p hp).2.1)
  refine ⟨S, z, ?_, s1⟩
  rw [crash_file h, e1]
theorem byte_pre {a b : List UInt8} (h : a <+: b) {j : Nat} (hj : j < a.length) : byteN b j = byteN a j := by
  obtain ⟨r, rfl⟩ := h
  unfold byteN
  rw [List.getElem?_append_left hj]
theorem pre_byte {a b : List UInt8} (hl : a.length ≤ b.length) (h : ∀ j, j < a.length → byteN b j = byteN a j) : a <+: b := by
  rw [List.prefix_iff_eq_take]
  refine ext_byte (by rw [List.length_take]; omega) fun j hj => ?_
  rw [← h j hj]
  unfold byteN
  rw [List.getElem?_take, if_pos hj]
theorem zed_byte {z x : List UInt8} : Zed z x ↔ z.length ≤ x.length ∧ ∀ j, j < z.length → byteN z j = byteN x j ∨ byteN z j = 0 := by
  rw [zed_at]
  refine and_congr_right fun hl => ⟨fun h j hj => ?_, fun h j hj => ?_⟩
  · rcases h j hj with h1 | h1
    · left; unfold byteN; rw [h1]
    · right; unfold byteN; rw [h1]; rfl
  · rw [byteN_lt hj, byteN_lt (l := x) (by omega)]
    rcases h j hj with h1 | h1
    · left; rw [h1]
    · right; rw [h1]
theorem Surv.zed {now last z x : List UInt8} {S : Nat → Bool} (h : Surv now last S z) (h1 : Zed now x) (h2 : Zed last x) : Zed z x := by
  have a := zed_byte.1 h1
  have b := zed_byte.1 h2
  refine zed_byte.2 ⟨by have := h.le; have := h1.len; have := h2.len; omega, fun j hj => ?_⟩
  rw [h.byte j hj]
  split
  · rename_i hc; exact a.2 j hc.2
  · by_cases hl : j < last.length
    · exact b.2 j hl
    · right; exact byteN_ge (by omega)
theorem Surv.pre {now last z x : List UInt8} {S : Nat → Bool} (h : Surv now last S z) (h1 : x <+: now) (h2 : x <+: last) : x <+: z := by
  refine pre_byte (by have := h2.length_le; have := h.ge; omega) fun j hj => ?_
  rw [h.byte j (by have := h2.length_le; have := h.ge; omega)]
  split
  · exact byte_pre h1 hj
  · exact byte_pre h2 hj
/-- what a file may hold: its bytes are those of all records, or 0; the sure ones are durable -/
structure FileI (d : DV) (f : Int) (all sure : List (List UInt8)) : Prop where
  ok : DOk d
  inv : Inv d
  now : Zed (d.file f).now (formsB all)
  last : Zed (d.file f).last (formsB all)
  snow : formsB sure <+: (d.file f).now
  slast : formsB sure <+: (d.file f).last
  tiny : Tiny all
  pre : sure <+: all
namespace FileI
variable {d d' : DV} {f : Int} {all sure : List (List UInt8)}
theorem new (f : Int) : FileI newD f [] [] := ⟨DOk.new, Inv.new, Zed.nil _, Zed.nil _, List.nil_prefix, List.nil_prefix, (fun t ht => by cases ht), List.nil_prefix⟩
theorem of (h : FileI d f all sure) (hok : DOk d') (h1 : d'.files = d.files) (h2 : d'.queue = d.queue) : FileI d' f all sure :=
  ⟨hok, h.inv.of h1 h2, by rw [DV.file_of h1]; exact h.now, by rw [DV.file_of h1]; exact h.last, by rw [DV.file_of h1]; exact h.snow, by rw [DV.file_of h1]; exact h.slast, h.tiny, h.pre⟩
theorem crash (h : FileI d f all sure) (keep : List Int) : FileI (crashF d keep) f all sure := by
  cases hd : d.down with
  | true => rw [crashF, if_pos hd]; exact h
  | false =>
    obtain ⟨S, z, e, s⟩ := crash_now hd h.ok keep f
    refine ⟨h.ok.crash keep, h.inv.crash keep, ?_, ?_, ?_, ?_, h.tiny, h.pre⟩
    · rw [e]; exact s.zed h.now h.last
    · rw [e]; exact s.zed h.now h.last
    · rw [e]; exact s.pre h.snow h.slast
    · rw [e]; exact s.pre h.snow h.slast
theorem lose (h : FileI d f all sure) (n : Int) (hn : n ≤ 9223372036854775807) : FileI (LoseF d n) f all sure := h.of (h.ok.Lose n hn) rfl rfl
theorem arm (h : FileI d f all sure) (n : Int) (hn : n ≤ 9223372036854775807) (keep : List Int) (hk : keep.length ≤ 4194320) : FileI (ArmF d n keep) f all sure := h.of (h.ok.Arm n hn keep hk) rfl rfl
theorem start (h : FileI d f all sure) : FileI (StartF d) f all sure := h.of h.ok.Start rfl rfl
theorem ends (h : FileI d f all sure) : FileI (endsF d).1 f all sure := by
  refine h.of h.ok.ends ?_ ?_ <;> (unfold endsF; split <;> rfl)
theorem begin_ (h : FileI d f all sure) : FileI (beginF d) f all sure := by
  unfold beginF
  dsimp only
  split
  · exact h.ends.crash _
  · exact h.ends
/-- more records may come -/
theorem grow (h : FileI d f all sure) {more : List (List UInt8)} (hm : Tiny more) : FileI d f (all ++ more) sure :=
  ⟨h.ok, h.inv, by rw [formsB_app]; exact h.now.more _, by rw [formsB_app]; exact h.last.more _, h.snow, h.slast, h.tiny.app hm, h.pre.trans (List.prefix_append _ _)⟩
/-- the file is settled as it is -/
theorem settle (h : FileI d f all sure) {s : List UInt8} (hl : s.length ≤ 16777216) {all' : List (List UInt8)} (hz : Zed s (formsB all')) (ht : Tiny all') {sure' : List (List UInt8)} (hp : formsB sure' <+: s) (hpre : sure' <+: all') : FileI (settleF d f s) f all' sure' := by
  have e := settle_file d f s
  exact ⟨h.ok.settle f s hl, h.inv.settle f s, by rw [e]; exact hz, by rw [e]; exact hz, by rw [e]; exact hp, by rw [e]; exact hp, ht, hpre⟩
theorem len (h : FileI d f all sure) : (d.file f).now.length ≤ 3460 * all.length := Nat.le_trans h.now.len (formsB_le h.tiny)
end FileI
theorem mayF_err (d : DV) (f : Int) (h0 : 0 ≤ f) (h1 : f < 16) : mayF d f = if d.down = true then 8 else 0 := by
  unfold mayF
  cases d.down with
  | true => simp
  | false =>
    simp only [Bool.false_eq_true, if_false]
    rw [if_neg (by omega)]
/-- what Sync gives -/
theorem sync_ways {d : DV} {f : Int} {all sure : List (List UInt8)} (h : FileI d f all sure) (h0 : 0 ≤ f) (h1 : f < 16) :
    ((SyncF d f).2 = 0 ∧ (SyncF d f).1.down = false ∧ d.down = false ∧ (SyncF d f).1.file f = ⟨(d.file f).now, (d.file f).now⟩ ∧ (SyncF d f).1.lost = d.lost ∧ (d.armed = 0 → (SyncF d f).1.armed = 0) ∧ ∀ all' sure', Zed (d.file f).now (formsB all') → Tiny all' → formsB sure' <+: (d.file f).now → sure' <+: all' → FileI (SyncF d f).1 f all' sure') ∨
    (((SyncF d f).2 = 8 ∨ (SyncF d f).2 = 9) ∧ FileI (SyncF d f).1 f all sure ∧ (d.armed = 0 → (SyncF d f).1.armed = 0 ∧ (SyncF d f).1.down = d.down)) := by
  have hb := h.begin_
  have hcalm : d.armed = 0 → beginF d = d := fun ha => begin_calm ha
  unfold SyncF
  dsimp only
  rw [mayF_err _ f h0 h1]
  cases hd : (beginF d).down with
  | true =>
    right
    rw [if_pos (by simp)]
    exact ⟨.inl rfl, hb, fun ha => by rw [hcalm ha]; exact ⟨ha, rfl⟩⟩
  | false =>
    rw [if_neg (by simp)]
    split
    · right
      exact ⟨.inr rfl, by refine hb.of ?_ rfl rfl; exact ⟨hb.ok.armed, by have := hb.ok.lost; dsimp only; omega, hb.ok.files, hb.ok.keys, hb.ok.queue, hb.ok.nodup, hb.ok.klen⟩, fun ha => by rw [hcalm ha] at hd ⊢; exact ⟨ha, hd.symm⟩⟩
    · left
      have hbe : beginF d = (endsF d).1 := by
        unfold beginF at hd ⊢
        dsimp only at hd ⊢
        split
        · rename_i he
          rw [if_pos he, crash_is_down] at hd
          cases hd
        · rfl
      have hf : (beginF d).file f = d.file f := by
        rw [hbe]
        unfold endsF
        split <;> rfl
      have hdn : d.down = false := by
        rw [hbe] at hd
        unfold endsF at hd
        split at hd <;> exact hd
      refine ⟨rfl, hd, hdn, by rw [settle_file, hf], ?_, fun ha => by rw [hcalm ha]; exact ha, fun all' sure' a b c e => ?_⟩
      · rw [hbe]
        show (endsF d).1.lost = d.lost
        unfold endsF
        split <;> rfl
      · rw [hf]
        exact hb.settle (h.ok.file f).1 a b c e
theorem sync_calm {d : DV} {f : Int} (h0 : 0 ≤ f) (h1 : f < 16) (ha : d.armed = 0) (hl : d.lost = 0) (hd : d.down = false) : (SyncF d f).2 = 0 ∧ (SyncF d f).1.armed = 0 ∧ (SyncF d f).1.lost = 0 := by
  unfold SyncF
  dsimp only
  rw [begin_calm ha, mayF_err _ f h0 h1, hd, if_neg (by simp), if_neg (by omega)]
  exact ⟨rfl, ha, hl⟩
end Go.Proofs.YtjncmlglhegnaaaGreatDoor
namespace Go.Proofs.YtjncmlglhegnaaaGreatDoor
open Go.Lib

theorem putB_end (s t : List UInt8) : putB s s.length t = s ++ t := by
  unfold putB
  split
  · rename_i h; rw [h, List.append_nil]
  · rw [Nat.sub_self, List.replicate_zero, List.append_nil, List.take_length, List.drop_eq_nil_of_le (by omega), List.append_nil]
/-- a journal that can be written to -/
structure JouI (d : DV) (f : Int) (all : List (List UInt8)) (j : JV) : Prop where
  file : j.file = f
  bytes : j.bytes = ((formsB j.recs).length : Int)
  whole : j.broken = false → d.down = false ∧ j.recs = all ∧ (d.file f).now = formsB all
theorem write_ways {d : DV} {f : Int} {all sure : List (List UInt8)} {t : List UInt8} (h : FileI d f all sure) (h0 : 0 ≤ f) (h1 : f < 16) (ht : t.length ≤ 3400) (hd : d.down = false) (hn : (d.file f).now = formsB all) (hfit : (formsB all).length + 3460 ≤ 16777216) :
    FileI (WriteF d f ((formsB all).length : Int) (formB t)).1 f (all ++ [t]) sure ∧
      (((WriteF d f ((formsB all).length : Int) (formB t)).2 = 0 ∧ (WriteF d f ((formsB all).length : Int) (formB t)).1.down = false ∧ ((WriteF d f ((formsB all).length : Int) (formB t)).1.file f).now = formsB (all ++ [t]) ∧ (WriteF d f ((formsB all).length : Int) (formB t)).1.lost = d.lost ∧ (d.armed = 0 → (WriteF d f ((formsB all).length : Int) (formB t)).1.armed = 0)) ∨
       ((WriteF d f ((formsB all).length : Int) (formB t)).2 = 8 ∧ d.armed ≠ 0)) := by
  have hlt := formB_le ht
  have hm : mayF (endsF d).1 f = 0 := by
    rw [mayF_err _ f h0 h1]
    have : (endsF d).1.down = d.down := by unfold endsF; split <;> rfl
    rw [this, hd, if_neg (by simp)]
  have he := h.ends
  have hf : (endsF d).1.file f = d.file f := by unfold endsF; split <;> rfl
  obtain ⟨d1, hw, w1, w2, w3, w4, w5, w6⟩ := write_calm hm (formsB all).length (formB t) (by omega)
  rw [hf] at w5 w6
  have hnow : (d1.file f).now = formsB (all ++ [t]) := by
    rw [w5, hn, putB_end, formsB_app, formsB_one]
  have hI : FileI d1 f (all ++ [t]) sure := by
    have hok := he.ok.write f ((formsB all).length : Int) (formB t)
    have hinv := he.inv.write f ((formsB all).length : Int) (formB t)
    rw [hw] at hok hinv
    refine ⟨hok, hinv, ?_, ?_, ?_, ?_, h.tiny.app (Tiny.one ht), h.pre.trans (List.prefix_append _ _)⟩
    · rw [hnow]; exact Zed.refl _
    · rw [w6, formsB_app]; exact h.last.more _
    · rw [hnow]
      have h2 := h.snow
      rw [hn] at h2
      rw [formsB_app]
      exact h2.trans (List.prefix_append _ _)
    · rw [w6]; exact h.slast
  unfold WriteF
  dsimp only
  rw [hw]
  by_cases hb : (endsF d).2 = true
  · rw [if_pos hb]
    refine ⟨hI.crash _, .inr ⟨rfl, fun ha => ?_⟩⟩
    rw [ends_calm ha] at hb
    cases hb
  · rw [if_neg hb]
    refine ⟨hI, .inl ⟨rfl, ?_, hnow, ?_, fun ha => ?_⟩⟩
    · rw [w1]
      unfold endsF
      split <;> exact hd
    · show d1.lost = d.lost
      rw [w4]
      unfold endsF
      split <;> rfl
    · show d1.armed = 0
      rw [w2, ends_calm ha]
      exact ha
/-- Append -/
theorem append_ways {d : DV} {f : Int} {all sure : List (List UInt8)} {j : JV} {t : List UInt8} (h : FileI d f all sure) (hj : JouI d f all j) (h0 : 0 ≤ f) (h1 : f < 16) (ht : t.length ≤ 3400) (hall : all.length ≤ 300) :
    (j.broken = true ∧ appendJ d j t = (d, j, 7)) ∨
    (j.broken = false ∧ (appendJ d j t).2.2 = 0 ∧ (appendJ d j t).2.1.recs = j.recs ++ [t] ∧ (appendJ d j t).2.1.broken = false ∧ FileI (appendJ d j t).1 f (all ++ [t]) sure ∧ JouI (appendJ d j t).1 f (all ++ [t]) (appendJ d j t).2.1 ∧ (appendJ d j t).1.lost = d.lost ∧ (d.armed = 0 → (appendJ d j t).1.armed = 0)) ∨
    (j.broken = false ∧ (appendJ d j t).2.2 = 8 ∧ (appendJ d j t).2.1.recs = j.recs ∧ (appendJ d j t).2.1.broken = true ∧ FileI (appendJ d j t).1 f (all ++ [t]) sure ∧ JouI (appendJ d j t).1 f (all ++ [t]) (appendJ d j t).2.1 ∧ d.armed ≠ 0) := by
  have hfl := formsB_le h.tiny
  have hft := formB_le ht
  obtain ⟨jf, recs, bytes, broken⟩ := j
  obtain ⟨hjf, hjb, hjw⟩ := hj
  simp only at hjf hjb hjw
  subst hjf
  subst hjb
  cases broken with
  | true => left; exact ⟨rfl, rfl⟩
  | false =>
    right
    obtain ⟨hd, hr, hn⟩ := hjw rfl
    subst hr
    obtain ⟨hI, hw⟩ := write_ways h h0 h1 ht hd hn (by omega)
    unfold appendJ
    simp only [Bool.false_eq_true, if_false]
    rw [if_neg (by omega), if_neg (by omega)]
    rcases hw with ⟨e, e2, e3, e4, e5⟩ | ⟨e, e2⟩
    · left
      rw [if_neg (by simp [e])]
      refine ⟨trivial, rfl, rfl, rfl, hI, ⟨rfl, ?_, fun _ => ⟨e2, rfl, e3⟩⟩, e4, e5⟩
      show ((formsB recs).length : Int) + ((formB t).length : Int) = ((formsB (recs ++ [t])).length : Int)
      rw [formsB_app, formsB_one, List.length_append]
      omega
    · right
      rw [if_pos (by rw [e]; decide)]
      exact ⟨trivial, e, rfl, rfl, hI, ⟨rfl, rfl, (fun h => by cases h)⟩, e2⟩
/-- Sync -/
theorem syncJ_ways {d : DV} {f : Int} {all sure : List (List UInt8)} {j : JV} (h : FileI d f all sure) (hj : JouI d f all j) (h0 : 0 ≤ f) (h1 : f < 16) :
    (j.broken = true ∧ syncJ d j = (d, j, 7)) ∨
    (j.broken = false ∧ (syncJ d j).2.2 = 0 ∧ (syncJ d j).2.1 = j ∧ (syncJ d j).1.file f = ⟨formsB all, formsB all⟩ ∧ (∀ p ∈ (syncJ d j).1.queue, p.1 ≠ f) ∧ FileI (syncJ d j).1 f all all ∧ JouI (syncJ d j).1 f all j ∧ (syncJ d j).1.lost = d.lost ∧ (d.armed = 0 → (syncJ d j).1.armed = 0)) ∨
    (j.broken = false ∧ ((syncJ d j).2.2 = 8 ∨ (syncJ d j).2.2 = 9) ∧ (syncJ d j).2.1.recs = j.recs ∧ (syncJ d j).2.1.broken = true ∧ FileI (syncJ d j).1 f all sure ∧ JouI (syncJ d j).1 f all (syncJ d j).2.1 ∧ (d.armed = 0 → (syncJ d j).1.armed = 0)) := by
  obtain ⟨jf, recs, bytes, broken⟩ := j
  obtain ⟨hjf, hjb, hjw⟩ := hj
  simp only at hjf hjb hjw
  subst hjf
  subst hjb
  cases broken with
  | true => left; exact ⟨rfl, rfl⟩
  | false =>
    right
    obtain ⟨hd, hr, hn⟩ := hjw rfl
    subst hr
    unfold syncJ
    simp only [Bool.false_eq_true, if_false]
    rcases sync_ways h h0 h1 with ⟨e, e2, _, e3, e4, e5, e6⟩ | ⟨e, e2, e3⟩
    · left
      have hs := (sync_ok h.ok e).2.2.1
      refine ⟨trivial, e, by simp [e], by rw [e3, hn], hs.2, ?_, ⟨rfl, rfl, fun _ => ⟨e2, rfl, by rw [e3]; exact hn⟩⟩, e4, e5⟩
      exact e6 recs recs (by rw [hn]; exact Zed.refl _) h.tiny (by rw [hn]; exact List.prefix_refl _) (List.prefix_refl _)
    · right
      refine ⟨trivial, e, trivial, ?_, e2, ⟨rfl, rfl, fun hb2 => ?_⟩, fun ha => (e3 ha).1⟩
      · show decide ((SyncF d jf).2 ≠ 0) = true
        rcases e with e | e <;> rw [e] <;> rfl
      · have hb3 : decide ((SyncF d jf).2 ≠ 0) = false := hb2
        rcases e with e | e <;> rw [e] at hb3 <;> cases hb3
theorem trunc_ways {d : DV} {f : Int} {all sure all' sure' : List (List UInt8)} {n : Nat} (h : FileI d f all sure) (h0 : 0 ≤ f) (h1 : f < 16) (hn : n ≤ (d.file f).now.length) (hz : Zed ((d.file f).now.take n) (formsB all')) (ht : Tiny all') (hp : formsB sure' <+: (d.file f).now.take n) (hpre : sure' <+: all') :
    ((TruncF d f (n : Int)).2 = 0 ∧ (TruncF d f (n : Int)).1.down = false ∧ (TruncF d f (n : Int)).1.file f = ⟨(d.file f).now.take n, (d.file f).now.take n⟩ ∧ FileI (TruncF d f (n : Int)).1 f all' sure' ∧ (TruncF d f (n : Int)).1.lost = d.lost ∧ (d.armed = 0 → (TruncF d f (n : Int)).1.armed = 0)) ∨
    ((TruncF d f (n : Int)).2 = 8 ∧ FileI (TruncF d f (n : Int)).1 f all sure ∧ (d.armed = 0 → d.down = true ∧ (TruncF d f (n : Int)).1 = d)) := by
  have hb := h.begin_
  unfold TruncF
  dsimp only
  rw [mayF_err _ f h0 h1]
  cases hd : (beginF d).down with
  | true =>
    right
    rw [if_pos (by simp)]
    exact ⟨rfl, hb, fun ha => by rw [begin_calm ha] at hd ⊢; exact ⟨hd, rfl⟩⟩
  | false =>
    left
    have hbe : beginF d = (endsF d).1 := by
      unfold beginF at hd ⊢
      dsimp only at hd ⊢
      split
      · rename_i he
        rw [if_pos he, crash_is_down] at hd
        cases hd
      · rfl
    have hf : (beginF d).file f = d.file f := by
      rw [hbe]
      unfold endsF
      split <;> rfl
    rw [if_neg (by simp), if_neg (by rw [hf]; omega), Int.toNat_natCast, hf]
    refine ⟨rfl, hd, settle_file _ _ _, hb.settle (by rw [List.length_take]; have := (h.ok.file f).1; omega) hz ht hp hpre, ?_, fun ha => by rw [begin_calm ha]; exact ha⟩
    rw [hbe]
    show (endsF d).1.lost = d.lost
    unfold endsF
    split <;> rfl
/-- Open -/
theorem open_ways {d : DV} {f : Int} {all sure : List (List UInt8)} (h : FileI d f all sure) (h0 : 0 ≤ f) (h1 : f < 16) (hall : all.length ≤ 4000) :
    (∃ j R, (openJ d f).2 = (some j, 0) ∧ R = recsF (d.file f).now ∧ j.recs = R ∧ j.broken = false ∧ R <+: all ∧ sure <+: R ∧ FileI (openJ d f).1 f R R ∧ JouI (openJ d f).1 f R j ∧ (openJ d f).1.lost = d.lost ∧ (d.armed = 0 → (openJ d f).1.armed = 0) ∧ (openJ d f).1.file f = ⟨formsB R, formsB R⟩) ∨
    (∃ e, (openJ d f).2 = (none, e) ∧ (e = 8 ∨ e = 9) ∧ FileI (openJ d f).1 f all sure ∧ (d.armed = 0 → (openJ d f).1.armed = 0) ∧ (d.armed = 0 → d.lost = 0 → d.down = true)) := by
  obtain ⟨R, hR⟩ : ∃ R, recsF (d.file f).now = R := ⟨_, rfl⟩
  have hRa : R <+: all := by rw [← hR]; exact torn_recs all _ h.tiny.short h.now
  have hsR : sure <+: R := by rw [← hR]; exact recs_has (h.tiny.pre h.pre).short.small h.snow
  have hRt : Tiny R := h.tiny.pre hRa
  have hRn : formsB R <+: (d.file f).now := by rw [← hR]; exact recs_prefix _
  have hzR : Zed (formsB R) (formsB R) := Zed.refl _
  have hlen : (formsB R).length ≤ (d.file f).now.length := hRn.length_le
  have htk : (d.file f).now.take (formsB R).length = formsB R := (List.prefix_iff_eq_take.1 hRn).symm
  unfold openJ
  rw [if_neg (by omega)]
  rcases sync_ways h h0 h1 with ⟨e, e2, e0, e3, e4, e5, e6⟩ | ⟨e, e2, e3⟩
  · rw [if_neg (by simp [e])]
    dsimp only
    rw [e3]
    simp only
    rw [hR]
    split
    · have hI := e6 all sure h.now h.tiny h.snow h.pre
      have hnow1 : ((SyncF d f).1.file f).now = (d.file f).now := by rw [e3]
      rcases trunc_ways (n := (formsB R).length) (all' := R) (sure' := R) hI h0 h1 (by rw [hnow1]; exact hlen) (by rw [hnow1, htk]; exact hzR) hRt (by rw [hnow1, htk]; exact List.prefix_refl _) (List.prefix_refl _) with ⟨t, t2, t3, t4, t5, t6⟩ | ⟨t, t2, t3⟩
      · left
        rw [if_neg (by simp [t])]
        rw [hnow1, htk] at t3
        refine ⟨_, R, rfl, rfl, rfl, rfl, hRa, hsR, t4, ⟨rfl, rfl, fun _ => ⟨t2, rfl, by rw [t3]⟩⟩, by rw [t5, e4], fun ha => t6 (e5 ha), t3⟩
      · right
        rw [if_pos (by rw [t]; decide)]
        refine ⟨_, rfl, .inl t, t2, fun ha => ?_, fun ha hl => ?_⟩
        · rw [(t3 (e5 ha)).2]; exact e5 ha
        · have := (t3 (e5 ha)).1
          rw [e2] at this
          cases this
    · rename_i hge
      have hwhole : (d.file f).now = formsB R := by
        obtain ⟨r, hr⟩ := hRn
        rw [← hr, List.length_append] at hge
        have : r = [] := List.length_eq_zero_iff.1 (by omega)
        rw [← hr, this, List.append_nil]
      left
      refine ⟨_, R, rfl, rfl, rfl, rfl, hRa, hsR, e6 R R (by rw [hwhole]; exact hzR) hRt (by rw [hwhole]; exact List.prefix_refl _) (List.prefix_refl _), ⟨rfl, rfl, fun _ => ⟨e2, rfl, by dsimp only; rw [e3]; exact hwhole⟩⟩, e4, e5, by rw [e3, hwhole]⟩
  · right
    have hne : (SyncF d f).2 ≠ 0 := by rcases e with e | e <;> rw [e] <;> decide
    rw [if_pos hne]
    refine ⟨_, rfl, e, e2, fun ha => (e3 ha).1, fun ha hl => ?_⟩
    cases hdn : d.down with
    | true => rfl
    | false => exact absurd (sync_calm h0 h1 ha hl hdn).1 hne
end Go.Proofs.YtjncmlglhegnaaaGreatDoor
namespace Go.Proofs.YtjncmlglhegnaaaGreatDoor
open Go.RowKit Go.Sort Go.Lib

structure LastI (f : Int) (i : Nat) (d : DV) (all sure : List (List UInt8)) (jo : Option JV) : Prop where
  file : FileI d f all sure
  len : all.length ≤ i
  jou : ∀ j, jo = some j → JouI d f all j ∧ Tiny j.recs ∧ j.recs.length ≤ i
namespace LastI
variable {f : Int} {i : Nat} {d : DV} {all sure : List (List UInt8)} {j : JV} {jo : Option JV}
theorem up (h : LastI f i d all sure jo) : LastI f (i + 1) d all sure jo := ⟨h.file, by have := h.len; omega, fun j e => ⟨(h.jou j e).1, (h.jou j e).2.1, by have := (h.jou j e).2.2; omega⟩⟩
theorem jbytes (h : LastI f i d all sure (some j)) (hi : i ≤ 4000) : (-9223372036854775808 ≤ j.bytes ∧ j.bytes ≤ 4611686018427387904) ∧ j.recs.length ≤ 1099511627776 := by
  obtain ⟨h1, h2, h3⟩ := h.jou j rfl
  have h4 := formsB_le h2
  rw [h1.bytes]
  omega
theorem lose (h : LastI f i d all sure jo) (n : Int) (hn : n ≤ 9223372036854775807) : LastI f i (LoseF d n) all sure jo :=
  ⟨h.file.lose n hn, h.len, fun j e => ⟨⟨(h.jou j e).1.file, (h.jou j e).1.bytes, fun hb => (h.jou j e).1.whole hb⟩, (h.jou j e).2⟩⟩
theorem arm (h : LastI f i d all sure jo) (n : Int) (hn : n ≤ 9223372036854775807) (keep : List Int) (hk : keep.length ≤ 4194320) : LastI f i (ArmF d n keep) all sure jo :=
  ⟨h.file.arm n hn keep hk, h.len, fun j e => ⟨⟨(h.jou j e).1.file, (h.jou j e).1.bytes, fun hb => (h.jou j e).1.whole hb⟩, (h.jou j e).2⟩⟩
theorem crash (h : LastI f i d all sure jo) (keep : List Int) : LastI f i (crashF d keep) all sure none := ⟨h.file.crash keep, h.len, fun _ e => by cases e⟩
theorem start (h : LastI f i d all sure jo) : LastI f i (StartF d) all sure none := ⟨h.file.start, h.len, fun _ e => by cases e⟩
theorem append (h : LastI f i d all sure (some j)) (h0 : 0 ≤ f) (h1 : f < 16) (hi : i ≤ 300) {t : List UInt8} (ht : t.length ≤ 3400) :
    ∃ d' j' e, appendJ d j t = (d', j', e) ∧
      ((e = 7 ∧ d' = d ∧ j' = j) ∨
       (e = 0 ∧ j'.recs = j.recs ++ [t] ∧ LastI f (i + 1) d' (all ++ [t]) sure (some j')) ∨
       (e = 8 ∧ j'.recs = j.recs ∧ LastI f (i + 1) d' (all ++ [t]) sure (some j'))) := by
  obtain ⟨hj, hjt, hjl⟩ := h.jou j rfl
  refine ⟨(appendJ d j t).1, (appendJ d j t).2.1, (appendJ d j t).2.2, rfl, ?_⟩
  rcases append_ways h.file hj h0 h1 ht (by have := h.len; omega) with ⟨_, e⟩ | ⟨_, e, e2, _, e4, e5, _, _⟩ | ⟨_, e, e2, _, e4, e5, _⟩
  · left; rw [e]; exact ⟨rfl, rfl, rfl⟩
  · right; left
    refine ⟨e, e2, e4, by rw [List.length_append]; have := h.len; simp; omega, fun j' hj' => ?_⟩
    cases hj'
    exact ⟨e5, by rw [e2]; exact hjt.app (Tiny.one ht), by rw [e2, List.length_append]; simp; omega⟩
  · right; right
    refine ⟨e, e2, e4, by rw [List.length_append]; have := h.len; simp; omega, fun j' hj' => ?_⟩
    cases hj'
    exact ⟨e5, by rw [e2]; exact hjt, by rw [e2]; omega⟩
theorem sync (h : LastI f i d all sure (some j)) (h0 : 0 ≤ f) (h1 : f < 16) :
    ∃ d' j' e, syncJ d j = (d', j', e) ∧
      ((e = 0 ∧ j' = j ∧ j.recs = all ∧ LastI f i d' all all (some j')) ∨
       (e ≠ 0 ∧ LastI f i d' all sure (some j'))) := by
  obtain ⟨hj, hjt, hjl⟩ := h.jou j rfl
  refine ⟨(syncJ d j).1, (syncJ d j).2.1, (syncJ d j).2.2, rfl, ?_⟩
  rcases syncJ_ways h.file hj h0 h1 with ⟨_, e⟩ | ⟨hb, e, e2, _, _, e4, e5, _, _⟩ | ⟨_, e, e2, _, e4, e5, _⟩
  · right; rw [e]; exact ⟨(by decide : (7 : Int) ≠ 0), h⟩
  · left
    refine ⟨e, e2, (hj.whole hb).2.1, e4, h.len, fun j' hj' => ?_⟩
    cases hj'
    rw [e2]
    exact ⟨e5, hjt, hjl⟩
  · right
    refine ⟨by rcases e with e | e <;> rw [e] <;> decide, e4, h.len, fun j' hj' => ?_⟩
    cases hj'
    exact ⟨e5, by rw [e2]; exact hjt, by rw [e2]; exact hjl⟩
theorem open_ (h : LastI f i d all sure jo) (h0 : 0 ≤ f) (h1 : f < 16) (hi : i ≤ 3000) :
    (∃ d' j', openJ d f = (d', some j', 0) ∧ j'.recs <+: all ∧ sure <+: j'.recs ∧ LastI f i d' j'.recs j'.recs (some j')) ∨
    (∃ d' e, openJ d f = (d', none, e) ∧ (e = 8 ∨ e = 9) ∧ LastI f i d' all sure none ∧ (d.armed = 0 → d.lost = 0 → d.down = true)) := by
  rcases open_ways h.file h0 h1 (by have := h.len; omega) with ⟨j, R, e, _, e2, _, e3, e4, e5, e6, _, _, _⟩ | ⟨e, e1, e2, e3, _, e5⟩
  · left
    subst e2
    have hl := e3.length_le
    refine ⟨(openJ d f).1, j, by rw [← e], e3, e4, e5, by have := h.len; omega, fun j' hj' => ?_⟩
    cases hj'
    exact ⟨e6, h.file.tiny.pre e3, by have := h.len; omega⟩
  · right
    exact ⟨(openJ d f).1, e, by rw [← e1], e2, ⟨e3, h.len, fun _ e => by cases e⟩, e5⟩
theorem new (f : Int) : LastI f 0 newD [] [] none := ⟨FileI.new f, Nat.le_refl _, fun _ e => by cases e⟩
end LastI
/-- two lists of strings that are read alone, and may share their rows -/
def slB (A : Option Addr) (xs : List (List Value)) (k : Nat) : Prop := xs ≠ [] ∧ ∃ ad, A = some ad ∧ ad.block = k
theorem slB.lt {w : World} {size n : Nat} {A : Option Addr} {xs : List (List Value)} (h : Sl w size A n xs) {k : Nat} (hk : slB A xs k) : k < w.heap.size := by
  obtain ⟨h1, ad, h2, h3⟩ := hk
  obtain ⟨x, hx⟩ : ∃ x, xs[0]? = some x := ⟨_, List.getElem?_eq_getElem (List.length_pos_iff.2 h1)⟩
  obtain ⟨b, o, hA, hb, _⟩ := h.2 0 x hx
  rw [hA] at h2
  injection h2 with h2
  rw [← h3, ← h2]
  exact hb
section
variable {w0 w w' : World} {Rs : List Res} {A A' : Option Addr} {n m c : Nat} {xs ys zs : List (List UInt8)}
end
end Go.Proofs.YtjncmlglhegnaaaGreatDoor
namespace Go.Proofs.YtjncmlglhegnaaaGreatDoor
open Go.Lib

/-- a disk that is up, with nothing armed or lost -/
structure Calm (d : DV) : Prop where
  armed : d.armed = 0
  lost : d.lost = 0
  down : d.down = false
theorem Calm.new : Calm newD := ⟨rfl, rfl, rfl⟩
theorem Calm.sync {d : DV} {f : Int} (h : Calm d) (h0 : 0 ≤ f) (h1 : f < 16) : SyncF d f = (settleF d f (d.file f).now, 0) := by
  unfold SyncF
  dsimp only
  rw [begin_calm h.armed, mayF_err _ f h0 h1, h.down, if_neg (by simp), if_neg (by rw [h.lost]; omega)]
theorem Calm.settle {d : DV} (h : Calm d) (f : Int) (s : List UInt8) : Calm (settleF d f s) := ⟨h.armed, h.lost, h.down⟩
theorem Calm.trunc {d : DV} {f : Int} {n : Nat} (h : Calm d) (h0 : 0 ≤ f) (h1 : f < 16) (hn : n ≤ (d.file f).now.length) : TruncF d f (n : Int) = (settleF d f ((d.file f).now.take n), 0) := by
  unfold TruncF
  dsimp only
  rw [begin_calm h.armed, mayF_err _ f h0 h1, h.down, if_neg (by simp), if_neg (by omega), Int.toNat_natCast]
theorem Calm.open_ {d : DV} {f : Int} {s : List UInt8} (h : Calm d) (h0 : 0 ≤ f) (h1 : f < 16) (hs : (d.file f).now = s) :
    ∃ d', openJ d f = (d', some ⟨f, recsF s, ((formsB (recsF s)).length : Int), false⟩, 0) ∧ d'.file f = ⟨formsB (recsF s), formsB (recsF s)⟩ ∧ Calm d' := by
  have hp := recs_prefix s
  unfold openJ
  rw [if_neg (by omega), h.sync h0 h1, if_neg (by simp)]
  simp only [settle_file, hs]
  by_cases hlt : (formsB (recsF s)).length < s.length
  · have hc := h.settle f s
    have hn : ((settleF d f s).file f).now = s := by rw [settle_file]
    rw [if_pos hlt, hc.trunc h0 h1 (by rw [hn]; omega), hn]
    dsimp only
    rw [if_neg (by simp)]
    refine ⟨_, rfl, ?_, hc.settle _ _⟩
    rw [settle_file, ← List.prefix_iff_eq_take.1 hp]
  · rw [if_neg hlt]
    refine ⟨_, rfl, ?_, h.settle _ _⟩
    have he : formsB (recsF s) = s := hp.eq_of_length (Nat.le_antisymm hp.length_le (by omega))
    rw [settle_file, he]
theorem Calm.write {d : DV} {f : Int} (h : Calm d) (h0 : 0 ≤ f) (h1 : f < 16) (a : Nat) (s : List UInt8) (hfit : a + s.length ≤ 16777216) :
    ∃ d', WriteF d f (a : Int) s = (d', 0) ∧ (d'.file f).now = putB (d.file f).now a s ∧ Calm d' := by
  obtain ⟨d1, hw, w1, w2, _, w4, w5, _⟩ := write_calm (f := f) (mayB h.down h0 h1) a s hfit
  rw [WriteF_calm h.armed, hw]
  exact ⟨d1, rfl, w5, ⟨w2.trans h.armed, w4.trans h.lost, w1.trans h.down⟩⟩
theorem Calm.read {d : DV} {f : Int} (h : Calm d) (h0 : 0 ≤ f) (h1 : f < 16) : ReadF d f 0 ((d.file f).now.length : Int) = ((d.file f).now, 0) := by
  unfold ReadF
  rw [mayB h.down h0 h1, if_neg (by simp), if_neg (by omega)]
  simp
/-- the records that the law's own reader has read -/
structure Wants (s : List UInt8) (l : List (List UInt8)) : Prop where
  pre : formsB l <+: s
  recs : recsF s = l ++ recsF (s.drop (formsB l).length)
theorem Wants.nil (s : List UInt8) : Wants s [] := ⟨List.nil_prefix, rfl⟩
theorem Wants.done {s : List UInt8} {l : List (List UInt8)} (h : Wants s l) (hn : stepJ (s.drop (formsB l).length) = none) : l = recsF s := by rw [h.recs, recsF_none hn, List.append_nil]
theorem Wants.step {s t : List UInt8} {l : List (List UInt8)} (h : Wants s l) (hn : stepJ (s.drop (formsB l).length) = some t) : Wants s (l ++ [t]) := by
  obtain ⟨ht, hp⟩ := stepJ_iff.1 hn
  have e := List.prefix_iff_eq_append.1 h.pre
  refine ⟨?_, ?_⟩
  · rw [formsB_app, formsB_one]
    obtain ⟨r, hr⟩ := hp
    exact ⟨r, by rw [List.append_assoc, hr]; exact e⟩
  · rw [h.recs, recsF_some hn, formsB_app, formsB_one, List.length_append, ← List.drop_drop, List.append_assoc]
    rfl
end Go.Proofs.YtjncmlglhegnaaaGreatDoor
