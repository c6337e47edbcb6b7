/- journal: torn strings (bytes missing at the end, or 0), in plain Lean. -/
/- journal: the file of a journal on a disk that tears, in plain Lean. -/
/- journal: Append, Sync, Open on a disk that tears, in plain Lean. -/
/- kerbsidelaw03: what JournalLasts and JournalStays keep from round to round, in plain Lean; lists that are read alone. -/
/- kerbsidelaw03: what JournalReads and JournalTorn ask of Open: a disk that is up, with nothing armed or lost, in plain Lean. -/
/- kerbsidelaw49: what a World keeps from act to act, in plain Lean. -/
/- kerbsidelaw49: writing keeps what a World keeps, in plain Lean. -/
/- kerbsidelaw49: an act keeps what a World keeps; do, whole. -/
/- kerbsidelaw49: a World's beginning keeps what a World keeps. -/
import Derived.Test.YtjncmlglhegnaaaGreatDoorDevP
import Derived.Test.YtjncmlglhegnaaaGreatDoorDiskV0
import Derived.Test.YtjncmlglhegnaaaGreatDoorDevI
import Derived.Test.YtjncmlglhegnaaaGreatDoorDevC
import Derived.Test.YtjncmlglhegnaaaGreatDoorDiskR0
namespace Go.Proofs.YtjncmlglhegnaaaGreatDoor
open Go.Lib

/-- some bytes are 0, and some at the end are missing -/
def Zed : List UInt8 → List UInt8 → Prop
  | [], _ => True
  | _ :: _, [] => False
  | a :: z, b :: x => (a = b ∨ a = 0) ∧ Zed z x
theorem Zed.refl : ∀ x : List UInt8, Zed x x
  | [] => trivial
  | _ :: x => ⟨.inl rfl, Zed.refl x⟩
theorem Zed.nil (x : List UInt8) : Zed [] x := by cases x <;> trivial
theorem Zed.len : ∀ {z x : List UInt8}, Zed z x → z.length ≤ x.length
  | [], _, _ => Nat.zero_le _
  | _ :: _, [], h => h.elim
  | _ :: _, _ :: _, h => Nat.succ_le_succ h.2.len
theorem Zed.app : ∀ {a b x : List UInt8}, Zed (a ++ b) x → Zed a x ∧ Zed b (x.drop a.length)
  | [], _, _, h => ⟨Zed.nil _, h⟩
  | _ :: _, _, [], h => h.elim
  | _ :: a, _, _ :: x, h => ⟨⟨h.1, (Zed.app (a := a) h.2).1⟩, (Zed.app (a := a) h.2).2⟩
theorem Zed.pre : ∀ {z x : List UInt8}, Zed z x → (∀ c ∈ z, c ≠ 0) → z <+: x
  | [], _, _, _ => List.nil_prefix
  | _ :: _, [], h, _ => h.elim
  | a :: z, b :: x, h, hn => by
    rcases h.1 with h1 | h1
    · subst h1
      exact (List.cons_prefix_cons).2 ⟨rfl, h.2.pre fun c hc => hn c (List.mem_cons_of_mem _ hc)⟩
    · exact absurd h1 (hn a (List.mem_cons_self ..))
theorem Zed.cut : ∀ {z x y : List UInt8}, Zed z (x ++ y) → z.length ≤ x.length → Zed z x
  | [], _, _, _, _ => Zed.nil _
  | _ :: _, [], _, _, h => by simp at h
  | _ :: _, _ :: _, _, h, hl => ⟨h.1, h.2.cut (by simpa using hl)⟩
theorem Zed.more : ∀ {z x : List UInt8} (y : List UInt8), Zed z x → Zed z (x ++ y)
  | [], _, _, _ => Zed.nil _
  | _ :: _, [], _, h => h.elim
  | _ :: _, _ :: _, y, h => ⟨h.1, h.2.more y⟩
/-- the byte at a place -/
theorem zed_at : ∀ {z x : List UInt8}, Zed z x ↔ z.length ≤ x.length ∧ ∀ i, i < z.length → z[i]? = x[i]? ∨ z[i]? = some 0
  | [], x => ⟨fun _ => ⟨Nat.zero_le _, fun i hi => by simp at hi⟩, fun _ => Zed.nil x⟩
  | a :: z, [] => ⟨fun h => h.elim, fun h => by have := h.1; simp at this⟩
  | a :: z, b :: x => by
    constructor
    · rintro ⟨h1, h2⟩
      obtain ⟨h3, h4⟩ := zed_at.1 h2
      refine ⟨by simpa using h3, fun i hi => ?_⟩
      cases i with
      | zero => rcases h1 with rfl | rfl <;> simp
      | succ k => simpa using h4 k (by simpa using hi)
    · rintro ⟨h1, h2⟩
      refine ⟨?_, zed_at.2 ⟨by simpa using h1, fun i hi => by simpa using h2 (i + 1) (by simpa using hi)⟩⟩
      have h3 := h2 0 (by simp)
      simpa using h3
/-- the sum of a short record -/
def wsum : List UInt8 → Nat → Nat
  | [], _ => 0
  | c :: l, i => c.toNat * (i + 1) + wsum l (i + 1)
theorem wsum_le : ∀ (l : List UInt8) (i : Nat), 2 * wsum l i ≤ 255 * (l.length * (2 * i + l.length + 1))
  | [], _ => Nat.zero_le _
  | c :: l, i => by
    have h1 := wsum_le l (i + 1)
    have h2 : c.toNat ≤ 255 := Nat.le_of_lt_succ c.toNat_lt
    have h3 : c.toNat * (i + 1) ≤ 255 * (i + 1) := Nat.mul_le_mul h2 (Nat.le_refl _)
    have e : (l.length + 1) * (2 * i + (l.length + 1) + 1) = l.length * (2 * (i + 1) + l.length + 1) + 2 * (i + 1) := by
      have e1 : l.length * (2 * (i + 1) + l.length + 1) = l.length * (2 * i + l.length + 2) + l.length := by
        rw [show 2 * (i + 1) + l.length + 1 = (2 * i + l.length + 2) + 1 by omega]; exact Nat.mul_succ _ _
      have e2 : (l.length + 1) * (2 * i + (l.length + 1) + 1) = l.length * (2 * i + l.length + 2) + (2 * i + l.length + 2) := by
        rw [show 2 * i + (l.length + 1) + 1 = 2 * i + l.length + 2 by omega]; exact Nat.succ_mul _ _
      rw [e1, e2]
      generalize l.length * (2 * i + l.length + 2) = q
      omega
    simp only [wsum, List.length_cons]
    rw [e]
    omega
theorem sumGo_is : ∀ (l : List UInt8) (i n : Nat), n + wsum l i < 2147483647 → sumGo l i (n : Int) = ((n + wsum l i : Nat) : Int)
  | [], _, _, _ => rfl
  | c :: l, i, n, h => by
    simp only [wsum] at h
    have e : ((n : Int) + (c.toNat : Int) * ((i : Int) + 1)) % 2147483647 = ((n + c.toNat * (i + 1) : Nat) : Int) := by
      have e1 : (n : Int) + (c.toNat : Int) * ((i : Int) + 1) = ((n + c.toNat * (i + 1) : Nat) : Int) := by push_cast; rfl
      rw [e1]
      exact Int.emod_eq_of_lt (by omega) (by omega)
    simp only [sumGo, wsum]
    rw [e, sumGo_is l (i + 1) _ (by omega)]
    congr 1
    omega
theorem sumF_is {l : List UInt8} (h : l.length ≤ 4000) : sumF l = (wsum l 0 : Int) := by
  have h0 := wsum_le l 0
  have h2 : l.length * (2 * 0 + l.length + 1) ≤ 4000 * 4001 := Nat.mul_le_mul h (by omega)
  have h1 := sumGo_is l 0 0 (by omega)
  rw [Nat.zero_add] at h1
  exact h1
theorem wsum_zed : ∀ {z x : List UInt8} (i : Nat), Zed z x → z.length = x.length → wsum z i ≤ wsum x i ∧ (wsum z i = wsum x i → z = x)
  | [], [], _, _, _ => ⟨Nat.le_refl _, fun _ => rfl⟩
  | [], _ :: _, _, _, h => by simp at h
  | _ :: _, [], _, h, _ => h.elim
  | a :: z, b :: x, i, h, hl => by
    have ih := wsum_zed (i + 1) h.2 (by simpa using hl)
    simp only [wsum]
    rcases h.1 with h1 | h1
    · subst h1
      refine ⟨by omega, fun e => ?_⟩
      rw [ih.2 (by omega)]
    · subst h1
      have h0 : (0 : UInt8).toNat * (i + 1) = 0 := by simp
      refine ⟨by omega, fun e => ?_⟩
      have hb : b.toNat * (i + 1) = 0 := by omega
      have hb0 : b.toNat = 0 := by
        rcases Nat.mul_eq_zero.1 hb with h | h
        · exact h
        · omega
      have hb1 : b = 0 := UInt8.toNat_inj.1 (by simpa using hb0)
      rw [hb1, ih.2 (by omega)]
theorem sum_zed {z x : List UInt8} (h : Zed z x) (hl : z.length = x.length) (hx : x.length ≤ 4000) (e : sumF z = sumF x) : z = x := by
  rw [sumF_is (by omega), sumF_is hx] at e
  exact (wsum_zed 0 h hl).2 (by omega)
theorem itoa_nz (n : Int) : ∀ c ∈ itoa n, c ≠ 0 := fun c hc h => by
  rcases itoa_chars n c hc with h1 | h1
  · rw [h] at h1; cases h1
  · rw [h] at h1; exact absurd h1.1 (by decide)
/-- a number that stands at the beginning of another one, up to its end -/
theorem num_pre {a b : Int} {e : UInt8} (he : Ender e) (he0 : e ≠ 0) {z y : List UInt8} (ha : -9223372036854775808 ≤ a ∧ a ≤ 9223372036854775807) (hb : -9223372036854775808 ≤ b ∧ b ≤ 9223372036854775807) (h : Zed (itoa a ++ e :: z) (itoa b ++ e :: y)) : a = b ∧ Zed z y := by
  have h0 : Zed ((itoa a ++ [e]) ++ z) (itoa b ++ e :: y) := by rw [List.append_assoc]; exact h
  obtain ⟨h1, h2⟩ := h0.app
  have hp := h1.pre fun c hc => by
    rcases List.mem_append.1 hc with hc | hc
    · exact itoa_nz a c hc
    · simp only [List.mem_singleton] at hc; rw [hc]; exact he0
  obtain ⟨r, hr⟩ := hp
  have p1 := placeOf_here (t := r) (itoa_no he a)
  have p2 := placeOf_here (t := y) (itoa_no he b)
  have hr' : itoa a ++ e :: r = itoa b ++ e :: y := by rw [← hr, List.append_assoc]; rfl
  rw [hr', p2] at p1
  have hlen : (itoa a).length = (itoa b).length := (Option.some.inj p1).symm
  have hi := (List.append_inj hr' hlen).1
  have hab := itoa_inj ha hb hi
  refine ⟨hab, ?_⟩
  subst hab
  rw [show (itoa a ++ [e]).length = (itoa a).length + 1 by simp] at h2
  have e2 : (itoa a ++ e :: y).drop ((itoa a).length + 1) = y := by
    rw [show itoa a ++ e :: y = (itoa a ++ [e]) ++ y by rw [List.append_assoc]; rfl, show (itoa a).length + 1 = (itoa a ++ [e]).length by simp, List.drop_left]
  rwa [e2] at h2
theorem encN_nat {n : Int} (h : 0 ≤ n) : encN n = itoa n ++ [59] := by unfold encN; rw [if_neg (by omega)]; rfl
/-- a form in a torn string is whole -/
theorem torn_form {t t' r x : List UInt8} (ht : t.length ≤ 4000) (ht' : t'.length ≤ 20000) (h : Zed (formB t' ++ r) (formB t ++ x)) : t' = t ∧ Zed r x := by
  have hs := sumF_rng t
  have hs' := sumF_rng t'
  have e1 : formB t' ++ r = itoa (t'.length : Int) ++ 58 :: (t' ++ 44 :: (itoa (sumF t') ++ 59 :: r)) := by
    unfold formB encT; rw [encN_nat hs'.1]; simp
  have e2 : formB t ++ x = itoa (t.length : Int) ++ 58 :: (t ++ 44 :: (itoa (sumF t) ++ 59 :: x)) := by
    unfold formB encT; rw [encN_nat hs.1]; simp
  rw [e1, e2] at h
  obtain ⟨hl, h1⟩ := num_pre ender_58 (by decide) (by omega) (by omega) h
  have hl' : t'.length = t.length := by omega
  obtain ⟨h2, h3⟩ := h1.app
  rw [hl', List.drop_left] at h3
  have h4 := h2.cut (by omega)
  obtain ⟨hn, h5⟩ := num_pre ender_59 (by decide) (by omega) (by omega) h3.2
  exact ⟨sum_zed h4 hl' ht hn, h5⟩
/-- short records -/
def Short (l : List (List UInt8)) : Prop := ∀ t ∈ l, t.length ≤ 4000
theorem torn_recs : ∀ (l : List (List UInt8)) (z : List UInt8), Short l → Zed z (formsB l) → recsF z <+: l
  | [], z, _, h => by
    have := h.len
    obtain rfl : z = [] := List.length_eq_zero_iff.1 (Nat.le_zero.1 this)
    rw [recsF_nil]
    exact List.nil_prefix
  | t :: l, z, hl, h => by
    cases hs : stepJ z with
    | none => rw [recsF_none hs]; exact List.nil_prefix
    | some t' =>
      obtain ⟨h1, r, rfl⟩ := stepJ_iff.1 hs
      rw [formsB_cons] at h
      obtain ⟨rfl, h2⟩ := torn_form (hl t (List.mem_cons_self ..)) h1 h
      rw [recsF_some hs, List.drop_left]
      exact (List.cons_prefix_cons).2 ⟨rfl, torn_recs l r (fun x hx => hl x (List.mem_cons_of_mem _ hx)) h2⟩
theorem recs_has {m : List (List UInt8)} {z : List UInt8} (hm : Small m) (h : formsB m <+: z) : m <+: recsF z := by
  obtain ⟨r, rfl⟩ := h
  rw [recsF_forms m r hm]
  exact List.prefix_append _ _
theorem Short.small {l : List (List UInt8)} (h : Short l) : Small l := fun t ht => by have := h t ht; omega
end Go.Proofs.YtjncmlglhegnaaaGreatDoor
namespace Go.Proofs.YtjncmlglhegnaaaGreatDoor
open Go.Lib

/-- records that a law writes -/
def Tiny (l : List (List UInt8)) : Prop := ∀ t ∈ l, t.length ≤ 3400
theorem Tiny.short {l : List (List UInt8)} (h : Tiny l) : Short l := fun t ht => by have := h t ht; omega
theorem Tiny.app {l m : List (List UInt8)} (h : Tiny l) (k : Tiny m) : Tiny (l ++ m) := fun t ht => (List.mem_append.1 ht).elim (h t) (k t)
theorem Tiny.one {t : List UInt8} (h : t.length ≤ 3400) : Tiny [t] := fun x hx => by simp only [List.mem_singleton] at hx; subst hx; exact h
theorem Tiny.pre {l m : List (List UInt8)} (h : Tiny l) (k : m <+: l) : Tiny m := fun t ht => h t (k.mem ht)
theorem encT_le {s : List UInt8} (h : s.length ≤ 140737488351232) : (encT s).length ≤ s.length + 22 := by
  have := itoa_length (n := (s.length : Int)) (by omega) (by omega)
  unfold encT
  simp
  omega
theorem formB_le {t : List UInt8} (h : t.length ≤ 3400) : (formB t).length ≤ 3460 := by
  have h1 := encT_le (s := t) (by omega)
  have h2 := sumF_rng t
  have h3 := itoa_length (n := sumF t) (by omega) (by omega)
  unfold formB
  rw [encN_nat h2.1]
  simp only [List.length_append, List.length_cons, List.length_nil]
  omega
theorem formsB_le : ∀ {l : List (List UInt8)}, Tiny l → (formsB l).length ≤ 3460 * l.length
  | [], _ => by simp [formsB]
  | t :: l, h => by
    have h1 := formB_le (h t (List.mem_cons_self ..))
    have h2 := formsB_le (l := l) fun x hx => h x (List.mem_cons_of_mem _ hx)
    rw [formsB_cons, List.length_append, List.length_cons]
    omega
/-! a crash -/
theorem crash_now {d : DV} (h : d.down = false) (hok : DOk d) (keep : List Int) (f : Int) : ∃ S z, (crashF d keep).file f = ⟨z, z⟩ ∧ Surv (d.file f).now (d.file f).last S z := by
  obtain ⟨S, z, e1, s1, _⟩ := surv_all keep f (d.file f).now d.queue 0 d.files (d.file f).last rfl (fun p hp => (hok.queue p hp).2.1)
  refine ⟨S, z, ?_, s1⟩
  rw [crash_file h, e1]
theorem byte_pre {a b : List UInt8} (h : a <+: b) {j : Nat} (hj : j < a.length) : byteN b j = byteN a j := by
  obtain ⟨r, rfl⟩ := h
  unfold byteN
  rw [List.getElem?_append_left hj]
theorem pre_byte {a b : List UInt8} (hl : a.length ≤ b.length) (h : ∀ j, j < a.length → byteN b j = byteN a j) : a <+: b := by
  rw [List.prefix_iff_eq_take]
  refine ext_byte (by rw [List.length_take]; omega) fun j hj => ?_
  rw [← h j hj]
  unfold byteN
  rw [List.getElem?_take, if_pos hj]
theorem zed_byte {z x : List UInt8} : Zed z x ↔ z.length ≤ x.length ∧ ∀ j, j < z.length → byteN z j = byteN x j ∨ byteN z j = 0 := by
  rw [zed_at]
  refine and_congr_right fun hl => ⟨fun h j hj => ?_, fun h j hj => ?_⟩
  · rcases h j hj with h1 | h1
    · left; unfold byteN; rw [h1]
    · right; unfold byteN; rw [h1]; rfl
  · rw [byteN_lt hj, byteN_lt (l := x) (by omega)]
    rcases h j hj with h1 | h1
    · left; rw [h1]
    · right; rw [h1]
theorem Surv.zed {now last z x : List UInt8} {S : Nat → Bool} (h : Surv now last S z) (h1 : Zed now x) (h2 : Zed last x) : Zed z x := by
  have a := zed_byte.1 h1
  have b := zed_byte.1 h2
  refine zed_byte.2 ⟨by have := h.le; have := h1.len; have := h2.len; omega, fun j hj => ?_⟩
  rw [h.byte j hj]
  split
  · rename_i hc; exact a.2 j hc.2
  · by_cases hl : j < last.length
    · exact b.2 j hl
    · right; exact byteN_ge (by omega)
theorem Surv.pre {now last z x : List UInt8} {S : Nat → Bool} (h : Surv now last S z) (h1 : x <+: now) (h2 : x <+: last) : x <+: z := by
  refine pre_byte (by have := h2.length_le; have := h.ge; omega) fun j hj => ?_
  rw [h.byte j (by have := h2.length_le; have := h.ge; omega)]
  split
  · exact byte_pre h1 hj
  · exact byte_pre h2 hj
/-- what a file may hold: its bytes are those of all records, or 0; the sure ones are durable -/
structure FileI (d : DV) (f : Int) (all sure : List (List UInt8)) : Prop where
  ok : DOk d
  inv : Inv d
  now : Zed (d.file f).now (formsB all)
  last : Zed (d.file f).last (formsB all)
  snow : formsB sure <+: (d.file f).now
  slast : formsB sure <+: (d.file f).last
  tiny : Tiny all
  pre : sure <+: all
namespace FileI
variable {d d' : DV} {f : Int} {all sure : List (List UInt8)}
theorem new (f : Int) : FileI newD f [] [] := ⟨DOk.new, Inv.new, Zed.nil _, Zed.nil _, List.nil_prefix, List.nil_prefix, (fun t ht => by cases ht), List.nil_prefix⟩
theorem of (h : FileI d f all sure) (hok : DOk d') (h1 : d'.files = d.files) (h2 : d'.queue = d.queue) : FileI d' f all sure :=
  ⟨hok, h.inv.of h1 h2, by rw [DV.file_of h1]; exact h.now, by rw [DV.file_of h1]; exact h.last, by rw [DV.file_of h1]; exact h.snow, by rw [DV.file_of h1]; exact h.slast, h.tiny, h.pre⟩
theorem crash (h : FileI d f all sure) (keep : List Int) : FileI (crashF d keep) f all sure := by
  cases hd : d.down with
  | true => rw [crashF, if_pos hd]; exact h
  | false =>
    obtain ⟨S, z, e, s⟩ := crash_now hd h.ok keep f
    refine ⟨h.ok.crash keep, h.inv.crash keep, ?_, ?_, ?_, ?_, h.tiny, h.pre⟩
    · rw [e]; exact s.zed h.now h.last
    · rw [e]; exact s.zed h.now h.last
    · rw [e]; exact s.pre h.snow h.slast
    · rw [e]; exact s.pre h.snow h.slast
theorem lose (h : FileI d f all sure) (n : Int) (hn : n ≤ 9223372036854775807) : FileI (LoseF d n) f all sure := h.of (h.ok.Lose n hn) rfl rfl
theorem arm (h : FileI d f all sure) (n : Int) (hn : n ≤ 9223372036854775807) (keep : List Int) (hk : keep.length ≤ 4194320) : FileI (ArmF d n keep) f all sure := h.of (h.ok.Arm n hn keep hk) rfl rfl
theorem start (h : FileI d f all sure) : FileI (StartF d) f all sure := h.of h.ok.Start rfl rfl
theorem ends (h : FileI d f all sure) : FileI (endsF d).1 f all sure := by
  refine h.of h.ok.ends ?_ ?_ <;> (unfold endsF; split <;> rfl)
theorem begin_ (h : FileI d f all sure) : FileI (beginF d) f all sure := by
  unfold beginF
  dsimp only
  split
  · exact h.ends.crash _
  · exact h.ends
/-- more records may come -/
theorem grow (h : FileI d f all sure) {more : List (List UInt8)} (hm : Tiny more) : FileI d f (all ++ more) sure :=
  ⟨h.ok, h.inv, by rw [formsB_app]; exact h.now.more _, by rw [formsB_app]; exact h.last.more _, h.snow, h.slast, h.tiny.app hm, h.pre.trans (List.prefix_append _ _)⟩
/-- the file is settled as it is -/
theorem settle (h : FileI d f all sure) {s : List UInt8} (hl : s.length ≤ 16777216) {all' : List (List UInt8)} (hz : Zed s (formsB all')) (ht : Tiny all') {sure' : List (List UInt8)} (hp : formsB sure' <+: s) (hpre : sure' <+: all') : FileI (settleF d f s) f all' sure' := by
  have e := settle_file d f s
  exact ⟨h.ok.settle f s hl, h.inv.settle f s, by rw [e]; exact hz, by rw [e]; exact hz, by rw [e]; exact hp, by rw [e]; exact hp, ht, hpre⟩
theorem len (h : FileI d f all sure) : (d.file f).now.length ≤ 3460 * all.length := Nat.le_trans h.now.len (formsB_le h.tiny)
end FileI
theorem mayF_err (d : DV) (f : Int) (h0 : 0 ≤ f) (h1 : f < 16) : mayF d f = if d.down = true then 8 else 0 := by
  unfold mayF
  cases d.down with
  | true => simp
  | false =>
    simp only [Bool.false_eq_true, if_false]
    rw [if_neg (by omega)]
/-- what Sync gives -/
theorem sync_ways {d : DV} {f : Int} {all sure : List (List UInt8)} (h : FileI d f all sure) (h0 : 0 ≤ f) (h1 : f < 16) :
    ((SyncF d f).2 = 0 ∧ (SyncF d f).1.down = false ∧ d.down = false ∧ (SyncF d f).1.file f = ⟨(d.file f).now, (d.file f).now⟩ ∧ (SyncF d f).1.lost = d.lost ∧ (d.armed = 0 → (SyncF d f).1.armed = 0) ∧ ∀ all' sure', Zed (d.file f).now (formsB all') → Tiny all' → formsB sure' <+: (d.file f).now → sure' <+: all' → FileI (SyncF d f).1 f all' sure') ∨
    (((SyncF d f).2 = 8 ∨ (SyncF d f).2 = 9) ∧ FileI (SyncF d f).1 f all sure ∧ (d.armed = 0 → (SyncF d f).1.armed = 0 ∧ (SyncF d f).1.down = d.down)) := by
  have hb := h.begin_
  have hcalm : d.armed = 0 → beginF d = d := fun ha => begin_calm ha
  unfold SyncF
  dsimp only
  rw [mayF_err _ f h0 h1]
  cases hd : (beginF d).down with
  | true =>
    right
    rw [if_pos (by simp)]
    exact ⟨.inl rfl, hb, fun ha => by rw [hcalm ha]; exact ⟨ha, rfl⟩⟩
  | false =>
    rw [if_neg (by simp)]
    split
    · right
      exact ⟨.inr rfl, by refine hb.of ?_ rfl rfl; exact ⟨hb.ok.armed, by have := hb.ok.lost; dsimp only; omega, hb.ok.files, hb.ok.keys, hb.ok.queue, hb.ok.nodup, hb.ok.klen⟩, fun ha => by rw [hcalm ha] at hd ⊢; exact ⟨ha, hd.symm⟩⟩
    · left
      have hbe : beginF d = (endsF d).1 := by
        unfold beginF at hd ⊢
        dsimp only at hd ⊢
        split
        · rename_i he
          rw [if_pos he, crash_is_down] at hd
          cases hd
        · rfl
      have hf : (beginF d).file f = d.file f := by
        rw [hbe]
        unfold endsF
        split <;> rfl
      have hdn : d.down = false := by
        rw [hbe] at hd
        unfold endsF at hd
        split at hd <;> exact hd
      refine ⟨rfl, hd, hdn, by rw [settle_file, hf], ?_, fun ha => by rw [hcalm ha]; exact ha, fun all' sure' a b c e => ?_⟩
      · rw [hbe]
        show (endsF d).1.lost = d.lost
        unfold endsF
        split <;> rfl
      · rw [hf]
        exact hb.settle (h.ok.file f).1 a b c e
theorem sync_calm {d : DV} {f : Int} (h0 : 0 ≤ f) (h1 : f < 16) (ha : d.armed = 0) (hl : d.lost = 0) (hd : d.down = false) : (SyncF d f).2 = 0 ∧ (SyncF d f).1.armed = 0 ∧ (SyncF d f).1.lost = 0 := by
  unfold SyncF
  dsimp only
  rw [begin_calm ha, mayF_err _ f h0 h1, hd, if_neg (by simp), if_neg (by omega)]
  exact ⟨rfl, ha, hl⟩
end Go.Proofs.YtjncmlglhegnaaaGreatDoor
namespace Go.Proofs.YtjncmlglhegnaaaGreatDoor
open Go.Lib

theorem putB_end (s t : List UInt8) : putB s s.length t = s ++ t := by
  unfold putB
  split
  · rename_i h; rw [h, List.append_nil]
  · rw [Nat.sub_self, List.replicate_zero, List.append_nil, List.take_length, List.drop_eq_nil_of_le (by omega), List.append_nil]
/-- a journal that can be written to -/
structure JouI (d : DV) (f : Int) (all : List (List UInt8)) (j : JV) : Prop where
  file : j.file = f
  bytes : j.bytes = ((formsB j.recs).length : Int)
  whole : j.broken = false → d.down = false ∧ j.recs = all ∧ (d.file f).now = formsB all
theorem write_ways {d : DV} {f : Int} {all sure : List (List UInt8)} {t : List UInt8} (h : FileI d f all sure) (h0 : 0 ≤ f) (h1 : f < 16) (ht : t.length ≤ 3400) (hd : d.down = false) (hn : (d.file f).now = formsB all) (hfit : (formsB all).length + 3460 ≤ 16777216) :
    FileI (WriteF d f ((formsB all).length : Int) (formB t)).1 f (all ++ [t]) sure ∧
      (((WriteF d f ((formsB all).length : Int) (formB t)).2 = 0 ∧ (WriteF d f ((formsB all).length : Int) (formB t)).1.down = false ∧ ((WriteF d f ((formsB all).length : Int) (formB t)).1.file f).now = formsB (all ++ [t]) ∧ (WriteF d f ((formsB all).length : Int) (formB t)).1.lost = d.lost ∧ (d.armed = 0 → (WriteF d f ((formsB all).length : Int) (formB t)).1.armed = 0)) ∨
       ((WriteF d f ((formsB all).length : Int) (formB t)).2 = 8 ∧ d.armed ≠ 0)) := by
  have hlt := formB_le ht
  have hm : mayF (endsF d).1 f = 0 := by
    rw [mayF_err _ f h0 h1]
    have : (endsF d).1.down = d.down := by unfold endsF; split <;> rfl
    rw [this, hd, if_neg (by simp)]
  have he := h.ends
  have hf : (endsF d).1.file f = d.file f := by unfold endsF; split <;> rfl
  obtain ⟨d1, hw, w1, w2, w3, w4, w5, w6⟩ := write_calm hm (formsB all).length (formB t) (by omega)
  rw [hf] at w5 w6
  have hnow : (d1.file f).now = formsB (all ++ [t]) := by
    rw [w5, hn, putB_end, formsB_app, formsB_one]
  have hI : FileI d1 f (all ++ [t]) sure := by
    have hok := he.ok.write f ((formsB all).length : Int) (formB t)
    have hinv := he.inv.write f ((formsB all).length : Int) (formB t)
    rw [hw] at hok hinv
    refine ⟨hok, hinv, ?_, ?_, ?_, ?_, h.tiny.app (Tiny.one ht), h.pre.trans (List.prefix_append _ _)⟩
    · rw [hnow]; exact Zed.refl _
    · rw [w6, formsB_app]; exact h.last.more _
    · rw [hnow]
      have h2 := h.snow
      rw [hn] at h2
      rw [formsB_app]
      exact h2.trans (List.prefix_append _ _)
    · rw [w6]; exact h.slast
  unfold WriteF
  dsimp only
  rw [hw]
  by_cases hb : (endsF d).2 = true
  · rw [if_pos hb]
    refine ⟨hI.crash _, .inr ⟨rfl, fun ha => ?_⟩⟩
    rw [ends_calm ha] at hb
    cases hb
  · rw [if_neg hb]
    refine ⟨hI, .inl ⟨rfl, ?_, hnow, ?_, fun ha => ?_⟩⟩
    · rw [w1]
      unfold endsF
      split <;> exact hd
    · show d1.lost = d.lost
      rw [w4]
      unfold endsF
      split <;> rfl
    · show d1.armed = 0
      rw [w2, ends_calm ha]
      exact ha
/-- Append -/
theorem append_ways {d : DV} {f : Int} {all sure : List (List UInt8)} {j : JV} {t : List UInt8} (h : FileI d f all sure) (hj : JouI d f all j) (h0 : 0 ≤ f) (h1 : f < 16) (ht : t.length ≤ 3400) (hall : all.length ≤ 300) :
    (j.broken = true ∧ appendJ d j t = (d, j, 7)) ∨
    (j.broken = false ∧ (appendJ d j t).2.2 = 0 ∧ (appendJ d j t).2.1.recs = j.recs ++ [t] ∧ (appendJ d j t).2.1.broken = false ∧ FileI (appendJ d j t).1 f (all ++ [t]) sure ∧ JouI (appendJ d j t).1 f (all ++ [t]) (appendJ d j t).2.1 ∧ (appendJ d j t).1.lost = d.lost ∧ (d.armed = 0 → (appendJ d j t).1.armed = 0)) ∨
    (j.broken = false ∧ (appendJ d j t).2.2 = 8 ∧ (appendJ d j t).2.1.recs = j.recs ∧ (appendJ d j t).2.1.broken = true ∧ FileI (appendJ d j t).1 f (all ++ [t]) sure ∧ JouI (appendJ d j t).1 f (all ++ [t]) (appendJ d j t).2.1 ∧ d.armed ≠ 0) := by
  have hfl := formsB_le h.tiny
  have hft := formB_le ht
  obtain ⟨jf, recs, bytes, broken⟩ := j
  obtain ⟨hjf, hjb, hjw⟩ := hj
  simp only at hjf hjb hjw
  subst hjf
  subst hjb
  cases broken with
  | true => left; exact ⟨rfl, rfl⟩
  | false =>
    right
    obtain ⟨hd, hr, hn⟩ := hjw rfl
    subst hr
    obtain ⟨hI, hw⟩ := write_ways h h0 h1 ht hd hn (by omega)
    unfold appendJ
    simp only [Bool.false_eq_true, if_false]
    rw [if_neg (by omega), if_neg (by omega)]
    rcases hw with ⟨e, e2, e3, e4, e5⟩ | ⟨e, e2⟩
    · left
      rw [if_neg (by simp [e])]
      refine ⟨trivial, rfl, rfl, rfl, hI, ⟨rfl, ?_, fun _ => ⟨e2, rfl, e3⟩⟩, e4, e5⟩
      show ((formsB recs).length : Int) + ((formB t).length : Int) = ((formsB (recs ++ [t])).length : Int)
      rw [formsB_app, formsB_one, List.length_append]
      omega
    · right
      rw [if_pos (by rw [e]; decide)]
      exact ⟨trivial, e, rfl, rfl, hI, ⟨rfl, rfl, (fun h => by cases h)⟩, e2⟩
/-- Sync -/
theorem syncJ_ways {d : DV} {f : Int} {all sure : List (List UInt8)} {j : JV} (h : FileI d f all sure) (hj : JouI d f all j) (h0 : 0 ≤ f) (h1 : f < 16) :
    (j.broken = true ∧ syncJ d j = (d, j, 7)) ∨
    (j.broken = false ∧ (syncJ d j).2.2 = 0 ∧ (syncJ d j).2.1 = j ∧ (syncJ d j).1.file f = ⟨formsB all, formsB all⟩ ∧ (∀ p ∈ (syncJ d j).1.queue, p.1 ≠ f) ∧ FileI (syncJ d j).1 f all all ∧ JouI (syncJ d j).1 f all j ∧ (syncJ d j).1.lost = d.lost ∧ (d.armed = 0 → (syncJ d j).1.armed = 0)) ∨
    (j.broken = false ∧ ((syncJ d j).2.2 = 8 ∨ (syncJ d j).2.2 = 9) ∧ (syncJ d j).2.1.recs = j.recs ∧ (syncJ d j).2.1.broken = true ∧ FileI (syncJ d j).1 f all sure ∧ JouI (syncJ d j).1 f all (syncJ d j).2.1 ∧ (d.armed = 0 → (syncJ d j).1.armed = 0)) := by
  obtain ⟨jf, recs, bytes, broken⟩ := j
  obtain ⟨hjf, hjb, hjw⟩ := hj
  simp only at hjf hjb hjw
  subst hjf
  subst hjb
  cases broken with
  | true => left; exact ⟨rfl, rfl⟩
  | false =>
    right
    obtain ⟨hd, hr, hn⟩ := hjw rfl
    subst hr
    unfold syncJ
    simp only [Bool.false_eq_true, if_false]
    rcases sync_ways h h0 h1 with ⟨e, e2, _, e3, e4, e5, e6⟩ | ⟨e, e2, e3⟩
    · left
      have hs := (sync_ok h.ok e).2.2.1
      refine ⟨trivial, e, by simp [e], by rw [e3, hn], hs.2, ?_, ⟨rfl, rfl, fun _ => ⟨e2, rfl, by rw [e3]; exact hn⟩⟩, e4, e5⟩
      exact e6 recs recs (by rw [hn]; exact Zed.refl _) h.tiny (by rw [hn]; exact List.prefix_refl _) (List.prefix_refl _)
    · right
      refine ⟨trivial, e, trivial, ?_, e2, ⟨rfl, rfl, fun hb2 => ?_⟩, fun ha => (e3 ha).1⟩
      · show decide ((SyncF d jf).2 ≠ 0) = true
        rcases e with e | e <;> rw [e] <;> rfl
      · have hb3 : decide ((SyncF d jf).2 ≠ 0) = false := hb2
        rcases e with e | e <;> rw [e] at hb3 <;> cases hb3
theorem trunc_ways {d : DV} {f : Int} {all sure all' sure' : List (List UInt8)} {n : Nat} (h : FileI d f all sure) (h0 : 0 ≤ f) (h1 : f < 16) (hn : n ≤ (d.file f).now.length) (hz : Zed ((d.file f).now.take n) (formsB all')) (ht : Tiny all') (hp : formsB sure' <+: (d.file f).now.take n) (hpre : sure' <+: all') :
    ((TruncF d f (n : Int)).2 = 0 ∧ (TruncF d f (n : Int)).1.down = false ∧ (TruncF d f (n : Int)).1.file f = ⟨(d.file f).now.take n, (d.file f).now.take n⟩ ∧ FileI (TruncF d f (n : Int)).1 f all' sure' ∧ (TruncF d f (n : Int)).1.lost = d.lost ∧ (d.armed = 0 → (TruncF d f (n : Int)).1.armed = 0)) ∨
    ((TruncF d f (n : Int)).2 = 8 ∧ FileI (TruncF d f (n : Int)).1 f all sure ∧ (d.armed = 0 → d.down = true ∧ (TruncF d f (n : Int)).1 = d)) := by
  have hb := h.begin_
  unfold TruncF
  dsimp only
  rw [mayF_err _ f h0 h1]
  cases hd : (beginF d).down with
  | true =>
    right
    rw [if_pos (by simp)]
    exact ⟨rfl, hb, fun ha => by rw [begin_calm ha] at hd ⊢; exact ⟨hd, rfl⟩⟩
  | false =>
    left
    have hbe : beginF d = (endsF d).1 := by
      unfold beginF at hd ⊢
      dsimp only at hd ⊢
      split
      · rename_i he
        rw [if_pos he, crash_is_down] at hd
        cases hd
      · rfl
    have hf : (beginF d).file f = d.file f := by
      rw [hbe]
      unfold endsF
      split <;> rfl
    rw [if_neg (by simp), if_neg (by rw [hf]; omega), Int.toNat_natCast, hf]
    refine ⟨rfl, hd, settle_file _ _ _, hb.settle (by rw [List.length_take]; have := (h.ok.file f).1; omega) hz ht hp hpre, ?_, fun ha => by rw [begin_calm ha]; exact ha⟩
    rw [hbe]
    show (endsF d).1.lost = d.lost
    unfold endsF
    split <;> rfl
/-- Open -/
theorem open_ways {d : DV} {f : Int} {all sure : List (List UInt8)} (h : FileI d f all sure) (h0 : 0 ≤ f) (h1 : f < 16) (hall : all.length ≤ 4000) :
    (∃ j R, (openJ d f).2 = (some j, 0) ∧ R = recsF (d.file f).now ∧ j.recs = R ∧ j.broken = false ∧ R <+: all ∧ sure <+: R ∧ FileI (openJ d f).1 f R R ∧ JouI (openJ d f).1 f R j ∧ (openJ d f).1.lost = d.lost ∧ (d.armed = 0 → (openJ d f).1.armed = 0) ∧ (openJ d f).1.file f = ⟨formsB R, formsB R⟩) ∨
    (∃ e, (openJ d f).2 = (none, e) ∧ (e = 8 ∨ e = 9) ∧ FileI (openJ d f).1 f all sure ∧ (d.armed = 0 → (openJ d f).1.armed = 0) ∧ (d.armed = 0 → d.lost = 0 → d.down = true)) := by
  obtain ⟨R, hR⟩ : ∃ R, recsF (d.file f).now = R := ⟨_, rfl⟩
  have hRa : R <+: all := by rw [← hR]; exact torn_recs all _ h.tiny.short h.now
  have hsR : sure <+: R := by rw [← hR]; exact recs_has (h.tiny.pre h.pre).short.small h.snow
  have hRt : Tiny R := h.tiny.pre hRa
  have hRn : formsB R <+: (d.file f).now := by rw [← hR]; exact recs_prefix _
  have hzR : Zed (formsB R) (formsB R) := Zed.refl _
  have hlen : (formsB R).length ≤ (d.file f).now.length := hRn.length_le
  have htk : (d.file f).now.take (formsB R).length = formsB R := (List.prefix_iff_eq_take.1 hRn).symm
  unfold openJ
  rw [if_neg (by omega)]
  rcases sync_ways h h0 h1 with ⟨e, e2, e0, e3, e4, e5, e6⟩ | ⟨e, e2, e3⟩
  · rw [if_neg (by simp [e])]
    dsimp only
    rw [e3]
    simp only
    rw [hR]
    split
    · have hI := e6 all sure h.now h.tiny h.snow h.pre
      have hnow1 : ((SyncF d f).1.file f).now = (d.file f).now := by rw [e3]
      rcases trunc_ways (n := (formsB R).length) (all' := R) (sure' := R) hI h0 h1 (by rw [hnow1]; exact hlen) (by rw [hnow1, htk]; exact hzR) hRt (by rw [hnow1, htk]; exact List.prefix_refl _) (List.prefix_refl _) with ⟨t, t2, t3, t4, t5, t6⟩ | ⟨t, t2, t3⟩
      · left
        rw [if_neg (by simp [t])]
        rw [hnow1, htk] at t3
        refine ⟨_, R, rfl, rfl, rfl, rfl, hRa, hsR, t4, ⟨rfl, rfl, fun _ => ⟨t2, rfl, by rw [t3]⟩⟩, by rw [t5, e4], fun ha => t6 (e5 ha), t3⟩
      · right
        rw [if_pos (by rw [t]; decide)]
        refine ⟨_, rfl, .inl t, t2, fun ha => ?_, fun ha hl => ?_⟩
        · rw [(t3 (e5 ha)).2]; exact e5 ha
        · have := (t3 (e5 ha)).1
          rw [e2] at this
          cases this
    · rename_i hge
      have hwhole : (d.file f).now = formsB R := by
        obtain ⟨r, hr⟩ := hRn
        rw [← hr, List.length_append] at hge
        have : r = [] := List.length_eq_zero_iff.1 (by omega)
        rw [← hr, this, List.append_nil]
      left
      refine ⟨_, R, rfl, rfl, rfl, rfl, hRa, hsR, e6 R R (by rw [hwhole]; exact hzR) hRt (by rw [hwhole]; exact List.prefix_refl _) (List.prefix_refl _), ⟨rfl, rfl, fun _ => ⟨e2, rfl, by dsimp only; rw [e3]; exact hwhole⟩⟩, e4, e5, by rw [e3, hwhole]⟩
  · right
    have hne : (SyncF d f).2 ≠ 0 := by rcases e with e | e <;> rw [e] <;> decide
    rw [if_pos hne]
    refine ⟨_, rfl, e, e2, fun ha => (e3 ha).1, fun ha hl => ?_⟩
    cases hdn : d.down with
    | true => rfl
    | false => exact absurd (sync_calm h0 h1 ha hl hdn).1 hne
end Go.Proofs.YtjncmlglhegnaaaGreatDoor
namespace Go.Proofs.YtjncmlglhegnaaaGreatDoor
open Go.RowKit Go.Sort Go.Lib

structure LastI (f : Int) (i : Nat) (d : DV) (all sure : List (List UInt8)) (jo : Option JV) : Prop where
  file : FileI d f all sure
  len : all.length ≤ i
  jou : ∀ j, jo = some j → JouI d f all j ∧ Tiny j.recs ∧ j.recs.length ≤ i
namespace LastI
variable {f : Int} {i : Nat} {d : DV} {all sure : List (List UInt8)} {j : JV} {jo : Option JV}
theorem up (h : LastI f i d all sure jo) : LastI f (i + 1) d all sure jo := ⟨h.file, by have := h.len; omega, fun j e => ⟨(h.jou j e).1, (h.jou j e).2.1, by have := (h.jou j e).2.2; omega⟩⟩
theorem jbytes (h : LastI f i d all sure (some j)) (hi : i ≤ 4000) : (-9223372036854775808 ≤ j.bytes ∧ j.bytes ≤ 4611686018427387904) ∧ j.recs.length ≤ 1099511627776 := by
  obtain ⟨h1, h2, h3⟩ := h.jou j rfl
  have h4 := formsB_le h2
  rw [h1.bytes]
  omega
theorem lose (h : LastI f i d all sure jo) (n : Int) (hn : n ≤ 9223372036854775807) : LastI f i (LoseF d n) all sure jo :=
  ⟨h.file.lose n hn, h.len, fun j e => ⟨⟨(h.jou j e).1.file, (h.jou j e).1.bytes, fun hb => (h.jou j e).1.whole hb⟩, (h.jou j e).2⟩⟩
theorem arm (h : LastI f i d all sure jo) (n : Int) (hn : n ≤ 9223372036854775807) (keep : List Int) (hk : keep.length ≤ 4194320) : LastI f i (ArmF d n keep) all sure jo :=
  ⟨h.file.arm n hn keep hk, h.len, fun j e => ⟨⟨(h.jou j e).1.file, (h.jou j e).1.bytes, fun hb => (h.jou j e).1.whole hb⟩, (h.jou j e).2⟩⟩
theorem crash (h : LastI f i d all sure jo) (keep : List Int) : LastI f i (crashF d keep) all sure none := ⟨h.file.crash keep, h.len, fun _ e => by cases e⟩
theorem start (h : LastI f i d all sure jo) : LastI f i (StartF d) all sure none := ⟨h.file.start, h.len, fun _ e => by cases e⟩
theorem append (h : LastI f i d all sure (some j)) (h0 : 0 ≤ f) (h1 : f < 16) (hi : i ≤ 300) {t : List UInt8} (ht : t.length ≤ 3400) :
    ∃ d' j' e, appendJ d j t = (d', j', e) ∧
      ((e = 7 ∧ d' = d ∧ j' = j) ∨
       (e = 0 ∧ j'.recs = j.recs ++ [t] ∧ LastI f (i + 1) d' (all ++ [t]) sure (some j')) ∨
       (e = 8 ∧ j'.recs = j.recs ∧ LastI f (i + 1) d' (all ++ [t]) sure (some j'))) := by
  obtain ⟨hj, hjt, hjl⟩ := h.jou j rfl
  refine ⟨(appendJ d j t).1, (appendJ d j t).2.1, (appendJ d j t).2.2, rfl, ?_⟩
  rcases append_ways h.file hj h0 h1 ht (by have := h.len; omega) with ⟨_, e⟩ | ⟨_, e, e2, _, e4, e5, _, _⟩ | ⟨_, e, e2, _, e4, e5, _⟩
  · left; rw [e]; exact ⟨rfl, rfl, rfl⟩
  · right; left
    refine ⟨e, e2, e4, by rw [List.length_append]; have := h.len; simp; omega, fun j' hj' => ?_⟩
    cases hj'
    exact ⟨e5, by rw [e2]; exact hjt.app (Tiny.one ht), by rw [e2, List.length_append]; simp; omega⟩
  · right; right
    refine ⟨e, e2, e4, by rw [List.length_append]; have := h.len; simp; omega, fun j' hj' => ?_⟩
    cases hj'
    exact ⟨e5, by rw [e2]; exact hjt, by rw [e2]; omega⟩
theorem sync (h : LastI f i d all sure (some j)) (h0 : 0 ≤ f) (h1 : f < 16) :
    ∃ d' j' e, syncJ d j = (d', j', e) ∧
      ((e = 0 ∧ j' = j ∧ j.recs = all ∧ LastI f i d' all all (some j')) ∨
       (e ≠ 0 ∧ LastI f i d' all sure (some j'))) := by
  obtain ⟨hj, hjt, hjl⟩ := h.jou j rfl
  refine ⟨(syncJ d j).1, (syncJ d j).2.1, (syncJ d j).2.2, rfl, ?_⟩
  rcases syncJ_ways h.file hj h0 h1 with ⟨_, e⟩ | ⟨hb, e, e2, _, _, e4, e5, _, _⟩ | ⟨_, e, e2, _, e4, e5, _⟩
  · right; rw [e]; exact ⟨(by decide : (7 : Int) ≠ 0), h⟩
  · left
    refine ⟨e, e2, (hj.whole hb).2.1, e4, h.len, fun j' hj' => ?_⟩
    cases hj'
    rw [e2]
    exact ⟨e5, hjt, hjl⟩
  · right
    refine ⟨by rcases e with e | e <;> rw [e] <;> decide, e4, h.len, fun j' hj' => ?_⟩
    cases hj'
    exact ⟨e5, by rw [e2]; exact hjt, by rw [e2]; exact hjl⟩
theorem open_ (h : LastI f i d all sure jo) (h0 : 0 ≤ f) (h1 : f < 16) (hi : i ≤ 3000) :
    (∃ d' j', openJ d f = (d', some j', 0) ∧ j'.recs <+: all ∧ sure <+: j'.recs ∧ LastI f i d' j'.recs j'.recs (some j')) ∨
    (∃ d' e, openJ d f = (d', none, e) ∧ (e = 8 ∨ e = 9) ∧ LastI f i d' all sure none ∧ (d.armed = 0 → d.lost = 0 → d.down = true)) := by
  rcases open_ways h.file h0 h1 (by have := h.len; omega) with ⟨j, R, e, _, e2, _, e3, e4, e5, e6, _, _, _⟩ | ⟨e, e1, e2, e3, _, e5⟩
  · left
    subst e2
    have hl := e3.length_le
    refine ⟨(openJ d f).1, j, by rw [← e], e3, e4, e5, by have := h.len; omega, fun j' hj' => ?_⟩
    cases hj'
    exact ⟨e6, h.file.tiny.pre e3, by have := h.len; omega⟩
  · right
    exact ⟨(openJ d f).1, e, by rw [← e1], e2, ⟨e3, h.len, fun _ e => by cases e⟩, e5⟩
theorem new (f : Int) : LastI f 0 newD [] [] none := ⟨FileI.new f, Nat.le_refl _, fun _ e => by cases e⟩
end LastI
/-- two lists of strings that are read alone, and may share their rows -/
def slB (A : Option Addr) (xs : List (List Value)) (k : Nat) : Prop := xs ≠ [] ∧ ∃ ad, A = some ad ∧ ad.block = k
theorem slB.lt {w : World} {size n : Nat} {A : Option Addr} {xs : List (List Value)} (h : Sl w size A n xs) {k : Nat} (hk : slB A xs k) : k < w.heap.size := by
  obtain ⟨h1, ad, h2, h3⟩ := hk
  obtain ⟨x, hx⟩ : ∃ x, xs[0]? = some x := ⟨_, List.getElem?_eq_getElem (List.length_pos_iff.2 h1)⟩
  obtain ⟨b, o, hA, hb, _⟩ := h.2 0 x hx
  rw [hA] at h2
  injection h2 with h2
  rw [← h3, ← h2]
  exact hb
section
variable {w0 w w' : World} {Rs : List Res} {A A' : Option Addr} {n m c : Nat} {xs ys zs : List (List UInt8)}
end
end Go.Proofs.YtjncmlglhegnaaaGreatDoor
namespace Go.Proofs.YtjncmlglhegnaaaGreatDoor
open Go.Lib

/-- a disk that is up, with nothing armed or lost -/
structure Calm (d : DV) : Prop where
  armed : d.armed = 0
  lost : d.lost = 0
  down : d.down = false
theorem Calm.new : Calm newD := ⟨rfl, rfl, rfl⟩
theorem Calm.sync {d : DV} {f : Int} (h : Calm d) (h0 : 0 ≤ f) (h1 : f < 16) : SyncF d f = (settleF d f (d.file f).now, 0) := by
  unfold SyncF
  dsimp only
  rw [begin_calm h.armed, mayF_err _ f h0 h1, h.down, if_neg (by simp), if_neg (by rw [h.lost]; omega)]
theorem Calm.settle {d : DV} (h : Calm d) (f : Int) (s : List UInt8) : Calm (settleF d f s) := ⟨h.armed, h.lost, h.down⟩
theorem Calm.trunc {d : DV} {f : Int} {n : Nat} (h : Calm d) (h0 : 0 ≤ f) (h1 : f < 16) (hn : n ≤ (d.file f).now.length) : TruncF d f (n : Int) = (settleF d f ((d.file f).now.take n), 0) := by
  unfold TruncF
  dsimp only
  rw [begin_calm h.armed, mayF_err _ f h0 h1, h.down, if_neg (by simp), if_neg (by omega), Int.toNat_natCast]
theorem Calm.open_ {d : DV} {f : Int} {s : List UInt8} (h : Calm d) (h0 : 0 ≤ f) (h1 : f < 16) (hs : (d.file f).now = s) :
    ∃ d', openJ d f = (d', some ⟨f, recsF s, ((formsB (recsF s)).length : Int), false⟩, 0) ∧ d'.file f = ⟨formsB (recsF s), formsB (recsF s)⟩ ∧ Calm d' := by
  have hp := recs_prefix s
  unfold openJ
  rw [if_neg (by omega), h.sync h0 h1, if_neg (by simp)]
  simp only [settle_file, hs]
  by_cases hlt : (formsB (recsF s)).length < s.length
  · have hc := h.settle f s
    have hn : ((settleF d f s).file f).now = s := by rw [settle_file]
    rw [if_pos hlt, hc.trunc h0 h1 (by rw [hn]; omega), hn]
    dsimp only
    rw [if_neg (by simp)]
    refine ⟨_, rfl, ?_, hc.settle _ _⟩
    rw [settle_file, ← List.prefix_iff_eq_take.1 hp]
  · rw [if_neg hlt]
    refine ⟨_, rfl, ?_, h.settle _ _⟩
    have he : formsB (recsF s) = s := hp.eq_of_length (Nat.le_antisymm hp.length_le (by omega))
    rw [settle_file, he]
theorem Calm.write {d : DV} {f : Int} (h : Calm d) (h0 : 0 ≤ f) (h1 : f < 16) (a : Nat) (s : List UInt8) (hfit : a + s.length ≤ 16777216) :
    ∃ d', WriteF d f (a : Int) s = (d', 0) ∧ (d'.file f).now = putB (d.file f).now a s ∧ Calm d' := by
  obtain ⟨d1, hw, w1, w2, _, w4, w5, _⟩ := write_calm (f := f) (mayB h.down h0 h1) a s hfit
  rw [WriteF_calm h.armed, hw]
  exact ⟨d1, rfl, w5, ⟨w2.trans h.armed, w4.trans h.lost, w1.trans h.down⟩⟩
theorem Calm.read {d : DV} {f : Int} (h : Calm d) (h0 : 0 ≤ f) (h1 : f < 16) : ReadF d f 0 ((d.file f).now.length : Int) = ((d.file f).now, 0) := by
  unfold ReadF
  rw [mayB h.down h0 h1, if_neg (by simp), if_neg (by omega)]
  simp
/-- the records that the law's own reader has read -/
structure Wants (s : List UInt8) (l : List (List UInt8)) : Prop where
  pre : formsB l <+: s
  recs : recsF s = l ++ recsF (s.drop (formsB l).length)
theorem Wants.nil (s : List UInt8) : Wants s [] := ⟨List.nil_prefix, rfl⟩
theorem Wants.done {s : List UInt8} {l : List (List UInt8)} (h : Wants s l) (hn : stepJ (s.drop (formsB l).length) = none) : l = recsF s := by rw [h.recs, recsF_none hn, List.append_nil]
theorem Wants.step {s t : List UInt8} {l : List (List UInt8)} (h : Wants s l) (hn : stepJ (s.drop (formsB l).length) = some t) : Wants s (l ++ [t]) := by
  obtain ⟨ht, hp⟩ := stepJ_iff.1 hn
  have e := List.prefix_iff_eq_append.1 h.pre
  refine ⟨?_, ?_⟩
  · rw [formsB_app, formsB_one]
    obtain ⟨r, hr⟩ := hp
    exact ⟨r, by rw [List.append_assoc, hr]; exact e⟩
  · rw [h.recs, recsF_some hn, formsB_app, formsB_one, List.length_append, ← List.drop_drop, List.append_assoc]
    rfl
end Go.Proofs.YtjncmlglhegnaaaGreatDoor
namespace Go.Proofs.YtjncmlglhegnaaaGreatDoor
open Go.RowKit Go.Sort Go.Lib

abbrev encs (l : List EntV) : List (List UInt8) := l.map fun e => (encodeF e).1
theorem encE_tight {x : EntV} (h : RightE x) : (encE x).length ≤ x.text.length + 300 := by
  have h1 : ∀ n : Int, 0 ≤ n → n ≤ 100000 → (encN n).length ≤ 21 := fun n h0 h1 => by unfold encN; rw [if_neg (by omega)]; exact encI_len ⟨by omega, by omega⟩
  have a1 := h1 x.dev h.d0 (by have := h.d1; omega)
  have a2 := h1 x.no h.n0 (by have := h.n1; omega)
  have a3 := h1 x.day h.y0 h.y1
  have a4 := encT_len (s := x.text) (by have := h.txt; omega)
  have a5 := flat_le encI 21 x.seen fun n hn => encI_len (by have := h.rng n hn; exact ⟨by omega, by omega⟩)
  have a6 := h.len
  have a7 := itoa_length (n := (x.seen.length : Int)) (by omega) (by omega)
  have a8 : (encIs x.seen).length ≤ 200 := by
    unfold encIs
    simp
    simp only [List.length_flatten, List.map_map, Function.comp_def] at a5 ⊢
    omega
  unfold encE
  simp only [List.length_append]
  omega
theorem encodeF_rightD {x : EntV} (h : RightE x) : (encodeF x).1 = encE x := by unfold encodeF; rw [if_pos (rightB_true.2 h)]
theorem decodeF_of {x : EntV} (h : RightE x) : decodeF (encodeF x).1 = (x, true) := by
  rw [encodeF_rightD h]
  unfold decodeF
  rw [if_pos (goodD_enc h), decE_enc h]
theorem decAll_encs : ∀ {l : List EntV}, (∀ e ∈ l, RightE e) → decAll (encs l) = some l
  | [], _ => rfl
  | e :: l, h => by
    have h1 := decodeF_of (h e (by simp))
    have h2 := decAll_encs (l := l) fun x hx => h x (by simp [hx])
    show (if (decodeF (encodeF e).1).2 = true then (decAll (encs l)).map ((decodeF (encodeF e).1).1 :: ·) else none) = _
    rw [h1, h2]
    rfl
theorem checkF_right {l : List EntV} (h : checkF l = 0) : ∀ e ∈ l, RightE e := fun e he => by
  obtain ⟨i, hi, rfl⟩ := List.getElem_of_mem he
  exact (check_at h (List.getElem?_eq_getElem hi)).right
theorem prefix_encs {l : List EntV} {r : List (List UInt8)} (h : r <+: encs l) : r = encs (l.take r.length) := by
  have h1 := List.prefix_iff_eq_take.1 h
  unfold encs at h1 ⊢
  rw [List.map_take]
  exact h1
theorem encs_len (l : List EntV) : (encs l).length = l.length := List.length_map ..
/-- what a World's lists keep -/
structure WC (i : Nat) (d : DV) (number units : Int) (handed durable last torn : List EntV) (spent : Int) (jo : Option JV) : Prop where
  file : LastI 0 i d (encs (last ++ torn)) (encs durable) jo
  chain : checkF (last ++ torn) = 0
  dev : ∀ e ∈ last ++ torn, e.dev = number
  text : ∀ e ∈ last ++ torn, e.text.length ≤ 3000
  rep : (replayF (textsOf (last ++ torn)) ⟨number, units, 0, false⟩).2 = true
  dur : durable <+: last
  hand : handed <+: durable
  n0 : 0 ≤ number
  n7 : number < 8
  u1 : 1 ≤ units
  u2 : units ≤ 1000000
  s0 : 0 ≤ spent
  sp : spent ≤ (replayF (textsOf durable) ⟨number, units, 0, false⟩).1.spent
  seen : ∀ e ∈ last ++ torn, e.seen = zed8.set number.toNat e.no
/-- .. and its device -/
structure WD (number units : Int) (last : List EntV) (x : DevV) : Prop where
  ents : x.ents = last
  num : x.number = number
  loan : x.loan = (replayF (textsOf last) ⟨number, units, 0, false⟩).1
  recs : x.j.recs = encs last
structure WI (i : Nat) (v : WorV) : Prop where
  core : WC i v.d v.number v.units v.handed v.durable v.last v.torn v.spent (v.x.map (·.j))
  dev : ∀ x, v.x = some x → WD v.number v.units v.last x
theorem textsOf_app (a b : List EntV) : textsOf (a ++ b) = textsOf a ++ textsOf b := by unfold textsOf; rw [List.map_append]
theorem rep_pre {a b : List EntV} {l : LoanV} (h : a <+: b) (hr : (replayF (textsOf b) l).2 = true) : (replayF (textsOf a) l).2 = true ∧ Later (replayF (textsOf a) l).1 (replayF (textsOf b) l).1 := by
  have h1 := replayF_take (ts := textsOf b) (l := l) a.length hr
  have e : (textsOf b).take a.length = textsOf a := by
    unfold textsOf
    rw [← List.map_take, ← List.prefix_iff_eq_take.1 h]
  rw [e] at h1
  exact ⟨h1.1, h1.2.2⟩
theorem pre_pre {α : Type} {a b c : List α} (h1 : a <+: c) (h2 : b <+: c) (hl : a.length ≤ b.length) : a <+: b := List.prefix_of_prefix_length_le h1 h2 hl
namespace WC
variable {i : Nat} {d d' : DV} {number units : Int} {handed durable last torn : List EntV} {spent : Int} {jo jo' : Option JV}
theorem withFile (h : WC i d number units handed durable last torn spent jo) {k : Nat} (hf : LastI 0 k d' (encs (last ++ torn)) (encs durable) jo') : WC k d' number units handed durable last torn spent jo' :=
  ⟨hf, h.chain, h.dev, h.text, h.rep, h.dur, h.hand, h.n0, h.n7, h.u1, h.u2, h.s0, h.sp, h.seen⟩
theorem lose (h : WC i d number units handed durable last torn spent jo) (n : Int) (hn : n ≤ 9223372036854775807) : WC i (LoseF d n) number units handed durable last torn spent jo := h.withFile (h.file.lose n hn)
theorem arm (h : WC i d number units handed durable last torn spent jo) (n : Int) (hn : n ≤ 9223372036854775807) (keep : List Int) (hk : keep.length ≤ 40) : WC i (ArmF d n keep) number units handed durable last torn spent jo := h.withFile (h.file.arm n hn keep (by omega))
theorem crash (h : WC i d number units handed durable last torn spent jo) (keep : List Int) : WC i (crashF d keep) number units handed durable last torn spent none := h.withFile (h.file.crash keep)
theorem start (h : WC i d number units handed durable last torn spent jo) : WC i (StartF d) number units handed durable last torn spent none := h.withFile h.file.start
theorem up (h : WC i d number units handed durable last torn spent jo) : WC (i + 1) d number units handed durable last torn spent jo := h.withFile h.file.up
theorem right (h : WC i d number units handed durable last torn spent jo) : ∀ e ∈ last ++ torn, RightE e := checkF_right h.chain
theorem len (h : WC i d number units handed durable last torn spent jo) : last.length + torn.length ≤ i := by
  have := h.file.len
  rw [encs_len, List.length_append] at this
  exact this
theorem loanRight (h : WC i d number units handed durable last torn spent jo) : LoanV.right ⟨number, units, 0, false⟩ = true := mk_right ⟨h.n0, h.n7, h.u1, by have := h.u2; show units ≤ _; omega, Int.le_refl _, by have := h.u1; show (0 : Int) ≤ units; omega⟩
/-- Open -/
theorem open_ (h : WC i d number units handed durable last torn spent jo) (hi : i ≤ 300) :
    (∃ d' x, openD d number ⟨number, units, 0, false⟩ = (d', some x, 0) ∧ x.ents <+: last ++ torn ∧ durable <+: x.ents ∧ WD number units x.ents x ∧ WC i d' number units handed x.ents x.ents [] spent (some x.j)) ∨
    (∃ d' e, openD d number ⟨number, units, 0, false⟩ = (d', none, e) ∧ (e = 8 ∨ e = 9) ∧ WC i d' number units handed durable last torn spent none ∧ (d.armed = 0 → d.lost = 0 → d.down = true)) := by
  have hlr := h.loanRight
  have hret : returnF ⟨number, units, 0, false⟩ = (⟨number, units, 0, true⟩, 0) := by
    unfold returnF
    rw [if_neg (by rw [hlr]; simp), if_neg (by simp)]
  have hc : ¬ (number < 0 ∨ 8 ≤ number ∨ (returnF (⟨number, units, 0, false⟩ : LoanV)).2 ≠ 0 ∨ (⟨number, units, 0, false⟩ : LoanV).device ≠ number ∨ (⟨number, units, 0, false⟩ : LoanV).spent ≠ 0) := by
    rw [hret]
    have := h.n0
    have := h.n7
    simp
    omega
  unfold openD
  rw [if_neg hc]
  rcases h.file.open_ (by decide) (by decide) (by omega) with ⟨d', j', e, h1, h2, h3⟩ | ⟨d', e, e1, h2, h3, h4⟩
  · left
    have hr := prefix_encs h1
    obtain ⟨k, hk⟩ : ∃ k, j'.recs.length = k := ⟨_, rfl⟩
    rw [hk] at hr
    obtain ⟨L, hL⟩ : ∃ L, (last ++ torn).take k = L := ⟨_, rfl⟩
    rw [hL] at hr
    have hLp : L <+: last ++ torn := by rw [← hL]; exact List.take_prefix _ _
    have hck : checkF L = 0 := by rw [← hL]; exact check_take h.chain k
    have hrt := checkF_right hck
    have hdec : decAll j'.recs = some L := by rw [hr]; exact decAll_encs hrt
    have hrp := rep_pre hLp h.rep
    have hall : (L.all fun x => decide (x.dev = number)) = true := by
      rw [List.all_eq_true]
      exact fun x hx => decide_eq_true (h.dev x (hLp.mem hx))
    have hdl : durable.length ≤ L.length := by
      have := h2.length_le
      rw [hr, encs_len, encs_len] at this
      exact this
    have hdL : durable <+: L := pre_pre (h.dur.trans (List.prefix_append _ _)) hLp hdl
    have hdr := rep_pre hdL hrp.1
    refine ⟨d', ⟨number, L, (replayF (textsOf L) ⟨number, units, 0, false⟩).1, j'⟩, ?_, hLp, hdL, ⟨rfl, rfl, rfl, hr⟩, ?_⟩
    · rw [e]
      simp only [hdec]
      rw [if_pos ⟨hck, hall, hrp.1⟩]
    · have hfile : LastI 0 i d' (encs (L ++ [])) (encs L) (some j') := by
        rw [List.append_nil, ← hr]
        exact h3
      exact ⟨hfile, by rw [List.append_nil]; exact hck, fun e he => h.dev e (hLp.mem (by simpa using he)), fun e he => h.text e (hLp.mem (by simpa using he)), by rw [List.append_nil]; exact hrp.1, List.prefix_refl _, h.hand.trans hdL, h.n0, h.n7, h.u1, h.u2, h.s0, Int.le_trans h.sp hdr.2.spent, fun e he => h.seen e (hLp.mem (by simpa using he))⟩
  · right
    refine ⟨d', e, ?_, h2, h.withFile h3, h4⟩
    rw [e1]
end WC
end Go.Proofs.YtjncmlglhegnaaaGreatDoor
namespace Go.Proofs.YtjncmlglhegnaaaGreatDoor
open Go.RowKit Go.Sort Go.Lib

theorem tornF_more {last all : List EntV} {q : EntV × Int} {e : Int} {torn : List EntV} (h : all.length ≠ last.length) : tornF last all q e torn = torn := by unfold tornF; rw [if_neg (fun h' => h h'.1)]
theorem tornF_ok {last all : List EntV} {q : EntV × Int} {e : Int} {torn : List EntV} (h : e ≠ 8) (h' : e ≠ 9) : tornF last all q e torn = torn := by unfold tornF; rw [if_neg (fun g => g.2.1.elim h h')]
theorem tornF_no {last all : List EntV} {q : EntV × Int} {e : Int} {torn : List EntV} (h : q.2 ≠ 0) : tornF last all q e torn = torn := by unfold tornF; rw [if_neg (fun g => h g.2.2)]
theorem tornF_yes {last : List EntV} {q : EntV} {torn : List EntV} : tornF last last (q, 0) 8 torn = [q] := by unfold tornF; rw [if_pos ⟨rfl, .inl rfl, rfl⟩]
theorem nextF_ok {l : List EntV} {number day : Int} {text : List UInt8} {q : EntV} (h : nextF l number day zed8 text = (q, 0)) : checkF (l ++ [q]) = 0 ∧ q.dev = number ∧ q.text = text ∧ q.seen = zed8.set number.toNat q.no := by
  unfold nextF at h
  split at h
  · split at h
    · rename_i hc
      simp only [Prod.mk.injEq] at h
      rw [← h.1]
      exact ⟨hc, rfl, rfl, rfl⟩
    · rename_i hc
      simp only [Prod.mk.injEq] at h
      exact absurd h.2 hc
  · simp at h
namespace WC
variable {i : Nat} {d : DV} {number units : Int} {handed durable last torn : List EntV} {spent : Int} {x : DevV}
theorem devOk (h : WC i d number units handed durable last torn spent (some x.j)) (hx : WD number units last x) (hi : i ≤ 300) : DevOk x := by
  have hl := h.len
  have hj := h.file.jbytes (by omega)
  refine ⟨by rw [hx.ents]; omega, fun v hv => h.right v (List.mem_append_left _ (by rw [← hx.ents]; exact hv)), hj.1, ?_⟩
  have := (h.file.jou x.j rfl).2.2
  omega
/-- put -/
theorem put (h : WC i d number units handed durable last torn spent (some x.j)) (hx : WD number units last x) (hi : i ≤ 300) (day : Int) (text : List UInt8) (htx : text.length ≤ 3000) (hst : (stepL text x.loan).2 = true) :
    ∃ d' x' e, putD d x day zed8 text = (d', x', e) ∧
      ((e ≠ 0 ∧ x'.ents = last ∧ WD number units last x' ∧ WC (i + 1) d' number units handed durable last (tornF last last (nextF last number day zed8 text) e torn) spent (some x'.j)) ∨
       (e = 0 ∧ torn = [] ∧ ∃ q, x'.ents = last ++ [q] ∧ WD number units (last ++ [q]) x' ∧ WC (i + 1) d' number units handed durable (last ++ [q]) [] spent (some x'.j) ∧ x'.loan = (stepL text x.loan).1)) := by
  obtain ⟨xn, ents, loan, j⟩ := x
  obtain ⟨rfl, rfl, hlo, hjr⟩ := hx
  simp only at hlo h hst hjr
  obtain ⟨⟨q, er⟩, hnx⟩ : ∃ r, nextF ents xn day zed8 text = r := ⟨_, rfl⟩
  unfold putD
  simp only
  rw [hnx]
  by_cases her : er = 0
  case neg =>
    rw [if_pos her]
    exact ⟨d, _, er, rfl, .inl ⟨her, rfl, ⟨rfl, rfl, hlo, hjr⟩, by rw [tornF_no her]; exact h.up⟩⟩
  subst her
  obtain ⟨hck, hqd, hqt, hqs⟩ := nextF_ok hnx
  rw [if_neg (by simp)]
  have hqr : RightE q := checkF_right hck q (by simp)
  have hql : (encodeF q).1.length ≤ 3400 := by
    rw [encodeF_rightD hqr]
    have := encE_tight hqr
    rw [hqt] at this
    omega
  obtain ⟨d', j', e, hap, hcase⟩ := h.file.append (by decide) (by decide) hi hql
  have happ : ∀ k : List EntV, encs (k ++ [q]) = encs k ++ [(encodeF q).1] := fun k => by unfold encs; rw [List.map_append]; rfl
  have htex : textsOf (ents ++ [q]) = textsOf ents ++ [text] := by rw [textsOf_app]; unfold textsOf; simp [hqt]
  have hre := rep_pre (List.prefix_append ents torn) h.rep
  have hrep : replayF (textsOf (ents ++ [q])) ⟨xn, units, 0, false⟩ = ((stepL text loan).1, true) := by
    rw [htex]
    have h1 := replayF_right hre.1
    rw [replayF_of h.loanRight, replayGo_app]
    rw [h1.2] at hre hlo
    rw [if_pos hre.1, ← hlo]
    show (if (stepL text loan).2 = true then ((stepL text loan).1, true) else (noLoan, false)) = _
    rw [if_pos hst]
  have hnb : e ≠ 7 → torn = [] := fun he => by
    have hb : j.broken = false := by
      cases hb : j.broken with
      | false => rfl
      | true =>
        exfalso
        unfold appendJ at hap
        rw [if_pos hb] at hap
        simp only [Prod.mk.injEq] at hap
        exact he hap.2.2.symm
    have h1 := ((h.file.jou j rfl).1.whole hb).2.1
    rw [hjr] at h1
    have h2 := congrArg List.length h1
    rw [encs_len, encs_len, List.length_append] at h2
    exact List.length_eq_zero_iff.1 (by omega)
  rcases hcase with ⟨rfl, rfl, rfl⟩ | ⟨rfl, hrec, hL⟩ | ⟨rfl, hrec, hL⟩
  · refine ⟨d', ⟨xn, ents, loan, j'⟩, 7, ?_, .inl ⟨by decide, rfl, ⟨rfl, rfl, hlo, hjr⟩, by rw [tornF_ok (by decide) (by decide)]; exact h.up⟩⟩
    simp only [hap]
    rw [if_pos (by decide)]
  · have ht := hnb (by decide)
    subst ht
    refine ⟨d', ⟨xn, ents ++ [q], (stepL text loan).1, j'⟩, 0, ?_, .inr ⟨rfl, rfl, q, rfl, ⟨rfl, rfl, by rw [hrep], by rw [hrec, hjr, happ]⟩, ?_, rfl⟩⟩
    · simp only [hap]
      rw [if_neg (by simp)]
    · rw [List.append_nil] at hL
      rw [← happ] at hL
      exact ⟨by rw [List.append_nil]; exact hL, by rw [List.append_nil]; exact hck, fun e he => by
          rw [List.append_nil] at he
          rcases List.mem_append.1 he with he | he
          · exact h.dev e (List.mem_append_left _ he)
          · rw [List.mem_singleton.1 he]; exact hqd, fun e he => by
          rw [List.append_nil] at he
          rcases List.mem_append.1 he with he | he
          · exact h.text e (List.mem_append_left _ he)
          · rw [List.mem_singleton.1 he, hqt]; exact htx, by rw [List.append_nil, hrep], h.dur.trans (List.prefix_append _ _), h.hand, h.n0, h.n7, h.u1, h.u2, h.s0, h.sp, fun e he => by
          rw [List.append_nil] at he
          rcases List.mem_append.1 he with he | he
          · exact h.seen e (List.mem_append_left _ he)
          · rw [List.mem_singleton.1 he]; exact hqs⟩
  · have ht := hnb (by decide)
    subst ht
    refine ⟨d', ⟨xn, ents, loan, j'⟩, 8, ?_, .inl ⟨by decide, rfl, ⟨rfl, rfl, hlo, by rw [hrec, hjr]⟩, ?_⟩⟩
    · simp only [hap]
      rw [if_pos (by decide)]
    · rw [tornF_yes]
      rw [List.append_nil] at hL
      rw [← happ] at hL
      exact ⟨hL, hck, fun e he => by
          rcases List.mem_append.1 he with he | he
          · exact h.dev e (List.mem_append_left _ he)
          · rw [List.mem_singleton.1 he]; exact hqd, fun e he => by
          rcases List.mem_append.1 he with he | he
          · exact h.text e (List.mem_append_left _ he)
          · rw [List.mem_singleton.1 he, hqt]; exact htx, by rw [hrep], h.dur, h.hand, h.n0, h.n7, h.u1, h.u2, h.s0, h.sp, fun e he => by
          rcases List.mem_append.1 he with he | he
          · exact h.seen e (List.mem_append_left _ he)
          · rw [List.mem_singleton.1 he]; exact hqs⟩
/-- durably -/
theorem durably (h : WC i d number units handed durable last torn spent (some x.j)) (hx : WD number units last x) (hi : i ≤ 300) (day : Int) (text : List UInt8) (htx : text.length ≤ 3000) (e0 : Int) (h8 : e0 ≠ 8) (h9 : e0 ≠ 9) (hst : e0 = 0 → (stepL text x.loan).2 = true) :
    ∃ d' x' e, durD d x day zed8 text e0 = (d', x', e) ∧
      ((e ≠ 0 ∧ x'.ents = last ∧ WD number units last x' ∧ WC (i + 1) d' number units handed durable last (tornF last last (nextF last number day zed8 text) e torn) spent (some x'.j)) ∨
       (torn = [] ∧ ∃ q, x'.ents = last ++ [q] ∧ WD number units (last ++ [q]) x' ∧
         ((e ≠ 0 ∧ WC (i + 1) d' number units handed durable (last ++ [q]) [] spent (some x'.j)) ∨ (e = 0 ∧ e0 = 0 ∧ x'.loan = (stepL text x.loan).1 ∧ WC (i + 1) d' number units handed (last ++ [q]) (last ++ [q]) [] spent (some x'.j))))) := by
  unfold durD
  by_cases h0 : e0 = 0
  case neg =>
    rw [if_pos h0]
    exact ⟨d, x, e0, rfl, .inl ⟨h0, hx.ents, hx, by rw [tornF_ok h8 h9]; exact h.up⟩⟩
  rw [if_neg (by simp [h0])]
  obtain ⟨d1, x1, e1, hp, hcase⟩ := h.put hx hi day text htx (hst h0)
  rw [hp]
  simp only
  rcases hcase with ⟨he, h1, h2, h3⟩ | ⟨rfl, rfl, q, h1, h2, h3, h4⟩
  · rw [if_pos he]
    exact ⟨d1, x1, e1, rfl, .inl ⟨he, h1, h2, h3⟩⟩
  · rw [if_neg (by simp)]
    obtain ⟨d2, j2, e2, hs, hc⟩ := h3.file.sync (by decide) (by decide)
    rw [hs]
    refine ⟨d2, { x1 with j := j2 }, e2, rfl, .inr ⟨rfl, q, h1, ?_⟩⟩
    have hmon := (rep_pre h3.dur (by have := h3.rep; rwa [List.append_nil] at this)).2
    rcases hc with ⟨rfl, rfl, hr, hL⟩ | ⟨he, hL⟩
    · refine ⟨⟨h2.ents, h2.num, h2.loan, h2.recs⟩, .inr ⟨rfl, h0, h4, ?_⟩⟩
      rw [List.append_nil] at hL
      exact ⟨by rw [List.append_nil]; exact hL, h3.chain, h3.dev, h3.text, h3.rep, List.prefix_refl _, h3.hand.trans h3.dur, h3.n0, h3.n7, h3.u1, h3.u2, h3.s0, Int.le_trans h3.sp hmon.spent, h3.seen⟩
    · have hrec : j2.recs = x1.j.recs := by
        have h5 := congrArg (fun t => t.2.1.recs) hs
        simp only at h5
        rw [← h5]
        unfold syncJ
        split <;> rfl
      exact ⟨⟨h2.ents, h2.num, h2.loan, by rw [hrec]; exact h2.recs⟩, .inl ⟨he, h3.withFile hL⟩⟩
/-- Hand -/
theorem handing (h : WC i d number units handed durable last torn spent (some x.j)) (hx : WD number units last x) :
    ∃ d' x' e l, handD d x = (d', x', e, l) ∧ WD number units last x' ∧
      ((e ≠ 0 ∧ WC i d' number units handed durable last torn spent (some x'.j)) ∨ (e = 0 ∧ WC i d' number units last last last torn spent (some x'.j))) := by
  unfold handD
  obtain ⟨d2, j2, e2, hs, hc⟩ := h.file.sync (by decide) (by decide)
  simp only
  rw [hs]
  simp only
  refine ⟨d2, { x with j := j2 }, e2, _, rfl, ?_⟩
  have hrec : j2.recs = x.j.recs := by
    have h5 := congrArg (fun t => t.2.1.recs) hs
    simp only at h5
    rw [← h5]
    unfold syncJ
    split <;> rfl
  refine ⟨⟨hx.ents, hx.num, hx.loan, by rw [hrec]; exact hx.recs⟩, ?_⟩
  have hmon := (rep_pre (h.dur.trans (List.prefix_append _ torn)) h.rep).2
  rcases hc with ⟨rfl, rfl, hr, hL⟩ | ⟨he, hL⟩
  · refine .inr ⟨rfl, ?_⟩
    have ht : torn = [] := by
      rw [hx.recs] at hr
      have h2 := congrArg List.length hr
      rw [encs_len, encs_len, List.length_append] at h2
      exact List.length_eq_zero_iff.1 (by omega)
    subst ht
    rw [List.append_nil] at hL hmon
    have hm2 := (rep_pre h.dur (by have := h.rep; rwa [List.append_nil] at this)).2
    exact ⟨by rw [List.append_nil]; exact hL, h.chain, h.dev, h.text, h.rep, List.prefix_refl _, List.prefix_refl _, h.n0, h.n7, h.u1, h.u2, h.s0, Int.le_trans h.sp hm2.spent, h.seen⟩
  · exact .inl ⟨he, h.withFile hL⟩
end WC
end Go.Proofs.YtjncmlglhegnaaaGreatDoor
namespace Go.Proofs.YtjncmlglhegnaaaGreatDoor
open Go.RowKit Go.Sort Go.Lib

theorem WC.openAll {i : Nat} {v : WorV} {jo : Option JV} (h : WC i v.d v.number v.units v.handed v.durable v.last v.torn v.spent jo) (hi : i ≤ 300) :
    OkW v ∧ OpenOk v ∧ WI i (openW v) ∧ (openW v).number = v.number ∧ (openW v).units = v.units ∧ (openW v).handed = v.handed ∧ (openW v).spent = v.spent ∧ (openW v).ex = v.ex ∧ (v.d.armed = 0 → v.d.lost = 0 → v.d.down = false → (openW v).x ≠ none) := by
  have hl := h.len
  refine ⟨⟨by omega, by omega⟩, ?_⟩
  unfold OpenOk openW
  rcases h.open_ hi with ⟨d', x, e, h1, h2, h3, h4⟩ | ⟨d', e, e1, h2, h3, h4⟩
  · rw [e]
    simp only
    refine ⟨⟨trivial, h1, h2, ?_, ?_⟩, ⟨h4, fun y hy => ?_⟩, trivial, trivial, trivial, trivial, trivial, fun _ _ _ hn => by cases hn⟩
    · have := h1.length_le
      rw [List.length_append] at this
      omega
    · exact fun u hu => h.right u (h1.mem hu)
    · cases hy; exact h3
  · rw [e1]
    simp only
    refine ⟨h2, ⟨h3, fun y hy => by cases hy⟩, trivial, trivial, trivial, trivial, trivial, fun ha hl hd => ?_⟩
    rw [h4 ha hl] at hd
    cases hd
/-- what an act leaves as it was -/
structure DoR (v v' : WorV) : Prop where
  num : v'.number = v.number
  units : v'.units = v.units
  hand : v.handed <+: v'.handed
  ex : v'.ex = v.ex
theorem DoR.refl (v : WorV) : DoR v v := ⟨rfl, rfl, List.prefix_refl _, rfl⟩
theorem WI.up {i : Nat} {v : WorV} (h : WI i v) : WI (i + 1) v := ⟨h.core.up, h.dev⟩
theorem stepL_free {t : List UInt8} {l : LoanV} (h : resB t = false) : stepL t l = (l, true) := by unfold stepL; rw [if_pos h]
theorem stepL_back {l : LoanV} (h : (returnF l).2 = 0) : (stepL backT l).2 = true := by
  have e1 : resB backT = true := rfl
  unfold stepL
  rw [if_neg (by rw [e1]; simp), if_pos rfl]
  exact decide_eq_true h
theorem spendF_err (l : LoanV) (n : Int) : (spendF l n).2 ≠ 8 ∧ (spendF l n).2 ≠ 9 := by
  unfold spendF
  split
  · simp
  · split
    · simp
    · split <;> simp
theorem returnF_err (l : LoanV) : (returnF l).2 ≠ 8 ∧ (returnF l).2 ≠ 9 := by
  unfold returnF
  split
  · simp
  · split <;> simp
section
variable {w0 w w' : World} {Rs : List Res} {W : Nat} {v : WorV}
def DoP (w0 : World) (Rs : List Res) (W : Nat) (v : WorV) (i : Nat) (e : Ending) (w' : World) : Prop := ∃ v', e = .returned (.tuple #[]) ∧ WI (i + 1) v' ∧ DoR v v' ∧ Sep w0 w' (worR W v' :: Rs)
theorem do_all {i : Nat} (h : Sep w0 w (worR W v :: Rs)) (hE : Env w0.heap.size w0) (hI : WI i v) (hi : i ≤ 200) (a : ActE) (hok : a.ok) (hf : a.few) (hs : Sl w0 1 a.A a.keep.length (a.keep.map fun k => [.int .i64 k])) :
    Calls Tryz.prog 43 #[.pointer (some ⟨W, 0, none⟩), .agg (actX a)] w (DoP w0 Rs W v i) := by
  obtain ⟨hf1, hf2⟩ := hf
  by_cases h4 : a.kind = 4
  · exact (do4_any h a h4 hok.2.2.2).mono fun e w' ⟨h1, h2⟩ => ⟨{ v with d := LoseF v.d a.n }, h1, ⟨(hI.core.lose a.n hok.2.2.2).up, hI.dev⟩, ⟨rfl, rfl, List.prefix_refl _, rfl⟩, h2⟩
  by_cases h5 : a.kind = 5
  · exact (do5_any h a h5 hok.2.2.2 hf2 hs).mono fun e w' ⟨h1, h2⟩ => ⟨{ v with d := ArmF v.d a.n a.keep }, h1, ⟨(hI.core.arm a.n hok.2.2.2 a.keep hf2).up, hI.dev⟩, ⟨rfl, rfl, List.prefix_refl _, rfl⟩, h2⟩
  by_cases h6 : a.kind = 6
  · obtain ⟨g1, g2, g3, g4, g5, g6, _, g8, _⟩ := WC.openAll (v := { v with d := StartF (crashF v.d a.keep) }) ((hI.core.crash a.keep).start) (by omega)
    exact (do6_any h a hE h6 hf2 hs g1 g2).mono fun e w' ⟨h1, h2⟩ => ⟨_, h1, g3.up, ⟨g4, g5, by rw [g6]; exact List.prefix_refl _, g8⟩, h2⟩
  by_cases h7 : a.kind = 7
  · obtain ⟨g1, g2, g3, g4, g5, g6, _, g8, _⟩ := WC.openAll (v := { v with d := StartF v.d }) (hI.core.start) (by omega)
    exact (do7_any h a hE h7 g1 g2).mono fun e w' ⟨h1, h2⟩ => ⟨_, h1, g3.up, ⟨g4, g5, by rw [g6]; exact List.prefix_refl _, g8⟩, h2⟩
  cases hx : v.x with
  | none => exact (doNone_any h a hx h4 h5 h6 h7).mono fun e w' ⟨h1, h2⟩ => ⟨_, h1, hI.up, DoR.refl _, h2⟩
  | some x =>
    have hD := hI.dev x hx
    have hC := hI.core
    rw [hx] at hC
    have hC : WC i v.d v.number v.units v.handed v.durable v.last v.torn v.spent (some x.j) := hC
    have hdo := hC.devOk hD (by omega)
    by_cases h0 : a.kind = 0
    · obtain ⟨d', x', e, hr, hcase⟩ : ∃ d' x' e, writeD v.d x a.day zed8 a.s = (d', x', e) ∧
          ((e ≠ 0 ∧ x'.ents = v.last ∧ WD v.number v.units v.last x' ∧ WC (i + 1) d' v.number v.units v.handed v.durable v.last (tornF v.last v.last (nextF v.last v.number a.day zed8 a.s) e v.torn) v.spent (some x'.j)) ∨
           (e = 0 ∧ v.torn = [] ∧ ∃ q, x'.ents = v.last ++ [q] ∧ WD v.number v.units (v.last ++ [q]) x' ∧ WC (i + 1) d' v.number v.units v.handed v.durable (v.last ++ [q]) [] v.spent (some x'.j) ∧ x'.loan = (stepL a.s x.loan).1)) := by
        unfold writeD
        by_cases hb : resB a.s = true
        · rw [if_pos hb]; exact ⟨_, _, _, rfl, .inl ⟨by decide, hD.ents, hD, by rw [tornF_ok (by decide) (by decide)]; exact hC.up⟩⟩
        · rw [if_neg hb]
          by_cases hl : 3000 < a.s.length
          · rw [if_pos hl]; exact ⟨_, _, _, rfl, .inl ⟨by decide, hD.ents, hD, by rw [tornF_ok (by decide) (by decide)]; exact hC.up⟩⟩
          · rw [if_neg hl]; exact hC.put hD (by omega) a.day a.s (by omega) (by rw [stepL_free (by simpa using hb)])
      have hx' : x'.ents = v.last ∨ ∃ q, x'.ents = v.last ++ [q] := hcase.elim (fun c => .inl c.2.1) fun c => by obtain ⟨_, _, q, hq, _⟩ := c; exact .inr ⟨q, hq⟩
      have hwo : WrittenOk { v with d := (writeD v.d x a.day zed8 a.s).1, x := some (writeD v.d x a.day zed8 a.s).2.1 } (writeD v.d x a.day zed8 a.s).2.1 := by
        rw [hr]
        have hl := hC.len
        rcases hcase with ⟨_, c1, c2, c3⟩ | ⟨_, _, q, c1, c2, c3, _⟩
        · exact ⟨by show v.last <+: x'.ents; rw [c1]; exact List.prefix_refl _, by show x'.ents.length ≤ v.last.length + 1; rw [c1]; omega, by rw [c1]; omega, fun u hu => c3.right u (List.mem_append_left _ (by rw [← c1]; exact hu))⟩
        · exact ⟨by show v.last <+: x'.ents; rw [c1]; exact List.prefix_append _ _, by show x'.ents.length ≤ v.last.length + 1; rw [c1]; simp, by rw [c1]; simp; omega, fun u hu => c3.right u (List.mem_append_left _ (by rw [← c1]; exact hu))⟩
      refine (do0_any h a x hx hE h0 hdo (by omega) hwo).mono fun e' w' ⟨h1, h2⟩ => ⟨writtenW { v with d := (writeD v.d x a.day zed8 a.s).1, x := some (writeD v.d x a.day zed8 a.s).2.1 } (writeD v.d x a.day zed8 a.s).2.1 (writeD v.d x a.day zed8 a.s).2.2 a.day a.s false, h1, ?_, ⟨rfl, rfl, List.prefix_refl _, rfl⟩, h2⟩
      rw [hr]
      rcases hcase with ⟨he, c1, c2, c3⟩ | ⟨rfl, ht, q, c1, c2, c3, _⟩
      · refine ⟨?_, fun y hy => by cases hy; show WD v.number v.units x'.ents x'; rw [c1]; exact c2⟩
        show WC (i + 1) d' v.number v.units v.handed (if e = 0 ∧ false = true then x'.ents else v.durable) x'.ents (tornF v.last x'.ents (nextF x'.ents v.number a.day zed8 a.s) e v.torn) v.spent (some x'.j)
        rw [if_neg (by simp), c1]
        exact c3
      · refine ⟨?_, fun y hy => by cases hy; show WD v.number v.units x'.ents x'; rw [c1]; exact c2⟩
        show WC (i + 1) d' v.number v.units v.handed (if (0 : Int) = 0 ∧ false = true then x'.ents else v.durable) x'.ents (tornF v.last x'.ents (nextF x'.ents v.number a.day zed8 a.s) 0 v.torn) v.spent (some x'.j)
        rw [if_neg (by simp), tornF_ok (by decide) (by decide), ht, c1]
        exact c3
    by_cases h2 : a.kind = 2
    · obtain ⟨d', x', e, hr, hcase⟩ := hC.durably hD (by omega) a.day backT (by decide) (returnF x.loan).2 (returnF_err x.loan).1 (returnF_err x.loan).2 (fun h => stepL_back h)
      have hwo : WrittenOk { v with d := (returnD v.d x a.day zed8).1, x := some (returnD v.d x a.day zed8).2.1 } (returnD v.d x a.day zed8).2.1 := by
        unfold returnD
        rw [hr]
        have hl := hC.len
        rcases hcase with ⟨_, c1, c2, c3⟩ | ⟨_, q, c1, c2, hc⟩
        · exact ⟨by show v.last <+: x'.ents; rw [c1]; exact List.prefix_refl _, by show x'.ents.length ≤ v.last.length + 1; rw [c1]; omega, by rw [c1]; omega, fun u hu => c3.right u (List.mem_append_left _ (by rw [← c1]; exact hu))⟩
        · refine ⟨by show v.last <+: x'.ents; rw [c1]; exact List.prefix_append _ _, by show x'.ents.length ≤ v.last.length + 1; rw [c1]; simp, by rw [c1]; simp; omega, fun u hu => ?_⟩
          rcases hc with ⟨_, c3⟩ | ⟨_, _, _, c3⟩
          · exact c3.right u (List.mem_append_left _ (by rw [← c1]; exact hu))
          · exact c3.right u (List.mem_append_left _ (by rw [← c1]; exact hu))
      refine (do2_any h a x hx hE h2 hdo hwo).mono fun e' w' ⟨h1, hq⟩ => ⟨writtenW { v with d := (returnD v.d x a.day zed8).1, x := some (returnD v.d x a.day zed8).2.1 } (returnD v.d x a.day zed8).2.1 (returnD v.d x a.day zed8).2.2 a.day backT true, h1, ?_, ⟨rfl, rfl, List.prefix_refl _, rfl⟩, hq⟩
      unfold returnD
      rw [hr]
      rcases hcase with ⟨he, c1, c2, c3⟩ | ⟨ht, q, c1, c2, hc⟩
      · refine ⟨?_, fun y hy => by cases hy; show WD v.number v.units x'.ents x'; rw [c1]; exact c2⟩
        show WC (i + 1) d' v.number v.units v.handed (if e = 0 ∧ true = true then x'.ents else v.durable) x'.ents (tornF v.last x'.ents (nextF x'.ents v.number a.day zed8 backT) e v.torn) v.spent (some x'.j)
        rw [if_neg (fun g => he g.1), c1]
        exact c3
      · refine ⟨?_, fun y hy => by cases hy; show WD v.number v.units x'.ents x'; rw [c1]; exact c2⟩
        show WC (i + 1) d' v.number v.units v.handed (if e = 0 ∧ true = true then x'.ents else v.durable) x'.ents (tornF v.last x'.ents (nextF x'.ents v.number a.day zed8 backT) e v.torn) v.spent (some x'.j)
        rw [tornF_more (by rw [c1]; simp), ht]
        rcases hc with ⟨he, c3⟩ | ⟨rfl, _, _, c3⟩
        · rw [if_neg (fun g => he g.1), c1]; exact c3
        · rw [if_pos ⟨rfl, rfl⟩, c1]; exact c3
    have hsl : (spendT a.n).length ≤ 3000 := by
      unfold spendT encN
      split
      · simp
      · have := encI_len (n := a.n) hok.2.2; simp; omega
    by_cases h1 : a.kind = 1
    · obtain ⟨d', x', e, hr, hcase⟩ := hC.durably hD (by omega) a.day (spendT a.n) hsl (spendF x.loan a.n).2 (spendF_err x.loan a.n).1 (spendF_err x.loan a.n).2 (fun h => by rw [stepL_spend (by have := (spendF_yes h).2.1; omega) hok.2.2.2]; exact decide_eq_true h)
      have hwo : WrittenOk { v with d := (spendD v.d x a.day zed8 a.n).1, x := some (spendD v.d x a.day zed8 a.n).2.1 } (spendD v.d x a.day zed8 a.n).2.1 := by
        unfold spendD
        rw [hr]
        have hl := hC.len
        rcases hcase with ⟨_, c1, c2, c3⟩ | ⟨_, q, c1, c2, hc⟩
        · exact ⟨by show v.last <+: x'.ents; rw [c1]; exact List.prefix_refl _, by show x'.ents.length ≤ v.last.length + 1; rw [c1]; omega, by rw [c1]; omega, fun u hu => c3.right u (List.mem_append_left _ (by rw [← c1]; exact hu))⟩
        · refine ⟨by show v.last <+: x'.ents; rw [c1]; exact List.prefix_append _ _, by show x'.ents.length ≤ v.last.length + 1; rw [c1]; simp, by rw [c1]; simp; omega, fun u hu => ?_⟩
          rcases hc with ⟨_, c3⟩ | ⟨_, _, _, c3⟩
          · exact c3.right u (List.mem_append_left _ (by rw [← c1]; exact hu))
          · exact c3.right u (List.mem_append_left _ (by rw [← c1]; exact hu))
      have hsp : e = 0 → 1 ≤ a.n ∧ v.spent + a.n ≤ (replayF (textsOf x'.ents) ⟨v.number, v.units, 0, false⟩).1.spent ∧ v.spent + a.n ≤ 1000000 := fun he => by
        rcases hcase with ⟨g, _⟩ | ⟨_, q, c1, c2, hc⟩
        · exact absurd he g
        · rcases hc with ⟨g, _⟩ | ⟨_, h0', c4, c3⟩
          · exact absurd he g
          · have hy := spendF_yes h0'
            have hm := (rep_pre hC.dur (rep_pre (List.prefix_append _ _) hC.rep).1).2
            have h5 := hC.sp
            rw [c1, ← c2.loan, c4, stepL_spend (by omega) hok.2.2.2]
            have h6 := hm.spent
            rw [← hD.loan] at h6
            have h7 : (spendF x.loan a.n).1.spent = x.loan.spent + a.n := by rw [hy.2.2]
            have h8 := hy.1.most
            have h9 := hy.1.units
            have h10 : x.loan.units = v.units := by
              rw [hD.loan]
              have := rep_pre (List.prefix_append v.last v.torn) hC.rep
              have h11 := replayF_right this.1
              rw [h11.2] at this ⊢
              exact (replayGo_yes hC.loanRight this.1).units
            have h12 := hC.u2
            show 1 ≤ a.n ∧ v.spent + a.n ≤ (spendF x.loan a.n).1.spent ∧ v.spent + a.n ≤ 1000000
            omega
      have hwr : (spendD v.d x a.day zed8 a.n).2.2 = 0 → IntKind.i64.wrap (v.spent + a.n) = v.spent + a.n := fun g => by
        unfold spendD at g
        rw [hr] at g
        have := hsp g
        have := hC.s0
        exact IntWalk.i64_in _ (by omega)
      refine (do1_any h a x hx hE h1 hdo hok.2.2 hwr hwo).mono fun e' w' ⟨he', hq⟩ => ⟨{ writtenW { v with d := (spendD v.d x a.day zed8 a.n).1, x := some (spendD v.d x a.day zed8 a.n).2.1 } (spendD v.d x a.day zed8 a.n).2.1 (spendD v.d x a.day zed8 a.n).2.2 a.day (spendT a.n) true with spent := if (spendD v.d x a.day zed8 a.n).2.2 = 0 then v.spent + a.n else v.spent }, he', ?_, ⟨rfl, rfl, List.prefix_refl _, rfl⟩, hq⟩
      unfold spendD
      rw [hr]
      rcases hcase with ⟨he, c1, c2, c3⟩ | ⟨ht, q, c1, c2, hc⟩
      · refine ⟨?_, fun y hy => by cases hy; show WD v.number v.units x'.ents x'; rw [c1]; exact c2⟩
        show WC (i + 1) d' v.number v.units v.handed (if e = 0 ∧ true = true then x'.ents else v.durable) x'.ents (tornF v.last x'.ents (nextF x'.ents v.number a.day zed8 (spendT a.n)) e v.torn) (if e = 0 then v.spent + a.n else v.spent) (some x'.j)
        rw [if_neg (fun g => he g.1), if_neg he, c1]
        exact c3
      · refine ⟨?_, fun y hy => by cases hy; show WD v.number v.units x'.ents x'; rw [c1]; exact c2⟩
        show WC (i + 1) d' v.number v.units v.handed (if e = 0 ∧ true = true then x'.ents else v.durable) x'.ents (tornF v.last x'.ents (nextF x'.ents v.number a.day zed8 (spendT a.n)) e v.torn) (if e = 0 then v.spent + a.n else v.spent) (some x'.j)
        rw [tornF_more (by rw [c1]; simp), ht]
        rcases hc with ⟨he, c3⟩ | ⟨rfl, _, _, c3⟩
        · rw [if_neg (fun g => he g.1), if_neg he, c1]; exact c3
        · have h5 := hsp rfl
          have h6 := hC.s0
          rw [c1] at h5
          rw [if_pos ⟨rfl, rfl⟩, if_pos rfl, c1]
          exact ⟨c3.file, c3.chain, c3.dev, c3.text, c3.rep, c3.dur, c3.hand, c3.n0, c3.n7, c3.u1, c3.u2, by omega, h5.2.1, c3.seen⟩
    by_cases h3 : a.kind = 3
    · obtain ⟨d', x', e, l, hr, hd, hcase⟩ := hC.handing hD
      have hl := hC.len
      refine (do3_any h a x hx h3 (by rw [hD.ents]; omega) (by rw [hD.ents]; exact fun u hu => hC.right u (List.mem_append_left _ hu)) (by rw [hD.ents]; exact hC.hand.trans hC.dur) (by rw [hD.ents]; have := check_take hC.chain v.last.length; rwa [List.take_left] at this)).mono fun e' w' ⟨he', hq⟩ => ?_
      rw [hr] at hq
      rcases hcase with ⟨he, c3⟩ | ⟨rfl, c3⟩
      · rw [if_neg he] at hq
        exact ⟨{ v with d := d', x := some x' }, he', ⟨c3.up, fun y hy => by cases hy; exact hd⟩, ⟨rfl, rfl, List.prefix_refl _, rfl⟩, hq⟩
      · rw [if_pos rfl, hD.ents] at hq
        exact ⟨{ v with d := d', x := some x', handed := v.last, durable := v.last }, he', ⟨c3.up, fun y hy => by cases hy; exact hd⟩, ⟨rfl, rfl, hC.hand.trans hC.dur, rfl⟩, hq⟩
    refine (doElse_any h a x hx (by omega)).mono fun e w' ⟨g1, g2⟩ => ⟨_, g1, hI.up, DoR.refl _, g2⟩
end
end Go.Proofs.YtjncmlglhegnaaaGreatDoor
namespace Go.Proofs.YtjncmlglhegnaaaGreatDoor
open Go.RowKit Go.Sort Go.Lib

theorem WC.begin_ (number units : Int) (h0 : 0 ≤ number) (h1 : number < 8) (u1 : 1 ≤ units) (u2 : units ≤ 1000000) : WC 0 newD number units [] [] [] [] 0 none := by
  have hl : LoanV.right ⟨number, units, 0, false⟩ = true := mk_right ⟨h0, h1, u1, by show units ≤ _; omega, Int.le_refl _, by show (0 : Int) ≤ units; omega⟩
  have hr : replayF (textsOf []) ⟨number, units, 0, false⟩ = (⟨number, units, 0, false⟩, true) := replayF_of hl
  refine ⟨LastI.new 0, rfl, (fun e he => by cases he), (fun e he => by cases he), ?_, List.prefix_refl _, List.prefix_refl _, h0, h1, u1, u2, Int.le_refl _, ?_, (fun e he => by cases he)⟩
  · show (replayF (textsOf []) _).2 = true; rw [hr]
  · show (0 : Int) ≤ (replayF (textsOf []) _).1.spent; rw [hr]; exact Int.le_refl _
section
variable {w0 w w' : World} {Rs : List Res}
theorem begin_all (h : Sep w0 w Rs) (hE : Env w0.heap.size w0) (number units : Int) (h0 : 0 ≤ number) (h1 : number < 8) (u1 : 1 ≤ units) (u2 : units ≤ 1000000) :
    Calls Tryz.prog 41 #[.int .i64 number, .int .i64 units] w fun e w' => ∃ W v, e = .returned (.pointer (some ⟨W, 0, none⟩)) ∧ WI 0 v ∧ v.number = number ∧ v.units = units ∧ v.handed = [] ∧ v.spent = 0 ∧ v.ex = [] ∧ Sep w0 w' (worR W v :: Rs) := by
  obtain ⟨g1, g2, g3, g4, g5, g6, g7, g8, _⟩ := WC.openAll (v := startW number units) (jo := none) (WC.begin_ number units h0 h1 u1 u2) (by omega)
  exact (begin_any h hE number units g2).mono fun e w' ⟨W, h1, h2⟩ => ⟨W, _, h1, g3, g4, g5, g6, g7, g8, h2⟩
end
end Go.Proofs.YtjncmlglhegnaaaGreatDoor
