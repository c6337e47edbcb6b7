/- group: rows that make lays, struct elements stored whole; the list that Split lays out, in plain Lean. -/
import Derived.Test.YtcgakhajmekjcaaGrpD
import Derived.OwnWalk
namespace Go.Proofs.Ytcgakhajmekjcaa
open Go.RowKit

theorem Own.sl' {w : World} {base : Nat} {e : TypeId} {size n m c : Nat} {A : Option Addr} {xs : List (List Value)} (h : Own w base e size (.slice A m c) n xs) : Sl w size A n xs := by
  obtain ⟨A', c', hv, hs⟩ := h.sl
  injection hv with h1 h2 h3
  subst h1
  exact hs
theorem made_flat (z : Array Value) (hz : 0 < z.size) : ∀ n : Nat, (madeCells z (n * z.size)).toList = (List.replicate n z.toList).flatten := by
  intro n
  apply List.ext_getElem?
  intro t
  have h1 : ∀ x ∈ List.replicate n z.toList, x.length = z.size := fun x hx => by rw [List.eq_of_mem_replicate hx]; simp
  by_cases ht : t < n * z.size
  · have hi : t / z.size < n := by rw [Nat.div_lt_iff_lt_mul hz]; exact ht
    have hm : t % z.size < z.size := Nat.mod_lt _ hz
    have h2 := flat_get (List.replicate n z.toList) h1 (t / z.size) (t % z.size) z.toList (z[t % z.size]) (by simp [hi]) (by simp [hm])
    rw [Nat.mul_comm, Nat.div_add_mod] at h2
    rw [h2]
    simp [madeCells, ht, hm]
  · rw [List.getElem?_eq_none (by simp [madeCells]; omega), List.getElem?_eq_none (by simp; omega)]
theorem wpList_make_own {P : Program} (w : World) {ops : Array Oper} {rest : List Oper} {o : Oper} {a : Act} {Q : Exit → Act → World → Prop}
    (hg : o.guard = none) (l c : Operand) (t : TypeId) (hop : o.op = Op.makeSlice t l c)
    (base : Nat) (e : TypeId) (i : TypeInfo) (z : Value) (size bytes : Nat) (h1 : P.underlying t = some (.slice e)) (h2 : P.info? e = some i) (h3 : i.zero = some z) (h4 : i.size = size) (h5 : i.bytes = bytes) (hzs : z.cells.size = size) (hsz : 0 < size)
    (n : Nat) (hl : a.eval l = .int .i64 (n : Int)) (hc : a.eval c = .int .i64 (n : Int)) (b2 : bytes * n ≤ 281474976710656) (b3 : n ≤ maxLen) (b4 : base ≤ w.heap.size)
    (hK : ∀ w', Own w' base e size (.slice (some ⟨w.heap.size, 0, none⟩) n n) n (List.replicate n z.cells.toList) → Below w.heap.size w w' → w.heap.size < w'.heap.size → wpList P ops Q rest (a.put o.dst (.slice (some ⟨w.heap.size, 0, none⟩) n n)) w') :
    wpList P ops Q (o :: rest) a w := by
  refine wpList_make_full w hg l c t hop base e i z size h1 h2 h3 h4 .i64 .i64 _ _ n hl hc rfl rfl (by rw [h5]; exact b2) b3 b4 fun w' ho hgr => ?_
  have hf := made_flat z.cells (by omega) n
  rw [hzs] at hf
  rw [hf] at ho
  refine hK w' ⟨ho, fun x hx => by rw [List.eq_of_mem_replicate hx]; simpa using hzs, by simp⟩ ⟨hgr.os, hgr.tape, hgr.output, hgr.size, fun k hk => hgr.block k hk (by simp)⟩ ?_
  exact (ho.lt w.heap.size rfl).2
section
variable {w : World} {base g c n i : Nat} {e : TypeId}
/-- a whole share is stored -/
theorem own_share {xs : List Share} (h : Own w base e 4 (.slice (some ⟨g, 0, none⟩) n c) n (xs.map encSh)) (hi : i < n) (x : Share) :
    Own ((((w.setCell ⟨g, i * 4, none⟩ (.int .i64 x.1)).setCell ⟨g, i * 4 + 1, none⟩ (.int .i64 x.2.1)).setCell ⟨g, i * 4 + 2, none⟩ (.int .u64 x.2.2.1)).setCell ⟨g, i * 4 + 3, none⟩ (.int .u64 x.2.2.2)) base e 4 (.slice (some ⟨g, 0, none⟩) n c) n ((xs.set i x).map encSh) := by
  have hl : (xs.map encSh).length = n := h.2.2
  obtain ⟨y, hy⟩ : ∃ y, xs[i]? = some y := ⟨_, List.getElem?_eq_getElem (by rw [List.length_map] at hl; omega)⟩
  have hil : i < (xs.map encSh).length := by rw [hl]; exact hi
  have h0 : (xs.map encSh)[i]? = some (encSh y) := by rw [List.getElem?_map, hy]; rfl
  have s0 := h.stored h0 (j := 0) (by omega) (.int .i64 x.1)
  have s1 := s0.stored (i := i) (j := 1) (x := (encSh y).set 0 (.int .i64 x.1)) (by rw [List.getElem?_set_self hil]) (by omega) (.int .i64 x.2.1)
  have s2 := s1.stored (i := i) (j := 2) (x := ((encSh y).set 0 (.int .i64 x.1)).set 1 (.int .i64 x.2.1)) (by rw [List.getElem?_set_self (by rw [List.length_set]; exact hil)]) (by omega) (.int .u64 x.2.2.1)
  have s3 := s2.stored (i := i) (j := 3) (x := (((encSh y).set 0 (.int .i64 x.1)).set 1 (.int .i64 x.2.1)).set 2 (.int .u64 x.2.2.1)) (by rw [List.getElem?_set_self (by rw [List.length_set, List.length_set]; exact hil)]) (by omega) (.int .u64 x.2.2.2)
  rw [Nat.add_zero] at s3
  have e1 : (((((xs.map encSh).set i ((encSh y).set 0 (.int .i64 x.1))).set i (((encSh y).set 0 (.int .i64 x.1)).set 1 (.int .i64 x.2.1))).set i ((((encSh y).set 0 (.int .i64 x.1)).set 1 (.int .i64 x.2.1)).set 2 (.int .u64 x.2.2.1))).set i (((((encSh y).set 0 (.int .i64 x.1)).set 1 (.int .i64 x.2.1)).set 2 (.int .u64 x.2.2.1)).set 3 (.int .u64 x.2.2.2))) = (xs.set i x).map encSh := by
    rw [List.set_set, List.set_set, List.set_set, List.map_set]
    congr 1
  rw [e1] at s3
  exact s3
end
/-- the share of household i -/
def shareOf (c : Int) (ps : List Int) (first : Int) (i : Nat) : Share := ((i : Int), turnI ps.length first i, splitQ c ps i, restQ c ps i)
def layOut (left : Int) : Nat → List Share → List Int → List Int
  | _, [], acc => acc
  | i, s :: r, acc => layOut left (i + 1) r (acc.set s.1.toNat (s.2.2.1 + if (i : Int) < left then 1 else 0))
theorem layOut_snoc (left : Int) (s : Share) : ∀ (l : List Share) (i : Nat) (acc : List Int), layOut left i (l ++ [s]) acc = (layOut left i l acc).set s.1.toNat (s.2.2.1 + if ((i + l.length : Nat) : Int) < left then 1 else 0)
  | [], i, acc => rfl
  | x :: l, i, acc => by
    simp only [List.cons_append, layOut, List.length_cons]
    rw [layOut_snoc left s l (i + 1), show i + 1 + l.length = i + (l.length + 1) by omega]
theorem layOut_length (left : Int) : ∀ (l : List Share) (i : Nat) (acc : List Int), (layOut left i l acc).length = acc.length
  | [], _, _ => rfl
  | x :: l, i, acc => by simp only [layOut]; rw [layOut_length left l]; simp
theorem layOut_other (left : Int) {j : Nat} : ∀ (l : List Share) (i : Nat) (acc : List Int), (∀ s ∈ l, s.1.toNat ≠ j) → (layOut left i l acc)[j]? = acc[j]?
  | [], _, _, _ => rfl
  | x :: l, i, acc, h => by
    simp only [layOut]
    rw [layOut_other left l (i + 1) _ fun s hs => h s (by simp [hs]), List.getElem?_set_ne (h x (by simp))]
theorem layOut_at (left : Int) {j : Nat} : ∀ (l : List Share) (i m : Nat) (s : Share) (acc : List Int), (l.map fun s => s.1.toNat).Nodup → l[m]? = some s → s.1.toNat = j → j < acc.length → (layOut left i l acc)[j]? = some (s.2.2.1 + if ((i + m : Nat) : Int) < left then 1 else 0)
  | [], _, m, s, _, _, h, _, _ => by simp at h
  | x :: l, i, 0, s, acc, hn, hs, hj, hl => by
    simp only [List.getElem?_cons_zero, Option.some.injEq] at hs
    subst hs
    rw [List.map_cons, List.nodup_cons] at hn
    simp only [layOut]
    rw [layOut_other left l (i + 1) _ fun s hs e => hn.1 (List.mem_map.2 ⟨s, hs, e.trans hj.symm⟩), hj, List.getElem?_set_self hl]
    rfl
  | x :: l, i, m + 1, s, acc, hn, hs, hj, hl => by
    rw [List.map_cons, List.nodup_cons] at hn
    simp only [layOut]
    rw [layOut_at left l (i + 1) m s _ hn.2 (by simpa using hs) hj (by simpa using hl), show i + 1 + m = i + (m + 1) by omega]
/-- the sorted shares, laid out -/
theorem layOut_split {c : Int} {ps : List Int} {first : Int} (h : SplitOk c ps first) {ys : List Share} (hp : ys.Perm ((List.range ps.length).map (shareOf c ps first))) (hs : ∀ (i j : Nat) (x y : Share), i < j → ys[i]? = some x → ys[j]? = some y → ltSh y x = false) :
    layOut (leftQ c ps) 0 ys (List.replicate ps.length 0) = splitL c ps first := by
  have hof : ∀ s ∈ ys, ∃ i, i < ps.length ∧ s = shareOf c ps first i := fun s hm => by
    obtain ⟨i, hi, e⟩ := List.mem_map.1 (hp.mem_iff.1 hm)
    exact ⟨i, List.mem_range.1 hi, e.symm⟩
  have hidx : (ys.map fun s => s.1.toNat).Perm (List.range ps.length) := by
    have h1 := hp.map fun s => s.1.toNat
    rw [List.map_map] at h1
    have h2 : (List.range ps.length).map ((fun s : Share => s.1.toNat) ∘ shareOf c ps first) = List.range ps.length := by
      conv => rhs; rw [← List.map_id (List.range ps.length)]
      exact List.map_congr_left fun i _ => by simp [shareOf]
    rw [h2] at h1
    exact h1
  have hnd : (ys.map fun s => s.1.toNat).Nodup := hidx.nodup_iff.2 List.nodup_range
  have hlen : ys.length = ps.length := by simpa using hp.length_eq
  have hrank : ∀ m s, ys[m]? = some s → rankOf ps.length (restQ c ps) (turnI ps.length first) s.1.toNat = m := fun m s hm => by
    refine rank_sorted hidx (fun i j x y hij hx hy => ?_) (by rw [List.getElem?_map, hm]; rfl)
    rw [List.getElem?_map] at hx hy
    obtain ⟨sx, hsx, rfl⟩ := Option.map_eq_some_iff.1 hx
    obtain ⟨sy, hsy, rfl⟩ := Option.map_eq_some_iff.1 hy
    have h1 := hs i j sx sy hij hsx hsy
    obtain ⟨a, ha, rfl⟩ := hof sx (List.mem_of_getElem? hsx)
    obtain ⟨b, hb, rfl⟩ := hof sy (List.mem_of_getElem? hsy)
    have hab : a ≠ b := fun e => by
      subst e
      have hi := (List.getElem?_eq_some_iff.1 hsx).1
      have hj := (List.getElem?_eq_some_iff.1 hsy).1
      have h5 : i < (ys.map fun s => s.1.toNat).length := by rw [List.length_map]; exact hi
      have h6 : j < (ys.map fun s => s.1.toNat).length := by rw [List.length_map]; exact hj
      have h3 := (List.getElem_inj (h₀ := h5) (h₁ := h6) hnd).1 (by
        rw [List.getElem_map, List.getElem_map, (List.getElem?_eq_some_iff.1 hsx).2, (List.getElem?_eq_some_iff.1 hsy).2])
      omega
    rcases ahead_total (r := restQ c ps) h.turn_inj ha hb hab with h2 | h2
    · simpa [shareOf] using h2
    · exfalso
      simp only [ltSh, decide_eq_false_iff_not] at h1
      simp only [ahead, decide_eq_true_eq] at h2
      exact h1 h2
  apply List.ext_getElem?
  intro j
  unfold splitL
  by_cases hj : j < ps.length
  · rw [List.getElem?_map, List.getElem?_range hj]
    obtain ⟨s, hm, e⟩ := List.mem_map.1 (hidx.mem_iff.2 (List.mem_range.2 hj))
    obtain ⟨m, hms⟩ := List.getElem?_of_mem hm
    rw [layOut_at (leftQ c ps) ys 0 m s _ hnd hms e (by simpa using hj)]
    have hr := hrank m s hms
    obtain ⟨a, ha, rfl⟩ := hof s hm
    have haj : a = j := by simpa [shareOf] using e
    subst haj
    simp only [shareOf, Int.toNat_natCast] at hr
    simp only [Option.map_some, Option.some.injEq, payQ, shareOf, hr, Nat.zero_add]
  · rw [List.getElem?_eq_none (by rw [layOut_length]; simpa using hj), List.getElem?_eq_none (by simpa using hj)]
end Go.Proofs.Ytcgakhajmekjcaa
