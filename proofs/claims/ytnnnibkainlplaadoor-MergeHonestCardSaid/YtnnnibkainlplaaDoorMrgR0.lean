/- merge: the plain law of MergeHonest; lists that are read alone, as a thing of Sep. -/
import Derived.Test.YtnnnibkainlplaaDoorMrgN0
import Derived.Test.YtnnnibkainlplaaDoorChainJ
namespace Go.Proofs.YtnnnibkainlplaaDoor
open Go.RowKit

theorem nodup_sub {α : Type} : ∀ {l m : List α}, l.Nodup → (∀ x ∈ l, x ∈ m) → l.length ≤ m.length
  | [], _, _, _ => Nat.zero_le _
  | x :: l, m, hn, hs => by
    obtain ⟨h1, h2⟩ := List.nodup_cons.1 hn
    obtain ⟨a, b, rfl⟩ := List.append_of_mem (hs x (by simp))
    have := nodup_sub (l := l) (m := a ++ b) h2 fun y hy => by
      rcases List.mem_append.1 (hs y (by simp [hy])) with h | h
      · exact List.mem_append_left _ h
      · rcases List.mem_cons.1 h with e | h
        · rw [e] at hy; exact absurd hy h1
        · exact List.mem_append_right _ h
    simp only [List.length_append, List.length_cons] at this ⊢
    omega
theorem Hon.nodup {A : List EntV} (h : Hon A) : A.Nodup := by
  refine List.pairwise_iff_getElem.2 fun i j hi hj hij e => ?_
  have := h.once i j A[i] A[j] (List.getElem?_eq_getElem hi) (List.getElem?_eq_getElem hj) (by rw [e]) (by rw [e])
  omega
theorem Closed.len_le {A K : List EntV} (h : Closed A K) : K.length ≤ A.length := nodup_sub (nodup_of_asc h.asc) h.sub
theorem Hon.join_len {A : List EntV} (h : Hon A) : (joinF A).length = A.length := by
  have h1 := joinF_len A
  have h2 := nodup_sub h.nodup (m := joinF A) fun x hx => mem_joinF.2 ⟨hx, h.right x hx⟩
  omega
theorem Closed.heads {A K : List EntV} (hA : Hon A) (h : Closed A K) {e : Nat} (he : e < 8) : (ordF K).1.getD e 0 = (ownF K (e : Int)).length := by
  have h1 := run_ends K
  rw [joinF_self h.asc (h.right hA)] at h1
  exact h.all hA h1.1 h1.2 e he
/-- what a round of MergeHonest keeps: A: all that was written; Ks: what each device knows; ds: its day -/
structure HonI (i : Nat) (A : List EntV) (Ks : List (List EntV)) (ds : List Int) : Prop where
  hon : Hon A
  k8 : Ks.length = 8
  d8 : ds.length = 8
  closed : ∀ d : Nat, d < 8 → Closed A (Ks.getD d [])
  own : ∀ d : Nat, d < 8 → ∀ x ∈ A, x.dev = (d : Int) → x ∈ Ks.getD d []
  day : ∀ d : Nat, d < 8 → ∀ x ∈ A, x.dev = (d : Int) → x.day ≤ ds.getD d 0
  days : ∀ d : Nat, d < 8 → 0 ≤ ds.getD d 0 ∧ ds.getD d 0 ≤ 8 * (i : Int)
  len : A.length ≤ i
theorem honI_start : HonI 0 [] (List.replicate 8 []) (List.replicate 8 0) := by
  have h : ∀ d : Nat, d < 8 → (List.replicate 8 ([] : List EntV)).getD d [] = [] := fun d hd => by
    rw [List.getD_eq_getElem?_getD, List.getElem?_replicate, if_pos hd]; rfl
  have h2 : ∀ d : Nat, d < 8 → (List.replicate 8 (0 : Int)).getD d 0 = 0 := fun d hd => by
    rw [List.getD_eq_getElem?_getD, List.getElem?_replicate, if_pos hd]; rfl
  exact ⟨hon_nil, rfl, rfl, fun d hd => by rw [h d hd]; exact Closed.empty _, fun d hd x hx => by simp at hx, fun d hd x hx => by simp at hx, fun d hd => by rw [h2 d hd]; omega, Nat.le_refl _⟩
theorem HonI.mono {i : Nat} {A : List EntV} {Ks : List (List EntV)} {ds : List Int} (h : HonI i A Ks ds) : HonI (i + 1) A Ks ds :=
  ⟨h.hon, h.k8, h.d8, h.closed, h.own, h.day, fun d hd => by have := h.days d hd; omega, by have := h.len; omega⟩
theorem getD_set {α : Type} {l : List α} {d e : Nat} {x z : α} (hd : d < l.length) : (l.set d x).getD e z = if d = e then x else l.getD e z := by
  rw [List.getD_eq_getElem?_getD, List.getElem?_set, List.getD_eq_getElem?_getD]
  by_cases h : d = e
  · rw [if_pos h, if_pos h, if_pos hd]; rfl
  · rw [if_neg h, if_neg h]
/-- what device d learns -/
theorem HonI.learn {i : Nat} {A : List EntV} {Ks : List (List EntV)} {ds : List Int} (h : HonI i A Ks ds) {d f : Nat} (hd : d < 8) (hf : f < 8) : HonI i A (Ks.set d (joinF (Ks.getD d [] ++ Ks.getD f []))) ds := by
  have hk := h.k8
  have hr : ∀ e : Nat, e < 8 → ∀ x ∈ Ks.getD e [], RightE x := fun e he x hx => h.hon.right x ((h.closed e he).sub x hx)
  refine ⟨h.hon, by rw [List.length_set]; exact hk, h.d8, fun e he => ?_, fun e he x hx hxd => ?_, h.day, h.days, h.len⟩
  · rw [getD_set (by omega)]
    by_cases hde : d = e
    · rw [if_pos hde]; exact (h.closed d hd).join h.hon (h.closed f hf)
    · rw [if_neg hde]; exact h.closed e he
  · rw [getD_set (by omega)]
    by_cases hde : d = e
    · rw [if_pos hde]
      exact mem_joinF.2 ⟨List.mem_append_left _ (h.own d hd x hx (by rw [hde]; exact hxd)), h.hon.right x hx⟩
    · rw [if_neg hde]; exact h.own e he x hx hxd
/-- the day goes on -/
theorem HonI.wait {i : Nat} {A : List EntV} {Ks : List (List EntV)} {ds : List Int} (h : HonI i A Ks ds) {d : Nat} (hd : d < 8) {r : Int} (h0 : 0 ≤ r) (h8 : r ≤ 8) : HonI (i + 1) A Ks (ds.set d (ds.getD d 0 + r)) := by
  have hk := h.d8
  refine ⟨h.hon, h.k8, by rw [List.length_set]; exact hk, h.closed, h.own, fun e he x hx hxd => ?_, fun e he => ?_, by have := h.len; omega⟩
  · rw [getD_set (by omega)]
    by_cases hde : d = e
    · rw [if_pos hde]
      have := h.day d hd x hx (by rw [hde]; exact hxd)
      omega
    · rw [if_neg hde]; exact h.day e he x hx hxd
  · rw [getD_set (by omega)]
    have h1 := h.days d hd
    have h2 := h.days e he
    by_cases hde : d = e
    · rw [if_pos hde]; omega
    · rw [if_neg hde]; omega
abbrev tB : List UInt8 := [116]
abbrev hdI (K : List EntV) : List Int := (ordF K).1.map fun n : Nat => (n : Int)
/-- what device d writes -/
def newV (K : List EntV) (d : Nat) (day : Int) : EntV := writes K d day (hdI K) tB
theorem HonI.past {i : Nat} {A : List EntV} {Ks : List (List EntV)} {ds : List Int} (h : HonI i A Ks ds) {d : Nat} (hd : d < 8) : pastF (joinF (Ks.getD d [])) (d : Int) = ownF (Ks.getD d []) (d : Int) := by
  have hc := h.closed d hd
  rw [joinF_self hc.asc (hc.right h.hon)]
  exact hc.past h.hon hd
theorem HonI.hd {i : Nat} {A : List EntV} {Ks : List (List EntV)} {ds : List Int} (h : HonI i A Ks ds) {d : Nat} (hd : d < 8) : (hdI (Ks.getD d [])).length = 8 ∧ ∀ e : Nat, e < 8 → (hdI (Ks.getD d [])).getD e 0 = ((ownF (Ks.getD d []) (e : Int)).length : Int) := by
  refine ⟨by unfold hdI; rw [List.length_map]; exact heads_len _, fun e he => ?_⟩
  have h1 := (h.closed d hd).heads h.hon he
  have h8 := heads_len (Ks.getD d [])
  unfold hdI
  rw [List.getD_eq_getElem?_getD, List.getElem?_eq_getElem (by omega)] at h1
  rw [List.getD_eq_getElem?_getD, List.getElem?_map, List.getElem?_eq_getElem (by omega)]
  simp only [Option.getD_some, Option.map_some] at h1 ⊢
  rw [h1]
theorem HonI.next {i : Nat} {A : List EntV} {Ks : List (List EntV)} {ds : List Int} (h : HonI i A Ks ds) (hi : i ≤ 30) {d : Nat} (hd : d < 8) :
    nextF (ownF (Ks.getD d []) (d : Int)) (d : Int) (ds.getD d 0) (hdI (Ks.getD d [])) tB = (newV (Ks.getD d []) d (ds.getD d 0), 0) ∧
    HonI i (A ++ [newV (Ks.getD d []) d (ds.getD d 0)]) (Ks.set d (joinF (Ks.getD d [] ++ [newV (Ks.getD d []) d (ds.getD d 0)]))) ds ∨ A.length = i := by
  rcases Nat.lt_or_ge A.length i with hlt | hge
  case inr => exact .inr (Nat.le_antisymm h.len hge)
  left
  have hc := h.closed d hd
  obtain ⟨h8, hm⟩ := h.hd hd
  have hdy := h.days d hd
  obtain ⟨h1, h2, h3⟩ := hon_step h.hon hc hd (h.own d hd) (h.day d hd) hdy.1 (by omega) (by omega) h8 hm (text := tB) (by simp)
  have hdm : d < (hdI (Ks.getD d [])).length := by omega
  have hset : (hdI (Ks.getD d [])).set d ((ownF (Ks.getD d []) (d : Int)).length : Int) = hdI (Ks.getD d []) := by
    have := hm d hd
    rw [List.getD_eq_getElem?_getD, List.getElem?_eq_getElem hdm, Option.getD_some] at this
    rw [← this]
    exact List.set_getElem_self _
  have hv : nextV (ownF (Ks.getD d []) (d : Int)) (d : Int) (ds.getD d 0) (hdI (Ks.getD d [])) tB = newV (Ks.getD d []) d (ds.getD d 0) := by
    unfold nextV newV
    rw [Int.toNat_natCast, hset]
  refine ⟨?_, h2, by rw [List.length_set]; exact h.k8, h.d8, fun e he => ?_, fun e he x hx hxd => ?_, fun e he x hx hxd => ?_, h.days, by rw [List.length_append]; exact hlt⟩
  · unfold nextF
    rw [hv, if_pos ⟨by simp; omega, h8⟩]
    exact if_pos h1
  · rw [getD_set (by have := h.k8; omega)]
    by_cases hde : d = e
    · rw [if_pos hde]; exact h3
    · rw [if_neg hde]; exact (h.closed e he).more _
  · rw [getD_set (by have := h.k8; omega)]
    rcases List.mem_append.1 hx with hx | hx
    · by_cases hde : d = e
      · rw [if_pos hde]; exact mem_joinF.2 ⟨List.mem_append_left _ (h.own d hd x hx (by rw [hde]; exact hxd)), h.hon.right x hx⟩
      · rw [if_neg hde]; exact h.own e he x hx hxd
    · have hx2 := List.mem_singleton.1 hx
      have hde : d = e := by
        rw [hx2] at hxd
        have h4 : (d : Int) = (e : Int) := hxd
        omega
      rw [if_pos hde]
      exact mem_joinF.2 ⟨List.mem_append_right _ hx, h2.right x (List.mem_append_right _ hx)⟩
  · rcases List.mem_append.1 hx with hx | hx
    · exact h.day e he x hx hxd
    · have hx2 := List.mem_singleton.1 hx
      rw [hx2] at hxd ⊢
      have h4 : (d : Int) = (e : Int) := hxd
      have hde : d = e := by omega
      rw [← hde]
      exact Int.le_refl _
/-- the whole round -/
theorem HonI.step {i : Nat} {A : List EntV} {Ks : List (List EntV)} {ds : List Int} (h : HonI i A Ks ds) (hi : i < 30) {d : Nat} (hd : d < 8) {r : Int} (h0 : 0 ≤ r) (h8 : r ≤ 8) :
    nextF (ownF (Ks.getD d []) (d : Int)) (d : Int) (ds.getD d 0 + r) (hdI (Ks.getD d [])) tB = (newV (Ks.getD d []) d (ds.getD d 0 + r), 0) ∧
    HonI (i + 1) (A ++ [newV (Ks.getD d []) d (ds.getD d 0 + r)]) (Ks.set d (joinF (Ks.getD d [] ++ [newV (Ks.getD d []) d (ds.getD d 0 + r)]))) (ds.set d (ds.getD d 0 + r)) := by
  have h1 := h.wait hd h0 h8
  have e : (ds.set d (ds.getD d 0 + r)).getD d 0 = ds.getD d 0 + r := by rw [getD_set (by have := h.d8; omega), if_pos rfl]
  have h2 := h1.next (by omega) hd
  rw [e] at h2
  rcases h2 with h2 | h2
  · exact h2
  · have := h.len
    omega
/-! ### the end -/
section
variable {A V : List EntV}
theorem hon_join (hm : ∀ x, x ∈ V ↔ x ∈ A) : joinF V = joinF A := joinF_congr fun x _ => hm x
theorem Hon.forks (hA : Hon A) (hm : ∀ x, x ∈ V ↔ x ∈ A) : forkO V = [] := by
  rw [List.eq_nil_iff_forall_not_mem]
  intro d hd
  have := mem_forkO.1 hd
  rw [hon_join hm, (Closed.self hA).fork hA d] at this
  cases this
theorem Hon.miss (hA : Hon A) (hm : ∀ x, x ∈ V ↔ x ∈ A) : missF (joinF V) = [] := by
  rw [hon_join hm]
  unfold missF
  rw [List.filterMap_eq_nil_iff]
  intro d hd
  rw [if_neg]
  intro hlt
  have hC := Closed.self hA
  have hd8 := List.mem_range.1 hd
  obtain ⟨_, _, h3⟩ := nextGo_is (d := (d : Int)) (l := joinF A) (n := 0) (joinF_asc A) (fun x hx _ => by have := (joinF_right A x hx).n0; omega)
  obtain ⟨x, hx, h⟩ := need_iff.1 hlt
  have hs : ((nextGo (d : Int) (joinF A) 0 : Nat) : Int) < x.seen.getD d 0 := by
    rcases h with ⟨hxd, h⟩ | h
    · rw [seen_own (joinF_right A x hx) hxd]; exact h
    · exact h
  obtain ⟨y, hy, hyd, hyn⟩ := hC.seen x hx d hd8 _ hs
  exact h3 ⟨y, hy, hyd, hyn⟩
theorem len_counts (out : List EntV) (ho : ∀ x ∈ out, 0 ≤ x.dev ∧ x.dev ≤ 7) : out.length = (List.range 8).foldl (fun n d => n + countF out d) 0 := by
  induction out with
  | nil => rfl
  | cons x r ih =>
    have hx := ho x (by simp)
    have ih := ih (fun y hy => ho y (by simp [hy]))
    obtain ⟨e, he⟩ : ∃ e : Nat, x.dev = (e : Int) := ⟨x.dev.toNat, by omega⟩
    have hc : ∀ d : Nat, countF (x :: r) d = if e = d then countF r d + 1 else countF r d := fun d => by
      unfold countF ownF
      by_cases hed : e = d
      · rw [if_pos hed, List.filter_cons_of_pos (by rw [he, hed]; simp)]; rfl
      · rw [if_neg hed, List.filter_cons_of_neg (by rw [he]; simp only [decide_eq_true_eq]; omega)]
    simp only [List.range, List.range.loop, List.foldl, hc] at ih ⊢
    rw [List.length_cons, ih]
    have : e = 0 ∨ e = 1 ∨ e = 2 ∨ e = 3 ∨ e = 4 ∨ e = 5 ∨ e = 6 ∨ e = 7 := by omega
    rcases this with rfl | rfl | rfl | rfl | rfl | rfl | rfl | rfl <;> simp <;> omega
theorem Hon.order_len (hA : Hon A) (hm : ∀ x, x ∈ V ↔ x ∈ A) : (ordF V).2.length = A.length := by
  have hC := Closed.self hA
  have hb : ∀ d : Nat, d < 8 → countF (ordF V).2 d = countF (joinF A) d := fun d hd => by
    rw [← ord_heads hd]
    have h1 := hC.heads hA hd
    rw [ordF_join] at h1
    have h2 : ordF V = ordF A := by unfold ordF; rw [hon_join hm]
    rw [h2, h1]
    rfl
  rw [← hA.join_len, len_counts _ (run_ends V).1.dev, len_counts _ (fun x hx => ⟨(joinF_right A x hx).d0, (joinF_right A x hx).d1⟩)]
  simp only [List.range, List.range.loop, List.foldl]
  rw [hb 0 (by omega), hb 1 (by omega), hb 2 (by omega), hb 3 (by omega), hb 4 (by omega), hb 5 (by omega), hb 6 (by omega), hb 7 (by omega)]
theorem Hon.order_seen (hA : Hon A) (hm : ∀ x, x ∈ V ↔ x ∈ A) {i : Nat} {x : EntV} (hx : (ordF V).2[i]? = some x) {d : Nat} (hd : d < 8) {s : Int} (hs : x.seen[d]? = some s) : s ≤ ((countF ((ordF V).2.take i) d : Nat) : Int) := by
  apply Classical.byContradiction
  intro h
  have := (ord_wants hx hd hs (by omega)).1
  rw [hA.forks hm] at this
  simp at this
theorem Hon.order_in (hm : ∀ x, x ∈ V ↔ x ∈ A) {x : EntV} (hx : x ∈ (ordF V).2) : x ∈ A := (hm x).1 (mem_joinF.1 (ord_in hx)).1
end
/-! ### what is read alone -/
/-- a fact of the world that rests on some blocks alone -/
def seesR (φ : World → Prop) : Res where
  P := fun w F => (∀ k, F k → k < w.heap.size) ∧ ∀ w', w.heap.size ≤ w'.heap.size → (∀ k, F k → w'.heap[k]? = w.heap[k]?) → φ w'
  lt := fun w F h => h.1
  keep := fun w w' F h hz hb => ⟨fun k hk => Nat.lt_of_lt_of_le (h.1 k hk) hz, fun w'' hz' hb' => h.2 w'' (Nat.le_trans hz hz') fun k hk => (hb' k hk).trans (hb k hk)⟩
/-- it rests on the blocks between lo and the end alone -/
def Rests (lo : Nat) (w : World) (φ : World → Prop) : Prop := ∀ w', w.heap.size ≤ w'.heap.size → (∀ k, lo ≤ k → k < w.heap.size → w'.heap[k]? = w.heap[k]?) → φ w'
theorem Rests.and {lo : Nat} {w : World} {φ ψ : World → Prop} (h1 : Rests lo w φ) (h2 : Rests lo w ψ) : Rests lo w fun W => φ W ∧ ψ W := fun w' hz hb => ⟨h1 w' hz hb, h2 w' hz hb⟩
theorem Rests.mono {lo lo' : Nat} {w : World} {φ : World → Prop} (h : Rests lo w φ) (hl : lo' ≤ lo) : Rests lo' w φ := fun w' hz hb => h w' hz fun k hk => hb k (Nat.le_trans hl hk)
theorem Rests.below {lo : Nat} {w w' : World} {φ : World → Prop} (h : Rests lo w φ) (hb : Below w.heap.size w w') : Rests lo w' φ := fun w'' hz hk => h w'' (Nat.le_trans hb.size hz) fun k h1 h2 => (hk k h1 (Nat.lt_of_lt_of_le h2 hb.size)).trans (hb.block k h2)
theorem Sep.sees {w0 w : World} {φ : World → Prop} {Rs : List Res} (h : Sep w0 w (seesR φ :: Rs)) : φ w := by
  obtain ⟨F, hF, _⟩ := h.get
  exact hF.2 w (Nat.le_refl _) fun _ _ => rfl
theorem Sep.seesAdd {w0 w w' : World} {φ ψ : World → Prop} {Rs : List Res} (h : Sep w0 w (seesR φ :: Rs)) (hb : Below w.heap.size w w') (hr : Rests w.heap.size w' ψ) : Sep w0 w' (seesR (fun W => φ W ∧ ψ W) :: Rs) :=
  h.step fun F hF => ⟨Plus F w w', ⟨fun k hk => by
      rcases hk with hk | hk
      · exact Nat.lt_of_lt_of_le (hF.1 k hk) hb.size
      · exact hk.2, fun w'' hz hk => ⟨hF.2 w'' (Nat.le_trans hb.size hz) fun k h1 => (hk k (.inl h1)).trans (hb.block k (hF.1 k h1)), hr w'' hz fun k h1 h2 => hk k (.inr ⟨h1, h2⟩)⟩⟩, fun _ hk => hk, Keeps.below hb⟩
theorem Sep.seesNew {w0 w : World} {φ : World → Prop} {Rs : List Res} (h : Sep w0 w Rs) (hφ : ∀ w', φ w') : Sep w0 w (seesR φ :: Rs) :=
  h.add (F := fun _ => False) (Below.refl _ _) ⟨fun _ hk => hk.elim, fun w' _ _ => hφ w'⟩ fun _ hk => hk.elim
theorem Sep.seesTurn {w0 w : World} {φ ψ : World → Prop} {Rs : List Res} (h : Sep w0 w (seesR φ :: Rs)) (hp : ∀ W, φ W → ψ W) : Sep w0 w (seesR ψ :: Rs) :=
  h.turn fun _ hF => ⟨hF.1, fun w' hz hb => hp _ (hF.2 w' hz hb)⟩
theorem Sl.rests {w w' : World} {size n : Nat} {A : Option Addr} {xs : List (List Value)} (h : SlF w w' size A n xs) : Rests w.heap.size w' (fun W => Sl W size A n xs) := fun w'' hz hk => by
  refine ⟨h.1.1, fun i x hx => ?_⟩
  obtain ⟨b, o, hA, hlb, hc⟩ := h.1.2 i x hx
  have hge : w.heap.size ≤ b := h.2 _ hA
  exact ⟨b, o, hA, Nat.lt_of_lt_of_le hlb hz, fun j v hv => (World.cell?_of_block (w := w') (a := ⟨b, _, none⟩) (hk b hge hlb)).trans (hc j v hv)⟩
/-- a list of entries, fresh -/
def ChF (w w' : World) (A : Option Addr) (n : Nat) (l : List EntC) : Prop := ChAt w' A n l ∧ (∀ ad, A = some ad → w.heap.size ≤ ad.block) ∧ ∀ u ∈ l, ∀ ad, u.A = some ad → w.heap.size ≤ ad.block
theorem ChF.rests {w w' : World} {A : Option Addr} {n : Nat} {l : List EntC} (h : ChF w w' A n l) : Rests w.heap.size w' (fun W => ChAt W A n l) := fun w'' hz hk =>
  ⟨Sl.rests ⟨h.1.sl, h.2.1⟩ w'' hz hk, fun u hu => Sl.rests (A := u.A) ⟨h.1.at_ u hu, h.2.2 u hu⟩ w'' hz hk, h.1.len⟩
/-- what hands a fresh list of entries back -/
def GivesF (w : World) (v : List EntV) (e : Ending) (w' : World) : Prop := ∃ A c l, e = .returned (.slice A v.length c) ∧ ChF w w' A v.length l ∧ vsOf l = v ∧ Below w.heap.size w w'
/-- what MergeHonest holds in memory, and reads alone -/
def KnowAt (ps : List PastC) (es : List EntC) (W : World) : Prop := (∀ p ∈ ps, ChAt W p.A p.l.length p.l) ∧ ∀ u ∈ es, EntAt W u
end Go.Proofs.YtnnnibkainlplaaDoor
