/- merge: the plain law of MergeHonest; lists that are read alone, as a thing of Sep. -/
import Derived.Test.YtjncmlglhegnaaaGreatDoorMrgN0
import Derived.Test.YtjncmlglhegnaaaGreatDoorChainK
import Derived.Test.YtjncmlglhegnaaaGreatDoorSees
namespace Go.Proofs.YtjncmlglhegnaaaGreatDoor
open Go.RowKit

theorem nodup_sub {α : Type} : ∀ {l m : List α}, l.Nodup → (∀ x ∈ l, x ∈ m) → l.length ≤ m.length
  | [], _, _, _ => Nat.zero_le _
  | x :: l, m, hn, hs => by
    obtain ⟨h1, h2⟩ := List.nodup_cons.1 hn
    obtain ⟨a, b, rfl⟩ := List.append_of_mem (hs x (by simp))
    have := nodup_sub (l := l) (m := a ++ b) h2 fun y hy => by
      rcases List.mem_append.1 (hs y (by simp [hy])) with h | h
      · exact List.mem_append_left _ h
      · rcases List.mem_cons.1 h with e | h
        · rw [e] at hy; exact absurd hy h1
        · exact List.mem_append_right _ h
    simp only [List.length_append, List.length_cons] at this ⊢
    omega
theorem Hon.nodup {A : List EntV} (h : Hon A) : A.Nodup := by
  refine List.pairwise_iff_getElem.2 fun i j hi hj hij e => ?_
  have := h.once i j A[i] A[j] (List.getElem?_eq_getElem hi) (List.getElem?_eq_getElem hj) (by rw [e]) (by rw [e])
  omega
theorem Hon.join_len {A : List EntV} (h : Hon A) : (joinF A).length = A.length := by
  have h1 := joinF_len A
  have h2 := nodup_sub h.nodup (m := joinF A) fun x hx => mem_joinF.2 ⟨hx, h.right x hx⟩
  omega
theorem Closed.heads {A K : List EntV} (hA : Hon A) (h : Closed A K) {e : Nat} (he : e < 8) : (ordF K).1.getD e 0 = (ownF K (e : Int)).length := by
  have h1 := run_ends K
  rw [joinF_self h.asc (h.right hA)] at h1
  exact h.all hA h1.1 h1.2 e he
/-- what a round of MergeHonest keeps: A: all that was written; Ks: what each device knows; ds: its day -/
structure HonI (i : Nat) (A : List EntV) (Ks : List (List EntV)) (ds : List Int) : Prop where
  hon : Hon A
  k8 : Ks.length = 8
  d8 : ds.length = 8
  closed : ∀ d : Nat, d < 8 → Closed A (Ks.getD d [])
  own : ∀ d : Nat, d < 8 → ∀ x ∈ A, x.dev = (d : Int) → x ∈ Ks.getD d []
  day : ∀ d : Nat, d < 8 → ∀ x ∈ A, x.dev = (d : Int) → x.day ≤ ds.getD d 0
  days : ∀ d : Nat, d < 8 → 0 ≤ ds.getD d 0 ∧ ds.getD d 0 ≤ 8 * (i : Int)
  len : A.length ≤ i
theorem HonI.mono {i : Nat} {A : List EntV} {Ks : List (List EntV)} {ds : List Int} (h : HonI i A Ks ds) : HonI (i + 1) A Ks ds :=
  ⟨h.hon, h.k8, h.d8, h.closed, h.own, h.day, fun d hd => by have := h.days d hd; omega, by have := h.len; omega⟩
theorem getD_set {α : Type} {l : List α} {d e : Nat} {x z : α} (hd : d < l.length) : (l.set d x).getD e z = if d = e then x else l.getD e z := by
  rw [List.getD_eq_getElem?_getD, List.getElem?_set, List.getD_eq_getElem?_getD]
  by_cases h : d = e
  · rw [if_pos h, if_pos h, if_pos hd]; rfl
  · rw [if_neg h, if_neg h]
/-- the day goes on -/
theorem HonI.wait {i : Nat} {A : List EntV} {Ks : List (List EntV)} {ds : List Int} (h : HonI i A Ks ds) {d : Nat} (hd : d < 8) {r : Int} (h0 : 0 ≤ r) (h8 : r ≤ 8) : HonI (i + 1) A Ks (ds.set d (ds.getD d 0 + r)) := by
  have hk := h.d8
  refine ⟨h.hon, h.k8, by rw [List.length_set]; exact hk, h.closed, h.own, fun e he x hx hxd => ?_, fun e he => ?_, by have := h.len; omega⟩
  · rw [getD_set (by omega)]
    by_cases hde : d = e
    · rw [if_pos hde]
      have := h.day d hd x hx (by rw [hde]; exact hxd)
      omega
    · rw [if_neg hde]; exact h.day e he x hx hxd
  · rw [getD_set (by omega)]
    have h1 := h.days d hd
    have h2 := h.days e he
    by_cases hde : d = e
    · rw [if_pos hde]; omega
    · rw [if_neg hde]; omega
abbrev tB : List UInt8 := [116]
abbrev hdI (K : List EntV) : List Int := (ordF K).1.map fun n : Nat => (n : Int)
/-- what device d writes -/
def newV (K : List EntV) (d : Nat) (day : Int) : EntV := writes K d day (hdI K) tB
theorem HonI.past {i : Nat} {A : List EntV} {Ks : List (List EntV)} {ds : List Int} (h : HonI i A Ks ds) {d : Nat} (hd : d < 8) : pastF (joinF (Ks.getD d [])) (d : Int) = ownF (Ks.getD d []) (d : Int) := by
  have hc := h.closed d hd
  rw [joinF_self hc.asc (hc.right h.hon)]
  exact hc.past h.hon hd
theorem HonI.hd {i : Nat} {A : List EntV} {Ks : List (List EntV)} {ds : List Int} (h : HonI i A Ks ds) {d : Nat} (hd : d < 8) : (hdI (Ks.getD d [])).length = 8 ∧ ∀ e : Nat, e < 8 → (hdI (Ks.getD d [])).getD e 0 = ((ownF (Ks.getD d []) (e : Int)).length : Int) := by
  refine ⟨by unfold hdI; rw [List.length_map]; exact heads_len _, fun e he => ?_⟩
  have h1 := (h.closed d hd).heads h.hon he
  have h8 := heads_len (Ks.getD d [])
  unfold hdI
  rw [List.getD_eq_getElem?_getD, List.getElem?_eq_getElem (by omega)] at h1
  rw [List.getD_eq_getElem?_getD, List.getElem?_map, List.getElem?_eq_getElem (by omega)]
  simp only [Option.getD_some, Option.map_some] at h1 ⊢
  rw [h1]
theorem HonI.next {i : Nat} {A : List EntV} {Ks : List (List EntV)} {ds : List Int} (h : HonI i A Ks ds) (hi : i ≤ 30) {d : Nat} (hd : d < 8) :
    nextF (ownF (Ks.getD d []) (d : Int)) (d : Int) (ds.getD d 0) (hdI (Ks.getD d [])) tB = (newV (Ks.getD d []) d (ds.getD d 0), 0) ∧
    HonI i (A ++ [newV (Ks.getD d []) d (ds.getD d 0)]) (Ks.set d (joinF (Ks.getD d [] ++ [newV (Ks.getD d []) d (ds.getD d 0)]))) ds ∨ A.length = i := by
  rcases Nat.lt_or_ge A.length i with hlt | hge
  case inr => exact .inr (Nat.le_antisymm h.len hge)
  left
  have hc := h.closed d hd
  obtain ⟨h8, hm⟩ := h.hd hd
  have hdy := h.days d hd
  obtain ⟨h1, h2, h3⟩ := hon_step h.hon hc hd (h.own d hd) (h.day d hd) hdy.1 (by omega) (by omega) h8 hm (text := tB) (by simp)
  have hdm : d < (hdI (Ks.getD d [])).length := by omega
  have hset : (hdI (Ks.getD d [])).set d ((ownF (Ks.getD d []) (d : Int)).length : Int) = hdI (Ks.getD d []) := by
    have := hm d hd
    rw [List.getD_eq_getElem?_getD, List.getElem?_eq_getElem hdm, Option.getD_some] at this
    rw [← this]
    exact List.set_getElem_self _
  have hv : nextV (ownF (Ks.getD d []) (d : Int)) (d : Int) (ds.getD d 0) (hdI (Ks.getD d [])) tB = newV (Ks.getD d []) d (ds.getD d 0) := by
    unfold nextV newV
    rw [Int.toNat_natCast, hset]
  refine ⟨?_, h2, by rw [List.length_set]; exact h.k8, h.d8, fun e he => ?_, fun e he x hx hxd => ?_, fun e he x hx hxd => ?_, h.days, by rw [List.length_append]; exact hlt⟩
  · unfold nextF
    rw [hv, if_pos ⟨by simp; omega, h8⟩]
    exact if_pos h1
  · rw [getD_set (by have := h.k8; omega)]
    by_cases hde : d = e
    · rw [if_pos hde]; exact h3
    · rw [if_neg hde]; exact (h.closed e he).more _
  · rw [getD_set (by have := h.k8; omega)]
    rcases List.mem_append.1 hx with hx | hx
    · by_cases hde : d = e
      · rw [if_pos hde]; exact mem_joinF.2 ⟨List.mem_append_left _ (h.own d hd x hx (by rw [hde]; exact hxd)), h.hon.right x hx⟩
      · rw [if_neg hde]; exact h.own e he x hx hxd
    · have hx2 := List.mem_singleton.1 hx
      have hde : d = e := by
        rw [hx2] at hxd
        have h4 : (d : Int) = (e : Int) := hxd
        omega
      rw [if_pos hde]
      exact mem_joinF.2 ⟨List.mem_append_right _ hx, h2.right x (List.mem_append_right _ hx)⟩
  · rcases List.mem_append.1 hx with hx | hx
    · exact h.day e he x hx hxd
    · have hx2 := List.mem_singleton.1 hx
      rw [hx2] at hxd ⊢
      have h4 : (d : Int) = (e : Int) := hxd
      have hde : d = e := by omega
      rw [← hde]
      exact Int.le_refl _
/-- the whole round -/
theorem HonI.step {i : Nat} {A : List EntV} {Ks : List (List EntV)} {ds : List Int} (h : HonI i A Ks ds) (hi : i < 30) {d : Nat} (hd : d < 8) {r : Int} (h0 : 0 ≤ r) (h8 : r ≤ 8) :
    nextF (ownF (Ks.getD d []) (d : Int)) (d : Int) (ds.getD d 0 + r) (hdI (Ks.getD d [])) tB = (newV (Ks.getD d []) d (ds.getD d 0 + r), 0) ∧
    HonI (i + 1) (A ++ [newV (Ks.getD d []) d (ds.getD d 0 + r)]) (Ks.set d (joinF (Ks.getD d [] ++ [newV (Ks.getD d []) d (ds.getD d 0 + r)]))) (ds.set d (ds.getD d 0 + r)) := by
  have h1 := h.wait hd h0 h8
  have e : (ds.set d (ds.getD d 0 + r)).getD d 0 = ds.getD d 0 + r := by rw [getD_set (by have := h.d8; omega), if_pos rfl]
  have h2 := h1.next (by omega) hd
  rw [e] at h2
  rcases h2 with h2 | h2
  · exact h2
  · have := h.len
    omega
/-! ### the end -/
section
variable {A V : List EntV}
theorem hon_join (hm : ∀ x, x ∈ V ↔ x ∈ A) : joinF V = joinF A := joinF_congr fun x _ => hm x
theorem Hon.forks (hA : Hon A) (hm : ∀ x, x ∈ V ↔ x ∈ A) : forkO V = [] := by
  rw [List.eq_nil_iff_forall_not_mem]
  intro d hd
  have := mem_forkO.1 hd
  rw [hon_join hm, (Closed.self hA).fork hA d] at this
  cases this
theorem Hon.miss (hA : Hon A) (hm : ∀ x, x ∈ V ↔ x ∈ A) : missF (joinF V) = [] := by
  rw [hon_join hm]
  unfold missF
  rw [List.filterMap_eq_nil_iff]
  intro d hd
  rw [if_neg]
  intro hlt
  have hC := Closed.self hA
  have hd8 := List.mem_range.1 hd
  obtain ⟨_, _, h3⟩ := nextGo_is (d := (d : Int)) (l := joinF A) (n := 0) (joinF_asc A) (fun x hx _ => by have := (joinF_right A x hx).n0; omega)
  obtain ⟨x, hx, h⟩ := need_iff.1 hlt
  have hs : ((nextGo (d : Int) (joinF A) 0 : Nat) : Int) < x.seen.getD d 0 := by
    rcases h with ⟨hxd, h⟩ | h
    · rw [seen_own (joinF_right A x hx) hxd]; exact h
    · exact h
  obtain ⟨y, hy, hyd, hyn⟩ := hC.seen x hx d hd8 _ hs
  exact h3 ⟨y, hy, hyd, hyn⟩
theorem len_counts (out : List EntV) (ho : ∀ x ∈ out, 0 ≤ x.dev ∧ x.dev ≤ 7) : out.length = (List.range 8).foldl (fun n d => n + countF out d) 0 := by
  induction out with
  | nil => rfl
  | cons x r ih =>
    have hx := ho x (by simp)
    have ih := ih (fun y hy => ho y (by simp [hy]))
    obtain ⟨e, he⟩ : ∃ e : Nat, x.dev = (e : Int) := ⟨x.dev.toNat, by omega⟩
    have hc : ∀ d : Nat, countF (x :: r) d = if e = d then countF r d + 1 else countF r d := fun d => by
      unfold countF ownF
      by_cases hed : e = d
      · rw [if_pos hed, List.filter_cons_of_pos (by rw [he, hed]; simp)]; rfl
      · rw [if_neg hed, List.filter_cons_of_neg (by rw [he]; simp only [decide_eq_true_eq]; omega)]
    simp only [List.range, List.range.loop, List.foldl, hc] at ih ⊢
    rw [List.length_cons, ih]
    have : e = 0 ∨ e = 1 ∨ e = 2 ∨ e = 3 ∨ e = 4 ∨ e = 5 ∨ e = 6 ∨ e = 7 := by omega
    rcases this with rfl | rfl | rfl | rfl | rfl | rfl | rfl | rfl <;> simp <;> omega
theorem Hon.order_len (hA : Hon A) (hm : ∀ x, x ∈ V ↔ x ∈ A) : (ordF V).2.length = A.length := by
  have hC := Closed.self hA
  have hb : ∀ d : Nat, d < 8 → countF (ordF V).2 d = countF (joinF A) d := fun d hd => by
    rw [← ord_heads hd]
    have h1 := hC.heads hA hd
    rw [ordF_join] at h1
    have h2 : ordF V = ordF A := by unfold ordF; rw [hon_join hm]
    rw [h2, h1]
    rfl
  rw [← hA.join_len, len_counts _ (run_ends V).1.dev, len_counts _ (fun x hx => ⟨(joinF_right A x hx).d0, (joinF_right A x hx).d1⟩)]
  simp only [List.range, List.range.loop, List.foldl]
  rw [hb 0 (by omega), hb 1 (by omega), hb 2 (by omega), hb 3 (by omega), hb 4 (by omega), hb 5 (by omega), hb 6 (by omega), hb 7 (by omega)]
end
/-- a list of entries, fresh -/
def ChF (w w' : World) (A : Option Addr) (n : Nat) (l : List EntC) : Prop := ChAt w' A n l ∧ (∀ ad, A = some ad → w.heap.size ≤ ad.block) ∧ ∀ u ∈ l, ∀ ad, u.A = some ad → w.heap.size ≤ ad.block
theorem ChF.rests {w w' : World} {A : Option Addr} {n : Nat} {l : List EntC} (h : ChF w w' A n l) : Rests w.heap.size w' (fun W => ChAt W A n l) := fun w'' hz hk =>
  ⟨Sl.rests ⟨h.1.sl, h.2.1⟩ w'' hz hk, fun u hu => Sl.rests (A := u.A) ⟨h.1.at_ u hu, h.2.2 u hu⟩ w'' hz hk, h.1.len⟩
end Go.Proofs.YtjncmlglhegnaaaGreatDoor
