/- merge: slices.SortFunc at items, by the library's contract. -/
/- merge: slices.CompactFunc and slices.SortFunc of nothing, sorted, walked. -/
/- merge: slices.CompactFunc, walked. -/
/- merge: slices.SortFunc of nothing, sorted, walked. -/
/- merge: slices.Concat, fresh, Join, walked. -/
/- merge: Join, walked. -/
import Derived.Test.YtjncmlglhegnaaaGreatDoorMrgA
import Derived.Test.YtjncmlglhegnaaaGreatDoorDrawn
import Derived.Test.YtjncmlglhegnaaaGreatDoorChainI
namespace Go.Proofs.YtjncmlglhegnaaaGreatDoor
open Go.RowKit Go.Sort Go.Lib

/-- an item comes before another one, right or not -/
def ltK (x y : EntV) : Prop := x.dev < y.dev ∨ (x.dev = y.dev ∧ (x.no < y.no ∨ (x.no = y.no ∧ (encodeF x).1 < (encodeF y).1)))
theorem cmpE_lt (x y : EntV) : cmpE x y < 0 ↔ ltK x y := by
  unfold cmpE or3 cmp3 cmpS ltK
  by_cases h1 : x.dev < y.dev
  · simp [h1]
  · by_cases h2 : y.dev < x.dev
    · have h3 : ¬ x.dev = y.dev := by omega
      simp [h1, h2, h3]
    · have h3 : x.dev = y.dev := by omega
      by_cases h4 : x.no < y.no
      · simp [h3, h4]
      · by_cases h5 : y.no < x.no
        · have h6 : ¬ x.no = y.no := by omega
          simp [h3, h4, h5, h6]
        · have h6 : x.no = y.no := by omega
          by_cases h7 : (encodeF x).1 < (encodeF y).1
          · simp [h3, h6, h7]
          · by_cases h8 : (encodeF y).1 < (encodeF x).1
            · simp [h3, h6, h7, h8]
            · simp [h3, h6, h7, h8]
theorem cmpE_zero (x y : EntV) : cmpE x y = 0 ↔ x.dev = y.dev ∧ x.no = y.no ∧ (encodeF x).1 = (encodeF y).1 := by
  unfold cmpE or3 cmp3 cmpS
  by_cases h1 : x.dev < y.dev
  · have h3 : ¬ x.dev = y.dev := by omega
    simp [h1, h3]
  · by_cases h2 : y.dev < x.dev
    · have h3 : ¬ x.dev = y.dev := by omega
      simp [h1, h2, h3]
    · have h3 : x.dev = y.dev := by omega
      by_cases h4 : x.no < y.no
      · have h6 : ¬ x.no = y.no := by omega
        simp [h3, h4, h6]
      · by_cases h5 : y.no < x.no
        · have h6 : ¬ x.no = y.no := by omega
          simp [h3, h4, h5, h6]
        · have h6 : x.no = y.no := by omega
          rcases bytes_tri (encodeF x).1 (encodeF y).1 with h7 | h7 | h7
          · have h8 : ¬ (encodeF x).1 = (encodeF y).1 := fun e => List.lt_irrefl _ (by rw [e] at h7; exact h7)
            simp [h3, h6, h7, h8]
          · have h9 := List.lt_irrefl (encodeF y).1
            simp [h3, h6, h7, h9]
          · have h8 : ¬ (encodeF x).1 = (encodeF y).1 := fun e => List.lt_irrefl _ (by rw [e] at h7; exact h7)
            have h9 : ¬ (encodeF x).1 < (encodeF y).1 := fun h => List.lt_irrefl _ (List.lt_trans h h7)
            simp [h3, h6, h7, h8, h9]
theorem ltK_irrefl (x : EntV) : ¬ ltK x x := fun h => by
  rcases h with h | ⟨_, h | ⟨_, h⟩⟩
  · omega
  · omega
  · exact List.lt_irrefl _ h
theorem ltK_trans {x y z : EntV} (h1 : ltK x y) (h2 : ltK y z) : ltK x z := by
  unfold ltK at *
  rcases h1 with h1 | ⟨e1, h1 | ⟨f1, h1⟩⟩ <;> rcases h2 with h2 | ⟨e2, h2 | ⟨f2, h2⟩⟩
  · left; omega
  · left; omega
  · left; omega
  · left; omega
  · right; exact ⟨by omega, .inl (by omega)⟩
  · right; exact ⟨by omega, .inl (by omega)⟩
  · left; omega
  · right; exact ⟨by omega, .inl (by omega)⟩
  · right; exact ⟨by omega, .inr ⟨by omega, List.lt_trans h1 h2⟩⟩
/-- not before, the other way round -/
theorem not_ltK {x y : EntV} : ¬ ltK x y ↔ y.dev < x.dev ∨ (x.dev = y.dev ∧ (y.no < x.no ∨ (x.no = y.no ∧ (encodeF y).1 ≤ (encodeF x).1))) := by
  unfold ltK
  constructor
  · intro h
    by_cases h1 : y.dev < x.dev
    · exact .inl h1
    · have h2 : x.dev = y.dev := by
        have : ¬ x.dev < y.dev := fun h3 => h (.inl h3)
        omega
      refine .inr ⟨h2, ?_⟩
      by_cases h3 : y.no < x.no
      · exact .inl h3
      · have h4 : x.no = y.no := by
          have : ¬ x.no < y.no := fun h5 => h (.inr ⟨h2, .inl h5⟩)
          omega
        exact .inr ⟨h4, List.not_lt.1 fun h5 => h (.inr ⟨h2, .inr ⟨h4, h5⟩⟩)⟩
  · rintro (h | ⟨h1, h | ⟨h2, h⟩⟩) (k | ⟨k1, k | ⟨k2, k⟩⟩)
    · omega
    · omega
    · omega
    · omega
    · omega
    · omega
    · omega
    · omega
    · exact List.not_lt.2 h k
theorem not_ltK_trans {x y z : EntV} (h1 : ¬ ltK x y) (h2 : ¬ ltK y z) : ¬ ltK x z := by
  rw [not_ltK] at *
  rcases h1 with h1 | ⟨e1, h1 | ⟨f1, h1⟩⟩ <;> rcases h2 with h2 | ⟨e2, h2 | ⟨f2, h2⟩⟩
  · left; omega
  · left; omega
  · left; omega
  · left; omega
  · right; exact ⟨by omega, .inl (by omega)⟩
  · right; exact ⟨by omega, .inl (by omega)⟩
  · left; omega
  · right; exact ⟨by omega, .inl (by omega)⟩
  · right; exact ⟨by omega, .inr ⟨by omega, List.le_trans h2 h1⟩⟩
theorem grown_sortK {α : Type} [Inhabited α] (enc : α → List Value) (k : Nat) (w : World) (blk off n : Nat) (d : Array α) (os : Array Obj) : w.grownBy (sortWorldK enc k w blk off n d os) (some blk) := by
  have hz : (putRowK enc k (Sort.ahead w n) blk off d).heap.size = w.heap.size := by simp [putRowK, putRow, mapBlock, Sort.ahead]
  refine ⟨rfl, rfl, rfl, ?_, fun j hj hne => ?_⟩
  · show w.heap.size ≤ (_ ++ os).size
    rw [Array.size_append, hz]
    omega
  · show ((putRowK enc k (Sort.ahead w n) blk off d).heap ++ os)[j]? = _
    rw [Array.getElem?_append_left (by rw [hz]; exact hj)]
    have hjb : blk ≠ j := fun e => hne (by rw [e])
    simp [putRowK, putRow, mapBlock, Sort.ahead, Array.getElem?_modify, hjb]
theorem heap_sortK {α : Type} [Inhabited α] (enc : α → List Value) (k : Nat) (w : World) (blk off n : Nat) (d : Array α) (os : Array Obj) (hg : blk < w.heap.size) : ∀ cur t fr, w.heap[blk]? = some (.cells cur t fr) → ∃ cur', (sortWorldK enc k w blk off n d os).heap[blk]? = some (.cells cur' t fr) ∧ cur'.size = cur.size := by
  intro cur t fr hc
  have hz : (putRowK enc k (Sort.ahead w n) blk off d).heap.size = w.heap.size := by simp [putRowK, putRow, mapBlock, Sort.ahead]
  refine ⟨putCells id off (flatK enc k d) cur, ?_, by simp [putCells]⟩
  show ((putRowK enc k (Sort.ahead w n) blk off d).heap ++ os)[blk]? = _
  rw [Array.getElem?_append_left (by rw [hz]; exact hg)]
  simp [putRowK, putRow, mapBlock, Sort.ahead, Array.getElem?_modify, hc, onCells]
/-- a row of the call's own behind a call that has put other things into it -/
theorem own_behind {w w' : World} {base g n c size : Nat} {e : TypeId} {xs ys : List (List Value)} (ho : Own w base e size (.slice (some ⟨g, 0, none⟩) n c) n xs) (hrow : ∀ cur t fr, w.heap[g]? = some (.cells cur t fr) → ∃ cur', w'.heap[g]? = some (.cells cur' t fr) ∧ cur'.size = cur.size) (hs : Sl w' size (some ⟨g, 0, none⟩) n ys) (hl : ∀ x ∈ ys, x.length = size) : Own w' base e size (.slice (some ⟨g, 0, none⟩) n c) n ys := by
  obtain ⟨⟨h1, h2⟩, h3, h4⟩ := ho
  have hfl : ys.flatten.length = n * size := by rw [flat_len _ hl, hs.1]
  rcases h2 with ⟨hv, _⟩ | ⟨g', cap, cur, hv, hb, hg, hnc, hcm, hcs, htake⟩
  · cases hv
  · injection hv with hv1 hv2 hv3
    injection hv1 with hv1
    injection hv1 with hv1
    subst hv1 hv3
    obtain ⟨cur', hc', hsz⟩ := hrow _ _ _ hg
    refine ⟨⟨hfl, .inr ⟨g, c, cur', rfl, hb, hc', hnc, hcm, by rw [hsz]; exact hcs, ?_⟩⟩, hl, hs.1⟩
    apply List.ext_getElem?
    intro k
    rw [List.getElem?_take]
    by_cases hk : k < n * size
    · rw [if_pos hk]
      obtain ⟨v, hv⟩ : ∃ v, ys.flatten[k]? = some v := ⟨_, List.getElem?_eq_getElem (by rw [hfl]; exact hk)⟩
      obtain ⟨i, j, x, hx, hj, hk2⟩ := flat_inv ys hl _ v hv
      obtain ⟨b, o, he, _, hc⟩ := hs.2 i x hx
      injection he with he
      injection he with e1 e2
      subst e1 e2
      have := hc j v hj
      rw [cell_of_row w' g _ cur' e (0, 0) hc'] at this
      rw [hv, ← this, hk2]
      simp
    · rw [if_neg hk, List.getElem?_eq_none (by omega)]
/-- an entry whose list lies in the world, and not in the block g -/
structure ItemOk (w : World) (g : Nat) (u : EntC) : Prop where
  at_ : EntAt w u
  len : u.v.seen.length ≤ 1099511627776 ∧ u.v.text.length ≤ 140737488351232
  far : u.v.seen ≠ [] → ∀ ad, u.A = some ad → ad.block ≠ g
theorem ItemOk.grown {w w' : World} {g : Nat} {u : EntC} (h : ItemOk w g u) (hg : w.grownBy w' (some g)) : ItemOk w' g u := by
  refine ⟨Sl.grown h.at_ hg ?_, h.len, h.far⟩
  by_cases hs : u.v.seen = []
  · exact .inl (by rw [hs]; rfl)
  · exact .inr fun ad he e => h.far hs ad he (by injection e with e; exact e.symm)
theorem under_all {α : Type} {P : α → Prop} : ∀ {l : List α}, (∀ u ∈ l, P u) → ∃ ds : List {u : α // P u}, ds.map (·.1) = l
  | [], _ => ⟨[], rfl⟩
  | u :: l, h => by
    obtain ⟨ds, hd⟩ := under_all (l := l) fun v hv => h v (List.mem_cons_of_mem _ hv)
    exact ⟨⟨u, h u (by simp)⟩ :: ds, by rw [List.map_cons, hd]⟩
theorem swo_item {w : World} {g : Nat} : SWO (ltOf fun x y : {u : EntC // ItemOk w g u} => cmpE x.1.v y.1.v) where
  irrefl x := decide_eq_false fun h => ltK_irrefl _ ((cmpE_lt _ _).1 h)
  trans x y z h1 h2 := decide_eq_true ((cmpE_lt _ _).2 (ltK_trans ((cmpE_lt _ _).1 (of_decide_eq_true h1)) ((cmpE_lt _ _).1 (of_decide_eq_true h2))))
  ntrans x y z h1 h2 := decide_eq_false fun h => not_ltK_trans (fun k => of_decide_eq_false h1 ((cmpE_lt _ _).2 k)) (fun k => of_decide_eq_false h2 ((cmpE_lt _ _).2 k)) ((cmpE_lt _ _).1 h)
set_option maxRecDepth 100000 in
set_option maxHeartbeats 2000000 in
theorem sort_any {B0 : Nat} (w : World) (hE : Env B0 w) (g c n : Nat) (hB0 : B0 ≤ g) (xs : List EntC) (ho : Own w g 141 5 (.slice (some ⟨g, 0, none⟩) n c) n (xs.map EntC.cells)) (hn : n ≤ 5000000) (hn0 : 0 < n) (hat : ∀ u ∈ xs, ItemOk w g u) :
    Calls Tryz.prog 140 #[.slice (some ⟨g, 0, none⟩) n c, .func (.func 96) #[] #[]] w fun e w' =>
      e = .returned (.tuple #[]) ∧ ∃ ys : List EntC, ys.Perm xs ∧ (∀ (i j : Nat) (x y : EntC), i < j → ys[i]? = some x → ys[j]? = some y → ¬ ltK y.v x.v) ∧ Own w' g 141 5 (.slice (some ⟨g, 0, none⟩) n c) n (ys.map EntC.cells) ∧ w.grownBy w' (some g) := by
  have hln : xs.length = n := by simpa using ho.2.2
  have hg : g < w.heap.size := (ho.lt g rfl).2
  obtain ⟨u0, hu0⟩ : ∃ u, xs[0]? = some u := ⟨_, List.getElem?_eq_getElem (by omega)⟩
  haveI : Inhabited {u : EntC // ItemOk w g u} := ⟨⟨u0, hat u0 (List.mem_of_getElem? hu0)⟩⟩
  obtain ⟨ds, hds⟩ := under_all hat
  have hdl : ds.length = n := by rw [← hln, ← hds, List.length_map]
  have hdx : ∀ i (h : i < ds.length), xs[i]? = some (ds[i]).1 := fun i h => by rw [← hds, List.getElem?_map, List.getElem?_eq_getElem h]; rfl
  have hH : HoldsK (fun u : {u : EntC // ItemOk w g u} => u.1.cells) 5 w g 0 ds.toArray := by
    intro t ht
    rw [size_flatK] at ht
    rw [get_flatK _ _ _ _ ht]
    have hi : t / 5 < ds.length := by simp at ht; omega
    obtain ⟨g', c', he, _, _, hc, hf⟩ := ho.at_ (i := t / 5) (x := (ds[t / 5]).1.cells) (by rw [List.getElem?_map, hdx _ hi]; rfl)
    injection he with he
    injection he with he
    injection he with he
    subst he
    have hx : (ds.toArray[t / 5]! : {u : EntC // ItemOk w g u}) = ds[t / 5] := by simp [hi]
    rw [hx]
    have h4 : t % 5 < ((ds[t / 5]).1.cells).length := by simp [EntC.cells]; omega
    have h5 := hc (t % 5) ((ds[t / 5]).1.cells)[t % 5] (List.getElem?_eq_getElem h4)
    refine ⟨?_, hf _⟩
    rw [Nat.zero_add, show t / 5 * 5 + t % 5 = t by omega] at *
    rw [h5]
    simp [h4]
  have eg : ∀ args w, (callFunc 96 args).run Tryz.prog w = .ok (.enter 96 args) w := enters_of Tryz.func96 (by kernel_rfl) rfl
  have hcmp : CmpLays Tryz.prog 96 #[] (fun u : {u : EntC // ItemOk w g u} => u.1.cells) 5 (fun x y => cmpE x.1.v y.1.v) g 0 ds.toArray.size w := fun m os dk _ x y => by
    have hgr := grown_sortK (fun u : {u : EntC // ItemOk w g u} => u.1.cells) 5 w g 0 m dk os
    have hE' := hE.grown hB0 (Nat.le_of_lt (Nat.lt_of_le_of_lt hB0 hg)) hgr
    have hc := compare_any _ hE' (Nat.le_trans (Nat.le_of_lt (Nat.lt_of_le_of_lt hB0 hg)) hgr.size) x.1 y.1 (x.2.grown hgr).at_ (y.2.grown hgr).at_ x.2.len y.2.len _ rfl
    exact (calls_up hc fun e w' h => ⟨_, h.1⟩).mono fun e w' h => ⟨h.1.1, below_grows h.1.2 h.2⟩
  have hcon := AnyQ.slices_SortFunc sortIt 5 Tryz.isAgg141 Tryz.sizeOf141 (fun u : {u : EntC // ItemOk w g u} => u.1.cells) (fun _ => rfl) (fun x v hv => by simp [EntC.cells] at hv; rcases hv with rfl | rfl | rfl | rfl | rfl <;> rfl) (fun x y => cmpE x.1.v y.1.v) swo_item 96 #[] g 0 c ds.toArray w eg hcmp hH hg (by simp; omega)
  rw [show ds.toArray.size = n by simpa using hdl] at hcon
  refine Calls.mono hcon ?_
  rintro e w' ⟨rfl, d', m, os, hp, hs, rfl⟩
  obtain ⟨hsz, _, hperm⟩ := hp
  have hdn : d'.size = n := by rw [hsz]; simpa using hdl
  refine ⟨rfl, d'.toList.map (·.1), ?_, fun i j x y hij hx hy => ?_, ?_, grown_sortK _ _ _ _ _ _ _ _⟩
  · rw [Array.extract_eq_self_of_le (by omega), Array.extract_eq_self_of_le (by simp; omega)] at hperm
    rw [← hds]
    exact hperm.map _
  · rw [List.getElem?_map] at hx hy
    obtain ⟨x', hx', rfl⟩ := Option.map_eq_some_iff.1 hx
    obtain ⟨y', hy', rfl⟩ := Option.map_eq_some_iff.1 hy
    have hi : i < d'.size := by simpa using (List.getElem?_eq_some_iff.1 hx').1
    have hj : j < d'.size := by simpa using (List.getElem?_eq_some_iff.1 hy').1
    have := hs i j (Nat.zero_le _) hij (by omega)
    have e1 : (d'[i]! : {u : EntC // ItemOk w g u}) = x' := by
      have := (List.getElem?_eq_some_iff.1 hx').2
      rw [← this]
      simp [hi]
    have e2 : (d'[j]! : {u : EntC // ItemOk w g u}) = y' := by
      have := (List.getElem?_eq_some_iff.1 hy').2
      rw [← this]
      simp [hj]
    rw [e1, e2] at this
    exact fun h => of_decide_eq_false this ((cmpE_lt _ _).2 h)
  · have hH2 := holdsK_sortWorldK (fun u : {u : EntC // ItemOk w g u} => u.1.cells) 5 w g 0 m ds.toArray d' os hg hH (by rw [hsz])
    refine own_behind (ys := (d'.toList.map (·.1)).map EntC.cells) ho (heap_sortK (fun u : {u : EntC // ItemOk w g u} => u.1.cells) 5 w g 0 m d' os hg) ⟨by simpa using hdn, fun i x hx => ⟨g, 0, rfl, lt_sortWorldK (fun u : {u : EntC // ItemOk w g u} => u.1.cells) 5 w g 0 m d' os hg, fun j v hv => ?_⟩⟩ ?_
    rw [List.map_map, List.getElem?_map] at hx
    rcases hd : d'.toList[i]? with _ | z
    · rw [hd] at hx; cases hx
    · rw [hd] at hx
      simp only [Option.map_some, Option.some.injEq] at hx
      subst hx
      have hi : i < d'.size := by simpa using (List.getElem?_eq_some_iff.1 hd).1
      have hj : j < 5 := by
        have := (List.getElem?_eq_some_iff.1 hv).1
        simpa [EntC.cells] using this
      have := (HoldsK.cell hH2 hi hj).1
      have e1 : (d'[i]! : {u : EntC // ItemOk w g u}) = z := by
        have := (List.getElem?_eq_some_iff.1 hd).2
        rw [← this]
        simp [hi]
      rw [e1] at this
      have e2 : (z.1.cells)[j]! = v := by
        obtain ⟨h1, h2⟩ := List.getElem?_eq_some_iff.1 hv
        have h2' : (z.1.cells)[j] = v := h2
        rw [← h2']
        have h1' : j < (z.1.cells).length := h1
        simp [h1']
      rw [e2] at this
      exact this
    · intro x hx
      obtain ⟨u, _, rfl⟩ := List.mem_map.1 hx
      rfl
end Go.Proofs.YtjncmlglhegnaaaGreatDoor
namespace Go.Proofs.YtjncmlglhegnaaaGreatDoor
open Go.RowKit Go.Sort Go.Lib

/-- of neighbours that are the same the first one stays -/
def cptGo (p : EntC) : List EntC → List EntC
  | [] => []
  | x :: r => if cmpE x.v p.v = 0 then cptGo x r else x :: cptGo x r
def cptF : List EntC → List EntC
  | [] => []
  | x :: r => x :: cptGo x r
theorem cptGo_snoc (p0 : EntC) : ∀ (l : List EntC) (p x : EntC), (p0 :: l).getLast? = some p → cptGo p0 (l ++ [x]) = cptGo p0 l ++ (if cmpE x.v p.v = 0 then [] else [x])
  | [], p, x, h => by
    simp at h
    subst h
    simp [cptGo]
  | y :: r, p, x, h => by
    have h2 : (y :: r).getLast? = some p := by simpa [List.getLast?_cons_cons] using h
    have ih := cptGo_snoc y r p x h2
    simp only [List.cons_append, cptGo]
    by_cases h3 : cmpE y.v p0.v = 0
    · simp only [if_pos h3]; exact ih
    · simp only [if_neg h3, List.cons_append]; rw [ih]
theorem cptF_step {q : List EntC} {j : Nat} {x p : EntC} (hx : q[j + 1]? = some x) (hp : q[j]? = some p) : cptF (q.take (j + 2)) = cptF (q.take (j + 1)) ++ (if cmpE x.v p.v = 0 then [] else [x]) := by
  have e1 : q.take (j + 2) = q.take (j + 1) ++ [x] := take_succ' hx
  have e2 : q.take (j + 1) = q.take j ++ [p] := take_succ' hp
  rw [e1]
  rcases h : q.take (j + 1) with _ | ⟨a, r⟩
  · rw [h] at e2; simp at e2
  · show a :: cptGo a (r ++ [x]) = a :: (cptGo a r) ++ _
    rw [cptGo_snoc a r p x (by rw [← h, e2]; simp)]
    rfl
theorem cptF_len (l : List EntC) : (cptF l).length ≤ l.length := by
  have h : ∀ (l : List EntC) (p : EntC), (cptGo p l).length ≤ l.length := by
    intro l
    induction l with
    | nil => intro p; simp [cptGo]
    | cons a r ih =>
      intro p
      simp only [cptGo]
      split
      · exact Nat.le_trans (ih a) (by simp)
      · simpa using ih a
  cases l with
  | nil => simp [cptF]
  | cons a r => simpa [cptF] using h r a
/-- the row while elements are moved down -/
def CptInv (q : List EntC) (n j k : Nat) (cur : List EntC) : Prop :=
  cur.length = n ∧ k = (cptF (q.take j)).length ∧ k < j ∧ j ≤ n ∧ cur.take k = cptF (q.take j) ∧ cur.drop (j - 1) = q.drop (j - 1)
theorem CptInv.get {q cur : List EntC} {n j k i : Nat} (h : CptInv q n j k cur) (hi : j - 1 ≤ i) {p : EntC} (hp : q[i]? = some p) : cur[i]? = some p := by
  have h1 := congrArg (fun l => l[i - (j - 1)]?) h.2.2.2.2.2
  simp only [List.getElem?_drop] at h1
  rw [show j - 1 + (i - (j - 1)) = i by omega] at h1
  rw [h1, hp]
theorem CptInv.skip {q cur : List EntC} {n j k : Nat} (h : CptInv q n (j + 1) k cur) {x p : EntC} (hx : q[j + 1]? = some x) (hp : q[j]? = some p) (hf : cmpE x.v p.v = 0) (hj : j + 1 < n) : CptInv q n (j + 2) k cur := by
  obtain ⟨h1, h2, h3, h4, h5, h6⟩ := h
  have e := cptF_step hx hp
  rw [if_pos hf, List.append_nil] at e
  refine ⟨h1, by rw [e]; exact h2, by omega, by omega, by rw [e]; exact h5, ?_⟩
  have := congrArg (List.drop 1) h6
  simpa [List.drop_drop] using this
theorem CptInv.move {q cur : List EntC} {n j k : Nat} (h : CptInv q n (j + 1) k cur) {x p : EntC} (hx : q[j + 1]? = some x) (hp : q[j]? = some p) (hf : ¬ cmpE x.v p.v = 0) (hj : j + 1 < n) : CptInv q n (j + 2) (k + 1) (cur.set k x) := by
  obtain ⟨h1, h2, h3, h4, h5, h6⟩ := h
  have e := cptF_step hx hp
  rw [if_neg hf] at e
  refine ⟨by simpa using h1, by rw [e, List.length_append, ← h2]; rfl, by omega, by omega, ?_, ?_⟩
  · rw [e, ← h5, List.take_add_one, List.take_set_of_le (by omega), List.getElem?_set_self (by omega)]
    rfl
  · rw [show j + 2 - 1 = j + 1 by omega, List.drop_set_of_lt (by omega)]
    have := congrArg (List.drop 1) h6
    simpa [List.drop_drop] using this
theorem Own.setEnt {w : World} {base g n c k : Nat} {t : TypeId} {cur : List EntC} (h : Own w base t 5 (.slice (some ⟨g, 0, none⟩) n c) n (cur.map EntC.cells)) {p : EntC} (hk : k < cur.length) :
    Own (((((w.setCell ⟨g, k * 5, none⟩ (.int .i64 p.v.dev)).setCell ⟨g, k * 5 + 1, none⟩ (.int .i64 p.v.no)).setCell ⟨g, k * 5 + 2, none⟩ (.int .i64 p.v.day)).setCell ⟨g, k * 5 + 3, none⟩ (.slice p.A p.v.seen.length p.c)).setCell ⟨g, k * 5 + 4, none⟩ (.string ⟨p.v.text.toArray⟩)) base t 5 (.slice (some ⟨g, 0, none⟩) n c) n ((cur.set k p).map EntC.cells) := by
  have hx : (cur.map EntC.cells)[k]? = some (EntC.cells cur[k]) := by rw [List.getElem?_map, List.getElem?_eq_getElem hk]; rfl
  have hs : ∀ x : List Value, ((cur.map EntC.cells).set k x)[k]? = some x := fun x => by rw [List.getElem?_set_self (by simpa using hk)]
  have h1 := h.stored (i := k) (j := 0) hx (by omega) (.int .i64 p.v.dev)
  have h2 := h1.stored (i := k) (j := 1) (hs _) (by omega) (.int .i64 p.v.no)
  rw [List.set_set] at h2
  have h3 := h2.stored (i := k) (j := 2) (hs _) (by omega) (.int .i64 p.v.day)
  rw [List.set_set] at h3
  have h4 := h3.stored (i := k) (j := 3) (hs _) (by omega) (.slice p.A p.v.seen.length p.c)
  rw [List.set_set] at h4
  have h5 := h4.stored (i := k) (j := 4) (hs _) (by omega) (.string ⟨p.v.text.toArray⟩)
  rw [List.set_set] at h5
  rw [List.map_set]
  exact h5
set_option maxRecDepth 100000 in
set_option maxHeartbeats 1000000 in
theorem sorted1_any {B0 : Nat} (w : World) (hE : Env B0 w) (hB0 : B0 ≤ w.heap.size) (bx : Nat) (hb : Loc w bx #[.func (.func 96) #[] #[]]) (x y : EntC) (hx : EntAt w x) (hy : EntAt w y) (lx : x.v.seen.length ≤ 1099511627776 ∧ x.v.text.length ≤ 140737488351232) (ly : y.v.seen.length ≤ 1099511627776 ∧ y.v.text.length ≤ 140737488351232) (r : Bool) (hr : decide (cmpE x.v y.v = 0) = r) :
    Calls Tryz.prog 142 #[.agg x.cells.toArray, .agg y.cells.toArray, .pointer (some ⟨bx, 0, none⟩)] w fun e w' => e = .returned (.bool r) ∧ Below w.heap.size w w' := by
  obtain ⟨q, hq⟩ : ∃ q, cmpE x.v y.v = q := ⟨_, rfl⟩
  rw [hq] at hr
  have HC := Lib.hid (fun W (hb : Below w.heap.size w W) => compare_any W (hE.below (hb.mono hB0)) (Nat.le_trans hB0 hb.size) x y (hx.below hb) (hy.below hb) lx ly q hq)
  have HX := Lib.hid hb
  have HR := Lib.hid hr
  clear hE hB0 hx hy lx ly hq hr hb
  obtain ⟨⟨xd, xn, xy, xs, xt⟩, xA, xc⟩ := x
  obtain ⟨⟨yd, yn, yy, ys, yt⟩, yA, yc⟩ := y
  simp only [EntC.cells] at HC ⊢
  obtain ⟨zX, kX, fX⟩ := HX.out
  go_enter Tryz.func142, Tryz.ntmps142
  have HBa := Lib.hid (fun o1 o2 => ((Below.refl w.heap.size w).alloc (Nat.le_refl _) o1).alloc (by simp) o2)
  go_wp2_with ((with_reducible refine (HC.out _ (HBa.out _ _)).mono ?_); rintro e w2 ⟨rfl, hb2⟩)
  go_ret
  exact ⟨ret_bool (by rw [← HR.out, Bool.eq_iff_iff]; simp), (HBa.out _ _).trans (hb2.mono (by simp; omega))⟩
theorem Own.shrinkM {w : World} {base : Nat} {e : TypeId} {size n c k : Nat} {A : Option Addr} {xs : List (List Value)} (h : Own w base e size (.slice A n c) n xs) (hA : A ≠ none) (hk : k ≤ n) : Own w base e size (.slice A k c) k (xs.take k) := by
  obtain ⟨⟨h1, h2⟩, h3, h4⟩ := h
  refine ⟨⟨?_, ?_⟩, fun x hx => h3 x (List.mem_of_mem_take hx), by rw [List.length_take]; omega⟩
  · rw [flat_len _ (fun x hx => h3 x (List.mem_of_mem_take hx)), List.length_take, h4, Nat.min_eq_left hk]
  · rcases h2 with ⟨hv, _⟩ | ⟨g, cap, cur, hv, hb, hg, hnc, hcm, hcs, htake⟩
    · injection hv with hv
      exact absurd hv hA
    · injection hv with hv1 hv2 hv3
      subst hv1 hv3
      refine .inr ⟨g, c, cur, rfl, hb, hg, by omega, hcm, hcs, ?_⟩
      have e1 : xs.flatten = (xs.take k).flatten ++ (xs.drop k).flatten := by rw [← List.flatten_append, List.take_append_drop]
      have e2 : (xs.take k).flatten.length = k * size := by rw [flat_len _ (fun x hx => h3 x (List.mem_of_mem_take hx)), List.length_take, h4, Nat.min_eq_left hk]
      have e3 : cur.toList.take (k * size) = (cur.toList.take (n * size)).take (k * size) := by
        rw [List.take_take, Nat.min_eq_left (Nat.mul_le_mul_right _ hk)]
      rw [e3, htake, e1, ← e2, List.take_left']
      rfl
theorem Own.capM {w : World} {base : Nat} {e : TypeId} {size n c : Nat} {A : Option Addr} {xs : List (List Value)} (h : Own w base e size (.slice A n c) n xs) (hA : A ≠ none) : n ≤ c := by
  rcases h.1.2 with ⟨hv, _⟩ | ⟨g, cap, cur, hv, _, _, hnc, _⟩
  · injection hv with hv
    exact absurd hv hA
  · injection hv with _ _ hv
    omega
theorem infoItem : (Tryz.prog.info? 141).map (fun i => (i.zero, i.size, i.bytes)) = some (some (.agg #[.int .i64 0, .int .i64 0, .int .i64 0, .slice none 0 0, .string ⟨#[]⟩]), 5, 64) := by kernel_rfl
/-- clear of the last items -/
theorem run_clear_ent {w : World} {base g n c k : Nat} {q : List EntC} (h : Own w base 141 5 (.slice (some ⟨g, 0, none⟩) n c) n (q.map EntC.cells)) (hk : k < n) (ty : TypeId) :
    ∃ w', (Builtin.clear_ #[139] ty #[.slice (some ⟨g, k * 5, none⟩) (n - k) (c - k)]).run Tryz.prog w = .ok (.tuple #[]) w' ∧ Own w' base 141 5 (.slice (some ⟨g, 0, none⟩) k c) k ((q.take k).map EntC.cells) ∧ w.grownBy w' (some g) ∧ w'.heap.size = w.heap.size := by
  have hsh := h.shrinkM (by simp) (Nat.le_of_lt hk)
  rw [← List.map_take] at hsh
  obtain ⟨⟨h1, h2⟩, h3, h4⟩ := h
  obtain ⟨⟨s1, s2⟩, s3, s4⟩ := hsh
  rcases h2 with ⟨hv, _⟩ | ⟨g', cap, cur, hv, hb, hg, hnc, hcm, hcs, htake⟩
  · cases hv
  · rcases s2 with ⟨hv', _⟩ | ⟨g2, cap2, cur2, hv', _, hg', _, _, _, htake'⟩
    · cases hv'
    · injection hv with hv1 hv2 hv3
      injection hv1 with hv1
      injection hv1 with hv1
      subst hv1 hv3
      injection hv' with hv1 hv2 hv3
      injection hv1 with hv1
      injection hv1 with hv1
      subst hv1 hv3
      rw [hg] at hg'
      injection hg' with hg'
      injection hg' with hg'
      subst hg'
      obtain ⟨i0, hi0, hi1, hi2, hi3⟩ := info_parts infoItem
      have hz : ∀ w, (zeroValue 141).run Tryz.prog w = .ok (.agg #[.int .i64 0, .int .i64 0, .int .i64 0, .slice none 0 0, .string ⟨#[]⟩]) w := fun w => by simp [zeroValue, typeInfo, hi0, hi1, go_sem]
      generalize hZ : (Value.agg #[.int .i64 0, .int .i64 0, .int .i64 0, .slice none 0 0, .string ⟨#[]⟩]).cells = Z at *
      have hZs : Z.size = 5 := by rw [← hZ]; rfl
      have hZ1 : ∀ v ∈ Z.toList, v.oneCell' = true := by rw [← hZ]; intro v hv; simp [Value.cells] at hv; rcases hv with rfl | rfl | rfl <;> rfl
      have hzc : (Builtin.zeroCells Z (n - k)).toList.length = (n - k) * 5 := by simp [Builtin.zeroCells, hZs]
      have hone : ∀ v ∈ (Builtin.zeroCells Z (n - k)).toList, v.oneCell' = true := by
        intro v hv
        simp only [Builtin.zeroCells, Array.toList_map, List.mem_map] at hv
        obtain ⟨i, _, rfl⟩ := hv
        have : i % Z.size < Z.size := Nat.mod_lt _ (by omega)
        refine hZ1 _ ?_
        simp [this]
      have hst := run_storeCells_at Tryz.prog g (k * 5) 141 (Builtin.zeroCells Z (n - k)).toList 0 cur w hg (by rw [hzc]; omega) hone
      obtain ⟨m, hm⟩ : ∃ m, n - k = m + 1 := ⟨n - k - 1, by omega⟩
      have hrun : (Builtin.clear_ #[139] ty #[.slice (some ⟨g, k * 5, none⟩) (n - k) (c - k)]).run Tryz.prog w = .ok (.tuple #[]) (w.setRow g (cur.toList.take (k * 5 + 0) ++ (Builtin.zeroCells Z (n - k)).toList ++ cur.toList.drop (k * 5 + 0 + (Builtin.zeroCells Z (n - k)).toList.length)).toArray) := by
        rw [hm] at hst ⊢
        generalize hzs : (Builtin.zeroCells Z (m + 1)).toList = zs at hst ⊢
        simp only [Nat.add_zero] at hst ⊢
        simp [-List.append_assoc, Builtin.clear_, run_underlying Tryz.underlying139, hz, hZ, hzs, hst]
      rw [Nat.add_zero, hzc] at hrun
      generalize (Builtin.zeroCells Z (n - k)).toList = zs at *
      refine ⟨_, hrun, ⟨⟨s1, .inr ⟨g, c, _, rfl, hb, setRow_heap w g cur _ _ _ hg, by omega, hcm, ?_, ?_⟩⟩, s3, s4⟩, ⟨rfl, rfl, rfl, by simp [World.setRow], fun i _ hne => setRow_other w g i _ (fun e => hne (by rw [e]))⟩, by simp [World.setRow]⟩
      · simp only [List.size_toArray, List.length_append, List.length_take, List.length_drop, Array.length_toList, hzc]
        omega
      · rw [List.append_assoc, List.take_append_of_le_length (by simp; omega), List.take_take, Nat.min_self]
        exact htake'
theorem wpList_clear_ent {w : World} {ops : Array Oper} {rest : List Oper} {o : Oper} {a : Act} {X : Exit → Act → World → Prop} {base g n c k : Nat} {q : List EntC} (hgd : o.guard = none) (s : Operand)
    (hop : o.op = .call { callee := .builtin .clear, args := #[s], argTypes := #[139] }) (hs : a.eval s = .slice (some ⟨g, k * 5, none⟩) (n - k) (c - k))
    (h : Own w base 141 5 (.slice (some ⟨g, 0, none⟩) n c) n (q.map EntC.cells)) (hk : k < n)
    (hK : ∀ w', Own w' base 141 5 (.slice (some ⟨g, 0, none⟩) k c) k ((q.take k).map EntC.cells) → w.grownBy w' (some g) → wpList Tryz.prog ops X rest (a.put o.dst (.tuple #[])) w') :
    wpList Tryz.prog ops X (o :: rest) a w := by
  refine wpList_plain hgd fun K' hK' => ?_
  obtain ⟨w', hrun, r1, r2, r3⟩ := run_clear_ent h hk o.type
  unfold Oper.wp
  simp [execOp, hop, resolve, invoke, builtin, hs, hrun, Result.andThen]
  exact hK' _ _ (hK w' r1 r2)
end Go.Proofs.YtjncmlglhegnaaaGreatDoor
namespace Go.Proofs.YtjncmlglhegnaaaGreatDoor
open Go.RowKit Go.Sort Go.Lib

theorem cptF_ok {q : List EntC} : ∀ {k : Nat}, (∀ j x p, j + 1 < k → q[j + 1]? = some x → q[j]? = some p → ¬ cmpE x.v p.v = 0) → cptF (q.take k) = q.take k
  | 0, _ => by simp [cptF]
  | 1, _ => by
    rcases q with _ | ⟨a, r⟩
    · simp [cptF]
    · simp [cptF, cptGo]
  | k + 2, h => by
    have ih := cptF_ok (q := q) (k := k + 1) fun j x p hj => h j x p (by omega)
    rcases hx : q[k + 1]? with _ | x
    · have hle : q.length ≤ k + 1 := List.getElem?_eq_none_iff.1 hx
      rw [List.take_of_length_le hle] at ih
      rw [List.take_of_length_le (by omega)]
      exact ih
    · obtain ⟨p, hp⟩ : ∃ p, q[k]? = some p := ⟨_, List.getElem?_eq_getElem (by have := (List.getElem?_eq_some_iff.1 hx).1; omega)⟩
      rw [cptF_step hx hp, if_neg (h k x p (by omega) hx hp), ih]
      exact (take_succ' hx).symm
/-- no two neighbours among the first k are the same -/
def NoTwo (q : List EntC) (k : Nat) : Prop := ∀ j x p, j + 1 < k → q[j + 1]? = some x → q[j]? = some p → ¬ cmpE x.v p.v = 0
set_option maxRecDepth 100000 in
set_option maxHeartbeats 2000000 in
theorem Compact_nil (w : World) (f : Value) : Calls Tryz.prog 141 #[.slice none 0 0, f] w fun e w' => e = .returned (.slice none 0 0) ∧ w = w' := by
  go_enter Tryz.func141, Tryz.ntmps141
  go_wp2_with (fail)
  go_ret
  exact ⟨rfl, rfl⟩
theorem grown_of_belowM {w w' : World} (h : Below w.heap.size w w') (row : Option Nat) : w.grownBy w' row := ⟨h.os, h.tape, h.output, h.size, fun k hk _ => h.block k hk⟩
set_option maxRecDepth 100000 in
set_option maxHeartbeats 4000000 in
theorem Compact_any {B0 : Nat} (w : World) (hE : Env B0 w) (g c n : Nat) (hB0 : B0 ≤ g) (q : List EntC) (ho : Own w g 141 5 (.slice (some ⟨g, 0, none⟩) n c) n (q.map EntC.cells)) (hn : n ≤ 5000000) (bx : Nat) (hb : Loc w bx #[.func (.func 96) #[] #[]]) (hne : g ≠ bx) (hat : ∀ u ∈ q, ItemOk w g u) :
    Calls Tryz.prog 141 #[.slice (some ⟨g, 0, none⟩) n c, .func (.func 142) #[] #[.pointer (some ⟨bx, 0, none⟩)]] w fun e w' =>
      ∃ k, e = .returned (.slice (some ⟨g, 0, none⟩) k c) ∧ k = (cptF q).length ∧ Own w' g 141 5 (.slice (some ⟨g, 0, none⟩) k c) k ((cptF q).map EntC.cells) ∧ w.grownBy w' (some g) := by
  have hql : q.length = n := by simpa using ho.2.2
  by_cases hn2 : n < 2
  · have hc : cptF q = q := by have := cptF_ok (q := q) (k := n) (fun j x p hj => by omega); rwa [List.take_of_length_le (by omega)] at this
    have hni : (n : Int) < 2 := by omega
    have HC := Lib.hid hc
    have HO := Lib.hid ho
    have HQ := Lib.hid hql
    clear hE hat hb ho hql hc hn2 hB0 hne
    go_enter Tryz.func141, Tryz.ntmps141
    go_wp2_with (fail)
    go_ret
    exact ⟨n, rfl, by rw [HC.out, HQ.out], by rw [HC.out]; exact HO.out, grown_row g (Below.refl _ _)⟩
  have hni : ¬ ((n : Int) < 2) := by omega
  have HO := Lib.hid ho
  have HX := Lib.hid hb
  have HQ := Lib.hid hql
  have HE := Lib.hid hE
  have HB0 := Lib.hid hB0
  have HAT := Lib.hid hat
  have HNE := Lib.hid hne
  have HGL := Lib.hid (ho.lt g rfl).2
  clear hE hat hb ho hql hn2 hB0 hne
  go_enter Tryz.func141, Tryz.ntmps141
  go_wp2_with (fail)
  go_loopw [5] (fun i wr => ∃ k : Nat, 0 < k ∧ k ≤ n ∧ i = .int .i64 (k : Int) ∧ Below w.heap.size w wr ∧ NoTwo q k) (fun i _ => n - (intOf i).toNat)
  case atStart => exact ⟨1, by omega, by omega, rfl, Below.refl _ _, fun j x p hj => by omega⟩
  case round =>
    obtain ⟨k, hk0, hk, rfl, hb, hz⟩ := hrel
    obtain ⟨wo, rfl⟩ : ∃ wo : World, wo = wr := ⟨_, rfl⟩
    have HB := Lib.hid hb
    have HZ := Lib.hid hz
    clear hb hz
    by_cases hlt : k < n
    · obtain ⟨x, hx⟩ : ∃ v, q[k]? = some v := ⟨_, List.getElem?_eq_getElem (by rw [HQ.out]; exact hlt)⟩
      obtain ⟨m, hm⟩ : ∃ m, k = m + 1 := ⟨k - 1, by omega⟩
      obtain ⟨y, hy⟩ : ∃ v, q[m]? = some v := ⟨_, List.getElem?_eq_getElem (by rw [HQ.out]; omega)⟩
      have HO1 := Lib.hid (HO.out.below HB.out)
      have IX := HAT.out x (List.mem_of_getElem? hx)
      have IY := HAT.out y (List.mem_of_getElem? hy)
      obtain ⟨r, hr⟩ : ∃ r, decide (cmpE x.v y.v = 0) = r := ⟨_, rfl⟩
      have HC := Lib.hid (fun W (hb : Below wo.heap.size wo W) => sorted1_any W (HE.out.below ((HB.out.trans (hb.mono HB.out.size)).mono (Nat.le_trans HB0.out (Nat.le_of_lt HGL.out)))) (Nat.le_trans (Nat.le_trans HB0.out (Nat.le_of_lt HGL.out)) (HB.out.trans (hb.mono HB.out.size)).size) bx ((HX.out.below HB.out).below hb) x y ((IX.at_.below HB.out).below hb) ((IY.at_.below HB.out).below hb) IX.len IY.len r hr)
      have hS : ∀ w', Below wo.heap.size wo w' → _ := fun w' hb => And.intro (ent_is HO1.out.sl' hx rfl hb).2 (And.intro (ent_is HO1.out.sl' hy rfl hb).2 hb)
      simp only [and_assoc] at hS
      have HSS := Lib.hid hS
      simp only [EntC.cells, Nat.zero_add] at HC HSS
      have hki : (k : Int) < (n : Int) := by omega
      have hmi : (m : Int) < (n : Int) := by omega
      have hk00 : (0 : Int) ≤ (k : Int) := by omega
      have hwm : IntKind.i64.wrap ((k : Int) - 1) = (m : Int) := by rw [IntWalk.i64_in _ (by omega)]; omega
      have HHX := Lib.hid hx
      have HHY := Lib.hid hy
      have HR := Lib.hid hr
      have HM := Lib.hid hm
      clear hS hx hy hr IX IY hm
      go_upto_region 6 with (fail)
      have hB7 := Below.refl wo.heap.size wo
      go_region_held3 (fun w' => w'.cell? ⟨g, k * 5, none⟩ = some (.int .i64 x.v.dev) ∧ w'.cell? ⟨g, k * 5 + 1, none⟩ = some (.int .i64 x.v.no) ∧ w'.cell? ⟨g, k * 5 + 2, none⟩ = some (.int .i64 x.v.day) ∧ w'.cell? ⟨g, k * 5 + 3, none⟩ = some (.slice x.A x.v.seen.length x.c) ∧ w'.cell? ⟨g, k * 5 + 4, none⟩ = some (.string ⟨x.v.text.toArray⟩) ∧ w'.cell? ⟨g, m * 5, none⟩ = some (.int .i64 y.v.dev) ∧ w'.cell? ⟨g, m * 5 + 1, none⟩ = some (.int .i64 y.v.no) ∧ w'.cell? ⟨g, m * 5 + 2, none⟩ = some (.int .i64 y.v.day) ∧ w'.cell? ⟨g, m * 5 + 3, none⟩ = some (.slice y.A y.v.seen.length y.c) ∧ w'.cell? ⟨g, m * 5 + 4, none⟩ = some (.string ⟨y.v.text.toArray⟩) ∧ Below wo.heap.size wo w')
        (first | exact HSS.out _ hB7 | (refine HSS.out _ ?_; repeat (first | exact hB7 | exact Below.refl _ _ | refine Below.drew ?_ | refine Below.alloc ?_ (by first | exact Nat.le_refl _ | exact hB7.size | (simp <;> omega)) _ | refine Below.setCell ?_ (by first | exact Nat.le_refl _ | exact hB7.size | (simp <;> omega)) _)))
        (((with_reducible refine (HC.out _ ?hs1).mono ?_)
          (case hs1 => go_split_ands; assumption)
          rintro e w3 ⟨rfl, hbF⟩
          have hB7 : Below wo.heap.size wo w3 := by go_split_ands; exact Below.trans (by assumption) (hbF.mono (Below.size (by assumption)))))
      cases r
      · have HB8 := Lib.hid (HB.out.trans (hB7.mono HB.out.size))
        have hw1 : IntKind.i64.wrap ((k : Int) + 1) = (k : Int) + 1 := IntWalk.i64_in _ (by omega)
        have hne : ¬ cmpE x.v y.v = 0 := of_decide_eq_false HR.out
        have hz : NoTwo q (k + 1) := fun j x' p' hj hx' hp' => by
          by_cases hjk : j + 1 < k
          · exact HZ.out j x' p' hjk hx' hp'
          · obtain rfl : j = m := by have := HM.out; omega
            rw [← HM.out, HHX.out] at hx'
            rw [HHY.out] at hp'
            injection hx' with hx'
            injection hp' with hp'
            rw [← hx', ← hp']
            exact hne
        have HZ2 := Lib.hid hz
        clear hz hne
        go_wp2_with (fail)
        go_roundw
        case rel => exact ⟨k + 1, by omega, hlt, by go_num, HB8.out, HZ2.out⟩
        case measure => simp [intOf]; omega
      · have HB8 := Lib.hid (HB.out.trans (hB7.mono HB.out.size))
        have hcap := HO.out.capM (by simp)
        have hkc : (k : Int) < (c : Int) := by omega
        have hkn : k ≠ c := by omega
        have hinv : CptInv q n (k + 1) k q := by
          have e1 : cptF (q.take k) = q.take k := cptF_ok HZ.out
          have e2 : cptF (q.take (k + 1)) = q.take k := by
            have := cptF_step (q := q) (j := m) (x := x) (p := y) (by rw [← HM.out]; exact HHX.out) HHY.out
            rw [if_pos (of_decide_eq_true HR.out), List.append_nil, ← HM.out, show m + 2 = k + 1 by have := HM.out; omega, e1] at this
            exact this
          refine ⟨HQ.out, by rw [e2, List.length_take, HQ.out]; omega, by omega, by omega, e2.symm, rfl⟩
        have HV := Lib.hid hinv
        have HO2 := Lib.hid (HO.out.below HB8.out)
        have HG2 := Lib.hid (grown_row g HB8.out)
        clear hinv hcap HO1 HSS HC hB7
        go_wp2_with (fail)
        generalize hn2 : n - k = n2
        generalize hc2 : c - k = c2
        have HN2 := Lib.hid hn2
        clear hn2 hc2 HHX HHY HR HZ HB HB8
        clear hbF
        go_loopw [5, 7] (fun a b wr => ∃ (i kk : Nat) (cur : List EntC), a = .int .i64 (kk : Int) ∧ b = .int .i64 ((i + 1 : Nat) : Int) ∧ CptInv q n (k + i + 1) kk cur ∧ Own wr g 141 5 (.slice (some ⟨g, 0, none⟩) n c) n (cur.map EntC.cells) ∧ w.grownBy wr (some g)) (fun _ b _ => n - (intOf b).toNat)
        case atStart => exact ⟨0, k, q, rfl, rfl, HV.out, HO2.out, HG2.out⟩
        case round =>
          obtain ⟨i, kk, cur, rfl, rfl, hd, ho, hg⟩ := hrel
          clear HO2 HG2 HV
          obtain ⟨wo2, rfl⟩ : ∃ wo2 : World, wo2 = wr := ⟨_, rfl⟩
          obtain ⟨jj, hjj⟩ : ∃ jj, i + 1 = jj := ⟨_, rfl⟩
          rw [hjj]
          have hkj := hd.2.2.1
          have hjn := hd.2.2.2.1
          have HD := Lib.hid hd
          have HO2 := Lib.hid ho
          have HG := Lib.hid hg
          clear hd ho hg
          by_cases hlt2 : jj < n2
          · have hn2 := HN2.out
            obtain ⟨x2, hx2⟩ : ∃ p, q[k + i + 1]? = some p := ⟨_, List.getElem?_eq_getElem (by have := HQ.out; omega)⟩
            obtain ⟨y2, hy2⟩ : ∃ p, q[k + i]? = some p := ⟨_, List.getElem?_eq_getElem (by have := HQ.out; omega)⟩
            have hcx := HD.out.get (i := k + i + 1) (by omega) hx2
            have hcy := HD.out.get (i := k + i) (by omega) hy2
            have IX := (HAT.out x2 (List.mem_of_getElem? hx2)).grown HG.out
            have IY := (HAT.out y2 (List.mem_of_getElem? hy2)).grown HG.out
            obtain ⟨r, hr⟩ : ∃ r, decide (cmpE x2.v y2.v = 0) = r := ⟨_, rfl⟩
            have HL1 := HX.out.grown HG.out (fun e => HNE.out (by injection e))
            have HE1 := HE.out.grown HB0.out (Nat.le_trans HB0.out (Nat.le_of_lt HGL.out)) HG.out
            have HC := Lib.hid (fun W (hb : Below wo2.heap.size wo2 W) => sorted1_any W (HE1.below (hb.mono (Nat.le_trans (Nat.le_trans HB0.out (Nat.le_of_lt HGL.out)) HG.out.size))) (Nat.le_trans (Nat.le_trans (Nat.le_trans HB0.out (Nat.le_of_lt HGL.out)) HG.out.size) hb.size) bx (HL1.below hb) x2 y2 (IX.at_.below hb) (IY.at_.below hb) IX.len IY.len r hr)
            have hS : ∀ w', Below wo2.heap.size wo2 w' → _ := fun w' hb => And.intro (ent_is HO2.out.sl' hcx rfl hb).2 (And.intro (ent_is HO2.out.sl' hcy rfl hb).2 hb)
            simp only [and_assoc] at hS
            have HSS := Lib.hid hS
            rw [show k + i + 1 = k + jj by omega] at HSS
            simp only [EntC.cells, Nat.zero_add, Nat.add_mul] at HC HSS
            have hki : (jj : Int) < (n2 : Int) := by omega
            have hmi : (i : Int) < (n2 : Int) := by omega
            have hk00 : (0 : Int) ≤ (jj : Int) := by omega
            have hwm : IntKind.i64.wrap ((jj : Int) - 1) = (i : Int) := by rw [IntWalk.i64_in _ (by omega)]; omega
            have hkkn : (kk : Int) < (n : Int) := by omega
            have HHX := Lib.hid hx2
            have HHY := Lib.hid hy2
            have HR := Lib.hid hr
            have HJ := Lib.hid hjj
            clear hS hx2 hy2 hcx hcy hr IX IY HL1 HE1 hjj hn2
            go_upto_region 11 with (fail)
            have hB7 := Below.refl wo2.heap.size wo2
            go_region_held3 (fun w' => w'.cell? ⟨g, k * 5 + jj * 5, none⟩ = some (.int .i64 x2.v.dev) ∧ w'.cell? ⟨g, k * 5 + jj * 5 + 1, none⟩ = some (.int .i64 x2.v.no) ∧ w'.cell? ⟨g, k * 5 + jj * 5 + 2, none⟩ = some (.int .i64 x2.v.day) ∧ w'.cell? ⟨g, k * 5 + jj * 5 + 3, none⟩ = some (.slice x2.A x2.v.seen.length x2.c) ∧ w'.cell? ⟨g, k * 5 + jj * 5 + 4, none⟩ = some (.string ⟨x2.v.text.toArray⟩) ∧ w'.cell? ⟨g, k * 5 + i * 5, none⟩ = some (.int .i64 y2.v.dev) ∧ w'.cell? ⟨g, k * 5 + i * 5 + 1, none⟩ = some (.int .i64 y2.v.no) ∧ w'.cell? ⟨g, k * 5 + i * 5 + 2, none⟩ = some (.int .i64 y2.v.day) ∧ w'.cell? ⟨g, k * 5 + i * 5 + 3, none⟩ = some (.slice y2.A y2.v.seen.length y2.c) ∧ w'.cell? ⟨g, k * 5 + i * 5 + 4, none⟩ = some (.string ⟨y2.v.text.toArray⟩) ∧ Below wo2.heap.size wo2 w')
              (first | exact HSS.out _ hB7 | (refine HSS.out _ ?_; repeat (first | exact hB7 | exact Below.refl _ _ | refine Below.drew ?_ | refine Below.alloc ?_ (by first | exact Nat.le_refl _ | exact hB7.size | (simp <;> omega)) _ | refine Below.setCell ?_ (by first | exact Nat.le_refl _ | exact hB7.size | (simp <;> omega)) _)))
              (((with_reducible refine (HC.out _ ?hs1).mono ?_)
                (case hs1 => go_split_ands; assumption)
                rintro e w5 ⟨rfl, hbF⟩
                have hB7 : Below wo2.heap.size wo2 w5 := by go_split_ands; exact Below.trans (by assumption) (hbF.mono (Below.size (by assumption)))))
            have hw1 : IntKind.i64.wrap ((jj : Int) + 1) = (jj : Int) + 1 := IntWalk.i64_in _ (by have := HN2.out; omega)
            have hw2 : IntKind.i64.wrap ((kk : Int) + 1) = (kk : Int) + 1 := IntWalk.i64_in _ (by omega)
            have HB9 := Lib.hid hB7
            have HO3 := Lib.hid (HO2.out.below hB7)
            have HG3 := Lib.hid (HG.out.andThen (row' := none) (grown_of_belowM hB7 none) (fun j hj => by cases hj))
            have HSE := Lib.hid (HSS.out _ hB7)
            clear HSS HC hB7 hbF
            cases r
            · obtain ⟨z, hz⟩ : ∃ z, cur[kk]? = some z := ⟨_, List.getElem?_eq_getElem (by have := HD.out.1; omega)⟩
              obtain ⟨_, _, hv1, _, hgl1, hcell, hfr⟩ := HO3.out.at_ (i := kk) (x := EntC.cells z) (by rw [List.getElem?_map, hz]; rfl)
              injection hv1 with hv1
              injection hv1 with hv1
              injection hv1 with hv1
              subst hv1
              have d0 := hcell 0 _ rfl
              have d1 := hcell 1 _ rfl
              have d2 := hcell 2 _ rfl
              have d3 := hcell 3 _ rfl
              have d4 := hcell 4 _ rfl
              rw [Nat.add_zero] at d0
              obtain ⟨c0, c1, c2, c3, c4, _⟩ := HSE.out
              have HZ := Lib.hid hz
              clear hcell hz HSE
              go_wp2_with (fail)
              go_roundw
              case rel =>
                refine ⟨i + 1, kk + 1, cur.set kk x2, by go_num, by have := HJ.out; subst this; go_num, HD.out.move HHX.out HHY.out (of_decide_eq_false HR.out) (by have := HN2.out; have := HJ.out; omega), HO3.out.setEnt (p := x2) (List.getElem?_eq_some_iff.1 HZ.out).1, ?_⟩
                exact ((((HG3.out.andThen (grownBy_setCell _ _ _) (fun j hj => .inr (by injection hj with hj; rw [← hj]))).andThen (grownBy_setCell _ _ _) (fun j hj => .inr (by injection hj with hj; rw [← hj]))).andThen (grownBy_setCell _ _ _) (fun j hj => .inr (by injection hj with hj; rw [← hj]))).andThen (grownBy_setCell _ _ _) (fun j hj => .inr (by injection hj with hj; rw [← hj]))).andThen (grownBy_setCell _ _ _) (fun j hj => .inr (by injection hj with hj; rw [← hj]))
              case measure => simp [intOf]; have := HN2.out; omega
            · go_wp2_with (fail)
              go_roundw
              case rel => exact ⟨i + 1, kk, cur, rfl, by have := HJ.out; subst this; go_num, HD.out.skip HHX.out HHY.out (of_decide_eq_true HR.out) (by have := HN2.out; have := HJ.out; omega), HO3.out, HG3.out⟩
              case measure => simp [intOf]; have := HN2.out; omega
          · have hje : k + jj = n := by have := HN2.out; omega
            have hkk : kk < n := by omega
            have hni2 : ¬ ((jj : Int) < (n2 : Int)) := by omega
            have hcap := HO2.out.capM (by simp)
            have h0 : (kk : Int) < (c : Int) := by omega
            have h00 : kk ≠ c := by omega
            clear hcap
            go_wp2_with ((with_reducible show wpList _ _ _ _ _ _); refine wpList_clear_ent (k := kk) rfl (.tmp 61) rfl rfl HO2.out hkk ?_; intro w3 ho3 hg3)
            go_ret
            obtain ⟨d1, d2, d3, d4, d5, d6⟩ := HD.out
            have ht : q.take (k + i + 1) = q := List.take_of_length_le (by have := HQ.out; omega)
            rw [ht] at d2 d5
            rw [d5] at ho3
            exact ⟨kk, rfl, d2, ho3, HG.out.andThen hg3 (fun j hj => .inr hj)⟩
    · obtain rfl : k = n := by omega
      have hki : ¬ ((k : Int) < (k : Int)) := by omega
      have hc : cptF q = q := by have := cptF_ok HZ.out; rwa [List.take_of_length_le (by have := HQ.out; omega)] at this
      have HC := Lib.hid hc
      clear hc
      go_wp2_with (fail)
      go_ret
      exact ⟨k, rfl, by rw [HC.out, HQ.out], by rw [HC.out]; exact HO.out.below HB.out, grown_row g HB.out⟩
end Go.Proofs.YtjncmlglhegnaaaGreatDoor
namespace Go.Proofs.YtjncmlglhegnaaaGreatDoor
open Go.RowKit Go.Sort Go.Lib

set_option maxRecDepth 100000 in
set_option maxHeartbeats 1000000 in
theorem insertion_nil (w : World) (f : Value) : Calls Tryz.prog 204 #[.slice none 0 0, .int .i64 0, .int .i64 0, f] w fun e w' => e = .returned (.tuple #[]) ∧ w = w' := by
  go_enter Tryz.func204, Tryz.ntmps204
  go_wp2_with (fail)
  go_loopw [8] (fun i wr => i = .int .i64 1 ∧ wr = w) (fun _ _ => 0)
  case atStart => exact ⟨rfl, rfl⟩
  case round =>
    obtain ⟨rfl, rfl⟩ := hrel
    go_wp2_with (fail)
    go_end0
    exact ⟨rfl, rfl⟩
set_option maxRecDepth 100000 in
set_option maxHeartbeats 1000000 in
theorem pdq_nil (w : World) (f : Value) : Calls Tryz.prog 180 #[.slice none 0 0, .int .i64 0, .int .i64 0, .int .i64 0, f] w fun e w' => e = .returned (.tuple #[]) ∧ w = w' := by
  have HI := Lib.hid (fun W => insertion_nil W f)
  go_enter Tryz.func180, Tryz.ntmps180
  go_wp2_with (fail)
  go_loopw [1, 2, 3] (fun a b l wr => a = .int .i64 0 ∧ b = .int .i64 0 ∧ l = .int .i64 0 ∧ wr = w) (fun _ _ _ _ => 0)
  case atStart => exact ⟨rfl, rfl, rfl, rfl⟩
  case round =>
    obtain ⟨rfl, rfl, rfl, rfl⟩ := hrel
    go_wp2_with ((with_reducible refine (HI.out _).mono ?_); rintro _ w9 ⟨rfl, hw9⟩; obtain rfl := hw9)
    refine bodyPost_ret (results_none rfl _ _ _) rfl ?_
    exact ⟨rfl, rfl⟩
set_option maxRecDepth 100000 in
set_option maxHeartbeats 1000000 in
theorem len64_zero (w : World) : Calls Tryz.prog 213 #[.int .u64 0] w fun e w' => e = .returned (.int .i64 0) ∧ w = w' := by
  go_enter Tryz.func213, Tryz.ntmps213
  go_wp2_with (fail)
  go_ret
  exact ⟨ret_int (by kernel_rfl), rfl⟩
set_option maxRecDepth 100000 in
set_option maxHeartbeats 1000000 in
theorem len_zero (w : World) : Calls Tryz.prog 181 #[.int .u64 0] w fun e w' => e = .returned (.int .i64 0) ∧ w = w' := by
  have HI := Lib.hid (fun W => len64_zero W)
  go_enter Tryz.func181, Tryz.ntmps181
  go_wp2_with ((with_reducible refine (HI.out _).mono ?_); rintro _ w9 ⟨rfl, hw9⟩; obtain rfl := hw9)
  go_ret
  exact ⟨rfl, rfl⟩
set_option maxRecDepth 100000 in
set_option maxHeartbeats 1000000 in
theorem sort_nil (w : World) (f : Value) : Calls Tryz.prog 140 #[.slice none 0 0, f] w fun e w' => e = .returned (.tuple #[]) ∧ Below w.heap.size w w' := by
  have HI := Lib.hid (fun W => len_zero W)
  have HP := Lib.hid (fun W => pdq_nil W f)
  go_enter Tryz.func140, Tryz.ntmps140
  go_wp2_with (first
    | ((with_reducible refine (HI.out _).mono ?_); rintro _ w9 ⟨rfl, hw9⟩; obtain rfl := hw9)
    | ((with_reducible refine (HP.out _).mono ?_); rintro _ w9 ⟨rfl, hw9⟩; obtain rfl := hw9))
  go_end0
  exact ⟨rfl, Below.refl _ _⟩
set_option maxRecDepth 100000 in
set_option maxHeartbeats 1000000 in
theorem sorted_nil (w : World) (f : Value) : Calls Tryz.prog 95 #[.slice none 0 0, .func (.func 96) #[] #[]] w fun e w' => e = .returned (.slice none 0 0) ∧ Below w.heap.size w w' := by
  have HS := Lib.hid (fun W f => sort_nil W f)
  have HC := Lib.hid (fun W f => Compact_nil W f)
  go_enter Tryz.func95, Tryz.ntmps95
  go_wp2_with (fail)
  ((with_reducible refine (HS.out _ _).mono ?_); rintro _ w1 ⟨rfl, hb1⟩)
  have L := Lib.hid (locs1 hb1)
  clear hb1
  obtain ⟨⟨zX, kX, fX⟩, _⟩ := L.out
  go_wp2_with ((with_reducible refine (HC.out _ _).mono ?_); rintro _ w9 ⟨rfl, hw9⟩; obtain rfl := hw9)
  go_ret
  exact ⟨rfl, L.out.2⟩
set_option maxRecDepth 100000 in
set_option maxHeartbeats 1000000 in
theorem sorted_any {B0 : Nat} (w : World) (hE : Env B0 w) (g c n : Nat) (hB0 : B0 ≤ g) (xs : List EntC) (ho : Own w g 141 5 (.slice (some ⟨g, 0, none⟩) n c) n (xs.map EntC.cells)) (hn : n ≤ 5000000) (hn0 : 0 < n) (hat : ∀ u ∈ xs, ItemOk w g u) :
    Calls Tryz.prog 95 #[.slice (some ⟨g, 0, none⟩) n c, .func (.func 96) #[] #[]] w fun e w' =>
      ∃ (k : Nat) (ys : List EntC), e = .returned (.slice (some ⟨g, 0, none⟩) k c) ∧ k = (cptF ys).length ∧ ys.Perm xs ∧ (∀ (i j : Nat) (x y : EntC), i < j → ys[i]? = some x → ys[j]? = some y → ¬ ltK y.v x.v) ∧ Own w' g 141 5 (.slice (some ⟨g, 0, none⟩) k c) k ((cptF ys).map EntC.cells) ∧ w.grownBy w' (some g) := by
  have hgl := (ho.lt g rfl).2
  have HGL := Lib.hid hgl
  have HL := Lib.hid (fun o => (grown_row (w := w) (w' := w.alloc o) g (below_alloc w o)))
  have HS := Lib.hid (fun o => sort_any (w.alloc o) (hE.below ((below_alloc w o).mono (by omega))) g c n hB0 xs (ho.alloc o) hn hn0 (fun u hu => (hat u hu).grown (HL.out o)))
  have HE := Lib.hid hE
  have HB0 := Lib.hid hB0
  have HAT := Lib.hid hat
  clear hE ho hat hgl hB0
  go_enter Tryz.func95, Tryz.ntmps95
  go_wp2_with (fail)
  have LX := Lib.hid (Loc.new_ w #[.func (.func 96) #[] #[]] 144)
  ((with_reducible refine (HS.out _).mono ?_); rintro _ w1 ⟨rfl, ys, hp, hs, ho, hg⟩)
  have HG1 := Lib.hid ((HL.out _).andThen hg (fun j hj => .inr hj))
  have LX1 := Lib.hid (LX.out.grown hg (fun e => Nat.lt_irrefl g (by injection e with e; have := HGL.out; omega)))
  have HC := Lib.hid (Compact_any w1 (HE.out.grown HB0.out (Nat.le_trans HB0.out (Nat.le_of_lt HGL.out)) HG1.out) g c n HB0.out ys ho hn _ LX1.out (fun e => Nat.lt_irrefl g (by have := HGL.out; omega)) (fun u hu => (HAT.out u (hp.mem_iff.1 hu)).grown HG1.out))
  have HP := Lib.hid hp
  have HSO := Lib.hid hs
  clear hp hs ho hg HS LX
  obtain ⟨zX, kX, fX⟩ := LX1.out
  go_wp2_with ((with_reducible refine HC.out.mono ?_); rintro _ w2 ⟨k, rfl, hk, ho2, hg2⟩; have HK := Lib.hid hk; clear hk)
  go_ret
  exact ⟨k, ys, rfl, HK.out, HP.out, HSO.out, ho2, HG1.out.andThen hg2 (fun j hj => .inr hj)⟩
end Go.Proofs.YtjncmlglhegnaaaGreatDoor
namespace Go.Proofs.YtjncmlglhegnaaaGreatDoor
open Go.RowKit Go.Sort Go.Lib

theorem bytesEnt : Tryz.t32.bytes = 64 := by kernel_rfl
set_option maxRecDepth 100000 in
set_option maxHeartbeats 2000000 in
theorem Grow_any (w : World) (n : Nat) (hn : n ≤ 10000) :
    Calls Tryz.prog 136 #[.slice none 0 0, .int .i64 (n : Int)] w fun e w' => ∃ A c, e = .returned (.slice A 0 c) ∧ Own w' w.heap.size 32 5 (.slice A 0 c) 0 [] ∧ Below w.heap.size w w' := by
  by_cases h0 : n = 0
  · subst h0
    go_enter Tryz.func136, Tryz.ntmps136
    go_wp2_with (fail)
    go_ret
    exact ⟨none, 0, rfl, Own.nil_ _ _ _ _, Below.refl _ _⟩
  have h1 : (n : Int) * (Tryz.t32.bytes : Int) ≤ 281474976710656 := by rw [bytesEnt]; omega
  have h2 : ¬ 281474976710656 < Builtin.nextslicecap n 0 * Tryz.t32.bytes := by
    rw [bytesEnt]
    unfold Builtin.nextslicecap
    rw [if_pos (by omega)]
    omega
  have h3 : ¬ n * 5 = 0 := by omega
  have h4 : (0 : Int) ≤ (n : Int) := by omega
  have h5 : 0 < n := by omega
  have h6 : (n : Int) ≤ 9223372036854775807 := by omega
  have h7 : (0 : Int) < (n : Int) := by omega
  have HN := Lib.hid hn
  clear hn
  go_enter Tryz.func136, Tryz.ntmps136
  go_wp2_with (fail)
  go_ret
  generalize hcap : (Question.appendCap n 0 32).cut (w.tape w.drawn (Question.appendCap n 0 32)) = cap
  have hc1 : n ≤ cap ∧ cap ≤ maxLen := by
    rw [← hcap]
    show n ≤ n + _ % (2 ^ 63 - n) ∧ n + _ % (2 ^ 63 - n) ≤ maxLen
    have hm := Nat.mod_lt (w.tape w.drawn (Question.appendCap n 0 32)) (show 2 ^ 63 - n > 0 by have := HN.out; omega)
    have := HN.out
    simp only [maxLen]
    omega
  refine ⟨_, cap, rfl, ⟨⟨rfl, .inr ⟨w.heap.size, cap, _, rfl, Nat.le_refl _, heap_alloc_new _ _, Nat.zero_le _, hc1.2, ?_, by simp⟩⟩, by simp, rfl⟩, (below_alloc w _).drew⟩
  simp [Builtin.zeroCells]
  omega
theorem loadVar_ent {W : World} {n : Nat} {a b c d e : Value} (h : Loc W n #[a, b, c, d, e]) : (loadVar 32 ⟨n, 0, none⟩).run Tryz.prog W = .ok (.agg #[a, b, c, d, e]) W := by
  have c0 := h.cell 0
  have c1 := h.cell 1
  have c2 := h.cell 2
  have c3 := h.cell 3
  have c4 := h.cell 4
  simp at c0 c1 c2 c3 c4
  simp [go_sem, c0, c1, c2, c3, c4]
theorem results_fresh {W : World} {n : Nat} {a b c d e : Value} {tmps : Array Value} (h : Loc W n #[a, b, c, d, e]) (ht : tmps.getD 2 undef = .pointer (some ⟨n, 0, none⟩)) :
    (results Tryz.f94 tmps).run Tryz.prog W = .ok (.agg #[a, b, c, d, e]) W := by
  have ht' : tmps[2]?.getD undef = .pointer (some ⟨n, 0, none⟩) := by simpa using ht
  simp only [results, show Tryz.f94.results = #[.cell 2 32] from rfl]
  simp [ht', asAddr, loadVar_ent h]
set_option maxRecDepth 100000 in
set_option maxHeartbeats 2000000 in
theorem fresh_any (w : World) (x : EntC) (hx : EntAt w x) (hn : x.v.seen.length ≤ 1000000) :
    Calls Tryz.prog 94 #[.agg x.cells.toArray] w fun e w' => ∃ A c, e = .returned (.agg (EntC.cells ⟨x.v, A, c⟩).toArray) ∧ Own w' w.heap.size 3 1 (.slice A x.v.seen.length c) x.v.seen.length (x.v.seen.map intC) ∧ Below w.heap.size w w' := by
  have HC := Lib.hid (fun W (hb : Below w.heap.size w W) => CloneI_any x.A x.v.seen.length x.c x.v.seen W (hx.below hb) hn)
  obtain ⟨⟨xd, xn, xy, xs, xt⟩, xA, xc⟩ := x
  simp only [EntC.cells] at HC ⊢
  clear hx hn
  have HBa := Lib.hid (fun o1 o2 => ((Below.refl w.heap.size w).alloc (Nat.le_refl _) o1).alloc (by simp) o2)
  go_enter Tryz.func94, Tryz.ntmps94
  go_wp2_with (fail)
  ((with_reducible refine (HC.out _ (HBa.out _ _)).mono ?_); rintro _ w1 ⟨A, c, rfl, ho, hb1⟩)
  have L := Lib.hid (locs2 hb1)
  have HO := Lib.hid ho
  clear hb1 ho
  obtain ⟨⟨zX, kX, fX⟩, ⟨zY, kY, fY⟩, hB⟩ := L.out
  have HB := Lib.hid hB
  clear hB
  go_wp2_with (fail)
  (try simp only [Exit.inBlock, Exit.then])
  have hL := ((((L.out.2.1.far (p := ⟨w.heap.size, 3, none⟩) (by simp) (.slice A xs.length c)).set_ 0 (.int .i64 xd)).set_ 1 (.int .i64 xn)).set_ 2 (.int .i64 xy)).set_ 3 (.slice A xs.length c) |>.set_ 4 (.string ⟨xt.toArray⟩)
  refine bodyPost_ret (results_fresh (by simpa using hL) rfl) rfl ⟨A, c, rfl, ?_, ?_⟩
  · exact ((((((HO.out.setBelow (by simp; omega) _).setBelow (by simp) _).setBelow (by simp) _).setBelow (by simp) _).setBelow (by simp) _).setBelow (by simp) _).mono (by simp; omega)
  · exact (((((HB.out.setCell (Nat.le_refl _) _).setCell (by simp) _).setCell (by simp) _).setCell (by simp) _).setCell (by simp) _).setCell (by simp) _
set_option maxRecDepth 100000 in
set_option maxHeartbeats 4000000 in
theorem Concat_any (w : World) (h na nb ca cb : Nat) (A1 A2 : Option Addr) (a b : List EntC) (hh : Loc w h #[.slice A1 na ca, .slice A2 nb cb]) (h1 : Sl w 5 A1 na (a.map EntC.cells)) (h2 : Sl w 5 A2 nb (b.map EntC.cells)) (hna : na ≤ 1000) (hnb : nb ≤ 1000) :
    Calls Tryz.prog 92 #[.slice (some ⟨h, 0, none⟩) 2 2] w fun e w' => ∃ A c, e = .returned (.slice A (na + nb) c) ∧ Own w' w.heap.size 32 5 (.slice A (na + nb) c) (na + nb) ((a ++ b).map EntC.cells) ∧ Below w.heap.size w w' := by
  obtain ⟨N, hN⟩ : ∃ N, na + nb = N := ⟨_, rfl⟩
  rw [hN]
  have HG := Lib.hid (fun W => Grow_any W N (by omega))
  obtain ⟨i0, hi0, hz0, hz1, hz2⟩ := info_parts infoEnt
  have HN := Lib.hid hN
  have HH2 := Lib.hid hh
  have HH := Lib.hid hh
  have H1 := Lib.hid h1
  have H2 := Lib.hid h2
  clear h1 h2
  obtain ⟨zX, kX, fX⟩ := hh
  go_enter Tryz.func92, Tryz.ntmps92
  go_wp2_with (fail)
  have hw1 : IntKind.i64.wrap ((na : Int) + (nb : Int)) = (N : Int) := by rw [IntWalk.i64_in _ (by omega)]; omega
  have hn1 : ¬ ((na : Int) < 0) := by omega
  have hn2 : ¬ ((N : Int) < 0) := by omega
  have hn3 : (0 : Int) ≤ (na : Int) := by omega
  have hn4 : (0 : Int) ≤ (N : Int) := by omega
  go_loopw [3, 11] (fun s i wr => ∃ k : Nat, i = .int .i64 (k : Int) ∧ w = wr ∧ (k = 0 ∧ s = .int .i64 0 ∨ k = 1 ∧ s = .int .i64 (na : Int) ∨ k = 2 ∧ s = .int .i64 (N : Int))) (fun _ i _ => 3 - (intOf i).toNat)
  case atStart => exact ⟨0, rfl, rfl, .inl ⟨rfl, rfl⟩⟩
  case round =>
    obtain ⟨k, rfl, rfl, ⟨rfl, rfl⟩ | ⟨rfl, rfl⟩ | ⟨rfl, rfl⟩⟩ := hrel
    · go_wp2_with (fail)
      go_roundw
      case rel => exact ⟨1, by go_num, (by first | trivial | rfl), .inr (.inl ⟨rfl, by simp⟩)⟩
      case measure => simp [intOf]
    · go_wp2_with (fail)
      go_roundw
      case rel => exact ⟨2, by go_num, (by first | trivial | rfl), .inr (.inr ⟨rfl, rfl⟩)⟩
      case measure => simp [intOf]
    · go_wp2_with (fail)
      ((with_reducible refine (HG.out _).mono ?_); rintro _ w1 ⟨G, cG, rfl, ho, hb1⟩)
      have HO := Lib.hid ho
      have HB := Lib.hid hb1
      have HH1 := Lib.hid (HH.out.below hb1)
      clear ho hb1 HH zX kX fX
      go_wp2_with (fail)
      go_loopw [6, 27] (fun s i wr => ∃ (k m : Nat) (A : Option Addr) (c : Nat) (l : List EntC), i = .int .i64 (k : Int) ∧ s = .slice A m c ∧ Own wr w.heap.size 32 5 (.slice A m c) m (l.map EntC.cells) ∧ Below w.heap.size w wr ∧ (k = 0 ∧ m = 0 ∧ l = [] ∨ k = 1 ∧ m = na ∧ l = a ∨ k = 2 ∧ m = N ∧ l = a ++ b)) (fun _ i _ => 3 - (intOf i).toNat)
      case atStart => exact ⟨0, 0, G, cG, [], rfl, rfl, HO.out, HB.out, .inl ⟨rfl, rfl, rfl⟩⟩
      case round =>
        obtain ⟨k, m, A, c, l, rfl, rfl, ho, hb, hc⟩ := hrel
        obtain ⟨wo, rfl⟩ : ∃ wo : World, wo = wr := ⟨_, rfl⟩
        have HO2 := Lib.hid ho
        have HB2 := Lib.hid hb
        obtain ⟨zX, kX, fX⟩ := HH2.out.below hb
        have S1 := Lib.hid (H1.out.below hb)
        have S2 := Lib.hid (H2.out.below hb)
        clear ho hb
        rcases hc with ⟨rfl, rfl, rfl⟩ | ⟨rfl, rfl, rfl⟩ | ⟨rfl, rfl, rfl⟩
        · go_wp2_with (at_builtin; refine wpList_append_sl _ rfl (.tmp 31) (.tmp 32) _ rfl w.heap.size 32 i0 _ 5 64 Tryz.underlying22 hi0 hz0 hz1 hz2 rfl (by omega) _ 0 ([].map EntC.cells) rfl HO2.out A1 na ca (a.map EntC.cells) rfl S1.out (ents_len a) (ents_one a) (by simp only [maxLen]; omega) (by omega) HB2.out.size ?_; intro A9 c9 w9 hown9 hg9 hat9)
          go_roundw
          case rel => exact ⟨1, na, A9, c9, a, by go_num, by simp, by simpa using hown9, HO2.out.below_grown (Nat.le_refl _) HB2.out.size HB2.out hg9, .inr (.inl ⟨rfl, rfl, rfl⟩)⟩
          case measure => simp [intOf]
        · go_wp2_with (at_builtin; refine wpList_append_sl _ rfl (.tmp 31) (.tmp 32) _ rfl w.heap.size 32 i0 _ 5 64 Tryz.underlying22 hi0 hz0 hz1 hz2 rfl (by omega) _ m (l.map EntC.cells) rfl HO2.out A2 nb cb (b.map EntC.cells) rfl S2.out (ents_len b) (ents_one b) (by simp only [maxLen]; omega) (by omega) HB2.out.size ?_; intro A9 c9 w9 hown9 hg9 hat9)
          go_roundw
          case rel => exact ⟨2, N, A9, c9, l ++ b, by go_num, by rw [← HN.out], by rw [← HN.out, List.map_append]; exact hown9, HO2.out.below_grown (Nat.le_refl _) HB2.out.size HB2.out hg9, .inr (.inr ⟨rfl, rfl, rfl⟩)⟩
          case measure => simp [intOf]
        · go_wp2_with (fail)
          go_ret
          exact ⟨A, c, rfl, HO2.out, HB2.out⟩
end Go.Proofs.YtjncmlglhegnaaaGreatDoor
namespace Go.Proofs.YtjncmlglhegnaaaGreatDoor
open Go.RowKit Go.Sort Go.Lib

theorem encodeF_right {x : EntV} (h : RightE x) : encodeF x = (encE x, true) := by unfold encodeF; rw [if_pos (rightB_true.2 h)]
theorem ltK_right {x y : EntV} (hx : RightE x) (hy : RightE y) : ltK x y ↔ ltE x y := by unfold ltK ltE; rw [encodeF_right hx, encodeF_right hy]
theorem cmpE_right {x y : EntV} (hx : RightE x) (hy : RightE y) : cmpE x y = 0 ↔ x = y := by
  rw [cmpE_zero, encodeF_right hx, encodeF_right hy]
  exact ⟨fun h => encE_inj hx hy h.2.2, fun h => by subst h; exact ⟨rfl, rfl, rfl⟩⟩
theorem cptGo_is : ∀ (r : List EntC) (p : EntC), (∀ u ∈ p :: r, RightE u.v) → (p :: r).Pairwise (fun a b => ¬ ltK b.v a.v) → Asc (vsOf (p :: cptGo p r)) ∧ ∀ v, v ∈ vsOf (p :: cptGo p r) ↔ v ∈ vsOf (p :: r)
  | [], p, _, _ => by simp [cptGo, vsOf, Asc]
  | x :: r, p, hr, hs => by
    have hs' := List.pairwise_cons.1 hs
    have hp := hr p (by simp)
    have hx := hr x (by simp)
    obtain ⟨ia, im⟩ := cptGo_is r x (fun u hu => hr u (List.mem_cons_of_mem _ hu)) hs'.2
    have ia' := List.pairwise_cons.1 ia
    unfold cptGo
    by_cases h : cmpE x.v p.v = 0
    · rw [if_pos h]
      have e : x.v = p.v := (cmpE_right hx hp).1 h
      refine ⟨List.pairwise_cons.2 ⟨fun z hz => ?_, ia'.2⟩, fun v => ?_⟩
      · have h3 : ltE x.v z := ia'.1 z hz
        rw [e] at h3
        exact h3
      · have := im v
        simp only [vsOf, List.map_cons, List.mem_cons, e] at this ⊢
        rw [this]
        exact ⟨fun h => .inr h, fun h => h.elim .inl id⟩
    · rw [if_neg h]
      have hlt : ltE p.v x.v := by
        rcases ltE_tri hp hx with h1 | h1 | h1
        · exact h1
        · exact (h ((cmpE_right hx hp).2 h1.symm)).elim
        · exact (hs'.1 x (by simp) ((ltK_right hx hp).2 h1)).elim
      refine ⟨List.pairwise_cons.2 ⟨fun z hz => ?_, ia⟩, fun v => ?_⟩
      · rcases List.mem_cons.1 hz with e | e
        · rw [e]; exact hlt
        · exact ltE_trans hlt (ia'.1 z e)
      · have := im v
        simp only [vsOf, List.map_cons, List.mem_cons] at this ⊢
        rw [this]
theorem join_plain {l : List EntV} {xs ys : List EntC} (hx : vsOf xs = l.filter fun x => rightB x) (hp : ys.Perm xs) (hs : ∀ (i j : Nat) (x y : EntC), i < j → ys[i]? = some x → ys[j]? = some y → ¬ ltK y.v x.v) : vsOf (cptF ys) = joinF l := by
  have hr : ∀ u ∈ ys, RightE u.v := fun u hu => by
    have h1 : u.v ∈ vsOf xs := List.mem_map.2 ⟨u, hp.mem_iff.1 hu, rfl⟩
    rw [hx] at h1
    exact rightB_true.1 (List.mem_filter.1 h1).2
  have hmem : ∀ v, v ∈ vsOf ys ↔ v ∈ l ∧ RightE v := fun v => by
    have : v ∈ vsOf ys ↔ v ∈ vsOf xs := (hp.map (·.v)).mem_iff
    rw [this, hx, List.mem_filter, rightB_true]
  rcases ys with _ | ⟨p, r⟩
  · exact joinF_is (by simp [cptF, vsOf, Asc]) fun v => hmem v
  · have hpw : (p :: r).Pairwise (fun a b => ¬ ltK b.v a.v) := by
      rw [List.pairwise_iff_getElem]
      intro i j hi hj hij
      exact hs i j _ _ hij (List.getElem?_eq_getElem hi) (List.getElem?_eq_getElem hj)
    obtain ⟨h1, h2⟩ := cptGo_is r p hr hpw
    exact joinF_is h1 fun v => (h2 v).trans (hmem v)
/-- the items that are collected -/
structure LsAt (w : World) (ob : Option Nat) (ls : List EntC) : Prop where
  at_ : ∀ u ∈ ls, EntAt w u
  right : ∀ u ∈ ls, RightE u.v
  far : ∀ u ∈ ls, ∀ ad, u.A = some ad → ob ≠ some ad.block ∧ ad.block < w.heap.size
theorem LsAt.below {w w' : World} {ob : Option Nat} {ls : List EntC} (h : LsAt w ob ls) (hb : Below w.heap.size w w') : LsAt w' ob ls := ⟨fun u hu => (h.at_ u hu).below hb, h.right, fun u hu ad he => ⟨(h.far u hu ad he).1, Nat.lt_of_lt_of_le (h.far u hu ad he).2 hb.size⟩⟩
theorem LsAt.snoc {w w' : World} {ob ob' : Option Nat} {ls : List EntC} {x : EntC} (h : LsAt w ob (ls ++ [x])) (hg : w.grownBy w' ob) (ho : ob' = ob ∨ ob' = some w.heap.size) : LsAt w' ob' (ls ++ [x]) := by
  refine ⟨fun u hu => Sl.grown (h.at_ u hu) hg (.inr fun ad he => (h.far u hu ad he).1), h.right, fun u hu ad he => ⟨?_, Nat.lt_of_lt_of_le (h.far u hu ad he).2 hg.size⟩⟩
  have h1 := h.far u hu ad he
  rcases ho with rfl | rfl
  · exact h1.1
  · intro e
    injection e with e
    omega
theorem LsAt.put {w w2 : World} {B : Nat} {ob : Option Nat} {ls : List EntC} {x : EntC} {t : TypeId} (h : LsAt w ob ls) (hb : Below w.heap.size w w2) (hB : w.heap.size ≤ B) (hx : Own w2 B t 1 (.slice x.A x.v.seen.length x.c) x.v.seen.length (x.v.seen.map intC)) (hr : RightE x.v) (hob : ∀ g, ob = some g → g < w.heap.size) : LsAt w2 ob (ls ++ [x]) := by
  have h2 := h.below hb
  have hf : ∀ ad, x.A = some ad → B ≤ ad.block ∧ ad.block < w2.heap.size := by
    intro ad he
    have := hx.lt ad.block (by rw [he]; rfl)
    exact this
  refine ⟨fun u hu => ?_, fun u hu => ?_, fun u hu ad he => ?_⟩
  · rcases List.mem_append.1 hu with hu | hu
    · exact h2.at_ u hu
    · rw [List.mem_singleton.1 hu]; exact hx.sl'
  · rcases List.mem_append.1 hu with hu | hu
    · exact h2.right u hu
    · rw [List.mem_singleton.1 hu]; exact hr
  · rcases List.mem_append.1 hu with hu | hu
    · exact h2.far u hu ad he
    · rw [List.mem_singleton.1 hu] at he
      have := hf ad he
      exact ⟨fun e => by have := hob _ e; omega, this.2⟩
theorem LsAt.items {w : World} {g : Nat} {ls : List EntC} (h : LsAt w (some g) ls) : ∀ u ∈ ls, ItemOk w g u := fun u hu =>
  ⟨h.at_ u hu, ⟨by rw [(h.right u hu).len]; omega, Nat.le_trans (h.right u hu).txt (by omega)⟩, fun _ ad he e => (h.far u hu ad he).1 (by rw [e])⟩
/-- what hands a list of entries back -/
def GivesE (w : World) (v : List EntV) (e : Ending) (w' : World) : Prop := ∃ A c l, e = .returned (.slice A v.length c) ∧ ChAt w' A v.length l ∧ vsOf l = v ∧ Below w.heap.size w w'
theorem Own.rebase {w : World} {base g n c size : Nat} {e : TypeId} {xs : List (List Value)} (h : Own w base e size (.slice (some ⟨g, 0, none⟩) n c) n xs) : Own w g e size (.slice (some ⟨g, 0, none⟩) n c) n xs := by
  obtain ⟨⟨h1, h2⟩, h3⟩ := h
  refine ⟨⟨h1, ?_⟩, h3⟩
  rcases h2 with ⟨hv, _⟩ | ⟨g', cap, cur, hv, hb, r⟩
  · cases hv
  · refine .inr ⟨g', cap, cur, hv, ?_, r⟩
    injection hv with hv
    injection hv with hv
    injection hv with hv
    omega
theorem Own.shape {w : World} {base n c size m : Nat} {A : Option Addr} {e : TypeId} {xs : List (List Value)} (h : Own w base e size (.slice A n c) m xs) : (A = none ∧ n = 0 ∧ c = 0 ∧ xs = []) ∨ ∃ g, A = some ⟨g, 0, none⟩ ∧ base ≤ g := by
  rcases h.1.2 with ⟨hv, hm⟩ | ⟨g', cap, cur, hv, hb, r⟩
  · injection hv with h1 h2 h3
    subst hm
    exact .inl ⟨h1, h2, h3, List.eq_nil_of_length_eq_zero h.2.2⟩
  · injection hv with h1
    exact .inr ⟨g', h1, hb⟩
set_option maxRecDepth 100000 in
set_option maxHeartbeats 1000000 in
theorem sorted_both {B0 : Nat} (w : World) (hE : Env B0 w) (B : Nat) (hB0 : B0 ≤ B) (A : Option Addr) (c n : Nat) (xs : List EntC) (ho : Own w B 141 5 (.slice A n c) n (xs.map EntC.cells)) (hn : n ≤ 5000000) (hn0 : A ≠ none → 0 < n) (hat : LsAt w (Value.slice A n c).ownBlock xs) :
    Calls Tryz.prog 95 #[.slice A n c, .func (.func 96) #[] #[]] w fun e w' =>
      ∃ (k : Nat) (ys : List EntC) (c' : Nat), e = .returned (.slice A k c') ∧ k = (cptF ys).length ∧ ys.Perm xs ∧ (∀ (i j : Nat) (x y : EntC), i < j → ys[i]? = some x → ys[j]? = some y → ¬ ltK y.v x.v) ∧ Sl w' 5 A k ((cptF ys).map EntC.cells) ∧ (∀ u ∈ xs, EntAt w' u) ∧ (B ≤ w.heap.size → Below B w w') := by
  rcases ho.shape with ⟨rfl, rfl, rfl, hx⟩ | ⟨g, rfl, hg⟩
  · have hx2 : xs = [] := by simpa using hx
    subst hx2
    refine (sorted_nil w (.int .i64 0)).mono ?_
    rintro _ w' ⟨rfl, hb⟩
    exact ⟨0, [], 0, rfl, rfl, List.Perm.refl _, by simp, Sl.nil_ _ _ _, by simp, fun h => hb.mono h⟩
  · refine (sorted_any w hE g c n (by omega) xs ho.rebase hn (hn0 (by simp)) hat.items).mono ?_
    rintro _ w' ⟨k, ys, rfl, hk, hp, hs, ho2, hg2⟩
    exact ⟨k, ys, c, rfl, hk, hp, hs, ho2.sl', fun u hu => Sl.grown (hat.at_ u hu) hg2 (.inr fun ad he => (hat.far u hu ad he).1), fun hB => below_row hg hB hg2⟩
theorem cptGo_sub : ∀ (r : List EntC) (p : EntC), ∀ u ∈ cptGo p r, u ∈ r
  | [], _, u, h => by simp [cptGo] at h
  | x :: r, p, u, h => by
    unfold cptGo at h
    split at h
    · exact List.mem_cons_of_mem _ (cptGo_sub r x u h)
    · rcases List.mem_cons.1 h with e | e
      · rw [e]; simp
      · exact List.mem_cons_of_mem _ (cptGo_sub r x u e)
theorem cptF_sub {l : List EntC} {u : EntC} (h : u ∈ cptF l) : u ∈ l := by
  cases l with
  | nil => simp [cptF] at h
  | cons a r =>
    rcases List.mem_cons.1 h with e | e
    · rw [e]; simp
    · exact List.mem_cons_of_mem _ (cptGo_sub r a u e)
set_option maxRecDepth 100000 in
set_option maxHeartbeats 4000000 in
theorem Join_any {B0 : Nat} (w : World) (hE : Env B0 w) (hB0 : B0 ≤ w.heap.size) (A1 A2 : Option Addr) (na nb ca cb : Nat) (a b : List EntC) (ha : ChAt w A1 na a) (hb : ChAt w A2 nb b) (hna : na ≤ 1000) (hnb : nb ≤ 1000) :
    Calls Tryz.prog 50 #[.slice A1 na ca, .slice A2 nb cb] w (GivesE w (joinF (vsOf a ++ vsOf b))) := by
  have HA := Lib.hid ha
  have HBB := Lib.hid hb
  have HE := Lib.hid hE
  have HB0 := Lib.hid hB0
  have HCC := Lib.hid (fun W h hh h1 h2 => Concat_any W h na nb ca cb A1 A2 a b hh h1 h2 hna hnb)
  clear ha hb hE hB0
  go_enter Tryz.func50, Tryz.ntmps50
  go_wp2_with (fail)
  have HW1 := Lib.hid (fun o => below_alloc w o)
  ((with_reducible refine (HCC.out _ _ (Loc.new_ w #[.slice A1 na ca, .slice A2 nb cb] 22) (HA.out.sl.below (HW1.out _)) (HBB.out.sl.below (HW1.out _))).mono ?_); rintro _ w1 ⟨Q, cq, rfl, ho, hb1⟩)
  have HB1 := Lib.hid ((HW1.out _).trans (hb1.mono (by simp)))
  obtain ⟨ab, hab⟩ : ∃ ab, a ++ b = ab := ⟨_, rfl⟩
  rw [hab] at ho
  have HAB := Lib.hid hab
  obtain ⟨n, hn⟩ : ∃ n, na + nb = n := ⟨_, rfl⟩
  rw [hn] at ho ⊢
  have HN := Lib.hid hn
  have hl : ab.length = n := by have := ho.2.2; simpa using this
  have HL := Lib.hid hl
  have HCH : Hid (ChAt w1 Q n ab) := by
    refine Lib.hid ⟨ho.sl', fun u hu => ?_, fun u hu => ?_⟩
    · rw [← hab] at hu
      rcases List.mem_append.1 hu with h | h
      · exact ((HA.out.at_ u h).below (HW1.out _)).below hb1
      · exact ((HBB.out.at_ u h).below (HW1.out _)).below hb1
    · rw [← hab] at hu
      rcases List.mem_append.1 hu with h | h
      · exact HA.out.len u h
      · exact HBB.out.len u h
  obtain ⟨i0, hi0, hz0, hz1, hz2⟩ := info_parts infoItem
  clear hab hn ho hb1 HCC hl
  go_wp2_with (fail)
  go_loopw [5, 16] (fun s i wr => ∃ (k m : Nat) (A : Option Addr) (c : Nat) (ls : List EntC), i = .int .i64 (k : Int) ∧ s = .slice A m c ∧ k ≤ n ∧ m ≤ k ∧ (A ≠ none → 0 < m) ∧ Own wr w1.heap.size 141 5 (.slice A m c) m (ls.map EntC.cells) ∧ LsAt wr (Value.slice A m c).ownBlock ls ∧ vsOf ls = ((vsOf ab).take k).filter (fun x => rightB x) ∧ Below w1.heap.size w1 wr) (fun _ i _ => n - (intOf i).toNat)
  case atStart => exact ⟨0, 0, none, 0, [], rfl, rfl, Nat.zero_le _, Nat.le_refl _, fun h => absurd rfl h, Own.nil_ _ _ _ _, ⟨by simp, by simp, by simp⟩, by simp [vsOf], Below.refl _ _⟩
  case round =>
    obtain ⟨k, m, A, c, ls, rfl, rfl, hk, hmk, hm0, ho, hls, hv, hb⟩ := hrel
    obtain ⟨wo, rfl⟩ : ∃ wo : World, wo = wr := ⟨_, rfl⟩
    have HO := Lib.hid ho
    have HM0 := Lib.hid hm0
    have HLS := Lib.hid hls
    have HV := Lib.hid hv
    have HB := Lib.hid hb
    clear ho hls hv hb hm0
    by_cases hlt : k < n
    · obtain ⟨x, hx⟩ : ∃ v, ab[k]? = some v := ⟨_, List.getElem?_eq_getElem (by rw [HL.out]; exact hlt)⟩
      obtain ⟨b, o, rfl, hbl, c0, c1, c2, c3, c4⟩ := ent_at (HCH.out.sl.below HB.out) hx
      have hki : (k : Int) < (n : Int) := by omega
      have hk0 : (0 : Int) ≤ (k : Int) := by omega
      have hw1 : IntKind.i64.wrap ((k : Int) + 1) = (k : Int) + 1 := IntWalk.i64_in _ (by have := HN.out; omega)
      have hxa := HCH.out.at_ x (List.mem_of_getElem? hx)
      have hxl := HCH.out.len x (List.mem_of_getElem? hx)
      obtain ⟨br, hbr⟩ : ∃ br, rightB x.v = br := ⟨_, rfl⟩
      have HCR := Lib.hid (fun W (hb : Below wo.heap.size wo W) => Right_any W x ((hxa.below HB.out).below hb) hxl.1 hxl.2 br hbr)
      have HXA := Lib.hid (hxa.below HB.out)
      have HXX := Lib.hid hx
      have HBR := Lib.hid hbr
      have HLT := Lib.hid hlt
      clear hx hxa hxl hbr
      simp only [EntC.cells] at HCR
      go_wp2_with (fail)
      ((with_reducible refine (HCR.out _ (below_alloc _ _)).mono ?_); rintro e w2 ⟨rfl, hb2'⟩)
      obtain ⟨hlx, hb2⟩ := locs1 hb2'
      have HLX := Lib.hid hlx
      clear hb2' hlx
      clear c0 c1 c2 c3 c4 hbl
      cases br
      · have hv : vsOf ls = ((vsOf ab).take (k + 1)).filter (fun x => rightB x) := by
          rw [take_succ' (vsOf_at HXX.out), List.filter_append, ← HV.out]
          simp [HBR.out]
        have HV2 := Lib.hid hv
        have HB2 := Lib.hid hb2
        clear hv hb2
        go_wp2_with (fail)
        go_roundw
        case rel => exact ⟨k + 1, m, A, c, ls, by go_num, by simp, by omega, by omega, HM0.out, HO.out.below HB2.out, HLS.out.below HB2.out, HV2.out, HB.out.trans (HB2.out.mono HB.out.size)⟩
        case measure => simp [intOf]; omega
      · have hxr := rightB_true.1 HBR.out
        have HCF := Lib.hid (fresh_any w2 x (HXA.out.below hb2) (by rw [hxr.len]; omega))
        have HXR := Lib.hid hxr
        have HB2 := Lib.hid hb2
        obtain ⟨zX, kX, fX⟩ := HLX.out
        clear hb2 hxr
        simp only [EntC.cells] at HCF
        go_wp2_with (fail)
        ((with_reducible refine (HCF.out).mono ?_); rintro e w3 ⟨A', c', rfl, ho3, hb3⟩)
        have HO3 := Lib.hid ho3
        have HB3 := Lib.hid (HB2.out.trans (hb3.mono HB2.out.size))
        clear ho3 hb3 zX kX fX
        have HZ := Lib.hid (HB.out.trans (HB3.out.mono HB.out.size)).size
        have HOL := Lib.hid (HO.out.below HB3.out)
        have HLS2 := Lib.hid (HLS.out.put (x := ⟨x.v, A', c'⟩) HB3.out HB2.out.size HO3.out HXR.out (fun g hg => (HO.out.lt g hg).2))
        go_wp2_with (at_builtin; refine wpList_append_sl _ rfl (.tmp 22) (.tmp 25) _ rfl w1.heap.size 141 i0 _ 5 64 Tryz.underlying139 hi0 hz0 hz1 hz2 rfl (by omega) _ m (ls.map EntC.cells) rfl (HOL.out.alloc _) (some ⟨w3.heap.size, 0, none⟩) 1 1 ([(⟨x.v, A', c'⟩ : EntC)].map EntC.cells) rfl (Sl.new_ w3 141 (EntC.cells ⟨x.v, A', c'⟩)) (ents_len _) (ents_one _) (by have := HN.out; have := HLT.out; simp only [maxLen]; omega) (by have := HN.out; have := HLT.out; omega) (by have := HZ.out; simp; omega) ?_; intro A9 c9 w9 hown9 hg9 hat9)
        go_roundw
        case rel =>
          refine ⟨k + 1, m + 1, A9, c9, ls ++ [⟨x.v, A', c'⟩], by go_num, by simp, by omega, by omega, fun _ => Nat.succ_pos _, by simpa using hown9, (HLS2.out.below (below_alloc _ _)).snoc hg9 hat9, ?_, (HOL.out.alloc _).below_grown (Nat.le_refl _) (by have := HZ.out; simp; omega) ((HB.out.trans (HB3.out.mono HB.out.size)).alloc HZ.out _) hg9⟩
          rw [take_succ' (vsOf_at HXX.out), List.filter_append, ← HV.out]
          simp [HBR.out, vsOf]
        case measure => simp [intOf]; omega
    · obtain rfl : k = n := by omega
      have hki : ¬ ((k : Int) < (k : Int)) := by omega
      have hv := HV.out
      rw [List.take_of_length_le (by rw [vsOf_len, HL.out]; exact Nat.le_refl _)] at hv
      have HV2 := Lib.hid hv
      have HCS := Lib.hid (sorted_both wo (HE.out.below ((HB1.out.trans (HB.out.mono HB1.out.size)).mono HB0.out)) w1.heap.size (Nat.le_trans HB0.out HB1.out.size) A c m ls HO.out (by have := HN.out; omega) HM0.out HLS.out)
      have HSZ := Lib.hid HB.out.size
      clear hv
      go_wp2_with (fail)
      ((with_reducible refine HCS.out.mono ?_); rintro e w2 ⟨q, ys, cs, rfl, hq, hp, hs, hsl, hea, hb2⟩)
      have HQ := Lib.hid hq
      have HP := Lib.hid hp
      have HPL := Lib.hid (join_plain HV2.out hp hs)
      have HSL := Lib.hid hsl
      have HEA := Lib.hid hea
      have HB2 := Lib.hid (HB.out.trans (hb2 HSZ.out))
      clear hq hp hs hsl hea hb2 HCS
      have hlq : (cptF ys).length ≤ m := by
        have h1 := cptF_len ys
        rw [HP.out.length_eq] at h1
        have h2 := HO.out.2.2
        simp only [List.length_map] at h2
        omega
      have HLQ := Lib.hid hlq
      clear hlq
      obtain ⟨zs, hzs⟩ : ∃ zs, cptF ys = zs := ⟨_, rfl⟩
      rw [hzs] at HQ HPL HSL HLQ
      have HZA : Hid (∀ u ∈ zs, EntAt w2 u ∧ u.v.seen.length ≤ 1099511627776 ∧ u.v.text.length ≤ 140737488351232) := Lib.hid fun u hu => by
        rw [← hzs] at hu
        have hu2 := HP.out.mem_iff.1 (cptF_sub hu)
        have hr := HLS.out.right u hu2
        exact ⟨HEA.out u hu2, by rw [hr.len]; omega, Nat.le_trans hr.txt (by omega)⟩
      clear hzs HEA
      obtain ⟨i1, hi10, hz10, hz11, hz12⟩ := info_parts infoEnt
      go_wp2_with (fail)
      go_loopw [8, 31] (fun s i wr => ∃ (j : Nat) (A : Option Addr) (c : Nat), i = .int .i64 (j : Int) ∧ s = .slice A j c ∧ j ≤ q ∧ Own wr w2.heap.size 32 5 (.slice A j c) j ((zs.take j).map EntC.cells) ∧ Below w2.heap.size w2 wr) (fun _ i _ => q - (intOf i).toNat)
      case atStart => exact ⟨0, none, 0, rfl, rfl, Nat.zero_le _, Own.nil_ _ _ _ _, Below.refl _ _⟩
      case round =>
        obtain ⟨j, A0, cA, rfl, rfl, hj, ho, hb⟩ := hrel
        obtain ⟨wp, rfl⟩ : ∃ wp : World, wp = wr := ⟨_, rfl⟩
        have HO2 := Lib.hid ho
        have HB3 := Lib.hid hb
        clear ho hb
        by_cases hlt : j < q
        · obtain ⟨x, hx⟩ : ∃ v, zs[j]? = some v := ⟨_, List.getElem?_eq_getElem (by have := HQ.out; omega)⟩
          obtain ⟨b, o, rfl, hbl, c0, c1, c2, c3, c4⟩ := ent_at (HSL.out.below HB3.out) hx
          have hji : (j : Int) < (q : Int) := by omega
          have hj0 : (0 : Int) ≤ (j : Int) := by omega
          have hw1 : IntKind.i64.wrap ((j : Int) + 1) = (j : Int) + 1 := IntWalk.i64_in _ (by have := HN.out; have := HLQ.out; have := HQ.out; omega)
          have HXX := Lib.hid hx
          have HZ3 := Lib.hid HB3.out.size
          have HLX := Lib.hid (Loc.new_ wp (EntC.cells x).toArray 141)
          simp only [EntC.cells] at HLX
          obtain ⟨zX, kX, fX⟩ := HLX.out
          clear hx
          have HS1 : Hid (∀ o, Sl ((wp.alloc o).alloc (.cells (EntC.cells x).toArray 32)) 5 (some ⟨wp.heap.size + 1, 0, none⟩) 1 ([x].map EntC.cells)) := Lib.hid fun o => by
            have := Sl.new_ (wp.alloc o) 32 (EntC.cells x)
            rw [World.size_alloc] at this
            exact this
          go_wp2_with (at_builtin; (refine wpList_append_sl _ rfl (.tmp 35) (.tmp 37) _ rfl w2.heap.size 32 i1 _ 5 64 Tryz.underlying22 hi10 hz10 hz11 hz12 rfl (by omega) _ j ((zs.take j).map EntC.cells) rfl ((HO2.out.alloc _).alloc _) (some ⟨wp.heap.size + 1, 0, none⟩) 1 1 ([x].map EntC.cells) rfl (HS1.out _) (ents_len _) (ents_one _) (by have := HN.out; have := HLQ.out; have := HQ.out; simp only [maxLen]; omega) (by have := HN.out; have := HLQ.out; have := HQ.out; omega) (by have := HZ3.out; simp; omega) ?_); intro A9 c9 w9 hown9 hg9 hat9)
          go_roundw
          case rel =>
            refine ⟨j + 1, A9, c9, by go_num, by simp, by omega, ?_, ((HO2.out.alloc _).alloc _).below_grown (Nat.le_refl _) (by have := HZ3.out; simp; omega) ((HB3.out.alloc HZ3.out _).alloc (by have := HZ3.out; simp; omega) _) hg9⟩
            rw [take_succ' HXX.out, List.map_append]
            exact hown9
          case measure => simp [intOf]; omega
        · obtain rfl : j = q := by omega
          have hji : ¬ ((j : Int) < (j : Int)) := by omega
          go_wp2_with (fail)
          go_ret
          have ht : zs.take j = zs := List.take_of_length_le (by have := HQ.out; omega)
          have ho := HO2.out
          rw [ht] at ho
          have hlen : (joinF (vsOf a ++ vsOf b)).length = j := by
            have h1 := HPL.out
            rw [← HAB.out] at h1
            rw [show vsOf a ++ vsOf b = vsOf (a ++ b) by simp [vsOf], ← h1, vsOf_len, HQ.out]
          refine ⟨A0, cA, zs, by rw [hlen]; rfl, ⟨by rw [hlen]; exact ho.sl', fun u hu => (HZA.out u hu).1.below HB3.out, fun u hu => (HZA.out u hu).2⟩, ?_, ?_⟩
          · have h1 := HPL.out
            rw [← HAB.out] at h1
            rw [show vsOf a ++ vsOf b = vsOf (a ++ b) by simp [vsOf], ← h1]
          · exact (HB1.out.trans (HB2.out.mono HB1.out.size)).trans (HB3.out.mono (Nat.le_trans HB1.out.size HB2.out.size))
end Go.Proofs.YtjncmlglhegnaaaGreatDoor
