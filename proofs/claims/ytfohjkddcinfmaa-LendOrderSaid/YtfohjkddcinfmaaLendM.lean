/- The memory of the acts: the center, the devices, the reports. -/
import Derived.Test.YtfohjkddcinfmaaLendN
import Derived.Test.YtfohjkddcinfmaaLendD
import Derived.Test.YtfohjkddcinfmaaLendW
import Derived.Test.YtfohjkddcinfmaaBase4
namespace Go.Proofs.Ytfohjkddcinfmaa
open Go.RowKit

/-- The world's struct lies in block B; its slices in blocks of their own, from 'base' on. -/
structure WAt (w : World) (B base : Nat) (st : St) (A : Option Addr) (c : Nat) (D : Option Addr) (cd : Nat) (R : Option Addr) (cr : Nat) (rs : List Value) : Prop where
  loc : Loc w B #[.int .i64 st.S.total, .int .i64 st.S.spent, .slice A st.S.loans.length c, .slice D st.dev.length cd, .slice R st.rep.length cr]
  bb : B < base
  hb : base ≤ w.heap.size
  sl : Sl w 4 A st.S.loans.length (st.S.loans.map LoanV.cells)
  slb : ∀ ad, A = some ad → base ≤ ad.block
  dev : Own w base 26 4 (.slice D st.dev.length cd) st.dev.length (st.dev.map LoanV.cells)
  rep : Own w base 22 1 (.slice R st.rep.length cr) st.rep.length (rs.map fun v => [v])
  each : ∀ (k : Nat) (v : Value) (ls : List LoanV), rs[k]? = some v → st.rep[k]? = some ls → Own w base 26 4 v ls.length (ls.map LoanV.cells)
  dA : st.S.loans ≠ [] → Dis (.slice A 0 0) (.slice D 0 0) ∧ Dis (.slice A 0 0) (.slice R 0 0) ∧ ∀ (k : Nat) (v : Value), rs[k]? = some v → Dis (.slice A 0 0) v
  dDR : Dis (.slice D 0 0) (.slice R 0 0)
  dD : ∀ (k : Nat) (v : Value), rs[k]? = some v → Dis v (.slice D 0 0)
  dR : ∀ (k : Nat) (v : Value), rs[k]? = some v → Dis v (.slice R 0 0)
  dd : ∀ (j k : Nat) (v u : Value), j ≠ k → rs[j]? = some v → rs[k]? = some u → Dis v u

section
variable {w w' : World} {B base : Nat} {st : St} {A : Option Addr} {c : Nat} {D : Option Addr} {cd : Nat} {R : Option Addr} {cr : Nat} {rs : List Value}
theorem WAt.rl (h : WAt w B base st A c D cd R cr rs) : rs.length = st.rep.length := by simpa using h.rep.2.2
theorem WAt.below (h : WAt w B base st A c D cd R cr rs) (hb : Below w.heap.size w w') : WAt w' B base st A c D cd R cr rs :=
  ⟨h.loc.below hb, h.bb, Nat.le_trans h.hb hb.size, h.sl.below hb, h.slb, h.dev.below hb, h.rep.below hb, fun k v ls hv hl => (h.each k v ls hv hl).below hb, h.dA, h.dDR, h.dD, h.dR, h.dd⟩
theorem WAt.drew (h : WAt w B base st A c D cd R cr rs) : WAt w.drew B base st A c D cd R cr rs := h.below (Below.refl _ _).drew
theorem WAt.alloc (h : WAt w B base st A c D cd R cr rs) (o : Obj) : WAt (w.alloc o) B base st A c D cd R cr rs := h.below (below_alloc w o)

/-- the blocks that the reports and the devices take are old -/
theorem WAt.olds (h : WAt w B base st A c D cd R cr rs) : (∀ b, (Value.slice D 0 0).ownBlock = some b → b < w.heap.size) ∧ (∀ b, (Value.slice R 0 0).ownBlock = some b → b < w.heap.size) ∧ (∀ (k : Nat) (v : Value), rs[k]? = some v → ∀ b, v.ownBlock = some b → b < w.heap.size) := by
  refine ⟨fun b hb => (h.dev.lt b (by rw [slice_block]; exact hb)).2, fun b hb => (h.rep.lt b (by rw [slice_block]; exact hb)).2, fun k v hv b hb => ?_⟩
  obtain ⟨ls, hl⟩ : ∃ ls, st.rep[k]? = some ls := ⟨_, List.getElem?_eq_getElem (by rw [← h.rl]; exact (List.getElem?_eq_some_iff.1 hv).1)⟩
  exact ((h.each k v ls hv hl).lt b hb).2

/-- the center's stock is replaced by one that lies in new memory -/
theorem WAt.setS {w0 : World} (h : WAt w0 B base st A c D cd R cr rs) (hb : Below w0.heap.size w0 w) (s' : StockV) {A' : Option Addr} {c' : Nat} (hs : Sl w 4 A' s'.loans.length (s'.loans.map LoanV.cells)) (hf : ∀ ad, A' = some ad → w0.heap.size ≤ ad.block) :
    WAt (((w.setCell ⟨B, 0, none⟩ (.int .i64 s'.total)).setCell ⟨B, 1, none⟩ (.int .i64 s'.spent)).setCell ⟨B, 2, none⟩ (.slice A' s'.loans.length c')) B base ⟨s', st.dev, st.rep⟩ A' c' D cd R cr rs := by
  have ho := h.olds
  have hbb := h.bb
  have hhb := h.hb
  have k := h.below hb
  have hne : s'.loans.map LoanV.cells = [] ∨ ∀ ad, A' = some ad → some B ≠ some ad.block := .inr fun ad e => by have := hf ad e; simp only [ne_eq, Option.some.injEq]; omega
  refine ⟨?_, h.bb, ?_, ?_, fun ad e => Nat.le_trans hhb (hf ad e), ((k.dev.setBelow hbb _).setBelow hbb _).setBelow hbb _, ((k.rep.setBelow hbb _).setBelow hbb _).setBelow hbb _,
    fun i v ls hv hl => (((k.each i v ls hv hl).setBelow hbb _).setBelow hbb _).setBelow hbb _, fun _ => ⟨?_, ?_, fun i v hv => ?_⟩, h.dDR, h.dD, h.dR, h.dd⟩
  · have h1 := ((k.loc.set_ 0 (.int .i64 s'.total)).set_ 1 (.int .i64 s'.spent)).set_ 2 (.slice A' s'.loans.length c')
    simpa using h1
  · simp only [World.size_setCell]; exact k.hb
  · exact ((hs.grown (grownBy_setCell _ _ _) hne).grown (grownBy_setCell _ _ _) hne).grown (grownBy_setCell _ _ _) hne
  · exact Dis.fresh (B := w0.heap.size) (fun b e => by cases A' <;> simp [Value.ownBlock] at e; rw [← e]; exact hf _ rfl) ho.1
  · exact Dis.fresh (B := w0.heap.size) (fun b e => by cases A' <;> simp [Value.ownBlock] at e; rw [← e]; exact hf _ rfl) ho.2.1
  · exact Dis.fresh (B := w0.heap.size) (fun b e => by cases A' <;> simp [Value.ownBlock] at e; rw [← e]; exact hf _ rfl) (ho.2.2 i v hv)

theorem keep_of {x r : Value} (h : Dis x r) : x.ownBlock = none ∨ x.ownBlock ≠ r.ownBlock := by
  cases hx : x.ownBlock with
  | none => exact .inl rfl
  | some b => exact .inr (fun e => h b hx e.symm)
theorem dis_row {D : Option Addr} {g : Nat} {o : Nat} {x : Value} {n c : Nat} (hD : D = some ⟨g, o, none⟩) (h : Dis x (.slice D n c)) : x.ownBlock ≠ some g := fun e => h g e (by rw [hD]; rfl)

/-- a loan at a device is replaced -/
theorem WAt.setDev {g k : Nat} (h : WAt w B base st A c (some ⟨g, 0, none⟩) cd R cr rs) (hk : k < st.dev.length) (d u p : Int) (b : Bool) :
    WAt ((((w.setCell ⟨g, k * 4, none⟩ (.int .i64 d)).setCell ⟨g, k * 4 + 1, none⟩ (.int .i64 u)).setCell ⟨g, k * 4 + 2, none⟩ (.int .i64 p)).setCell ⟨g, k * 4 + 3, none⟩ (.bool b)) B base ⟨st.S, st.dev.set k ⟨d, u, p, b⟩, st.rep⟩ A c (some ⟨g, 0, none⟩) cd R cr rs := by
  have hg := (h.dev.lt g rfl).1
  have hB : g ≠ B := by have := h.bb; omega
  have hA : st.S.loans.map LoanV.cells = [] ∨ ∀ ad, A = some ad → some g ≠ some ad.block := by
    by_cases hl : st.S.loans = []
    · exact .inl (by rw [hl]; rfl)
    · exact .inr fun ad e => fun e' => (h.dA hl).1 ad.block (by rw [e]; rfl) (by rw [← Option.some.inj e']; rfl)
  have hR : (Value.slice R st.rep.length cr).ownBlock ≠ some g := fun e => h.dDR g rfl (by rw [slice_block] at e; exact e)
  refine ⟨(((h.loc.far hB _).far hB _).far hB _).far hB _ |> fun x => by simpa using x, h.bb, by simp only [World.size_setCell]; exact h.hb,
    (((h.sl.grown (grownBy_setCell _ _ _) hA).grown (grownBy_setCell _ _ _) hA).grown (grownBy_setCell _ _ _) hA).grown (grownBy_setCell _ _ _) hA, h.slb, ?_,
    (((h.rep.other hR _).other hR _).other hR _).other hR _, fun i v ls hv hl => ?_, h.dA, h.dDR, h.dD, h.dR, h.dd⟩
  · have h1 := merged4 h.dev hk d u p b
    simpa using h1
  · have hv' : v.ownBlock ≠ some g := fun e => h.dD i v hv g e rfl
    exact ((((h.each i v ls hv hl).other hv' _).other hv' _).other hv' _).other hv' _

/-- a report is appended onto the reports of a loan, and the slice stored back -/
theorem WAt.addRep {g k : Nat} {v v' : Value} {ls ls' : List LoanV} (h : WAt w B base st A c D cd (some ⟨g, 0, none⟩) cr rs) (hv : rs[k]? = some v) (hl : st.rep[k]? = some ls)
    (hg : w.grownBy w' v.ownBlock) (hown : Own w' base 26 4 v' ls'.length (ls'.map LoanV.cells)) (hat : v'.ownBlock = v.ownBlock ∨ ∀ b, v'.ownBlock = some b → w.heap.size ≤ b) :
    WAt (w'.setCell ⟨g, k, none⟩ v') B base ⟨st.S, st.dev, st.rep.set k ls'⟩ A c D cd (some ⟨g, 0, none⟩) cr (rs.set k v') := by
  have ho := h.olds
  have hvl := (h.each k v ls hv hl).lt
  have hgl := h.rep.lt g rfl
  have hkr : k < rs.length := (List.getElem?_eq_some_iff.1 hv).1
  have hB : g ≠ B := by have := h.bb; omega
  have hvB : v.ownBlock ≠ some B := fun e => by have := (hvl B e).1; have := h.bb; omega
  have hvg : v.ownBlock ≠ some g := fun e => h.dR k v hv g e rfl
  -- what is no longer the old slice's block, nor a new one
  have hx : ∀ x : Value, Dis v x → (∀ b, x.ownBlock = some b → b < w.heap.size) → Dis v' x := by
    intro x hd hlt
    rcases hat with e | e
    · exact fun b hb => hd b (by rw [← e]; exact hb)
    · exact Dis.fresh e hlt
  have hD' : Dis v' (.slice D 0 0) := hx _ (h.dD k v hv) ho.1
  have hR' : Dis v' (.slice (some ⟨g, 0, none⟩) 0 0) := hx _ (h.dR k v hv) ho.2.1
  have hrep := h.rep.kept hg (.inr (fun e => hvg e.symm))
  have hA : st.S.loans.map LoanV.cells = [] ∨ ∀ ad, A = some ad → some g ≠ some ad.block := by
    by_cases hl : st.S.loans = []
    · exact .inl (by rw [hl]; rfl)
    · exact .inr fun ad e => fun e' => (h.dA hl).2.1 ad.block (by rw [e]; rfl) (by rw [← Option.some.inj e']; rfl)
  have hA2 : st.S.loans.map LoanV.cells = [] ∨ ∀ ad, A = some ad → v.ownBlock ≠ some ad.block := by
    by_cases hl : st.S.loans = []
    · exact .inl (by rw [hl]; rfl)
    · exact .inr fun ad e => fun e' => (h.dA hl).2.2 k v hv ad.block (by rw [e]; rfl) e'
  refine ⟨by have h1 := (h.loc.grown hg hvB).far (p := ⟨g, k, none⟩) hB v'; simpa using h1, h.bb, by simp only [World.size_setCell]; exact Nat.le_trans h.hb hg.size,
    (h.sl.grown hg hA2).grown (grownBy_setCell _ _ _) hA, h.slb, ?_, ?_, ?_, ?_, h.dDR, ?_, ?_, ?_⟩
  · exact (h.dev.kept hg (by rw [slice_block]; exact keep_of (h.dD k v hv).symm)).other (fun e => h.dDR g (by rw [slice_block] at e; exact e) rfl) _
  · have h1 := hrep.stored1 hkr v'
    simpa using h1
  · intro i u xs hu hxs
    by_cases hi : i = k
    · subst hi
      rw [List.getElem?_set_self hkr] at hu
      rw [List.getElem?_set_self (by rw [← h.rl]; exact hkr)] at hxs
      simp only [Option.some.injEq] at hu hxs
      subst hu hxs
      exact hown.other (fun e => hR' g e rfl) _
    · rw [List.getElem?_set_ne (Ne.symm hi)] at hu hxs
      have hd := h.dd k i v u (Ne.symm hi) hv hu
      exact ((h.each i u xs hu hxs).kept hg (by
        cases hub : u.ownBlock with
        | none => exact .inl rfl
        | some b => exact .inr (fun e => hd b e.symm hub))).other (fun e => h.dR i u hu g e rfl) _
  · intro hne
    refine ⟨(h.dA hne).1, (h.dA hne).2.1, fun i u hu => ?_⟩
    by_cases hi : i = k
    · subst hi
      rw [List.getElem?_set_self hkr] at hu
      simp only [Option.some.injEq] at hu
      subst hu
      refine (hx _ ((h.dA hne).2.2 i v hv).symm fun b hb => ?_).symm
      obtain ⟨x, hx⟩ : ∃ x, (st.S.loans.map LoanV.cells)[0]? = some x := ⟨_, List.getElem?_eq_getElem (by simpa using List.length_pos_iff.2 hne)⟩
      obtain ⟨b', o, hA', hb', _⟩ := h.sl.2 0 x hx
      rw [hA'] at hb
      simp only [Value.ownBlock, Option.some.injEq] at hb
      rw [← hb]; exact hb'
    · rw [List.getElem?_set_ne (Ne.symm hi)] at hu
      exact (h.dA hne).2.2 i u hu
  · intro i u hu
    by_cases hi : i = k
    · subst hi
      rw [List.getElem?_set_self hkr] at hu
      simp only [Option.some.injEq] at hu
      subst hu
      exact hD'
    · rw [List.getElem?_set_ne (Ne.symm hi)] at hu
      exact h.dD i u hu
  · intro i u hu
    by_cases hi : i = k
    · subst hi
      rw [List.getElem?_set_self hkr] at hu
      simp only [Option.some.injEq] at hu
      subst hu
      exact hR'
    · rw [List.getElem?_set_ne (Ne.symm hi)] at hu
      exact h.dR i u hu
  · intro i j u x hij hu hxx
    by_cases hi : i = k
    · subst hi
      rw [List.getElem?_set_self hkr] at hu
      rw [List.getElem?_set_ne hij] at hxx
      simp only [Option.some.injEq] at hu
      subst hu
      exact hx _ (h.dd i j v x hij hv hxx) (ho.2.2 j x hxx)
    · rw [List.getElem?_set_ne (Ne.symm hi)] at hu
      by_cases hj : j = k
      · subst hj
        rw [List.getElem?_set_self hkr] at hxx
        simp only [Option.some.injEq] at hxx
        subst hxx
        exact (hx _ (h.dd j i v u (Ne.symm hij) hv hu) (ho.2.2 i u hu)).symm
      · rw [List.getElem?_set_ne (Ne.symm hj)] at hxx
        exact h.dd i j u x hij hu hxx

theorem own_ne_of {x : Value} {n cc : Nat} {D : Option Addr} (h : Dis x (.slice D 0 0)) : ∀ b, x.ownBlock = some b → (Value.slice D n cc).ownBlock ≠ some b := fun b hx hy => h b hx (by cases D <;> simp_all [Value.ownBlock])
theorem WAt.slRow (_h : WAt w B base st A c D cd R cr rs) {r : Value} (hr : st.S.loans ≠ [] → Dis (.slice A 0 0) r) : st.S.loans.map LoanV.cells = [] ∨ ∀ ad, A = some ad → r.ownBlock ≠ some ad.block := by
  by_cases hl : st.S.loans = []
  · exact .inl (by rw [hl]; rfl)
  · exact .inr fun ad e => fun e' => hr hl ad.block (by rw [e]; rfl) e'
theorem WAt.slOld (h : WAt w B base st A c D cd R cr rs) (hne : st.S.loans ≠ []) : ∀ b, (Value.slice A 0 0).ownBlock = some b → b < w.heap.size := by
  intro b hb
  obtain ⟨x, hx⟩ : ∃ x, (st.S.loans.map LoanV.cells)[0]? = some x := ⟨_, List.getElem?_eq_getElem (by simpa using List.length_pos_iff.2 hne)⟩
  obtain ⟨b', o, hA', hb', _⟩ := h.sl.2 0 x hx
  rw [hA'] at hb
  simp only [Value.ownBlock, Option.some.injEq] at hb
  rw [← hb]; exact hb'

/-- a loan is appended to the devices', and the slice stored back -/
theorem WAt.addDev {D' : Option Addr} {cd' : Nat} {l : LoanV} (h : WAt w B base st A c D cd R cr rs)
    (hg : w.grownBy w' (Value.slice D st.dev.length cd).ownBlock) (hown : Own w' base 26 4 (.slice D' (st.dev.length + 1) cd') (st.dev.length + 1) ((st.dev ++ [l]).map LoanV.cells))
    (hat : (Value.slice D' 0 0).ownBlock = (Value.slice D 0 0).ownBlock ∨ ∀ b, (Value.slice D' 0 0).ownBlock = some b → w.heap.size ≤ b) :
    WAt (w'.setCell ⟨B, 3, none⟩ (.slice D' (st.dev.length + 1) cd')) B base ⟨st.S, st.dev ++ [l], st.rep⟩ A c D' cd' R cr rs := by
  have ho := h.olds
  have hbb := h.bb
  rw [slice_block] at hg
  have hx : ∀ x : Value, Dis (.slice D 0 0) x → (∀ b, x.ownBlock = some b → b < w.heap.size) → Dis (.slice D' 0 0) x := by
    intro x hd hlt
    rcases hat with e | e
    · exact fun b hb => hd b (by rw [← e]; exact hb)
    · exact Dis.fresh e hlt
  have hDB : (Value.slice D 0 0).ownBlock ≠ some B := fun e => by have := (h.dev.lt B (by rw [slice_block]; exact e)).1; omega
  refine ⟨?_, hbb, by simp only [World.size_setCell]; exact Nat.le_trans h.hb hg.size, (h.sl.grown hg (h.slRow fun hne => (h.dA hne).1)).grown (grownBy_setCell _ _ _) (.inr fun ad e => by have := h.slb ad e; simp only [ne_eq, Option.some.injEq]; omega), h.slb, ?_, ?_, ?_, ?_, ?_, ?_, h.dR, h.dd⟩
  · have h1 := (h.loc.grown hg hDB).set_ 3 (.slice D' (st.dev.length + 1) cd')
    simpa using h1
  · have h1 := hown.setBelow (p := ⟨B, 3, none⟩) hbb (.slice D' (st.dev.length + 1) cd')
    simpa using h1
  · refine (h.rep.kept hg ?_).setBelow hbb _
    rw [slice_block]
    exact keep_of h.dDR.symm
  · intro i u xs hu hxs
    exact ((h.each i u xs hu hxs).kept hg (keep_of (h.dD i u hu))).setBelow hbb _
  · intro hne
    exact ⟨(hx _ (h.dA hne).1.symm (h.slOld hne)).symm, (h.dA hne).2⟩
  · exact hx _ h.dDR ho.2.1
  · intro i u hu
    exact (hx _ (h.dD i u hu).symm (ho.2.2 i u hu)).symm

/-- the reports of a new loan are appended, and the slice stored back -/
theorem WAt.newRep {w0 : World} {R' : Option Addr} {cr' : Nat} {u : Value} {ls : List LoanV} (h0 : WAt w0 B base st A c D cd R cr rs) (hb0 : Below w0.heap.size w0 w)
    (hu : Own w base 26 4 u ls.length (ls.map LoanV.cells)) (huf : ∀ b, u.ownBlock = some b → w0.heap.size ≤ b)
    (hg : w.grownBy w' (Value.slice R st.rep.length cr).ownBlock) (hown : Own w' base 22 1 (.slice R' (st.rep.length + 1) cr') (st.rep.length + 1) ((rs ++ [u]).map fun v => [v]))
    (hat : (Value.slice R' 0 0).ownBlock = (Value.slice R 0 0).ownBlock ∨ ∀ b, (Value.slice R' 0 0).ownBlock = some b → w.heap.size ≤ b) :
    WAt (w'.setCell ⟨B, 4, none⟩ (.slice R' (st.rep.length + 1) cr')) B base ⟨st.S, st.dev, st.rep ++ [ls]⟩ A c D cd R' cr' (rs ++ [u]) := by
  have h := h0.below hb0
  have ho0 := h0.olds
  have ho := h.olds
  have hbb := h.bb
  rw [slice_block] at hg
  have hult := fun b e => (hu.lt b e).2
  have hx : ∀ x : Value, Dis (.slice R 0 0) x → (∀ b, x.ownBlock = some b → b < w.heap.size) → Dis (.slice R' 0 0) x := by
    intro x hd hlt
    rcases hat with e | e
    · exact fun b hb => hd b (by rw [← e]; exact hb)
    · exact Dis.fresh e hlt
  have hRB : (Value.slice R 0 0).ownBlock ≠ some B := fun e => by have := (h.rep.lt B (by rw [slice_block]; exact e)).1; omega
  have huR : Dis u (.slice R 0 0) := Dis.fresh huf ho0.2.1
  have huD : Dis u (.slice D 0 0) := Dis.fresh huf ho0.1
  have cases_ : ∀ {i : Nat} {x : Value}, (rs ++ [u])[i]? = some x → rs[i]? = some x ∨ (i = rs.length ∧ x = u) := by
    intro i x hxx
    by_cases hi : i < rs.length
    · rw [List.getElem?_append_left hi] at hxx; exact .inl hxx
    · have hl := (List.getElem?_eq_some_iff.1 hxx).1
      simp only [List.length_append, List.length_singleton] at hl
      have : i = rs.length := by omega
      subst this
      rw [List.getElem?_append_right (Nat.le_refl _)] at hxx
      simp only [Nat.sub_self, List.getElem?_cons_zero, Option.some.injEq] at hxx
      exact .inr ⟨rfl, hxx.symm⟩
  refine ⟨?_, hbb, by simp only [World.size_setCell]; exact Nat.le_trans h.hb hg.size, (h.sl.grown hg (h.slRow fun hne => (h.dA hne).2.1)).grown (grownBy_setCell _ _ _) (.inr fun ad e => by have := h.slb ad e; simp only [ne_eq, Option.some.injEq]; omega), h.slb, ?_, ?_, ?_, ?_, ?_, ?_, ?_, ?_⟩
  · have h1 := (h.loc.grown hg hRB).set_ 4 (.slice R' (st.rep.length + 1) cr')
    simpa using h1
  · refine (h.dev.kept hg ?_).setBelow hbb _
    rw [slice_block]
    exact keep_of h.dDR
  · have h1 := hown.setBelow (p := ⟨B, 4, none⟩) hbb (.slice R' (st.rep.length + 1) cr')
    simpa using h1
  · intro i x xs hxx hxs
    rcases cases_ hxx with hxx | ⟨rfl, rfl⟩
    · have hi : i < st.rep.length := by rw [← h.rl]; exact (List.getElem?_eq_some_iff.1 hxx).1
      rw [List.getElem?_append_left hi] at hxs
      exact ((h.each i x xs hxx hxs).kept hg (keep_of (h.dR i x hxx))).setBelow hbb _
    · rw [h.rl, List.getElem?_append_right (Nat.le_refl _)] at hxs
      simp only [Nat.sub_self, List.getElem?_cons_zero, Option.some.injEq] at hxs
      subst hxs
      exact (hu.kept hg (keep_of huR)).setBelow hbb _
  · intro hne
    refine ⟨(h.dA hne).1, (hx _ (h.dA hne).2.1.symm (h.slOld hne)).symm, fun i x hxx => ?_⟩
    rcases cases_ hxx with hxx | ⟨rfl, rfl⟩
    · exact (h.dA hne).2.2 i x hxx
    · exact (Dis.fresh huf (h0.slOld hne)).symm
  · exact (hx _ h.dDR.symm ho.1).symm
  · intro i x hxx
    rcases cases_ hxx with hxx | ⟨rfl, rfl⟩
    · exact h.dD i x hxx
    · exact huD
  · intro i x hxx
    rcases cases_ hxx with hxx | ⟨rfl, rfl⟩
    · exact (hx _ (h.dR i x hxx).symm (ho.2.2 i x hxx)).symm
    · exact (hx _ huR.symm hult).symm
  · intro i j x y hij hxx hyy
    rcases cases_ hxx with hx1 | ⟨hx1, hx2⟩
    · rcases cases_ hyy with hy1 | ⟨hy1, hy2⟩
      · exact h.dd i j x y hij hx1 hy1
      · rw [hy2]; exact (Dis.fresh huf (ho0.2.2 i x hx1)).symm
    · rcases cases_ hyy with hy1 | ⟨hy1, hy2⟩
      · rw [hx2]; exact Dis.fresh huf (ho0.2.2 j y hy1)
      · exact absurd (hx1.trans hy1.symm) hij
end
end Go.Proofs.Ytfohjkddcinfmaa
