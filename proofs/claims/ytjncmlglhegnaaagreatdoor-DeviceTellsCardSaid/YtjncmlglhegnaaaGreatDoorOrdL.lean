/- A region that draws its order, one of whose cells is loaded by one operation and stored by a later one that waits for it: S holds throughout, T till the operation m. -/
import Derived.Test.YtjncmlglhegnaaaGreatDoorBase4
import Derived.Deep.RegionHeld3
namespace Go.Proofs.YtjncmlglhegnaaaGreatDoor
section
variable {P : Program} {ops : Array Oper} {Q : Exit → Act → World → Prop} {md : Region.Mode} {S T : World → Prop} {m : Nat}
def wpTill (P : Program) (md : Region.Mode) (ops : Array Oper) (Q : Exit → Act → World → Prop) (S T : World → Prop) (m : Nat) : Nat → Array Bool → Act → World → Prop
  | 0, done, a, w => Region.ready md ops done = [] ∧ Q .normal a w
  | n + 1, done, a, w => (Region.ready md ops done = [] → Q .normal a w) ∧
      ∀ i ∈ Region.ready md ops done, wpOp P ops Q i (fun a' w' => (S w' ∧ ((done.setIfInBounds i true).getD m false = false → T w')) ∧ wpTill P md ops Q S T m n (done.setIfInBounds i true) a' w') a w
theorem wpTill.any : ∀ (n : Nat) (done : Array Bool) (a : Act) (w : World), wpTill P md ops Q S T m n done a w → wpAny P md ops Q n done a w
  | 0, _, _, _, h => h
  | n + 1, _, _, _, h => ⟨h.1, fun i hi => wpOp_mono (fun _ _ h' => wpTill.any n _ _ _ h'.2) (h.2 i hi)⟩
theorem wpTill.start {id : Nat} {a : Act} {w : World} (hm : P.follows .mixedOrders = true) (h : wpTill P .any ops Q S T m ops.size (Array.replicate ops.size false) a w.drew) : (Code.region id ops true).wp P Q a w :=
  wp_region_any hm (wpTill.any _ _ _ _ h)
/-- .. with the number of operations spelled out -/
theorem wpTill.startN (N : Nat) {id : Nat} {a : Act} {w : World} (hN : ops.size = N) (hm : P.follows .mixedOrders = true) (h : wpTill P .any ops Q S T m N (Array.replicate N false) a w.drew) : (Code.region id ops true).wp P Q a w := by
  subst hN
  exact wpTill.start hm h
theorem wpTill.stop {done : Array Bool} {a : Act} {w : World} (hr : Region.ready md ops done = []) (h : Q .normal a w) : ∀ n, wpTill P md ops Q S T m n done a w
  | 0 => ⟨hr, h⟩
  | _ + 1 => ⟨fun _ => h, by rw [hr]; simp⟩
/-- the general law: U says of which sets of done operations the taken one may rely on Y -/
theorem wpTill_gen {i : Nat} {oi : Oper} {v : Value} (U : Array Bool → Prop) (Y : World → Prop) (hi : ops[i]? = some oi) (him : i ≠ m) (hsel : ∀ (j : Nat) (o : Oper) cs b, ops[j]? = some o → o.op ≠ .select cs b)
    (hQ : ∀ c a w, Q (.panic c) (a.put oi.dst v) w → Q (.panic c) a w)
    (hU : ∀ done j oj, U done → ops[j]? = some oj → (∀ e ∈ oj.after, Region.binds md e = true → e.on ≠ i) → U (done.setIfInBounds j true))
    (hY : ∀ done w, U done → S w → (done.getD m false = false → T w) → Y w) :
    ∀ (n : Nat) (done : Array Bool) (a : Act) (w : World),
      (∀ j oj, ops[j]? = some oj → j ≠ i → done.getD j true = false → (∀ e ∈ oj.after, Region.binds md e = true → e.on ≠ i) → oi.apart ops oj = true) →
      i ∈ Region.ready md ops done → U done → YieldsIf P ops Y oi v a → S w → (done.getD m false = false → T w) →
      wpTill P md ops Q S T m n (done.setIfInBounds i true) (a.put oi.dst v) w → wpTill P md ops Q S T m (n + 1) done a w := by
  have hkeep : ∀ done : Array Bool, (done.setIfInBounds i true).getD m false = done.getD m false := fun done => getD_set_ne false him
  intro n
  induction n with
  | zero =>
    intro done a w _ hr hu hy hS hT H
    refine ⟨fun h => (by rw [h] at hr; cases hr), fun j hj => ?_⟩
    by_cases hji : j = i
    · subst hji
      exact hy.wpOp hi (hY done w hu hS hT) ⟨⟨hS, by rw [hkeep]; exact hT⟩, H⟩
    · have := ready_mono hj hji
      rw [H.1] at this
      cases this
  | succ n ih =>
    intro done a w hfree hr hu hy hS hT H
    refine ⟨fun h => (by rw [h] at hr; cases hr), fun j hj => ?_⟩
    by_cases hji : j = i
    · subst hji
      exact hy.wpOp hi (hY done w hu hS hT) ⟨⟨hS, by rw [hkeep]; exact hT⟩, H⟩
    · have h1 := H.2 j (ready_mono hj hji)
      obtain ⟨hjun, oj, hoj, hall⟩ := mem_ready.1 hj
      have hnot : ∀ e ∈ oj.after, Region.binds md e = true → e.on ≠ i := fun e he hb heq => by
        have h1 := hall e he hb
        have h0 := (mem_ready.1 hr).1
        rw [heq] at h1
        rcases Nat.lt_or_ge i done.size with h' | h'
        · simp [h'] at h0 h1; rw [h0] at h1; cases h1
        · simp [Array.getElem?_eq_none h'] at h1
      have h2 := wpOp_putIf hoj (hfree j oj hoj hji hjun hnot) (fun cs b => hsel i oi cs b hi) (fun cs b => hsel j oj cs b hoj) hQ hy h1
      have hfree' : ∀ k ok, ops[k]? = some ok → k ≠ i → (done.setIfInBounds j true).getD k true = false → (∀ e ∈ ok.after, Region.binds md e = true → e.on ≠ i) → oi.apart ops ok = true := fun k ok hk hki hun hno => by
        refine hfree k ok hk hki ?_ hno
        by_cases hjk : j = k
        · subst hjk; exact hjun
        · rw [getD_set_ne true hjk] at hun; exact hun
      refine wpOp_mono (fun a' w' h3 => ?_) h2
      have hT' : (done.setIfInBounds j true).getD m false = false → T w' := fun h => h3.2.1.2 (by
        rw [Array.setIfInBounds_comm _ _ (Ne.symm hji), hkeep]
        exact h)
      refine ⟨⟨h3.2.1.1, hT'⟩, ih (done.setIfInBounds j true) a' w' hfree' (ready_mono hr (Ne.symm hji)) (hU done j oj hu hoj hnot) h3.1 h3.2.1.1 hT' ?_⟩
      rw [Array.setIfInBounds_comm _ _ hji]
      exact h3.2.2
/-- an operation that yields wherever S holds is taken first -/
theorem wpTill.take {i : Nat} {oi : Oper} {v : Value} {n : Nat} {done : Array Bool} {a : Act} {w : World} (hi : ops[i]? = some oi) (him : (i == m) = false)
    (hs : Region.noSelect ops = true) (hf : Region.free md ops done i = true) (hr : (Region.ready md ops done).contains i = true)
    (hQ : ∀ c a w, Q (.panic c) (a.put oi.dst v) w → Q (.panic c) a w) (hS : S w) (hT : done.getD m false = false → T w) (hy : YieldsIf P ops S oi v a)
    (h : wpTill P md ops Q S T m n (done.setIfInBounds i true) (a.put oi.dst v) w) : wpTill P md ops Q S T m (n + 1) done a w :=
  wpTill_gen (fun _ => True) S hi (by simpa using him) (Region.noSelect_spec hs) hQ (fun _ _ _ _ _ _ => trivial) (fun _ _ _ hS _ => hS) n done a w (Region.free_spec hi hf) (by simpa using hr) trivial hy hS hT h
/-- and one that yields wherever S and T hold, if m waits for it -/
theorem wpTill.takeT {i : Nat} {oi : Oper} {v : Value} {n : Nat} {done : Array Bool} {a : Act} {w : World} (hi : ops[i]? = some oi) (him : (i == m) = false)
    (hs : Region.noSelect ops = true) (hf : Region.free md ops done i = true) (hr : (Region.ready md ops done).contains i = true)
    (hQ : ∀ c a w, Q (.panic c) (a.put oi.dst v) w → Q (.panic c) a w) (hS : S w) (hT : T w) (hun : done.getD m false = false)
    (hw : (ops[m]?).any (fun o => o.after.any fun e => Region.binds md e && e.on == i) = true) (hy : YieldsIf P ops (fun w => S w ∧ T w) oi v a)
    (h : wpTill P md ops Q S T m n (done.setIfInBounds i true) (a.put oi.dst v) w) : wpTill P md ops Q S T m (n + 1) done a w := by
  refine wpTill_gen (fun d => d.getD m false = false) (fun w => S w ∧ T w) hi (by simpa using him) (Region.noSelect_spec hs) hQ (fun d j oj hd hoj hno => ?_) (fun d w hd hS hT => ⟨hS, hT hd⟩) n done a w (Region.free_spec hi hf) (by simpa using hr) hun hy hS (fun _ => hT) h
  by_cases hjm : j = m
  · subst hjm
    exfalso
    rw [hoj] at hw
    simp only [Option.any_some, Array.any_eq_true] at hw
    obtain ⟨x, hx, he⟩ := hw
    simp only [Bool.and_eq_true, beq_iff_eq] at he
    exact hno _ (Array.getElem_mem hx) he.1 he.2
  · show (d.setIfInBounds j true).getD m false = false
    rw [getD_set_ne false hjm]
    exact hd
/-- the one operation that may come up is carried out -/
theorem wpTill.step {i : Nat} {o : Oper} {n : Nat} {done : Array Bool} {a : Act} {w : World} (hr : Region.ready md ops done = [i]) (ho : ops[i]? = some o)
    (h : ∀ K' : Act → World → Prop, (∀ a w, S w → ((done.setIfInBounds i true).getD m false = false → T w) → wpTill P md ops Q S T m n (done.setIfInBounds i true) a w → K' a w) →
      if Region.wanted o (yielded ops a.tmps) = true then Oper.wp P o a w K' Q else K' (a.put o.dst undef) w) : wpTill P md ops Q S T m (n + 1) done a w := by
  refine ⟨fun h0 => (by rw [h0] at hr; cases hr), fun j hj => ?_⟩
  rw [hr] at hj
  obtain rfl : j = i := by simpa using hj
  exact wpOp_step ho fun K' hK => h K' fun a w h1 h2 h3 => hK a w ⟨⟨h1, h2⟩, h3⟩
/-- two operations may come up: both orders -/
theorem wpTill.step2 {i j : Nat} {oi oj : Oper} {n : Nat} {done : Array Bool} {a : Act} {w : World} (hr : Region.ready md ops done = [i, j]) (hoi : ops[i]? = some oi) (hoj : ops[j]? = some oj)
    (hi : ∀ K' : Act → World → Prop, (∀ a w, S w → ((done.setIfInBounds i true).getD m false = false → T w) → wpTill P md ops Q S T m n (done.setIfInBounds i true) a w → K' a w) →
      if Region.wanted oi (yielded ops a.tmps) = true then Oper.wp P oi a w K' Q else K' (a.put oi.dst undef) w)
    (hj : ∀ K' : Act → World → Prop, (∀ a w, S w → ((done.setIfInBounds j true).getD m false = false → T w) → wpTill P md ops Q S T m n (done.setIfInBounds j true) a w → K' a w) →
      if Region.wanted oj (yielded ops a.tmps) = true then Oper.wp P oj a w K' Q else K' (a.put oj.dst undef) w) : wpTill P md ops Q S T m (n + 1) done a w := by
  refine ⟨fun h0 => (by rw [h0] at hr; cases hr), fun k hk => ?_⟩
  rw [hr] at hk
  rcases List.mem_cons.1 hk with rfl | hk
  · exact wpOp_step hoi fun K' hK => hi K' fun a w h1 h2 h3 => hK a w ⟨⟨h1, h2⟩, h3⟩
  · obtain rfl : k = j := by simpa using hk
    exact wpOp_step hoj fun K' hK => hj K' fun a w h1 h2 h3 => hK a w ⟨⟨h1, h2⟩, h3⟩
end
end Go.Proofs.YtjncmlglhegnaaaGreatDoor
