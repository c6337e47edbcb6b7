/- The library's contracts, laid at this seat (numbers of the seat YtjncmlglhegnaaaGreatDoor; written by the kit's tools through wip/lay.py). -/
/- The model's count of draws never goes down, whatever is called: so what a call leaves, where it writes nothing that was there, is the world before it, with some draws and with blocks behind it. Conditions: none. -/
import Derived.Test.YtjncmlglhegnaaaGreatDoorRows
import Derived.Shelf.SlGeneric
import Derived.Shelf.SlSortCmp.WholeK
import Derived.Calls
import Derived.RunT
import Derived.Lone
import Derived.Below
import Derived.Sort.Grow
import Derived.Deep.Draws
namespace Go.Proofs.YtjncmlglhegnaaaGreatDoor
open Go.Shelf
def sortIt_ren : Go.Shelf.Ren := ⟨fun | 6 => 140 | 15 => 181 | 14 => 180 | 28 => 212 | 29 => 213 | 20 => 204 | 21 => 205 | 22 => 206 | 23 => 207 | 24 => 208 | 25 => 209 | 26 => 210 | 27 => 211 | 46 => 223 | 47 => 224 | 48 => 225 | 49 => 226 | 50 => 227 | 57 => 240 | n => n, fun | 22 => 139 | 24 => 141 | 25 => 144 | 3 => 3 | 39 => 213 | 0 => 0 | 53 => 237 | 55 => 239 | 4 => 4 | 46 => 231 | 45 => 230 | 50 => 131 | 5 => 5 | 9 => 9 | 66 => 246 | 70 => 250 | 76 => 263 | 77 => 264 | n => n, fun | n => n⟩
theorem sortIt : Go.Proofs.SlLaysF0.n6 Tryz.prog sortIt_ren := {
  mixed := by kernel_rfl
  f6 := ⟨Tryz.f140.name, by decide, Tryz.func140.trans (congrArg some (by kernel_rfl))⟩
  f14 := ⟨Tryz.f180.name, by decide, Tryz.func180.trans (congrArg some (by kernel_rfl))⟩
  f15 := Tryz.func181.trans (congrArg some (by kernel_rfl))
  f20 := ⟨Tryz.f204.name, by decide, Tryz.func204.trans (congrArg some (by kernel_rfl))⟩
  f21 := ⟨Tryz.f205.name, by decide, Tryz.func205.trans (congrArg some (by kernel_rfl))⟩
  f22 := ⟨Tryz.f206.name, by decide, Tryz.func206.trans (congrArg some (by kernel_rfl))⟩
  f23 := ⟨Tryz.f207.name, by decide, Tryz.func207.trans (congrArg some (by kernel_rfl))⟩
  f24 := ⟨Tryz.f208.name, by decide, Tryz.func208.trans (congrArg some (by kernel_rfl))⟩
  f25 := ⟨Tryz.f209.name, by decide, Tryz.func209.trans (congrArg some (by kernel_rfl))⟩
  f26 := ⟨Tryz.f210.name, by decide, Tryz.func210.trans (congrArg some (by kernel_rfl))⟩
  f27 := ⟨Tryz.f211.name, by decide, Tryz.func211.trans (congrArg some (by kernel_rfl))⟩
  f28 := Tryz.func212.trans (congrArg some (by kernel_rfl))
  f29 := Tryz.func213.trans (congrArg some (by kernel_rfl))
  f46 := ⟨Tryz.f223.name, by decide, Tryz.func223.trans (congrArg some (by kernel_rfl))⟩
  f47 := Tryz.func224.trans (congrArg some (by kernel_rfl))
  f48 := Tryz.func225.trans (congrArg some (by kernel_rfl))
  f49 := ⟨Tryz.f226.name, by decide, Tryz.func226.trans (congrArg some (by kernel_rfl))⟩
  f50 := ⟨Tryz.f227.name, by decide, Tryz.func227.trans (congrArg some (by kernel_rfl))⟩
  f57 := ⟨Tryz.f240.name, by decide, Tryz.func240.trans (congrArg some (by kernel_rfl))⟩
  t0 := Tryz.underlying0
  a0 := Tryz.isAgg0
  z0 := Tryz.sizeOf0
  v0 := Tryz.zeroValue0
  t3 := Tryz.underlying3
  a3 := Tryz.isAgg3
  z3 := Tryz.sizeOf3
  v3 := Tryz.zeroValue3
  t4 := Tryz.underlying4
  a4 := Tryz.isAgg4
  z4 := Tryz.sizeOf4
  v4 := Tryz.zeroValue4
  t5 := Tryz.underlying5
  a5 := Tryz.isAgg5
  z5 := Tryz.sizeOf5
  v5 := Tryz.zeroValue5
  t9 := Tryz.underlying9
  a9 := Tryz.isAgg9
  z9 := Tryz.sizeOf9
  v9 := Tryz.zeroValue9
  t22 := Tryz.underlying139
  a22 := Tryz.isAgg139
  z22 := Tryz.sizeOf139
  v22 := Tryz.zeroValue139
  t25 := Tryz.underlying144
  a25 := Tryz.isAgg144
  z25 := Tryz.sizeOf144
  v25 := Tryz.zeroValue144
  t39 := Tryz.underlying213
  a39 := Tryz.isAgg213
  z39 := Tryz.sizeOf213
  v39 := Tryz.zeroValue213
  t45 := Tryz.underlying230
  a45 := Tryz.isAgg230
  z45 := Tryz.sizeOf230
  v45 := Tryz.zeroValue230
  t46 := Tryz.underlying231
  a46 := Tryz.isAgg231
  z46 := Tryz.sizeOf231
  v46 := Tryz.zeroValue231
  t50 := Tryz.underlying131
  a50 := Tryz.isAgg131
  z50 := Tryz.sizeOf131
  v50 := Tryz.zeroValue131
  t53 := Tryz.underlying237
  a53 := Tryz.isAgg237
  z53 := Tryz.sizeOf237
  v53 := Tryz.zeroValue237
  t55 := Tryz.underlying239
  a55 := Tryz.isAgg239
  z55 := Tryz.sizeOf239
  v55 := Tryz.zeroValue239
  t66 := Tryz.underlying246
  a66 := Tryz.isAgg246
  z66 := Tryz.sizeOf246
  v66 := Tryz.zeroValue246
  t70 := Tryz.underlying250
  a70 := Tryz.isAgg250
  z70 := Tryz.sizeOf250
  v70 := Tryz.zeroValue250
  t76 := Tryz.underlying263
  a76 := Tryz.isAgg263
  z76 := Tryz.sizeOf263
  v76 := Tryz.zeroValue263
  t77 := Tryz.underlying264
  a77 := Tryz.isAgg264
  z77 := Tryz.sizeOf264
  v77 := Tryz.zeroValue264 }
end Go.Proofs.YtjncmlglhegnaaaGreatDoor
namespace Go.Proofs.YtjncmlglhegnaaaGreatDoor
open Go

def Go.ResUp {α : Type} (w : World) : Result α → Prop
  | .ok _ w' => w.drawn ≤ w'.drawn
  | .halt _ w' => w.drawn ≤ w'.drawn
theorem ask_up {α : Type} : ∀ (a : Ask α) (w : World), w.drawn ≤ (w.ask a).2.drawn
  | .done a, w => Nat.le_refl _
  | .ask what range k, w => by
    rw [World.ask]
    split
    · exact ask_up (k 0) w
    · exact Nat.le_trans (Nat.le_succ w.drawn) (ask_up (k _) { w with drawn := w.drawn + 1 })
theorem sys_up (c : Sys) (w : World) : w.drawn ≤ (w.sys c).2.drawn := by
  unfold World.sys
  have h := ask_up (Kernel.perform c w.os) w
  split
  · exact Nat.le_refl _
  · rename_i r os w' _ heq
    rw [heq] at h
    exact h
theorem far_up {p : Program} {w w' : World} {a : Addr} {v : Value} {at_ : Bool} {l : List Addr} (h : w.farStore p a v at_ = .ok (w', l)) : w.drawn = w'.drawn := by
  unfold World.farStore at h
  split at h
  · split at h
    · rename_i r heq
      injection h with h
      subst h
      unfold World.viewStore at heq
      simp only [bind, Except.bind, pure, Except.pure, throw, throwThe, MonadExceptOf.throw] at heq
      repeat' split at heq
      all_goals first | (cases heq; done) | (injection heq with heq; injection heq with h1 h2; rw [← h1])
    · cases h
  · cases h
theorem set_up (w : World) (a : Addr) (v : Value) : (w.setCell a v).drawn = w.drawn := by
  unfold World.setCell
  repeat' split
  all_goals rfl
theorem freeze_up (w : World) (a : Addr) (n : Nat) : (w.freeze a n).drawn = w.drawn := by
  unfold World.freeze
  repeat' split
  all_goals rfl
theorem run_up {α : Type} (p : Program) (e : Sem α) : ∀ w : World, Go.ResUp w (e.run p w) := by
  have tr : ∀ {w w1 : World} (r : Result α), w.drawn ≤ w1.drawn → Go.ResUp w1 r → Go.ResUp w r := fun r h h1 => by
    cases r <;> exact Nat.le_trans h h1
  induction e with
  | pure a => intro w; exact Nat.le_refl _
  | load m a k ih =>
    intro w
    unfold Sem.run
    split
    · exact ih _ w
    · split
      · exact ih _ w
      · exact Nat.le_refl _
  | store m a v k ih =>
    intro w
    cases v <;> simp only [Sem.run] <;> first
      | exact Nat.le_refl _
      | (split
         · split
           · exact Nat.le_refl _
           · exact tr _ (by rw [set_up]; exact Nat.le_refl _) (ih _)
         · split
           · rename_i heq
             exact tr _ (by rw [far_up heq]; exact Nat.le_refl _) (ih _)
           · exact Nat.le_refl _)
  | new o k ih => intro w; unfold Sem.run; exact tr (w1 := { w with heap := w.heap.push o }) _ (Nat.le_refl _) (ih _ _)
  | shape r k ih => intro w; unfold Sem.run; exact ih _ w
  | freeze a n k ih => intro w; unfold Sem.run; exact tr _ (by rw [freeze_up]; exact Nat.le_refl _) (ih _)
  | frozen a k ih => intro w; unfold Sem.run; exact ih _ w
  | getObj r k ih =>
    intro w
    unfold Sem.run
    split
    · exact Nat.le_refl _
    · exact ih _ w
    · exact Nat.le_refl _
  | setObj r o k ih =>
    intro w
    unfold Sem.run
    split
    · exact Nat.le_refl _
    · exact tr (w1 := { w with heap := w.heap.setIfInBounds r o }) _ (Nat.le_refl _) (ih _)
    · exact Nat.le_refl _
  | choose q k ih =>
    intro w
    unfold Sem.run
    split
    · exact ih _ w
    · exact tr (w1 := { w with drawn := w.drawn + 1 }) _ (Nat.le_succ _) (ih _ _)
  | sys c k ih => intro w; unfold Sem.run; exact tr _ (sys_up c w) (ih _ _)
  | program k ih => intro w; unfold Sem.run; exact ih _ w
  | mark m k ih => intro w; unfold Sem.run; exact ih w
  | halt h => intro w; exact Nat.le_refl _
theorem up_ok {α : Type} {p : Program} {e : Sem α} {w w' : World} {v : α} (h : e.run p w = .ok v w') : w.drawn ≤ w'.drawn := by
  have := run_up p e w
  rw [h] at this
  exact this
theorem up_halt {α : Type} {p : Program} {e : Sem α} {w w' : World} {v : Halt} (h : e.run p w = .halt v w') : w.drawn ≤ w'.drawn := by
  have := run_up p e w
  rw [h] at this
  exact this
theorem upT_ok {α : Type} {p : Program} {e : Sem α} {w w' : World} {v : α} {es es' : Array Event} (h : e.runT p w es = (.ok v w', es')) : w.drawn ≤ w'.drawn := by
  have := Sem.runT_fst p e w es
  rw [h] at this
  exact up_ok this.symm
theorem upT_halt {α : Type} {p : Program} {e : Sem α} {w w' : World} {v : Halt} {es es' : Array Event} (h : e.runT p w es = (.halt v w', es')) : w.drawn ≤ w'.drawn := by
  have := Sem.runT_fst p e w es
  rw [h] at this
  exact up_halt this.symm
def stepW : GStep → World
  | .go _ w _ => w
  | .comm _ _ _ _ w _ => w
  | .spawn _ _ w _ => w
  | .count _ w _ => w
  | .timer _ _ w _ => w
  | .alone _ _ w _ => w
  | .newcoro _ _ _ w _ => w
  | .coroswitch _ _ _ w _ => w
  | .collect _ w _ => w
  | .watch _ w _ => w
  | .ended _ w _ => w
theorem stepW_after (es : Array Event) (s : GStep) : stepW (GStep.after es s) = stepW s := by cases s <;> rfl
theorem doReturn_up (p : Program) (main : Bool) (fr : Frame) (callers : List Frame) (dying : Option Dying) (v : Value) (w : World) : (stepW (doReturn p main fr callers dying v w)).drawn = w.drawn := by
  unfold doReturn
  repeat' split
  all_goals rfl
theorem endThrow_up (fr : Frame) (m : String) (w : World) : (stepW (endThrow fr m w)).drawn = w.drawn := rfl
theorem endPrinting_up (p : Program) (fr : Frame) (v : Value) (w : World) : (stepW (endPrinting p fr v w)).drawn = w.drawn := by
  unfold endPrinting
  dsimp only
  repeat' split
  all_goals rfl
theorem endWith_up (w : World) (fd : Nat) (text : ByteArray) (o : Outcome) : w.drawn ≤ (stepW (endWith w fd text o)).drawn := by
  unfold endWith
  have h := sys_up (.write fd text) w
  dsimp only
  split
  · rename_i heq
    rw [heq] at h
    split <;> exact h
  · rename_i heq
    rw [heq] at h
    exact h
  · rename_i heq
    rw [heq] at h
    exact h
theorem endFatal_up (p : Program) (fr : Frame) (callers : List Frame) (dying : Option Dying) (m : String) (w : World) : w.drawn ≤ (stepW (endFatal p fr callers dying m w)).drawn := by
  unfold endFatal
  dsimp only
  split
  · exact up_ok (by assumption)
  · exact up_halt (by assumption)
  · exact up_halt (by assumption)
theorem writeOn_up (p : Program) (fr : Frame) (d : Dying) (f : Fatal) (w : World) : w.drawn ≤ (stepW (writeOn p fr d f w)).drawn := by
  unfold writeOn
  dsimp only
  split
  · exact Nat.le_refl _
  · split
    · exact upT_ok (by assumption)
    · exact upT_halt (by assumption)
    · exact upT_halt (by assumption)
    · exact upT_halt (by assumption)
theorem die_up (p : Program) (fr : Frame) (d : Dying) (w : World) : w.drawn ≤ (stepW (die p fr d w)).drawn := by
  unfold die
  split
  · exact writeOn_up _ _ _ _ _
  · split
    · split
      · exact Nat.le_refl _
      · exact endWith_up _ _ _ _
    · dsimp only
      split
      · exact Nat.le_refl _
      · split
        · exact up_ok (by assumption)
        · exact up_halt (by assumption)
      · rw [stepW_after]
        split
        · exact upT_ok (Prod.ext (by assumption) rfl)
        · exact upT_ok (Prod.ext (by assumption) rfl)
        · exact upT_halt (Prod.ext (by assumption) rfl)
        · rw [endPrinting_up]
          exact upT_halt (Prod.ext (by assumption) rfl)
        · exact Nat.le_refl _
      · exact Nat.le_refl _
theorem ite_up {w : World} {c : Prop} [Decidable c] {a b : GStep} (h1 : w.drawn ≤ (stepW a).drawn) (h2 : w.drawn ≤ (stepW b).drawn) : w.drawn ≤ (stepW (if c then a else b)).drawn := by
  split
  · exact h1
  · exact h2
theorem early_up (p : Program) (fr : Frame) (callers : List Frame) (dying : Option Dying) (g : Nat) (w : World) : w.drawn ≤ (stepW (early p fr callers dying g w)).drawn := by
  unfold early
  dsimp only
  have h := run_up p (choose (.early g)) w
  generalize Sem.run p (choose (.early g)) w = r at h ⊢
  cases r with
  | ok v w' =>
    have h' : w.drawn ≤ w'.drawn := h
    cases v <;> ((try dsimp only); repeat' split) <;> first
      | exact Nat.le_refl _
      | exact h'
      | (rename_i heq
         cases heq <;> exact h')
      | (rename_i heq _
         cases heq <;> exact h')
      | (rename_i heq _ _
         cases heq <;> exact h')
      | (rename_i heq _ _ _
         cases heq <;> exact h')
      | (rename_i heq _ _ _ _
         cases heq <;> exact h')
      | (rename_i heq _ _ _ _ _
         cases heq <;> exact h')
  | halt v w' =>
    have h' : w.drawn ≤ w'.drawn := h
    (try dsimp only)
    repeat' split
    all_goals first
      | exact Nat.le_refl _
      | exact h'
      | (rename_i heq
         cases heq <;> exact h')
      | (rename_i heq _
         cases heq <;> exact h')
      | (rename_i heq _ _
         cases heq <;> exact h')
      | (rename_i heq _ _ _
         cases heq <;> exact h')
      | (rename_i heq _ _ _ _
         cases heq <;> exact h')
      | (rename_i heq _ _ _ _ _
         cases heq <;> exact h')
theorem callDeferred_up (p : Program) (fr : Frame) (callers : List Frame) (dying : Option Dying) (d : Deferred) (w : World) : w.drawn ≤ (stepW (callDeferred p fr callers dying d w)).drawn := by
  unfold callDeferred
  dsimp only
  refine ite_up (Nat.le_refl _) ?_
  · rw [Sem.runT_eq]
    dsimp only
    rw [stepW_after]
    have h := run_up p (invoke d.target d.args) w
    generalize Sem.run p (invoke d.target d.args) w = r at h ⊢
    cases r with
    | ok v w' =>
      have h' : w.drawn ≤ w'.drawn := h
      cases v <;> first
        | exact h'
        | (rename_i b
           cases b <;> exact h')
        | (rename_i b _
           cases b <;> exact h')
        | (dsimp only
           repeat' split
           all_goals first
             | exact h'
             | (rename_i heq
                cases heq <;> exact h')
             | (rename_i heq _
                cases heq <;> exact h'))
    | halt v w' =>
      have h' : w.drawn ≤ w'.drawn := h
      cases v <;> (try dsimp only)
      all_goals first
        | exact h'
        | exact Nat.le_trans h' (endFatal_up _ _ _ _ _ _)
        | (rw [endThrow_up]; exact h')
        | (rename_i u
           cases u <;> exact h')
theorem unwind_up (p : Program) (main : Bool) (fr : Frame) (callers : List Frame) (dying : Option Dying) (w : World) : w.drawn ≤ (stepW (unwind p main fr callers dying w)).drawn := by
  unfold unwind
  split
  · dsimp only
    rw [Sem.runT_eq]
    dsimp only
    rw [stepW_after]
    split
    · exact up_ok (by assumption)
    · exact up_halt (by assumption)
  · exact callDeferred_up _ _ _ _ _ _
  · split
    · exact Nat.le_refl _
    · split
      · exact Nat.le_refl _
      · split
        · exact Nat.le_refl _
        · split
          · split
            · exact Nat.le_refl _
            · split
              · exact up_ok (by assumption)
              · exact up_halt (by assumption)
              · exact up_halt (by assumption)
          · split
            · rw [endPrinting_up]; exact Nat.le_refl _
            · exact Nat.le_refl _
    · split
      · rw [doReturn_up]; exact Nat.le_refl _
      · dsimp only
        rw [Sem.runT_eq]
        dsimp only
        rw [stepW_after]
        split
        · rw [doReturn_up]; exact up_ok (by assumption)
        · exact up_halt (by assumption)
        · exact up_halt (by assumption)
theorem apply_up (p : Program) (listen : Bool) (fr : Frame) (callers : List Frame) (dying : Option Dying) (s : Sem Next) (w : World) : w.drawn ≤ (stepW (stepG.apply p listen fr callers dying s w)).drawn := by
  unfold stepG.apply
  dsimp only
  have h := run_up p s w
  have hl : ((if listen = true then s.runT p w #[] else (s.run p w, #[]) : Result Next × Array Event)).1 = s.run p w := by
    split
    · exact Sem.runT_fst p s w #[]
    · rfl
  rw [← hl] at h
  generalize (if listen = true then s.runT p w #[] else (s.run p w, #[]) : Result Next × Array Event) = q at h ⊢
  obtain ⟨r, es⟩ := q
  dsimp only at h ⊢
  rw [stepW_after]
  cases r with
  | ok v w' =>
    have h' : w.drawn ≤ w'.drawn := h
    cases v <;> (try dsimp only)
    all_goals first
      | exact h'
      | (repeat' split
         all_goals first
           | exact h'
           | (rw [endThrow_up]; exact h'))
  | halt v w' =>
    have h' : w.drawn ≤ w'.drawn := h
    cases v <;> (try dsimp only)
    all_goals first
      | exact h'
      | exact Nat.le_trans h' (endFatal_up _ _ _ _ _ _)
      | (rw [endThrow_up]; exact h')
      | (rename_i u
         cases u <;> first
           | exact h'
           | exact Nat.le_trans h' (early_up _ _ _ _ _ _))
theorem oper_up (p : Program) (listen : Bool) (fr : Frame) (callers : List Frame) (dying : Option Dying) (w : World) : w.drawn ≤ (stepW (stepG.oper p listen fr callers dying w)).drawn := by
  unfold stepG.oper
  repeat' split
  all_goals first
    | exact Nat.le_refl _
    | exact apply_up _ _ _ _ _ _ _
theorem exec_up (p : Program) (main listen : Bool) (fr : Frame) (callers : List Frame) (dying : Option Dying) (w : World) : w.drawn ≤ (stepW (stepG.exec p main listen fr callers dying w)).drawn := by
  unfold stepG.exec
  dsimp only
  simp only [Sem.runT_eq, Option.elim]
  split
  all_goals first
    | exact Nat.le_refl _
    | exact apply_up _ _ _ _ _ _ _
    | (repeat' split
       all_goals first
         | exact Nat.le_refl _
         | exact apply_up _ _ _ _ _ _ _
         | exact oper_up _ _ _ _ _ _
         | (rw [stepW_after, doReturn_up]; exact up_ok (by assumption))
         | (rw [stepW_after]; exact up_ok (by assumption))
         | (rw [stepW_after]; exact up_halt (by assumption))
         | (rw [stepW_after]; exact Nat.le_trans (up_ok (by assumption)) (apply_up _ _ _ _ _ _ _))
         | exact up_ok (by assumption)
         | exact up_halt (by assumption)
         | (rw [stepW_after]
            repeat' split
            all_goals first
              | (rw [doReturn_up]; exact up_ok (by assumption))
              | exact up_ok (by assumption)
              | exact up_halt (by assumption)
              | exact Nat.le_trans (up_ok (by assumption)) (apply_up _ _ _ _ _ _ _)))
theorem stepG_up (p : Program) (main : Bool) (g : Goroutine) (w : World) (listen : Bool) : w.drawn ≤ (stepW (stepG p main g w listen)).drawn := by
  unfold stepG
  obtain ⟨fr, callers, st, dying, offers⟩ := g
  dsimp only
  split
  · exact die_up _ _ _ _
  · exact exec_up _ _ _ _ _ _ _
  · exact unwind_up _ _ _ _ _ _
theorem waitingAt_up {rest : Rest} {cases : Array CommCase} {w w' : World} (h : waitingAt rest cases w = some w') : w.drawn = w'.drawn := by
  unfold waitingAt at h
  repeat' split at h
  all_goals first
    | (cases h; done)
    | (injection h with h; subst h; rfl)
theorem communicate_up (p : Program) (rest : Rest) (gs : Array Goroutine) (i : Nat) (g : Goroutine) (cases : Array CommCase) (blocking : Bool)
    (shape : CommShape) (w : World) (m' : Machine) (h : (communicate p rest gs i g cases blocking shape w).1 = .next m') : w.drawn ≤ m'.world.drawn := by
  unfold communicate at h
  simp only [] at h
  repeat' first
    | (simp at h; done)
    | (simp only [Stepped.next.injEq] at h; subst h; (try dsimp only); first
        | exact Nat.le_refl _
        | exact Nat.le_of_eq (waitingAt_up (by assumption))
        | exact up_ok (by assumption)
        | exact up_halt (by assumption)
        | exact Nat.le_trans (up_ok (by assumption)) (up_ok (by assumption))
        | exact Nat.le_trans (up_ok (by assumption)) (up_halt (by assumption)))
    | split at h
theorem look_up (p : Program) (gs : Array Goroutine) (rest : Rest) (w : World) (m' : Machine) (h : look p gs rest w = .next m') : w.drawn ≤ m'.world.drawn := by
  unfold look at h
  simp only [] at h
  repeat' first
    | (simp at h; done)
    | (simp only [Stepped.next.injEq] at h; subst h; (try dsimp only); first
        | exact Nat.le_refl _
        | exact up_ok (by assumption)
        | exact up_halt (by assumption))
    | split at h
theorem drain_up (w : World) (c : Nat) : (drain w c).2.drawn = w.drawn := by
  unfold drain
  split <;> rfl
theorem retime_up (m : Machine) (k : Nat) (t : Timer) (when period : Nat) : (retime m k t when period).2.world.drawn = m.world.drawn := by
  unfold retime
  cases t.chan with
  | none => rfl
  | some c =>
    have := drain_up m.world c
    exact this
theorem opened_up {m m' : Machine} {var : Addr} (h : timerOp.opened m var = some m') : m'.world.drawn = m.world.drawn := by
  unfold timerOp.opened at h
  repeat' split at h
  all_goals first
    | (cases h; done)
    | (injection h with h; subst h; rfl)
theorem named_up {m m0 m' : Machine} {var : Addr} {f : Nat → Timer → Value × Machine} {v : Value} (hf : ∀ k t, (f k t).2.world.drawn = m0.world.drawn) (h : timerOp.named m var f = .ok (v, m')) : m'.world.drawn = m0.world.drawn := by
  unfold timerOp.named at h
  split at h
  · rename_i k _
    injection h with h
    have := hf k (m.rest.timers.getD k default)
    rw [h] at this
    exact this
  · cases h
theorem timerOp_up {m m' : Machine} {op : TimerOp} {v : Value} (h : timerOp m op = .ok (v, m')) : m'.world.drawn = m.world.drawn := by
  cases op with
  | new t =>
    simp only [timerOp] at h
    repeat' split at h
    all_goals first
      | (cases h; done)
      | (injection h with h; injection h with h1 h2; subst h2; rfl)
  | stop var =>
    simp only [timerOp] at h
    exact named_up (m0 := m) (fun k t => retime_up m k t 0 t.period) h
  | reset var when period =>
    simp only [timerOp] at h
    split at h
    · rename_i m1 hm
      have := named_up (m0 := m1) (fun k t => retime_up m1 k t when period) h
      rw [this]
      exact opened_up hm
    · cases h
  | deadline ctx read write when =>
    simp only [timerOp] at h
    injection h with h
    injection h with h1 h2
    subst h2
    rfl
theorem endThrow_go {fr : Frame} {m : String} {w w' : World} {g : Goroutine} {es : Array Event} (h : endThrow fr m w = .go g w' es) : w.drawn = w'.drawn := by
  have := endThrow_up fr m w
  rw [h] at this
  exact this.symm
theorem serve_up (p : Program) (m m' : Machine) (k : Nat) (h : serve p m k = .next m') : m.world.drawn ≤ m'.world.drawn := by
  unfold serve at h
  simp only [] at h
  repeat' first
    | (simp at h; done)
    | (simp only [Stepped.next.injEq] at h; subst h; exact Nat.le_refl _)
    | split at h
theorem runTM_up (p : Program) (m m' : Machine) (i : Nat) (b : Bool) (h : (runT p m i b).1 = .next m') : m.world.drawn ≤ m'.world.drawn := by
  simp only [runT] at h
  have hs := stepG_up p (i == 0) (m.gs.swapAt! i { (default : Goroutine) with status := .finished }).1 m.world b
  revert hs h
  generalize m.gs.swapAt! _ _ = gg
  generalize stepG p _ gg.1 m.world b = s
  intro h hs
  cases s <;> simp only [stepW] at h hs
  all_goals first
    | (simp at h; done)
    | exact Nat.le_trans hs (communicate_up _ _ _ _ _ _ _ _ _ _ h)
    | exact Nat.le_trans hs (look_up _ _ _ _ _ h)
    | (simp only [Stepped.next.injEq] at h; subst h; exact hs)
    | (repeat' first
        | (simp at h; done)
        | (simp only [Stepped.next.injEq] at h; subst h; first
            | exact hs
            | (refine Nat.le_trans hs (Nat.le_of_eq ?_); exact (timerOp_up (by assumption)).symm)
            | (refine Nat.le_trans hs (Nat.le_of_eq ?_); exact endThrow_go (by assumption)))
        | split at h)
theorem askOn_goroutine_up (p : Program) (m m' : Machine) (i : Nat) (h : askOn p m = .goroutine m' i) : m.world.drawn ≤ m'.world.drawn := by
  unfold askOn at h
  simp only [] at h
  repeat' first
    | (simp at h; done)
    | (simp only [Move.goroutine.injEq] at h; obtain ⟨hm, hi⟩ := h; rw [← hm]; (try dsimp only [Machine.advanceTo]); first
        | exact up_ok (by assumption)
        | exact Nat.le_trans (up_ok (by assumption)) (up_ok (by assumption))
        | exact Nat.le_trans (up_ok (by assumption)) (Nat.le_trans (up_ok (by assumption)) (up_ok (by assumption)))
        | exact Nat.le_trans (up_ok (by assumption)) (Nat.le_trans (up_ok (by assumption)) (Nat.le_trans (up_ok (by assumption)) (up_ok (by assumption)))))
    | split at h
  all_goals
    have e1 := up_ok (by assumption : Sem.run p _ m.world = Result.ok _ _)
    have e2 := up_ok (by assumption : Sem.run p (choose (Question.extern "clock.wait" _)) _ = Result.ok _ _)
    have e3 := up_ok (by assumption : Sem.run p (choose (Question.sched _)) _ = Result.ok _ _)
    simp only [Move.goroutine.injEq] at h
    obtain ⟨hm, hi⟩ := h
    rw [← hm]
    (try dsimp only [Machine.advanceTo] at e1)
    (try dsimp only [Machine.advanceTo] at e2)
    (try dsimp only [Machine.advanceTo] at e3)
    (try dsimp only [Machine.advanceTo])
    first
      | omega
      | (have e4 := up_ok (by assumption : Sem.run p (choose (Question.extern "sched.slice" 65536)) _ = Result.ok _ _)
         (try dsimp only [Machine.advanceTo] at e4)
         omega)
theorem askOn_machine_up (p : Program) (m m' : Machine) (ops : Array MemOp) (h : askOn p m = .machine (.next m') ops) : m.world.drawn ≤ m'.world.drawn := by
  unfold askOn at h
  simp only [] at h
  repeat' first
    | (simp at h; done)
    | (simp only [Move.machine.injEq] at h
       have e1 := up_ok (by assumption : Sem.run p _ m.world = Result.ok _ _)
       have := serve_up _ _ _ _ h.1
       exact Nat.le_trans e1 this)
    | (simp only [Move.machine.injEq, Stepped.next.injEq] at h
       obtain ⟨rfl, _⟩ := h
       have e1 := up_ok (by assumption : Sem.run p _ m.world = Result.ok _ _)
       dsimp only [Machine.advanceTo]
       first
         | exact e1
         | (have e2 := up_ok (by assumption : Sem.run p (choose (Question.extern "clock.wait" _)) _ = Result.ok _ _)
            (try dsimp only at e1)
            (try dsimp only at e2)
            omega))
    | split at h
theorem ask_up2 (p : Program) (m m' : Machine) : (∀ i, ask p m = .goroutine m' i → m.world.drawn ≤ m'.world.drawn) ∧ (∀ ops, ask p m = .machine (.next m') ops → m.world.drawn ≤ m'.world.drawn) := by
  unfold ask
  split
  · split
    · exact ⟨fun i h => (by cases h), fun ops h => (by cases h)⟩
    · rename_i heq
      have e1 := up_ok heq
      split
      · rename_i m1 hl
        have e2 := look_up _ _ _ _ _ hl
        exact ⟨fun i h => Nat.le_trans e1 (Nat.le_trans e2 (askOn_goroutine_up _ _ _ _ h)), fun ops h => Nat.le_trans e1 (Nat.le_trans e2 (askOn_machine_up _ _ _ _ h))⟩
      · rename_i e hne
        refine ⟨fun i h => (by cases h), fun ops h => ?_⟩
        injection h with h1 h2
        exact (hne _ h1).elim
    · rename_i heq
      have e1 := up_ok heq
      exact ⟨fun i h => Nat.le_trans e1 (askOn_goroutine_up _ _ _ _ h), fun ops h => Nat.le_trans e1 (askOn_machine_up _ _ _ _ h)⟩
  · exact ⟨fun i h => askOn_goroutine_up _ _ _ _ h, fun ops h => askOn_machine_up _ _ _ _ h⟩
theorem move_up (p : Program) (m m' : Machine) : (∀ i, move p m = .goroutine m' i → m.world.drawn ≤ m'.world.drawn) ∧ (∀ ops, move p m = .machine (.next m') ops → m.world.drawn ≤ m'.world.drawn) := by
  unfold move
  split
  · split
    · exact ⟨fun i h => (by injection h with h _; subst h; exact Nat.le_refl _), fun ops h => (by cases h)⟩
    · exact ⟨fun i h => (by cases h), fun ops h => (by cases h)⟩
  · split
    · split
      · exact ⟨fun i h => (by injection h with h _; subst h; exact Nat.le_refl _), fun ops h => (by cases h)⟩
      · exact ask_up2 p _ m'
    · exact ask_up2 p m m'
theorem step_up {p : Program} {m m' : Machine} (h : step p m = .next m') : m.world.drawn ≤ m'.world.drawn := by
  unfold step stepT at h
  split at h
  · rename_i m1 i hm
    exact Nat.le_trans ((move_up p m m1).1 i hm) (runTM_up p m1 m' i true h)
  · rename_i s ops hm
    have h' : s = .next m' := h
    subst h'
    exact (move_up p m m').2 ops hm
theorem runN_up {P : Program} : ∀ {n : Nat} {m m' : Machine}, runN P n m = .next m' → m.world.drawn ≤ m'.world.drawn
  | 0, m, m', h => by
    have h' : Stepped.next m = .next m' := h
    injection h' with h'
    rw [h']
    exact Nat.le_refl _
  | n + 1, m, m', h => by
    simp only [runN] at h
    split at h
    · rename_i m1 h1
      exact Nat.le_trans (step_up h1) (runN_up h)
    · rename_i e hne
      exact (hne _ h).elim
theorem steps_up {P : Program} {m m' : Machine} (h : Steps P m m') : m.world.drawn ≤ m'.world.drawn := by
  obtain ⟨n, hn⟩ := h
  exact runN_up hn
/-- a call that returns draws no less than nothing -/
theorem calls_up {P : Program} {f : FuncId} {args : Array Value} {w : World} {R : Ending → World → Prop} (h : Calls P f args w R) (hr : ∀ e w', R e w' → ∃ x, e = .returned x) :
    Calls P f args w fun e w' => R e w' ∧ w.drawn ≤ w'.drawn := fun cs => by
  obtain ⟨e, w', fr, h1, h2, h3⟩ := h cs
  obtain ⟨x, rfl⟩ := hr e w' h1
  exact ⟨_, w', fr, ⟨h1, steps_up (show Steps P _ _ from h2)⟩, h2, h3⟩
/-- what lies below stays: the world before, with some draws and blocks behind it -/
theorem below_grows {w w' : World} (h : RowKit.Below w.heap.size w w') (hd : w.drawn ≤ w'.drawn) : ∃ q os, w' = Sort.grow (w.drewN q) os := by
  refine ⟨w'.drawn - w.drawn, w'.heap.extract w.heap.size w'.heap.size, ?_⟩
  have hh : w'.heap = w.heap ++ w'.heap.extract w.heap.size w'.heap.size := by
    apply Array.ext_getElem?
    intro k
    rw [Array.getElem?_append]
    split
    · rename_i hk
      exact h.block k hk
    · rename_i hk
      rw [Array.getElem?_extract]
      have e : w.heap.size + (k - w.heap.size) = k := by omega
      rw [e]
      split
      · rfl
      · rename_i h2
        rw [Array.getElem?_eq_none]
        omega
  have h1 := h.os
  have h2 := h.tape
  have h3 := h.output
  obtain ⟨a1, a2, a3, a4, a5⟩ := w
  obtain ⟨b1, b2, b3, b4, b5⟩ := w'
  simp only at h1 h2 h3 hd hh
  subst h1 h2 h3
  unfold Sort.grow World.drewN
  simp only [World.mk.injEq]
  refine ⟨hh, ?_, ?_, ?_, ?_⟩ <;> first | trivial | rfl | omega
end Go.Proofs.YtjncmlglhegnaaaGreatDoor
