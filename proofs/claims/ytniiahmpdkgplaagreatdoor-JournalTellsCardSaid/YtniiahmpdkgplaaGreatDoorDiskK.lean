/- disk: sectors as keys of a map. -/
import Derived.Test.YtniiahmpdkgplaaGreatDoorMapW
namespace Go.Proofs.YtniiahmpdkgplaaGreatDoor
open Go.RowKit

def secV (p : Int × Int) : Value := .agg #[.int .i64 p.1, .int .i64 p.2]
theorem stoodSector : Tryz.prog.stoodInHeld 76 = false := by kernel_rfl
theorem run_eq_sector (p q : Int × Int) (n : Nat) (w : World) :
    (Op.equalIn (n + 2) 76 (secV p) (secV q)).run Tryz.prog w = .ok (decide (p = q)) w := by
  obtain ⟨a, b⟩ := p
  obtain ⟨c, d⟩ := q
  unfold secV
  rw [run_equalIn_struct w _ _ _ _ (by simp [Program.fieldsOf, Tryz.underlying76]) stoodSector]
  by_cases h1 : a = c
  · subst h1
    by_cases h2 : b = d
    · subst h2
      simp [Program.fieldsOf, Tryz.underlying76, Op.eqFields, go_sem]
    · have h2' : (b == d) = false := by simpa using h2
      simp [Program.fieldsOf, Tryz.underlying76, Op.eqFields, go_sem, h2, h2']
  · have h1' : (a == c) = false := by simpa using h1
    simp [Program.fieldsOf, Tryz.underlying76, Op.eqFields, go_sem, h1, h1']
theorem equal_sector (p q : Int × Int) (w : World) : (Op.equal 76 (secV p) (secV q)).run Tryz.prog w = .ok (decide (p = q)) w := run_eq_sector p q 9998 w
theorem findAsking_sector (k : Int × Int) (w : World) : ∀ (arr : List MapEntry) (ks : List (Int × Int)) (i : Nat), arr.map (·.key) = ks.map secV → (Instr.findAsking 76 (secV k) arr i).run Tryz.prog w = .ok (findIn k ks arr i) w
  | [], [], i, _ => by simp [Instr.findAsking, findIn]
  | [], k' :: ks, i, h => by simp at h
  | e :: es, [], i, h => by simp at h
  | e :: es, k' :: ks, i, h => by
    simp only [List.map_cons, List.cons.injEq] at h
    have ih := findAsking_sector k w es ks (i + 1) h.2
    unfold Instr.findAsking
    simp only [Sem.run_bind, h.1, equal_sector, Result.andThen_ok, findIn]
    by_cases hx : k = k'
    · subst hx; simp
    · simp only [hx, decide_false, if_false, Bool.false_eq_true]
      exact ih
theorem check_sector (em : Bool) (k : Int × Int) (n : Nat) (w : World) : (Instr.checkKey em (n + 2) 76 (secV k)).run Tryz.prog w = .ok () w := by
  rw [Instr.checkKey]
  simp only [secV, Sem.run_bind, run_underlying Tryz.underlying76, Result.andThen_ok]
  simp [Instr.checkKey, run_underlying Tryz.underlying3, go_sem, part]
theorem keyW_sector : KeyW Tryz.prog 76 secV where
  check := fun em k w => check_sector em k 9998 w
  find := fun k arr ks w h => by
    unfold Instr.findKey
    simp only [Sem.run_bind, run_underlying Tryz.underlying76, Result.andThen_ok]
    cases arr with
    | nil => simp [Instr.findNow]; cases ks <;> simp_all [findIn]
    | cons e es =>
      cases ks with
      | nil => simp at h
      | cons k' ks =>
        simp only [Instr.findNow, Instr.sameNow, secV]
        exact findAsking_sector k w (e :: es) (k' :: ks) 0 h
  stays := fun k w => by
    have h : Instr.sameBits 10000 (secV k) (secV k) = true := by
      show Instr.sameBits (9998 + 1 + 1) (secV k) (secV k) = true
      simp [secV, Instr.sameBits]
    simp [Instr.keyThatStays, h]
end Go.Proofs.YtniiahmpdkgplaaGreatDoor
