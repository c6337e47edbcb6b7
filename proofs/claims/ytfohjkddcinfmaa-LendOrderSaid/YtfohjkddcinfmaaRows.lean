/-
  No cell of these rows narrows 'for every input' (looked for: loops, veiled, ifaces, maps, wideKeys, modest, calm, conditions, laid).
  DERIVED. THE GIVEN ROWS OF THIS SEAT. 5 by the template 'for every input the law returns true; each argument reads behind the call as it read before'; 0 by the template 'total and deterministic' (their statements: YtfohjkddcinfmaaTotals.lean).
  GIVEN WITH THE SEED: the statements are not yours to turn. If you find one false, say at which input.
  Laid BY PROGRAM, IN A SANDBOX (cutbox-rows.mjs): the forced cells as the released guide's own fill.sh prints them over the translation 447bc0ea473f00b7… (all of the seat's roots in one cut). By AI agents, Wed Nov 11 2026. No macro, syntax, notation, axiom, sorry.
-/
import Derived.Test.YtfohjkddcinfmaaChecked
import GoSem.Claim
import GoSem.ClaimJoined
import GoSem.ClaimMapViews
import Derived.JoinedTies
import Derived.KernelRfl
namespace Go.Proofs.Ytfohjkddcinfmaa
/- THE CELL 'sum', in the pinned program and in every row, IS THE sha256 OF THE DUMP (.gsa) THAT YtfohjkddcinfmaaProg.lean LOADS. Nothing in Lean hashes anything: it is a label: what it is worth is what the hold of that sum in a sandbox is worth. -/
noncomputable def Try.pinned : Pinned := { name := "ytfohjkddcinfmaa", sum := "447bc0ea473f00b7f8f9b13ae8ddec73512756ca6495f51458ad797d8d283ba3", checked := Try.checked }
namespace Rows
def none {H : Type} : Left H := { results := [], args := [] }

/-- 'kerbsidelaw43.LendTells': WHATEVER THE INPUT: true; the input reads as it did. -/
def lendTellsSpec : ChangeSpec := { name := "lendTells", fn := fun _ => fun
  | [d1, d2, d3, d4, d5] => { results := [.lit (.bool true)], args := [d1, d2, d3, d4, d5] }
  | _ => none }
def lendTellsRow : OpenClaim := { program := "ytfohjkddcinfmaa", sum := "447bc0ea473f00b7f8f9b13ae8ddec73512756ca6495f51458ad797d8d283ba3", func := "kerbside/kerbsidelaw43.LendTells", spec := "lendTells", apart := false }
def LendTellsSaid : Prop := lendTellsRow.holds Try.pinned (OpenSpec.ofChange lendTellsSpec)

/-- ITS FALSE NEIGHBOUR: 'it returns false'. Refute it at one input. -/
def lendTellsWrong : ChangeSpec := { name := "lendTells", fn := fun _ => fun
  | [d1, d2, d3, d4, d5] => { results := [.lit (.bool false)], args := [d1, d2, d3, d4, d5] }
  | _ => none }
def LendTellsWrongFalsely : Prop := lendTellsRow.holds Try.pinned (OpenSpec.ofChange lendTellsWrong)

/-- 'kerbsidelaw43.LendNever': WHATEVER THE INPUT: true; the input reads as it did. -/
def lendNeverSpec : ChangeSpec := { name := "lendNever", fn := fun _ => fun
  | [d1, d2] => { results := [.lit (.bool true)], args := [d1, d2] }
  | _ => none }
def lendNeverRow : OpenClaim := { program := "ytfohjkddcinfmaa", sum := "447bc0ea473f00b7f8f9b13ae8ddec73512756ca6495f51458ad797d8d283ba3", func := "kerbside/kerbsidelaw43.LendNever", spec := "lendNever", apart := false }
def LendNeverSaid : Prop := lendNeverRow.holds Try.pinned (OpenSpec.ofChange lendNeverSpec)

/-- ITS FALSE NEIGHBOUR: 'it returns false'. Refute it at one input. -/
def lendNeverWrong : ChangeSpec := { name := "lendNever", fn := fun _ => fun
  | [d1, d2] => { results := [.lit (.bool false)], args := [d1, d2] }
  | _ => none }
def LendNeverWrongFalsely : Prop := lendNeverRow.holds Try.pinned (OpenSpec.ofChange lendNeverWrong)

/-- 'kerbsidelaw43.LendOrder': WHATEVER THE INPUT: true; the input reads as it did. -/
def lendOrderSpec : ChangeSpec := { name := "lendOrder", fn := fun _ => fun
  | [d1, d2, d3] => { results := [.lit (.bool true)], args := [d1, d2, d3] }
  | _ => none }
def lendOrderRow : OpenClaim := { program := "ytfohjkddcinfmaa", sum := "447bc0ea473f00b7f8f9b13ae8ddec73512756ca6495f51458ad797d8d283ba3", func := "kerbside/kerbsidelaw43.LendOrder", spec := "lendOrder", apart := false }
def LendOrderSaid : Prop := lendOrderRow.holds Try.pinned (OpenSpec.ofChange lendOrderSpec)

/-- ITS FALSE NEIGHBOUR: 'it returns false'. Refute it at one input. -/
def lendOrderWrong : ChangeSpec := { name := "lendOrder", fn := fun _ => fun
  | [d1, d2, d3] => { results := [.lit (.bool false)], args := [d1, d2, d3] }
  | _ => none }
def LendOrderWrongFalsely : Prop := lendOrderRow.holds Try.pinned (OpenSpec.ofChange lendOrderWrong)

/-- 'kerbsidelaw43.LendBack': WHATEVER THE INPUT: true; the input reads as it did. -/
def lendBackSpec : ChangeSpec := { name := "lendBack", fn := fun _ => fun
  | [d1, d2, d3] => { results := [.lit (.bool true)], args := [d1, d2, d3] }
  | _ => none }
def lendBackRow : OpenClaim := { program := "ytfohjkddcinfmaa", sum := "447bc0ea473f00b7f8f9b13ae8ddec73512756ca6495f51458ad797d8d283ba3", func := "kerbside/kerbsidelaw43.LendBack", spec := "lendBack", apart := false }
def LendBackSaid : Prop := lendBackRow.holds Try.pinned (OpenSpec.ofChange lendBackSpec)

/-- ITS FALSE NEIGHBOUR: 'it returns false'. Refute it at one input. -/
def lendBackWrong : ChangeSpec := { name := "lendBack", fn := fun _ => fun
  | [d1, d2, d3] => { results := [.lit (.bool false)], args := [d1, d2, d3] }
  | _ => none }
def LendBackWrongFalsely : Prop := lendBackRow.holds Try.pinned (OpenSpec.ofChange lendBackWrong)

/-- 'kerbsidelaw43.LendForks': WHATEVER THE INPUT: true; the input reads as it did. -/
def lendForksSpec : ChangeSpec := { name := "lendForks", fn := fun _ => fun
  | [d1, d2, d3, d4] => { results := [.lit (.bool true)], args := [d1, d2, d3, d4] }
  | _ => none }
def lendForksRow : OpenClaim := { program := "ytfohjkddcinfmaa", sum := "447bc0ea473f00b7f8f9b13ae8ddec73512756ca6495f51458ad797d8d283ba3", func := "kerbside/kerbsidelaw43.LendForks", spec := "lendForks", apart := false }
def LendForksSaid : Prop := lendForksRow.holds Try.pinned (OpenSpec.ofChange lendForksSpec)

/-- ITS FALSE NEIGHBOUR: 'it returns false'. Refute it at one input. -/
def lendForksWrong : ChangeSpec := { name := "lendForks", fn := fun _ => fun
  | [d1, d2, d3, d4] => { results := [.lit (.bool false)], args := [d1, d2, d3, d4] }
  | _ => none }
def LendForksWrongFalsely : Prop := lendForksRow.holds Try.pinned (OpenSpec.ofChange lendForksWrong)

/- THE SECOND FORM. 'bulk': how many values and letters a reading holds, each counted each time it is reached (what is shared counts as often as it is met; a slice's spare places count too). A statement '..UptoSaid' is the law's where the arguments, and the package variables that the reading takes, are together of bulk at most 1048576: NARROWER than '..Said'. Prove '..Said' where nothing that the law and all that it calls make is longer than what came in: it says more and counts as full. Else prove '..UptoSaid'. A law counts once. -/
mutual
def uptoBulk {H : Type} : DataW H → Nat
  | .lit (.string bytes) => bytes.length + 1
  | .lit _ => 1
  | .nil => 1
  | .ptr d => uptoBulk d + 1
  | .slice elems spare => uptoBulkAll elems + uptoBulkAll spare + 1
  | .agg parts => uptoBulkAll parts + 1
  | .iface _ d => uptoBulk d + 1
  | .map entries => uptoBulkEntries entries + 1
  | .held _ => 1
def uptoBulkAll {H : Type} : List (DataW H) → Nat
  | [] => 0
  | d :: r => uptoBulk d + uptoBulkAll r
def uptoBulkEntries {H : Type} : List (Lit × DataW H) → Nat
  | [] => 0
  | x :: r => uptoBulkEntry x + uptoBulkEntries r
def uptoBulkEntry {H : Type} : Lit × DataW H → Nat
  | (.string bytes, d) => bytes.length + uptoBulk d + 1
  | (_, d) => uptoBulk d + 1
 end
def uptoSmall : (H : Type) → List (DataW H) → Bool := fun _ ds => decide (uptoBulkAll ds ≤ 1048576)
def OpenSpec.upto (s : _root_.Go.ChangeSpec) : _root_.Go.OpenSpec := { _root_.Go.OpenSpec.ofChange s with cond := some uptoSmall }

/-- 'kerbsidelaw43.LendTells', WHERE WHAT IT READS IS OF BULK AT MOST 1048576: true; the input reads as it did. -/
def lendTellsUptoRow : OpenClaim := { program := "ytfohjkddcinfmaa", sum := "447bc0ea473f00b7f8f9b13ae8ddec73512756ca6495f51458ad797d8d283ba3", func := "kerbside/kerbsidelaw43.LendTells", spec := "lendTells", apart := false, narrowed := true }
def LendTellsUptoSaid : Prop := lendTellsUptoRow.holds Try.pinned (OpenSpec.upto lendTellsSpec)

/-- 'kerbsidelaw43.LendNever', WHERE WHAT IT READS IS OF BULK AT MOST 1048576: true; the input reads as it did. -/
def lendNeverUptoRow : OpenClaim := { program := "ytfohjkddcinfmaa", sum := "447bc0ea473f00b7f8f9b13ae8ddec73512756ca6495f51458ad797d8d283ba3", func := "kerbside/kerbsidelaw43.LendNever", spec := "lendNever", apart := false, narrowed := true }
def LendNeverUptoSaid : Prop := lendNeverUptoRow.holds Try.pinned (OpenSpec.upto lendNeverSpec)

/-- 'kerbsidelaw43.LendOrder', WHERE WHAT IT READS IS OF BULK AT MOST 1048576: true; the input reads as it did. -/
def lendOrderUptoRow : OpenClaim := { program := "ytfohjkddcinfmaa", sum := "447bc0ea473f00b7f8f9b13ae8ddec73512756ca6495f51458ad797d8d283ba3", func := "kerbside/kerbsidelaw43.LendOrder", spec := "lendOrder", apart := false, narrowed := true }
def LendOrderUptoSaid : Prop := lendOrderUptoRow.holds Try.pinned (OpenSpec.upto lendOrderSpec)

/-- 'kerbsidelaw43.LendBack', WHERE WHAT IT READS IS OF BULK AT MOST 1048576: true; the input reads as it did. -/
def lendBackUptoRow : OpenClaim := { program := "ytfohjkddcinfmaa", sum := "447bc0ea473f00b7f8f9b13ae8ddec73512756ca6495f51458ad797d8d283ba3", func := "kerbside/kerbsidelaw43.LendBack", spec := "lendBack", apart := false, narrowed := true }
def LendBackUptoSaid : Prop := lendBackUptoRow.holds Try.pinned (OpenSpec.upto lendBackSpec)

/-- 'kerbsidelaw43.LendForks', WHERE WHAT IT READS IS OF BULK AT MOST 1048576: true; the input reads as it did. -/
def lendForksUptoRow : OpenClaim := { program := "ytfohjkddcinfmaa", sum := "447bc0ea473f00b7f8f9b13ae8ddec73512756ca6495f51458ad797d8d283ba3", func := "kerbside/kerbsidelaw43.LendForks", spec := "lendForks", apart := false, narrowed := true }
def LendForksUptoSaid : Prop := lendForksUptoRow.holds Try.pinned (OpenSpec.upto lendForksSpec)

end Rows
end Go.Proofs.Ytfohjkddcinfmaa
