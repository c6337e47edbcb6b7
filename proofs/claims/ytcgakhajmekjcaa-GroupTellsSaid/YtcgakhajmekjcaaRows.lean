/-
  No cell of these rows narrows 'for every input' (looked for: loops, veiled, ifaces, maps, wideKeys, modest, calm, conditions, laid).
  DERIVED. THE GIVEN ROWS OF THIS SEAT. 4 by the template 'for every input the law returns true; each argument reads behind the call as it read before'; 0 by the template 'total and deterministic' (their statements: YtcgakhajmekjcaaTotals.lean).
  GIVEN WITH THE SEED: the statements are not yours to turn. If you find one false, say at which input.
  Laid BY PROGRAM, IN A SANDBOX (cutbox-rows.mjs): the forced cells as the released guide's own fill.sh prints them over the translation 904949de5d52f2fa… (all of the seat's roots in one cut). By AI agents, Wed Nov 11 2026. No macro, syntax, notation, axiom, sorry.
-/
import Derived.Test.YtcgakhajmekjcaaChecked
import GoSem.Claim
import GoSem.ClaimJoined
import GoSem.ClaimMapViews
import Derived.JoinedTies
import Derived.KernelRfl
namespace Go.Proofs.Ytcgakhajmekjcaa
/- THE CELL 'sum', in the pinned program and in every row, IS THE sha256 OF THE DUMP (.gsa) THAT YtcgakhajmekjcaaProg.lean LOADS. Nothing in Lean hashes anything: it is a label: what it is worth is what the hold of that sum in a sandbox is worth. -/
noncomputable def Try.pinned : Pinned := { name := "ytcgakhajmekjcaa", sum := "904949de5d52f2fac57a34c8bcd15aa25f64aaacafa1042f843bc22d82654010", checked := Try.checked }
namespace Rows
def none {H : Type} : Left H := { results := [], args := [] }

/-- 'kerbsidelaw41.GroupTells': WHATEVER THE INPUT: true; the input reads as it did. -/
def groupTellsSpec : ChangeSpec := { name := "groupTells", fn := fun _ => fun
  | [d1, d2, d3, d4] => { results := [.lit (.bool true)], args := [d1, d2, d3, d4] }
  | _ => none }
def groupTellsRow : OpenClaim := { program := "ytcgakhajmekjcaa", sum := "904949de5d52f2fac57a34c8bcd15aa25f64aaacafa1042f843bc22d82654010", func := "kerbside/kerbsidelaw41.GroupTells", spec := "groupTells", unfollowed := true, recurses := true, named := ["math/bits.divideError", "math/bits.overflowError"], apart := false }
def GroupTellsSaid : Prop := groupTellsRow.holds Try.pinned (OpenSpec.ofChange groupTellsSpec)

/-- ITS FALSE NEIGHBOUR: 'it returns false'. Refute it at one input. -/
def groupTellsWrong : ChangeSpec := { name := "groupTells", fn := fun _ => fun
  | [d1, d2, d3, d4] => { results := [.lit (.bool false)], args := [d1, d2, d3, d4] }
  | _ => none }
def GroupTellsWrongFalsely : Prop := groupTellsRow.holds Try.pinned (OpenSpec.ofChange groupTellsWrong)

/-- 'kerbsidelaw41.GroupWhole': WHATEVER THE INPUT: true; the input reads as it did. -/
def groupWholeSpec : ChangeSpec := { name := "groupWhole", fn := fun _ => fun
  | [d1, d2, d3] => { results := [.lit (.bool true)], args := [d1, d2, d3] }
  | _ => none }
def groupWholeRow : OpenClaim := { program := "ytcgakhajmekjcaa", sum := "904949de5d52f2fac57a34c8bcd15aa25f64aaacafa1042f843bc22d82654010", func := "kerbside/kerbsidelaw41.GroupWhole", spec := "groupWhole", unfollowed := true, recurses := true, named := ["math/bits.divideError", "math/bits.overflowError"], apart := false }
def GroupWholeSaid : Prop := groupWholeRow.holds Try.pinned (OpenSpec.ofChange groupWholeSpec)

/-- ITS FALSE NEIGHBOUR: 'it returns false'. Refute it at one input. -/
def groupWholeWrong : ChangeSpec := { name := "groupWhole", fn := fun _ => fun
  | [d1, d2, d3] => { results := [.lit (.bool false)], args := [d1, d2, d3] }
  | _ => none }
def GroupWholeWrongFalsely : Prop := groupWholeRow.holds Try.pinned (OpenSpec.ofChange groupWholeWrong)

/-- 'kerbsidelaw41.GroupScales': WHATEVER THE INPUT: true; the input reads as it did. -/
def groupScalesSpec : ChangeSpec := { name := "groupScales", fn := fun _ => fun
  | [d1, d2, d3, d4] => { results := [.lit (.bool true)], args := [d1, d2, d3, d4] }
  | _ => none }
def groupScalesRow : OpenClaim := { program := "ytcgakhajmekjcaa", sum := "904949de5d52f2fac57a34c8bcd15aa25f64aaacafa1042f843bc22d82654010", func := "kerbside/kerbsidelaw41.GroupScales", spec := "groupScales", unfollowed := true, recurses := true, named := ["math/bits.divideError", "math/bits.overflowError"], apart := false }
def GroupScalesSaid : Prop := groupScalesRow.holds Try.pinned (OpenSpec.ofChange groupScalesSpec)

/-- ITS FALSE NEIGHBOUR: 'it returns false'. Refute it at one input. -/
def groupScalesWrong : ChangeSpec := { name := "groupScales", fn := fun _ => fun
  | [d1, d2, d3, d4] => { results := [.lit (.bool false)], args := [d1, d2, d3, d4] }
  | _ => none }
def GroupScalesWrongFalsely : Prop := groupScalesRow.holds Try.pinned (OpenSpec.ofChange groupScalesWrong)

/-- 'kerbsidelaw41.GroupTurns': WHATEVER THE INPUT: true; the input reads as it did. -/
def groupTurnsSpec : ChangeSpec := { name := "groupTurns", fn := fun _ => fun
  | [d1, d2] => { results := [.lit (.bool true)], args := [d1, d2] }
  | _ => none }
def groupTurnsRow : OpenClaim := { program := "ytcgakhajmekjcaa", sum := "904949de5d52f2fac57a34c8bcd15aa25f64aaacafa1042f843bc22d82654010", func := "kerbside/kerbsidelaw41.GroupTurns", spec := "groupTurns", unfollowed := true, recurses := true, named := ["math/bits.divideError", "math/bits.overflowError"], apart := false }
def GroupTurnsSaid : Prop := groupTurnsRow.holds Try.pinned (OpenSpec.ofChange groupTurnsSpec)

/-- ITS FALSE NEIGHBOUR: 'it returns false'. Refute it at one input. -/
def groupTurnsWrong : ChangeSpec := { name := "groupTurns", fn := fun _ => fun
  | [d1, d2] => { results := [.lit (.bool false)], args := [d1, d2] }
  | _ => none }
def GroupTurnsWrongFalsely : Prop := groupTurnsRow.holds Try.pinned (OpenSpec.ofChange groupTurnsWrong)

/- THE SECOND FORM. 'bulk': how many values and letters a reading holds, each counted each time it is reached (what is shared counts as often as it is met; a slice's spare places count too). A statement '..UptoSaid' is the law's where the arguments, and the package variables that the reading takes, are together of bulk at most 1048576: NARROWER than '..Said'. Prove '..Said' where nothing that the law and all that it calls make is longer than what came in: it says more and counts as full. Else prove '..UptoSaid'. A law counts once. -/
mutual
def uptoBulk {H : Type} : DataW H → Nat
  | .lit (.string bytes) => bytes.length + 1
  | .lit _ => 1
  | .nil => 1
  | .ptr d => uptoBulk d + 1
  | .slice elems spare => uptoBulkAll elems + uptoBulkAll spare + 1
  | .agg parts => uptoBulkAll parts + 1
  | .iface _ d => uptoBulk d + 1
  | .map entries => uptoBulkEntries entries + 1
  | .held _ => 1
def uptoBulkAll {H : Type} : List (DataW H) → Nat
  | [] => 0
  | d :: r => uptoBulk d + uptoBulkAll r
def uptoBulkEntries {H : Type} : List (Lit × DataW H) → Nat
  | [] => 0
  | x :: r => uptoBulkEntry x + uptoBulkEntries r
def uptoBulkEntry {H : Type} : Lit × DataW H → Nat
  | (.string bytes, d) => bytes.length + uptoBulk d + 1
  | (_, d) => uptoBulk d + 1
 end
def uptoSmall : (H : Type) → List (DataW H) → Bool := fun _ ds => decide (uptoBulkAll ds ≤ 1048576)
def OpenSpec.upto (s : _root_.Go.ChangeSpec) : _root_.Go.OpenSpec := { _root_.Go.OpenSpec.ofChange s with cond := some uptoSmall }

/-- 'kerbsidelaw41.GroupTells', WHERE WHAT IT READS IS OF BULK AT MOST 1048576: true; the input reads as it did. -/
def groupTellsUptoRow : OpenClaim := { program := "ytcgakhajmekjcaa", sum := "904949de5d52f2fac57a34c8bcd15aa25f64aaacafa1042f843bc22d82654010", func := "kerbside/kerbsidelaw41.GroupTells", spec := "groupTells", unfollowed := true, recurses := true, named := ["math/bits.divideError", "math/bits.overflowError"], apart := false, narrowed := true }
def GroupTellsUptoSaid : Prop := groupTellsUptoRow.holds Try.pinned (OpenSpec.upto groupTellsSpec)

/-- 'kerbsidelaw41.GroupWhole', WHERE WHAT IT READS IS OF BULK AT MOST 1048576: true; the input reads as it did. -/
def groupWholeUptoRow : OpenClaim := { program := "ytcgakhajmekjcaa", sum := "904949de5d52f2fac57a34c8bcd15aa25f64aaacafa1042f843bc22d82654010", func := "kerbside/kerbsidelaw41.GroupWhole", spec := "groupWhole", unfollowed := true, recurses := true, named := ["math/bits.divideError", "math/bits.overflowError"], apart := false, narrowed := true }
def GroupWholeUptoSaid : Prop := groupWholeUptoRow.holds Try.pinned (OpenSpec.upto groupWholeSpec)

/-- 'kerbsidelaw41.GroupScales', WHERE WHAT IT READS IS OF BULK AT MOST 1048576: true; the input reads as it did. -/
def groupScalesUptoRow : OpenClaim := { program := "ytcgakhajmekjcaa", sum := "904949de5d52f2fac57a34c8bcd15aa25f64aaacafa1042f843bc22d82654010", func := "kerbside/kerbsidelaw41.GroupScales", spec := "groupScales", unfollowed := true, recurses := true, named := ["math/bits.divideError", "math/bits.overflowError"], apart := false, narrowed := true }
def GroupScalesUptoSaid : Prop := groupScalesUptoRow.holds Try.pinned (OpenSpec.upto groupScalesSpec)

/-- 'kerbsidelaw41.GroupTurns', WHERE WHAT IT READS IS OF BULK AT MOST 1048576: true; the input reads as it did. -/
def groupTurnsUptoRow : OpenClaim := { program := "ytcgakhajmekjcaa", sum := "904949de5d52f2fac57a34c8bcd15aa25f64aaacafa1042f843bc22d82654010", func := "kerbside/kerbsidelaw41.GroupTurns", spec := "groupTurns", unfollowed := true, recurses := true, named := ["math/bits.divideError", "math/bits.overflowError"], apart := false, narrowed := true }
def GroupTurnsUptoSaid : Prop := groupTurnsUptoRow.holds Try.pinned (OpenSpec.upto groupTurnsSpec)

end Rows
end Go.Proofs.Ytcgakhajmekjcaa
