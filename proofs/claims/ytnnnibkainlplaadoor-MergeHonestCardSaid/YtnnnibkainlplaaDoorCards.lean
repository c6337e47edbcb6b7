/-
  DERIVED. GIVEN WITH THE SEED: THE CARDS: each row of YtnnnibkainlplaaDoorRows.lean that lists a variable, with what it lists TIED to the program's text (the seventh form; the later family's looks); each row that meets fmt, with fmt's text TOLD by the authors' own Lean function (tested against real Go, not proved from fmt's source: count such statements apart). THE CARD IS WHAT COUNTS. Prove the row's statement (the work); the ties are given (YtnnnibkainlplaaDoorTie.lean); close each card by the builder's one call (the guide's Derived/Test/ToyasCard.lean, 'card_holds'). Laid BY PROGRAM, IN A SANDBOX (cutbox-door.mjs). By AI agents, Wed Nov 11 2026. No macro, syntax, notation, axiom, sorry.
-/
import Derived.Test.YtnnnibkainlplaaDoorRows
import GoSem.ClaimSeven
namespace Go.Proofs.YtnnnibkainlplaaDoor
namespace Rows

/-- THE TIED CARD OF 'kerbsidelaw47.MergeJoins'. -/
def mergeJoinsCard : Claim7 := { stood := { row := mergeJoinsRow, standIns := [], harness := (true, "85af9cff9ea483660ed752941a9693570a998f0622d6a20961a9154549816091"), looks := false }, kinds := [], alts := [], laidByText := true, laidKinds := [.data, .data, .data], laidTests := true, laidLooks := .later }
def MergeJoinsCardSaid : Prop := Claim7.holds Tryd.pinned (.plain (OpenSpec.ofChange mergeJoinsSpec)) mergeJoinsCard

/-- THE TIED CARD OF 'kerbsidelaw47.MergeOrders'. -/
def mergeOrdersCard : Claim7 := { stood := { row := mergeOrdersRow, standIns := [], harness := (true, "85af9cff9ea483660ed752941a9693570a998f0622d6a20961a9154549816091"), looks := false }, kinds := [], alts := [], laidByText := true, laidKinds := [.data, .data, .data], laidTests := true, laidLooks := .later }
def MergeOrdersCardSaid : Prop := Claim7.holds Tryd.pinned (.plain (OpenSpec.ofChange mergeOrdersSpec)) mergeOrdersCard

/-- THE TIED CARD OF 'kerbsidelaw47.MergeGrows'. -/
def mergeGrowsCard : Claim7 := { stood := { row := mergeGrowsRow, standIns := [], harness := (true, "85af9cff9ea483660ed752941a9693570a998f0622d6a20961a9154549816091"), looks := false }, kinds := [], alts := [], laidByText := true, laidKinds := [.data, .data, .data], laidTests := true, laidLooks := .later }
def MergeGrowsCardSaid : Prop := Claim7.holds Tryd.pinned (.plain (OpenSpec.ofChange mergeGrowsSpec)) mergeGrowsCard

/-- THE TIED CARD OF 'kerbsidelaw47.MergeForks'. -/
def mergeForksCard : Claim7 := { stood := { row := mergeForksRow, standIns := [], harness := (true, "85af9cff9ea483660ed752941a9693570a998f0622d6a20961a9154549816091"), looks := false }, kinds := [], alts := [], laidByText := true, laidKinds := [.data, .data, .data], laidTests := true, laidLooks := .later }
def MergeForksCardSaid : Prop := Claim7.holds Tryd.pinned (.plain (OpenSpec.ofChange mergeForksSpec)) mergeForksCard

/-- THE TIED CARD OF 'kerbsidelaw47.MergeHonest'. -/
def mergeHonestCard : Claim7 := { stood := { row := mergeHonestRow, standIns := [], harness := (true, "85af9cff9ea483660ed752941a9693570a998f0622d6a20961a9154549816091"), looks := false }, kinds := [], alts := [], laidByText := true, laidKinds := [.data, .data, .data], laidTests := true, laidLooks := .later }
def MergeHonestCardSaid : Prop := Claim7.holds Tryd.pinned (.plain (OpenSpec.ofChange mergeHonestSpec)) mergeHonestCard

/-- THE SECOND FORM's CARD OF 'kerbsidelaw47.MergeJoins'. -/
def mergeJoinsUptoCard : Claim7 := { stood := { row := mergeJoinsUptoRow, standIns := [], harness := (true, "85af9cff9ea483660ed752941a9693570a998f0622d6a20961a9154549816091"), looks := false }, kinds := [], alts := [], laidByText := true, laidKinds := [.data, .data, .data], laidTests := true, laidLooks := .later }
def MergeJoinsUptoCardSaid : Prop := Claim7.holds Tryd.pinned (.plain (OpenSpec.upto mergeJoinsSpec)) mergeJoinsUptoCard

/-- THE SECOND FORM's CARD OF 'kerbsidelaw47.MergeOrders'. -/
def mergeOrdersUptoCard : Claim7 := { stood := { row := mergeOrdersUptoRow, standIns := [], harness := (true, "85af9cff9ea483660ed752941a9693570a998f0622d6a20961a9154549816091"), looks := false }, kinds := [], alts := [], laidByText := true, laidKinds := [.data, .data, .data], laidTests := true, laidLooks := .later }
def MergeOrdersUptoCardSaid : Prop := Claim7.holds Tryd.pinned (.plain (OpenSpec.upto mergeOrdersSpec)) mergeOrdersUptoCard

/-- THE SECOND FORM's CARD OF 'kerbsidelaw47.MergeGrows'. -/
def mergeGrowsUptoCard : Claim7 := { stood := { row := mergeGrowsUptoRow, standIns := [], harness := (true, "85af9cff9ea483660ed752941a9693570a998f0622d6a20961a9154549816091"), looks := false }, kinds := [], alts := [], laidByText := true, laidKinds := [.data, .data, .data], laidTests := true, laidLooks := .later }
def MergeGrowsUptoCardSaid : Prop := Claim7.holds Tryd.pinned (.plain (OpenSpec.upto mergeGrowsSpec)) mergeGrowsUptoCard

/-- THE SECOND FORM's CARD OF 'kerbsidelaw47.MergeForks'. -/
def mergeForksUptoCard : Claim7 := { stood := { row := mergeForksUptoRow, standIns := [], harness := (true, "85af9cff9ea483660ed752941a9693570a998f0622d6a20961a9154549816091"), looks := false }, kinds := [], alts := [], laidByText := true, laidKinds := [.data, .data, .data], laidTests := true, laidLooks := .later }
def MergeForksUptoCardSaid : Prop := Claim7.holds Tryd.pinned (.plain (OpenSpec.upto mergeForksSpec)) mergeForksUptoCard

/-- THE SECOND FORM's CARD OF 'kerbsidelaw47.MergeHonest'. -/
def mergeHonestUptoCard : Claim7 := { stood := { row := mergeHonestUptoRow, standIns := [], harness := (true, "85af9cff9ea483660ed752941a9693570a998f0622d6a20961a9154549816091"), looks := false }, kinds := [], alts := [], laidByText := true, laidKinds := [.data, .data, .data], laidTests := true, laidLooks := .later }
def MergeHonestUptoCardSaid : Prop := Claim7.holds Tryd.pinned (.plain (OpenSpec.upto mergeHonestSpec)) mergeHonestUptoCard
end Rows
end Go.Proofs.YtnnnibkainlplaaDoor
