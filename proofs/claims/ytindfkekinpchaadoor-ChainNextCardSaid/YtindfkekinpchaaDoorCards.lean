/-
  DERIVED. GIVEN WITH THE SEED: THE CARDS: each row of YtindfkekinpchaaDoorRows.lean that lists a variable, with what it lists TIED to the program's text (the seventh form; the later family's looks); each row that meets fmt, with fmt's text TOLD by the authors' own Lean function (tested against real Go, not proved from fmt's source: count such statements apart). THE CARD IS WHAT COUNTS. Prove the row's statement (the work); the ties are given (YtindfkekinpchaaDoorTie.lean); close each card by the builder's one call (the guide's Derived/Test/ToyasCard.lean, 'card_holds'). Laid BY PROGRAM, IN A SANDBOX (cutbox-door.mjs). By AI agents, Wed Nov 11 2026. No macro, syntax, notation, axiom, sorry.
-/
import Derived.Test.YtindfkekinpchaaDoorRows
import GoSem.ClaimSeven
namespace Go.Proofs.YtindfkekinpchaaDoor
namespace Rows

/-- THE TIED CARD OF 'kerbsidelaw46.ChainBack'. -/
def chainBackCard : Claim7 := { stood := { row := chainBackRow, standIns := [], harness := (true, "77db75501709e71465acda80e00cd0b880f029378a3b0ed91fa8d1ea0b5581ed"), looks := true }, kinds := [], alts := [], laidByText := true, laidKinds := [.data, .data, .data, .sentinel, .sentinel], laidTests := true, laidLooks := .later }
def ChainBackCardSaid : Prop := Claim7.holds Tryd.pinned (.plain (OpenSpec.ofChange chainBackSpec)) chainBackCard

/-- THE TIED CARD OF 'kerbsidelaw46.ChainConvicts'. -/
def chainConvictsCard : Claim7 := { stood := { row := chainConvictsRow, standIns := [], harness := (true, "77db75501709e71465acda80e00cd0b880f029378a3b0ed91fa8d1ea0b5581ed"), looks := true }, kinds := [], alts := [], laidByText := true, laidKinds := [.data, .data, .data, .sentinel, .sentinel], laidTests := true, laidLooks := .later }
def ChainConvictsCardSaid : Prop := Claim7.holds Tryd.pinned (.plain (OpenSpec.ofChange chainConvictsSpec)) chainConvictsCard

/-- THE TIED CARD OF 'kerbsidelaw46.ChainLess'. -/
def chainLessCard : Claim7 := { stood := { row := chainLessRow, standIns := [], harness := (true, "77db75501709e71465acda80e00cd0b880f029378a3b0ed91fa8d1ea0b5581ed"), looks := true }, kinds := [], alts := [], laidByText := true, laidKinds := [.data, .data, .data, .sentinel, .sentinel], laidTests := true, laidLooks := .later }
def ChainLessCardSaid : Prop := Claim7.holds Tryd.pinned (.plain (OpenSpec.ofChange chainLessSpec)) chainLessCard

/-- THE TIED CARD OF 'kerbsidelaw46.ChainSeen'. -/
def chainSeenCard : Claim7 := { stood := { row := chainSeenRow, standIns := [], harness := (true, "77db75501709e71465acda80e00cd0b880f029378a3b0ed91fa8d1ea0b5581ed"), looks := true }, kinds := [], alts := [], laidByText := true, laidKinds := [.data, .data, .data, .sentinel, .sentinel], laidTests := true, laidLooks := .later }
def ChainSeenCardSaid : Prop := Claim7.holds Tryd.pinned (.plain (OpenSpec.ofChange chainSeenSpec)) chainSeenCard

/-- THE TIED CARD OF 'kerbsidelaw46.ChainNext'. -/
def chainNextCard : Claim7 := { stood := { row := chainNextRow, standIns := [], harness := (true, "77db75501709e71465acda80e00cd0b880f029378a3b0ed91fa8d1ea0b5581ed"), looks := true }, kinds := [], alts := [], laidByText := true, laidKinds := [.data, .data, .data, .sentinel, .sentinel], laidTests := true, laidLooks := .later }
def ChainNextCardSaid : Prop := Claim7.holds Tryd.pinned (.plain (OpenSpec.ofChange chainNextSpec)) chainNextCard

/-- THE SECOND FORM's CARD OF 'kerbsidelaw46.ChainBack'. -/
def chainBackUptoCard : Claim7 := { stood := { row := chainBackUptoRow, standIns := [], harness := (true, "77db75501709e71465acda80e00cd0b880f029378a3b0ed91fa8d1ea0b5581ed"), looks := true }, kinds := [], alts := [], laidByText := true, laidKinds := [.data, .data, .data, .sentinel, .sentinel], laidTests := true, laidLooks := .later }
def ChainBackUptoCardSaid : Prop := Claim7.holds Tryd.pinned (.plain (OpenSpec.upto chainBackSpec)) chainBackUptoCard

/-- THE SECOND FORM's CARD OF 'kerbsidelaw46.ChainConvicts'. -/
def chainConvictsUptoCard : Claim7 := { stood := { row := chainConvictsUptoRow, standIns := [], harness := (true, "77db75501709e71465acda80e00cd0b880f029378a3b0ed91fa8d1ea0b5581ed"), looks := true }, kinds := [], alts := [], laidByText := true, laidKinds := [.data, .data, .data, .sentinel, .sentinel], laidTests := true, laidLooks := .later }
def ChainConvictsUptoCardSaid : Prop := Claim7.holds Tryd.pinned (.plain (OpenSpec.upto chainConvictsSpec)) chainConvictsUptoCard

/-- THE SECOND FORM's CARD OF 'kerbsidelaw46.ChainLess'. -/
def chainLessUptoCard : Claim7 := { stood := { row := chainLessUptoRow, standIns := [], harness := (true, "77db75501709e71465acda80e00cd0b880f029378a3b0ed91fa8d1ea0b5581ed"), looks := true }, kinds := [], alts := [], laidByText := true, laidKinds := [.data, .data, .data, .sentinel, .sentinel], laidTests := true, laidLooks := .later }
def ChainLessUptoCardSaid : Prop := Claim7.holds Tryd.pinned (.plain (OpenSpec.upto chainLessSpec)) chainLessUptoCard

/-- THE SECOND FORM's CARD OF 'kerbsidelaw46.ChainSeen'. -/
def chainSeenUptoCard : Claim7 := { stood := { row := chainSeenUptoRow, standIns := [], harness := (true, "77db75501709e71465acda80e00cd0b880f029378a3b0ed91fa8d1ea0b5581ed"), looks := true }, kinds := [], alts := [], laidByText := true, laidKinds := [.data, .data, .data, .sentinel, .sentinel], laidTests := true, laidLooks := .later }
def ChainSeenUptoCardSaid : Prop := Claim7.holds Tryd.pinned (.plain (OpenSpec.upto chainSeenSpec)) chainSeenUptoCard

/-- THE SECOND FORM's CARD OF 'kerbsidelaw46.ChainNext'. -/
def chainNextUptoCard : Claim7 := { stood := { row := chainNextUptoRow, standIns := [], harness := (true, "77db75501709e71465acda80e00cd0b880f029378a3b0ed91fa8d1ea0b5581ed"), looks := true }, kinds := [], alts := [], laidByText := true, laidKinds := [.data, .data, .data, .sentinel, .sentinel], laidTests := true, laidLooks := .later }
def ChainNextUptoCardSaid : Prop := Claim7.holds Tryd.pinned (.plain (OpenSpec.upto chainNextSpec)) chainNextUptoCard
end Rows
end Go.Proofs.YtindfkekinpchaaDoor
