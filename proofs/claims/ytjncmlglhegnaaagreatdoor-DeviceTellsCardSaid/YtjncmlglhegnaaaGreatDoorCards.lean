/-
  DERIVED. GIVEN WITH THE SEED: THE CARDS: each row of YtjncmlglhegnaaaGreatDoorRows.lean that lists a variable, with what it lists TIED to the program's text (the seventh form; the later family's looks); each row that meets fmt, with fmt's text TOLD by the authors' own Lean function (tested against real Go, not proved from fmt's source: count such statements apart). THE CARD IS WHAT COUNTS. Prove the row's statement (the work); the ties are given (YtjncmlglhegnaaaGreatDoorTie.lean); close each card by the builder's one call (the guide's Derived/Test/ToyasCard.lean, 'card_holds'). Laid BY PROGRAM, IN A SANDBOX (cutbox-door.mjs). By AI agents, Wed Nov 11 2026. No macro, syntax, notation, axiom, sorry.
-/
import Derived.Test.YtjncmlglhegnaaaGreatDoorRows
import GoSem.ClaimSeven
namespace Go.Proofs.YtjncmlglhegnaaaGreatDoor
namespace Rows

/-- THE TIED CARD OF 'kerbsidelaw49.DeviceReplay'. -/
def deviceReplayCard : Claim7 := { stood := { row := deviceReplayRow, standIns := [], harness := (true, "fe1a79acf1987a680f006e02c17d5e3f5b8982e4529f933ad8fb5cf7ba613ec6"), looks := true }, kinds := [], alts := [], laidByText := true, laidKinds := [.data, .data, .data, .sentinel, .sentinel], laidTests := true, laidLooks := .later }
def DeviceReplayCardSaid : Prop := Claim7.holds Tryz.pinned (.plain (OpenSpec.ofChange deviceReplaySpec)) deviceReplayCard

/-- THE TIED CARD OF 'kerbsidelaw49.DeviceTells'. -/
def deviceTellsCard : Claim7 := { stood := { row := deviceTellsRow, standIns := [], harness := (true, "fe1a79acf1987a680f006e02c17d5e3f5b8982e4529f933ad8fb5cf7ba613ec6"), looks := true }, kinds := [], alts := [], laidByText := true, laidKinds := [.data, .data, .data, .sentinel, .sentinel], laidTests := true, laidLooks := .later }
def DeviceTellsCardSaid : Prop := Claim7.holds Tryz.pinned (.plain (OpenSpec.ofChange deviceTellsSpec)) deviceTellsCard

/-- THE TIED CARD OF 'kerbsidelaw49.DeviceSpends'. -/
def deviceSpendsCard : Claim7 := { stood := { row := deviceSpendsRow, standIns := [], harness := (true, "fe1a79acf1987a680f006e02c17d5e3f5b8982e4529f933ad8fb5cf7ba613ec6"), looks := true }, kinds := [], alts := [], laidByText := true, laidKinds := [.data, .data, .data, .sentinel, .sentinel], laidTests := true, laidLooks := .later }
def DeviceSpendsCardSaid : Prop := Claim7.holds Tryz.pinned (.plain (OpenSpec.ofChange deviceSpendsSpec)) deviceSpendsCard

/-- THE TIED CARD OF 'kerbsidelaw49.DeviceHands'. -/
def deviceHandsCard : Claim7 := { stood := { row := deviceHandsRow, standIns := [], harness := (true, "fe1a79acf1987a680f006e02c17d5e3f5b8982e4529f933ad8fb5cf7ba613ec6"), looks := true }, kinds := [], alts := [], laidByText := true, laidKinds := [.data, .data, .data, .sentinel, .sentinel], laidTests := true, laidLooks := .later }
def DeviceHandsCardSaid : Prop := Claim7.holds Tryz.pinned (.plain (OpenSpec.ofChange deviceHandsSpec)) deviceHandsCard

/-- THE TIED CARD OF 'kerbsidelaw49.DeviceMerges'. -/
def deviceMergesCard : Claim7 := { stood := { row := deviceMergesRow, standIns := [], harness := (true, "fe1a79acf1987a680f006e02c17d5e3f5b8982e4529f933ad8fb5cf7ba613ec6"), looks := true }, kinds := [], alts := [], laidByText := true, laidKinds := [.data, .data, .data, .sentinel, .sentinel], laidTests := true, laidLooks := .later }
def DeviceMergesCardSaid : Prop := Claim7.holds Tryz.pinned (.plain (OpenSpec.ofChange deviceMergesSpec)) deviceMergesCard

/-- THE SECOND FORM's CARD OF 'kerbsidelaw49.DeviceReplay'. -/
def deviceReplayUptoCard : Claim7 := { stood := { row := deviceReplayUptoRow, standIns := [], harness := (true, "fe1a79acf1987a680f006e02c17d5e3f5b8982e4529f933ad8fb5cf7ba613ec6"), looks := true }, kinds := [], alts := [], laidByText := true, laidKinds := [.data, .data, .data, .sentinel, .sentinel], laidTests := true, laidLooks := .later }
def DeviceReplayUptoCardSaid : Prop := Claim7.holds Tryz.pinned (.plain (OpenSpec.upto deviceReplaySpec)) deviceReplayUptoCard

/-- THE SECOND FORM's CARD OF 'kerbsidelaw49.DeviceTells'. -/
def deviceTellsUptoCard : Claim7 := { stood := { row := deviceTellsUptoRow, standIns := [], harness := (true, "fe1a79acf1987a680f006e02c17d5e3f5b8982e4529f933ad8fb5cf7ba613ec6"), looks := true }, kinds := [], alts := [], laidByText := true, laidKinds := [.data, .data, .data, .sentinel, .sentinel], laidTests := true, laidLooks := .later }
def DeviceTellsUptoCardSaid : Prop := Claim7.holds Tryz.pinned (.plain (OpenSpec.upto deviceTellsSpec)) deviceTellsUptoCard

/-- THE SECOND FORM's CARD OF 'kerbsidelaw49.DeviceSpends'. -/
def deviceSpendsUptoCard : Claim7 := { stood := { row := deviceSpendsUptoRow, standIns := [], harness := (true, "fe1a79acf1987a680f006e02c17d5e3f5b8982e4529f933ad8fb5cf7ba613ec6"), looks := true }, kinds := [], alts := [], laidByText := true, laidKinds := [.data, .data, .data, .sentinel, .sentinel], laidTests := true, laidLooks := .later }
def DeviceSpendsUptoCardSaid : Prop := Claim7.holds Tryz.pinned (.plain (OpenSpec.upto deviceSpendsSpec)) deviceSpendsUptoCard

/-- THE SECOND FORM's CARD OF 'kerbsidelaw49.DeviceHands'. -/
def deviceHandsUptoCard : Claim7 := { stood := { row := deviceHandsUptoRow, standIns := [], harness := (true, "fe1a79acf1987a680f006e02c17d5e3f5b8982e4529f933ad8fb5cf7ba613ec6"), looks := true }, kinds := [], alts := [], laidByText := true, laidKinds := [.data, .data, .data, .sentinel, .sentinel], laidTests := true, laidLooks := .later }
def DeviceHandsUptoCardSaid : Prop := Claim7.holds Tryz.pinned (.plain (OpenSpec.upto deviceHandsSpec)) deviceHandsUptoCard

/-- THE SECOND FORM's CARD OF 'kerbsidelaw49.DeviceMerges'. -/
def deviceMergesUptoCard : Claim7 := { stood := { row := deviceMergesUptoRow, standIns := [], harness := (true, "fe1a79acf1987a680f006e02c17d5e3f5b8982e4529f933ad8fb5cf7ba613ec6"), looks := true }, kinds := [], alts := [], laidByText := true, laidKinds := [.data, .data, .data, .sentinel, .sentinel], laidTests := true, laidLooks := .later }
def DeviceMergesUptoCardSaid : Prop := Claim7.holds Tryz.pinned (.plain (OpenSpec.upto deviceMergesSpec)) deviceMergesUptoCard
end Rows
end Go.Proofs.YtjncmlglhegnaaaGreatDoor
