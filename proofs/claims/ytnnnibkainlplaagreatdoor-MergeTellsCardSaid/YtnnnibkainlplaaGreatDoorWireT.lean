/- wire: the reader's number, walked. -/
import Derived.Test.YtnnnibkainlplaaGreatDoorWireS
import Derived.Test.YtnnnibkainlplaaGreatDoorOrdL
import Derived.BigQuiet
import Derived.Deep.QuietTactic
import Derived.Deep.RegionHeld3
namespace Go.Proofs.YtnnnibkainlplaaGreatDoor
open Go.RowKit Go.Sort Go.Lib


end Go.Proofs.YtnnnibkainlplaaGreatDoor
