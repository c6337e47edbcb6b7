/- wire: the reader's number, walked. -/
import Derived.Test.YtnnnibkainlplaaDoorWireS
import Derived.Test.YtnnnibkainlplaaDoorOrdL
import Derived.BigQuiet
import Derived.Deep.QuietTactic
import Derived.Deep.RegionHeld3
namespace Go.Proofs.YtnnnibkainlplaaDoor
open Go.RowKit Go.Sort Go.Lib


end Go.Proofs.YtnnnibkainlplaaDoor
