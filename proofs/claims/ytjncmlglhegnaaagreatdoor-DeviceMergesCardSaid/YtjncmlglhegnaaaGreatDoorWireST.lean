/- the reference's SameTexts, walked. -/
import Derived.Test.YtjncmlglhegnaaaGreatDoorChainA
import Derived.IntWalk
import Derived.Deep.QuietTactic
import Derived.BigQuiet
namespace Go.Proofs.YtjncmlglhegnaaaGreatDoor
open Go.RowKit Go.Sort Go.Lib

end Go.Proofs.YtjncmlglhegnaaaGreatDoor
