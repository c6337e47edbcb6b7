/- wire: the reader's Num, Int, Text, items at ints, Nums, walked (written by wip/gen_wirex.py). -/
import Derived.Test.YtnnnibkainlplaaGreatDoorWireT
namespace Go.Proofs.YtnnnibkainlplaaGreatDoor
open Go.RowKit Go.Sort Go.Lib

end Go.Proofs.YtnnnibkainlplaaGreatDoor
