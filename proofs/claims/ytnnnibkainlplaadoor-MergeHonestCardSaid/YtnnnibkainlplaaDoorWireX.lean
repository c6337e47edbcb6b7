/- wire: the reader's Num, Int, Text, items at ints, Nums, walked (written by wip/gen_wirex.py). -/
import Derived.Test.YtnnnibkainlplaaDoorWireT
namespace Go.Proofs.YtnnnibkainlplaaDoor
open Go.RowKit Go.Sort Go.Lib

end Go.Proofs.YtnnnibkainlplaaDoor
