/- kerbsidelaw49: World's written, walked. -/
/- kerbsidelaw49: begin, World's do, walked. -/
/- kerbsidelaw49: World's do, the kinds of writing, walked (written by wip/gen_devx.py). -/
/- kerbsidelaw49: World's do: handing over, and nothing, walked. -/
import Derived.Test.YtjncmlglhegnaaaGreatDoorDevT
import Derived.Deep.DeepCutAuto
import Derived.Test.YtjncmlglhegnaaaGreatDoorDevO
namespace Go.Proofs.YtjncmlglhegnaaaGreatDoor
open Go.RowKit Go.Sort Go.Lib

section
variable {w0 w w' : World} {Rs : List Res} {W : Nat} {v : WorV}
end
end Go.Proofs.YtjncmlglhegnaaaGreatDoor
namespace Go.Proofs.YtjncmlglhegnaaaGreatDoor
open Go.RowKit Go.Sort Go.Lib

section
variable {w0 w w' : World} {Rs : List Res} {W : Nat} {v : WorV}
end
end Go.Proofs.YtjncmlglhegnaaaGreatDoor
namespace Go.Proofs.YtjncmlglhegnaaaGreatDoor
open Go.RowKit Go.Sort Go.Lib

section
variable {w0 w w' : World} {Rs : List Res} {W : Nat} {v : WorV}
end
end Go.Proofs.YtjncmlglhegnaaaGreatDoor
namespace Go.Proofs.YtjncmlglhegnaaaGreatDoor
open Go.RowKit Go.Sort Go.Lib

section
variable {w0 w w' : World} {Rs : List Res} {W : Nat} {v : WorV}
end
end Go.Proofs.YtjncmlglhegnaaaGreatDoor
