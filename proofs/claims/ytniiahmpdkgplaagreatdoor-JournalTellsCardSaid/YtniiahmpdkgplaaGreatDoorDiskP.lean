/- disk: what the functions compute, in plain Lean. -/
import Derived.Test.YtniiahmpdkgplaaGreatDoorMapW
namespace Go.Proofs.YtniiahmpdkgplaaGreatDoor

/-- a file and its durable part -/
structure FileV where
  now : List UInt8
  last : List UInt8
  deriving DecidableEq
def noFile : FileV := ⟨[], []⟩
/-- a disk -/
structure DV where
  files : List (Int × FileV)
  queue : List (Int × Int)
  lost : Int
  down : Bool
  armed : Int
  keep : List Int
def newD : DV := ⟨[], [], 0, false, 0, []⟩
def DV.file (d : DV) (f : Int) : FileV := (getA f d.files).getD noFile
/-- bytes put into bytes -/
def putB (s : List UInt8) (at_ : Nat) (t : List UInt8) : List UInt8 :=
  if t = [] then s else (s ++ List.replicate (at_ - s.length) 0).take at_ ++ t ++ s.drop (at_ + t.length)
def mayF (d : DV) (f : Int) : Int := if d.down then 8 else if f < 0 ∨ 16 ≤ f then 1 else 0
/-- the sectors that a write touches -/
def touched (f : Int) (at_ n : Nat) : List (Int × Int) := (List.range ((at_ + n - 1) / 64 - at_ / 64 + 1)).map fun i => (f, ((at_ / 64 + i : Nat) : Int))
def addQ (q : List (Int × Int)) : List (Int × Int) → List (Int × Int)
  | [] => q
  | p :: ps => addQ (if p ∈ q then q else q ++ [p]) ps
def writeF (d : DV) (f at_ : Int) (s : List UInt8) : DV × Int :=
  if mayF d f ≠ 0 then (d, mayF d f)
  else if at_ < 0 then (d, 1)
  else if 16777216 < at_ ∨ 16777216 - at_ < s.length then (d, 6)
  else if s = [] then (d, 0)
  else ({ d with files := putA f ⟨putB (d.file f).now at_.toNat s, (d.file f).last⟩ d.files, queue := addQ d.queue (touched f at_.toNat s.length) }, 0)
/-- one pending sector survives -/
def surviveF (fs : List (Int × FileV)) (p : Int × Int) : List (Int × FileV) :=
  let x := (getA p.1 fs).getD noFile
  let at_ := p.2 * 64
  if (x.now.length : Int) ≤ at_ then fs else putA p.1 ⟨x.now, putB x.last at_.toNat ((x.now.drop at_.toNat).take 64)⟩ fs
def surviveAll (keep : List Int) : Nat → List (Int × Int) → List (Int × FileV) → List (Int × FileV)
  | _, [], fs => fs
  | i, p :: ps, fs => surviveAll keep (i + 1) ps (if keep = [] ∨ (keep[i % keep.length]?).getD 0 % 2 = 0 then fs else surviveF fs p)
def crashF (d : DV) (keep : List Int) : DV :=
  if d.down then d else
  { d with files := (surviveAll keep 0 d.queue d.files).map (fun p => (p.1, ⟨p.2.last, p.2.last⟩)), queue := [], down := true, armed := 0 }
/-- a call is counted: does the scheduled crash happen in it? -/
def endsF (d : DV) : DV × Bool := if d.down ∨ d.armed = 0 then (d, false) else ({ d with armed := d.armed - 1 }, decide (d.armed - 1 = 0))
def WriteF (d : DV) (f at_ : Int) (s : List UInt8) : DV × Int :=
  let (d1, b) := endsF d
  let (d2, e) := writeF d1 f at_ s
  if b then (crashF d2 d2.keep, 8) else (d2, e)
def settleF (d : DV) (f : Int) (s : List UInt8) : DV := { d with files := putA f ⟨s, s⟩ d.files, queue := d.queue.filter fun p => p.1 ≠ f }
def beginF (d : DV) : DV := let (d1, b) := endsF d; if b then crashF d1 d1.keep else d1
def SyncF (d : DV) (f : Int) : DV × Int :=
  let d1 := beginF d
  if mayF d1 f ≠ 0 then (d1, mayF d1 f) else if 0 < d1.lost then ({ d1 with lost := d1.lost - 1 }, 9) else (settleF d1 f (d1.file f).now, 0)
def TruncF (d : DV) (f n : Int) : DV × Int :=
  let d1 := beginF d
  if mayF d1 f ≠ 0 then (d1, mayF d1 f) else if n < 0 ∨ ((d1.file f).now.length : Int) < n then (d1, 1) else (settleF d1 f ((d1.file f).now.take n.toNat), 0)
def ReadF (d : DV) (f at_ n : Int) : List UInt8 × Int :=
  if mayF d f ≠ 0 then ([], mayF d f) else if at_ < 0 ∨ n < 0 then ([], 1) else (((d.file f).now.drop at_.toNat).take n.toNat, 0)
def LoseF (d : DV) (n : Int) : DV := { d with lost := max n 0 }
def ArmF (d : DV) (n : Int) (keep : List Int) : DV := { d with armed := max n 0, keep := keep }
def StartF (d : DV) : DV := { d with down := false }
end Go.Proofs.YtniiahmpdkgplaaGreatDoor
