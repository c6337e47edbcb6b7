/- kerbsidelaw46: ChainNext, joined. -/
import Derived.Test.YtindfkekinpchaaDoorChainLG
namespace Go.Proofs.YtindfkekinpchaaDoor
open Go.RowKit Go.Sort Go.Lib

theorem chainNext_any (w : World) (hE : Env w.heap.size w) (A : Option Addr) (n c : Nat) (l : List EntC) (hs : Sl w 5 A n (l.map EntC.cells)) (ha : ∀ e ∈ l, EntAt w e) (device day : Int) (B : Option Addr) (m d : Nat) (known : List Int) (hk : Sl w 1 B m (known.map intC)) (text : List UInt8) (ht : text.length ≤ maxLen) :
    Calls Tryd.prog 7 #[.slice A n c, .int .i64 device, .int .i64 day, .slice B m d, .string ⟨text.toArray⟩] w fun x w' => x = .returned (.bool true) ∧ Below w.heap.size w w' := by
  by_cases h : (nextF (vsOf l) device day known text).2 = 0
  · exact chainNext_yes w hE A n c l hs ha device day B m d known hk text ht h
  · exact chainNext_no w hE A n c l hs ha device day B m d known hk text ht h
end Go.Proofs.YtindfkekinpchaaDoor
