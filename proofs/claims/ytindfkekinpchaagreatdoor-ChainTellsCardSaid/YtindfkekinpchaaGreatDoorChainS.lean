/- chain: the laws' sane, walked. -/
import Derived.Test.YtindfkekinpchaaGreatDoorChainN
namespace Go.Proofs.YtindfkekinpchaaGreatDoor
open Go.RowKit Go.Sort Go.Lib

/-- an entry of the examples, and where its list lies -/
def exE (no day : Int) (text : List UInt8) (A : Option Addr) (c : Nat) : EntC := ⟨entryV no day text, A, c⟩
theorem entry_row (w : World) (no day : Int) (text : List UInt8) (b : ByteArray) (hb : (⟨text.toArray⟩ : ByteArray) = b) :
    Calls Tryz.prog 21 #[.int .i64 no, .int .i64 day, .string b] w fun e w' => ∃ A c, e = .returned (.agg #[.int .i64 2, .int .i64 no, .int .i64 day, .slice A 8 c, .string b]) ∧ EntF w w' (exE no day text A c) ∧ Below w.heap.size w w' := by
  subst hb
  refine (entry_any w no day text).mono fun e w' ⟨x, hx, he, hs, hb⟩ => ?_
  obtain ⟨v, A, c⟩ := x
  simp only at hx
  subst hx
  exact ⟨A, c, he, hs, hb⟩
theorem Sl.ent1 (w : World) (t : TypeId) (x : EntC) : Sl (w.alloc (.cells x.cells.toArray t)) 5 (some ⟨w.heap.size, 0, none⟩) 1 ([x].map EntC.cells) := Sl.new_ w t x.cells
theorem Sl.ent2 (w : World) (t : TypeId) (x y : EntC) : Sl (w.alloc (.cells (x.cells ++ y.cells).toArray t)) 5 (some ⟨w.heap.size, 0, none⟩) 2 ([x, y].map EntC.cells) := by
  refine ⟨rfl, fun i e h => ⟨w.heap.size, 0, rfl, by simp, fun j v hv => ?_⟩⟩
  have hc : ∀ k : Nat, (w.alloc (.cells (x.cells ++ y.cells).toArray t)).cell? ⟨w.heap.size, k, none⟩ = (x.cells ++ y.cells)[k]? := fun k => by
    rw [World.cell?_alloc_at _ _ _ _ rfl]
    simp
  match i, h with
  | 0, h =>
    simp only [List.map_cons, List.getElem?_cons_zero, Option.some.injEq] at h
    subst h
    have hj : j < x.cells.length := (List.getElem?_eq_some_iff.1 hv).1
    have h5 : x.cells.length = 5 := rfl
    rw [show 0 + 0 * 5 + j = j by omega, hc, List.getElem?_append_left hj]
    exact hv
  | 1, h =>
    simp only [List.map_cons, List.getElem?_cons_succ, List.getElem?_cons_zero, Option.some.injEq] at h
    subst h
    have h5 : x.cells.length = 5 := rfl
    rw [show 0 + 1 * 5 + j = x.cells.length + j by omega, hc, List.getElem?_append_right (by omega), Nat.add_sub_cancel_left]
    exact hv
  | k + 2, h => simp at h
theorem exE_len (no day : Int) (text : List UInt8) (ht : text.length ≤ 4000) (A : Option Addr) (c : Nat) : (exE no day text A c).v.seen.length ≤ 1099511627776 ∧ (exE no day text A c).v.text.length ≤ 140737488351232 := by
  have h : (seenV 2 no).length = 8 := rfl
  constructor
  · show (seenV 2 no).length ≤ _
    rw [h]; omega
  · show text.length ≤ _
    omega
theorem ChAt.two {w : World} {t : TypeId} {x y : EntC} (hx : EntAt w x) (hy : EntAt w y) (lx : x.v.seen.length ≤ 1099511627776 ∧ x.v.text.length ≤ 140737488351232) (ly : y.v.seen.length ≤ 1099511627776 ∧ y.v.text.length ≤ 140737488351232) : ChAt (w.alloc (.cells (x.cells ++ y.cells).toArray t)) (some ⟨w.heap.size, 0, none⟩) 2 [x, y] := by
  refine ⟨Sl.ent2 w t x y, fun e he => ?_, fun e he => ?_⟩
  · simp only [List.mem_cons, List.not_mem_nil, or_false] at he
    rcases he with rfl | rfl
    · exact Sl.alloc hx _
    · exact Sl.alloc hy _
  · simp only [List.mem_cons, List.not_mem_nil, or_false] at he
    rcases he with rfl | rfl
    · exact lx
    · exact ly
theorem ChAt.one {w : World} {t : TypeId} {x : EntC} (hx : EntAt w x) (lx : x.v.seen.length ≤ 1099511627776 ∧ x.v.text.length ≤ 140737488351232) : ChAt (w.alloc (.cells x.cells.toArray t)) (some ⟨w.heap.size, 0, none⟩) 1 [x] := by
  refine ⟨Sl.ent1 w t x, fun e he => ?_, fun e he => ?_⟩
  · simp only [List.mem_singleton] at he
    subst he
    exact Sl.alloc hx _
  · simp only [List.mem_singleton] at he
    subst he
    exact lx
theorem ex1 : checkF [entryV 0 4 [], entryV 1 4 [97]] = 0 := by decide
theorem ex2 : checkF [entryV 0 4 [], entryV 2 4 [97]] = 23 := by decide
theorem ex3 : checkF [entryV 0 4 [], entryV 0 4 [97]] = 5 := by decide
theorem ex4 : checkF [entryV 1 4 []] = 23 := by decide
theorem ex5 : checkF [entryV 0 4 [], entryV 1 3 []] = 17 := by decide
theorem ex6 : rightB (entryV 1 4 [97]) = true := by decide
theorem ex7 : rightB (entryV 1 4 [98]) = true := by decide
theorem ex8 : nextF [entryV 0 4 []] 2 4 (seenV 2 0) [97] = (entryV 1 4 [97], 0) := by
  have h : nextV [entryV 0 4 []] 2 4 (seenV 2 0) [97] = entryV 1 4 [97] := rfl
  unfold nextF
  rw [h]
  exact if_pos ⟨rfl, rfl⟩
theorem ex9 : convictsB (entryV 1 4 [97]) (entryV 1 4 [98]) = true := by decide
theorem ex10 : convictsB (entryV 1 4 [97]) (entryV 1 4 [97]) = false := by decide
theorem ex11 : convictsB (entryV 1 4 [97]) (entryV 2 4 [98]) = false := by decide
theorem ex1' (A c A' c') : checkF (vsOf [exE 0 4 [] A c, exE 1 4 [97] A' c']) = 0 := ex1
theorem ex2' (A c A' c') : checkF (vsOf [exE 0 4 [] A c, exE 2 4 [97] A' c']) = 23 := ex2
theorem ex3' (A c A' c') : checkF (vsOf [exE 0 4 [] A c, exE 0 4 [97] A' c']) = 5 := ex3
theorem ex4' (A c) : checkF (vsOf [exE 1 4 [] A c]) = 23 := ex4
theorem ex5' (A c A' c') : checkF (vsOf [exE 0 4 [] A c, exE 1 3 [] A' c']) = 17 := ex5
theorem check2 (w : World) (n1 d1 : Int) (t1 : List UInt8) (A1 : Option Addr) (c1 : Nat) (n2 d2 : Int) (t2 : List UInt8) (A2 : Option Addr) (c2 : Nat) (h1 : EntAt w (exE n1 d1 t1 A1 c1)) (h2 : EntAt w (exE n2 d2 t2 A2 c2)) (s1 s2 : ByteArray) (e1 : (⟨t1.toArray⟩ : ByteArray) = s1) (e2 : (⟨t2.toArray⟩ : ByteArray) = s2) (l1 : t1.length ≤ 4000) (l2 : t2.length ≤ 4000) (r : Int) (hr : checkF (vsOf [exE n1 d1 t1 A1 c1, exE n2 d2 t2 A2 c2]) = r) :
    Calls Tryz.prog 14 #[.slice (some ⟨w.heap.size, 0, none⟩) 2 2] (w.alloc (.cells #[.int .i64 2, .int .i64 n1, .int .i64 d1, .slice A1 8 c1, .string s1, .int .i64 2, .int .i64 n2, .int .i64 d2, .slice A2 8 c2, .string s2] 25)) fun x w' => x = .returned (.int .i64 r) ∧ Below (w.alloc (.cells #[.int .i64 2, .int .i64 n1, .int .i64 d1, .slice A1 8 c1, .string s1, .int .i64 2, .int .i64 n2, .int .i64 d2, .slice A2 8 c2, .string s2] 25)).heap.size (w.alloc (.cells #[.int .i64 2, .int .i64 n1, .int .i64 d1, .slice A1 8 c1, .string s1, .int .i64 2, .int .i64 n2, .int .i64 d2, .slice A2 8 c2, .string s2] 25)) w' := by
  subst e1 e2
  exact Check_any _ _ 2 2 _ (ChAt.two h1 h2 (exE_len _ _ _ l1 _ _) (exE_len _ _ _ l2 _ _)) r hr
theorem check1 (w : World) (n1 d1 : Int) (t1 : List UInt8) (A1 : Option Addr) (c1 : Nat) (h1 : EntAt w (exE n1 d1 t1 A1 c1)) (s1 : ByteArray) (e1 : (⟨t1.toArray⟩ : ByteArray) = s1) (l1 : t1.length ≤ 4000) (r : Int) (hr : checkF (vsOf [exE n1 d1 t1 A1 c1]) = r) :
    Calls Tryz.prog 14 #[.slice (some ⟨w.heap.size, 0, none⟩) 1 1] (w.alloc (.cells #[.int .i64 2, .int .i64 n1, .int .i64 d1, .slice A1 8 c1, .string s1] 25)) fun x w' => x = .returned (.int .i64 r) ∧ Below (w.alloc (.cells #[.int .i64 2, .int .i64 n1, .int .i64 d1, .slice A1 8 c1, .string s1] 25)).heap.size (w.alloc (.cells #[.int .i64 2, .int .i64 n1, .int .i64 d1, .slice A1 8 c1, .string s1] 25)) w' := by
  subst e1
  exact Check_any _ _ 1 1 _ (ChAt.one h1 (exE_len _ _ _ l1 _ _)) r hr
theorem VarIn.up {B B' : Nat} {w : World} {name : String} {cs : Array Value} (h : VarIn B w name cs) (hB : B ≤ B') : VarIn B' w name cs := by
  obtain ⟨g, h1, h2, h3⟩ := h
  exact ⟨g, h1, Nat.lt_of_lt_of_le h2 hB, h3⟩
theorem Env.up {B B' : Nat} {w : World} (h : Env B w) (hB : B ≤ B') : Env B' w :=
  ⟨h.tab.up hB, by obtain ⟨tp, p, h⟩ := h.syn; exact ⟨tp, p, h.up hB⟩, by obtain ⟨tp, p, h⟩ := h.rng; exact ⟨tp, p, h.up hB⟩⟩
def exS : List UInt8 := [50, 59, 49, 59, 52, 59, 56, 91, 48, 59, 48, 59, 49, 59, 48, 59, 48, 59, 48, 59, 48, 59, 48, 59, 93, 49, 58, 97, 44]
theorem ex12 : encE (entryV 1 4 [97]) = exS := by kernel_rfl
theorem ex13 : encodeF (entryV 1 4 [97]) = (exS, true) := by
  unfold encodeF
  rw [if_pos ex6, ex12]
theorem ex14 : decodeF exS = (entryV 1 4 [97], true) := by
  have h := rightB_true.1 ex6
  unfold decodeF
  rw [← ex12, if_pos (goodD_enc h), decE_enc h]
theorem encode_ex {B0 : Nat} (w : World) (hE : Env B0 w) (hB0 : B0 ≤ w.heap.size) (A : Option Addr) (c : Nat) (h : EntAt w (exE 1 4 [97] A c)) :
    Calls Tryz.prog 9 #[.agg #[.int .i64 2, .int .i64 1, .int .i64 4, .slice A 8 c, .string ⟨#[97]⟩]] w fun x w' => x = .returned (.tuple #[.string ⟨#[50, 59, 49, 59, 52, 59, 56, 91, 48, 59, 48, 59, 49, 59, 48, 59, 48, 59, 48, 59, 48, 59, 48, 59, 93, 49, 58, 97, 44]⟩, .bool true]) ∧ Below w.heap.size w w' :=
  Encode_any w hE hB0 (exE 1 4 [97] A c) h (exE_len _ _ _ (by decide) _ _) (exS, true) ex13
theorem decode_ex (w : World) (hE : Env w.heap.size w) :
    Calls Tryz.prog 11 #[.string ⟨#[50, 59, 49, 59, 52, 59, 56, 91, 48, 59, 48, 59, 49, 59, 48, 59, 48, 59, 48, 59, 48, 59, 48, 59, 93, 49, 58, 97, 44]⟩] w fun e w' => ∃ A c, e = .returned (.tuple #[.agg #[.int .i64 2, .int .i64 1, .int .i64 4, .slice A 8 c, .string ⟨#[97]⟩], .bool true]) ∧ EntAt w' (exE 1 4 [97] A c) ∧ Below w.heap.size w w' :=
  (Decode_any w hE exS (by decide) (entryV 1 4 [97], true) ex14).mono fun e w' ⟨x, hx, he, hs, hb⟩ => by
    obtain ⟨v, A, c⟩ := x
    simp only at hx
    subst hx
    exact ⟨A, c, he, hs.1, hb⟩
theorem next_ex (w : World) (A1 : Option Addr) (c1 : Nat) (h1 : EntAt w (exE 0 4 [] A1 c1)) (W : World) (hb : Below (w.alloc (.cells #[.int .i64 2, .int .i64 0, .int .i64 4, .slice A1 8 c1, .string ⟨#[]⟩] 25)).heap.size (w.alloc (.cells #[.int .i64 2, .int .i64 0, .int .i64 4, .slice A1 8 c1, .string ⟨#[]⟩] 25)) W) (As : Option Addr) (cs : Nat) (hse : Sl W 1 As 8 ((seenV 2 0).map intC)) :
    Calls Tryz.prog 7 #[.slice (some ⟨w.heap.size, 0, none⟩) 1 1, .int .i64 2, .int .i64 4, .slice As 8 cs, .string ⟨#[97]⟩] W fun e w' => ∃ A c, e = .returned (.tuple #[.agg #[.int .i64 2, .int .i64 1, .int .i64 4, .slice A 8 c, .string ⟨#[97]⟩], .int .i64 0]) ∧ EntAt w' (exE 1 4 [97] A c) ∧ Below W.heap.size W w' :=
  (Next_any W (some ⟨w.heap.size, 0, none⟩) 1 1 [exE 0 4 [] A1 c1] ((ChAt.one (t := 25) h1 (exE_len _ _ _ (by decide) _ _)).below hb) (by omega) 2 4 As 8 cs (seenV 2 0) hse [97] (by decide) (entryV 1 4 [97], 0) ex8).mono fun e w' ⟨x, hx, he, hs, hb⟩ => by
    obtain ⟨v, A, c⟩ := x
    simp only at hx
    subst hx
    exact ⟨A, c, he, hs.1, hb⟩
theorem same_ex (w : World) (A : Option Addr) (c : Nat) (A' : Option Addr) (c' : Nat) (h : EntAt w (exE 1 4 [97] A c)) (h' : EntAt w (exE 1 4 [97] A' c')) :
    Calls Tryz.prog 13 #[.agg #[.int .i64 2, .int .i64 1, .int .i64 4, .slice A 8 c, .string ⟨#[97]⟩], .agg #[.int .i64 2, .int .i64 1, .int .i64 4, .slice A' 8 c', .string ⟨#[97]⟩]] w fun x w' => x = .returned (.bool true) ∧ Below w.heap.size w w' :=
  RSame_any w (exE 1 4 [97] A c) (exE 1 4 [97] A' c') h h' (exE_len _ _ _ (by decide) _ _).1 true (sameB_true.2 rfl)
theorem conv_ex (w : World) (n1 d1 : Int) (t1 : List UInt8) (A1 : Option Addr) (c1 : Nat) (n2 d2 : Int) (t2 : List UInt8) (A2 : Option Addr) (c2 : Nat) (h1 : EntAt w (exE n1 d1 t1 A1 c1)) (h2 : EntAt w (exE n2 d2 t2 A2 c2)) (s1 s2 : ByteArray) (e1 : (⟨t1.toArray⟩ : ByteArray) = s1) (e2 : (⟨t2.toArray⟩ : ByteArray) = s2) (l1 : t1.length ≤ 4000) (l2 : t2.length ≤ 4000) (r : Bool) (hr : convictsB (entryV n1 d1 t1) (entryV n2 d2 t2) = r) :
    Calls Tryz.prog 19 #[.agg #[.int .i64 2, .int .i64 n1, .int .i64 d1, .slice A1 8 c1, .string s1], .agg #[.int .i64 2, .int .i64 n2, .int .i64 d2, .slice A2 8 c2, .string s2]] w fun x w' => x = .returned (.bool r) ∧ Below w.heap.size w w' := by
  subst e1 e2
  exact Convicts_any w (exE n1 d1 t1 A1 c1) (exE n2 d2 t2 A2 c2) h1 h2 (exE_len _ _ _ l1 _ _) (exE_len _ _ _ l2 _ _) r hr
end Go.Proofs.YtindfkekinpchaaGreatDoor
