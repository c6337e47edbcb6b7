/- group: the sort of the shares, and the division of a product, by the library's contracts. -/
import Derived.Test.YtcgakhajmekjcaaGrpC
import Derived.Test.YtcgakhajmekjcaaGrpL
namespace Go.Proofs.Ytcgakhajmekjcaa
open Go.RowKit Go.Sort Go.Lib

theorem mul64_any (w : World) (x y : Nat) (hx : x < 18446744073709551616) (hy : y < 18446744073709551616) :
    Calls Try.prog 18 #[.int .u64 x, .int .u64 y] w fun e w' => e = .returned (.tuple #[.int .u64 ((x * y / 18446744073709551616 : Nat) : Int), .int .u64 ((x * y % 18446744073709551616 : Nat) : Int)]) ∧ w = w' :=
  (Any.bits_Mul64 lays264 x y hx hy w).mono fun _ _ h => ⟨h.1, h.2.symm⟩
theorem lz_any (y : Nat) (w : World) (hy : y < 2 ^ 64) :
    Calls Try.prog 26 #[.int .u64 y] w fun e w' => e = .returned (.int .i64 (64 - (Lib.bitLen y : Int))) ∧ w' = w := by
  have e64 : (2 : Nat) ^ 64 = 18446744073709551616 := by decide
  have := Any.bits_LeadingZeros64 lays134 (y : Int) w (Int.natCast_nonneg _) (by omega)
  rwa [Int.toNat_natCast] at this
theorem div_any (w : World) (u y : Nat) (hy : 0 < y) (hy2 : y < 4294967296) (hu : u < y * 18446744073709551616) :
    Calls Try.prog 19 #[.int .u64 ((u / 18446744073709551616 : Nat) : Int), .int .u64 ((u % 18446744073709551616 : Nat) : Int), .int .u64 y] w fun e w' => e = .returned (.tuple #[.int .u64 ((u / y : Nat) : Int), .int .u64 ((u % y : Nat) : Int)]) ∧ Below w.heap.size w w' :=
  div64_any lz_any w u y hy hy2 hu
/-- the order of the shares -/
def ltSh (x y : Share) : Bool := decide (y.2.2.2 < x.2.2.2 ∨ (x.2.2.2 = y.2.2.2 ∧ x.2.1 < y.2.1))
theorem ltOf_sh (x y : Share) : ltOf cmpSh x y = ltSh x y := by
  unfold ltOf cmpSh ltSh cmp3
  rw [decide_eq_decide]
  repeat' split
  all_goals omega
theorem swo_sh : SWO (ltOf cmpSh) where
  irrefl x := by rw [ltOf_sh]; simp [ltSh]
  trans x y z h1 h2 := by
    rw [ltOf_sh] at *
    simp only [ltSh, decide_eq_true_eq] at *
    omega
  ntrans x y z h1 h2 := by
    rw [ltOf_sh] at *
    simp only [ltSh, decide_eq_false_iff_not] at *
    omega
theorem grown_sort (enc : Share → List Value) (k : Nat) (w : World) (blk off n : Nat) (d : Array Share) (os : Array Obj) : w.grownBy (sortWorldK enc k w blk off n d os) (some blk) := by
  have hz : (putRowK enc k (Sort.ahead w n) blk off d).heap.size = w.heap.size := by simp [putRowK, putRow, mapBlock, Sort.ahead]
  refine ⟨rfl, rfl, rfl, ?_, fun j hj hne => ?_⟩
  · show w.heap.size ≤ (_ ++ os).size
    rw [Array.size_append, hz]
    omega
  · show ((putRowK enc k (Sort.ahead w n) blk off d).heap ++ os)[j]? = _
    rw [Array.getElem?_append_left (by rw [hz]; exact hj)]
    have hjb : blk ≠ j := fun e => hne (by rw [e])
    simp [putRowK, putRow, mapBlock, Sort.ahead, Array.getElem?_modify, hjb]
theorem three_alloc (W : World) (a b c : Obj) : (((W.alloc a).alloc b).alloc c).drew = grow (W.drewN 1) #[a, b, c] := by
  rw [alloc_eq_grow, alloc_eq_grow, alloc_eq_grow, grow_grow, grow_grow]
  rfl
set_option maxHeartbeats 1000000 in
theorem sort_any (w : World) (base g c n : Nat) (xs : List Share) (ho : Own w base 40 4 (.slice (some ⟨g, 0, none⟩) n c) n (xs.map encSh)) (hn : n ≤ 5000000) :
    Calls Try.prog 20 #[.slice (some ⟨g, 0, none⟩) n c, .func (.func 21) #[] #[]] w fun e w' =>
      e = .returned (.tuple #[]) ∧ ∃ ys : List Share, ys.Perm xs ∧ (∀ (i j : Nat) (x y : Share), i < j → ys[i]? = some x → ys[j]? = some y → ltSh y x = false) ∧ Sl w' 4 (some ⟨g, 0, none⟩) n (ys.map encSh) ∧ w.grownBy w' (some g) := by
  have hln : xs.length = n := by simpa using ho.2.2
  have hg : g < w.heap.size := (ho.lt g rfl).2
  have hH : HoldsK encSh 4 w g 0 xs.toArray := by
    intro t ht
    rw [size_flatK] at ht
    rw [get_flatK _ _ _ _ ht]
    have hi : t / 4 < xs.length := by simp at ht; omega
    obtain ⟨g', c', he, _, _, hc, hf⟩ := ho.at_ (i := t / 4) (x := encSh xs[t / 4]) (by rw [List.getElem?_map, List.getElem?_eq_getElem hi]; rfl)
    injection he with he
    injection he with he
    injection he with he
    subst he
    have hx : (xs.toArray[t / 4]! : Share) = xs[t / 4] := by simp [hi]
    rw [hx]
    have h4 : t % 4 < (encSh xs[t / 4]).length := by simp [encSh]; omega
    have h5 := hc (t % 4) (encSh xs[t / 4])[t % 4] (List.getElem?_eq_getElem h4)
    refine ⟨?_, hf _⟩
    rw [Nat.zero_add, show t / 4 * 4 + t % 4 = t by omega] at *
    rw [h5]
    simp [h4]
  have eg : ∀ args w, (callFunc 21 args).run Try.prog w = .ok (.enter 21 args) w := enters_of Try.func21 (by kernel_rfl) rfl
  have hcmp : CmpLays Try.prog 21 #[] encSh 4 cmpSh g 0 xs.toArray.size w := fun m os dk _ x y =>
    (closure_any x y _).mono fun e w' h => by
      obtain ⟨he, hw⟩ := h
      subst hw
      exact ⟨he, 1, _, three_alloc _ _ _ _⟩
  have hcon := AnyQ.slices_SortFunc sortSh 4 Try.isAgg40 Try.sizeOf40 encSh (fun _ => rfl) (fun x v hv => by simp [encSh] at hv; rcases hv with rfl | rfl | rfl | rfl <;> rfl) cmpSh swo_sh 21 #[] g 0 c xs.toArray w eg hcmp hH hg (by simp; omega)
  rw [show xs.toArray.size = n by simpa using hln] at hcon
  refine Calls.mono hcon ?_
  rintro e w' ⟨rfl, d', m, os, hp, hs, rfl⟩
  obtain ⟨hsz, _, hperm⟩ := hp
  have hdn : d'.size = n := by rw [hsz]; simpa using hln
  refine ⟨rfl, d'.toList, ?_, fun i j x y hij hx hy => ?_, ?_, grown_sort _ _ _ _ _ _ _ _⟩
  · rw [Array.extract_eq_self_of_le (by omega), Array.extract_eq_self_of_le (by simp; omega)] at hperm
    exact hperm
  · have hi : i < d'.size := by simpa using (List.getElem?_eq_some_iff.1 hx).1
    have hj : j < d'.size := by simpa using (List.getElem?_eq_some_iff.1 hy).1
    have := hs i j (Nat.zero_le _) hij (by omega)
    rw [ltOf_sh] at this
    have e1 : (d'[i]! : Share) = x := by
      have := (List.getElem?_eq_some_iff.1 hx).2
      rw [← this]
      simp [hi]
    have e2 : (d'[j]! : Share) = y := by
      have := (List.getElem?_eq_some_iff.1 hy).2
      rw [← this]
      simp [hj]
    rwa [e1, e2] at this
  · have hH2 := holdsK_sortWorldK encSh 4 w g 0 m xs.toArray d' os hg hH (by rw [hsz])
    refine ⟨by simpa using hdn, fun i x hx => ⟨g, 0, rfl, lt_sortWorldK encSh 4 w g 0 m d' os hg, fun j v hv => ?_⟩⟩
    rw [List.getElem?_map] at hx
    rcases hd : d'.toList[i]? with _ | z
    · rw [hd] at hx; cases hx
    · rw [hd] at hx
      simp only [Option.map_some, Option.some.injEq] at hx
      subst hx
      have hi : i < d'.size := by simpa using (List.getElem?_eq_some_iff.1 hd).1
      have hj : j < 4 := by
        have := (List.getElem?_eq_some_iff.1 hv).1
        simpa [encSh] using this
      have := (HoldsK.cell hH2 hi hj).1
      have e1 : (d'[i]! : Share) = z := by
        have := (List.getElem?_eq_some_iff.1 hd).2
        rw [← this]
        simp [hi]
      rw [e1] at this
      have e2 : (encSh z)[j]! = v := by
        obtain ⟨h1, h2⟩ := List.getElem?_eq_some_iff.1 hv
        rw [← h2]
        simp [h1]
      rw [e2] at this
      exact this
end Go.Proofs.Ytcgakhajmekjcaa
