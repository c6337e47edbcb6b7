/- device: read, slices.ContainsFunc with Open's closure, walked. -/
/- device: many things told as one; a device as a thing apart from others; what Open finds (plain Lean). -/
import Derived.Test.YtjncmlglhegnaaaGreatDoorSees
import Derived.Test.YtjncmlglhegnaaaGreatDoorChainI
import Derived.Test.YtjncmlglhegnaaaGreatDoorJrnE
namespace Go.Proofs.YtjncmlglhegnaaaGreatDoor
open Go.RowKit Go.Sort

theorem SepIn.append {w : World} : ∀ {Ss Rs : List Res} {G H : Nat → Prop}, SepIn w Ss G → SepIn w Rs H → (∀ k, G k → ¬ H k) → SepIn w (Ss ++ Rs) (fun k => G k ∨ H k)
  | [], _, _, _, _, h2, _ => h2.mono fun _ hk => .inr hk
  | R :: Ss, Rs, G, H, ⟨F, a, b, c⟩, h2, hd => ⟨F, a, fun k hk => .inl (b k hk), (SepIn.append c h2 fun k hk => hd k hk.1).mono fun k hk => by
      rcases hk with hk | hk
      · exact ⟨.inl hk.1, hk.2⟩
      · exact ⟨.inr hk, fun hf => hd k (b k hf) hk⟩⟩
theorem VarIn.up {B B' : Nat} {w : World} {name : String} {cs : Array Value} (h : VarIn B w name cs) (hb : B ≤ B') : VarIn B' w name cs := by
  obtain ⟨g, h1, h2, h3⟩ := h
  exact ⟨g, h1, Nat.lt_of_lt_of_le h2 hb, h3⟩
theorem Env.up {B B' : Nat} {w : World} (h : Env B w) (hb : B ≤ B') : Env B' w :=
  ⟨h.tab.up hb, by obtain ⟨tp, p, h⟩ := h.syn; exact ⟨tp, p, h.up hb⟩, by obtain ⟨tp, p, h⟩ := h.rng; exact ⟨tp, p, h.up hb⟩⟩
/-- what a call has made beside other things -/
theorem Sep.graft {w0 w w' : World} {Ss Rs : List Res} (h : Sep w0 w Rs) (h2 : Sep w w' Ss) : Sep w0 w' (Ss ++ Rs) :=
  ⟨(SepIn.append h2.1 (h.1.keep h2.2.size fun k _ hl => h2.2.block k hl) fun k hk hk2 => by have := hk.1; have := hk2.2; omega).mono fun k hk => by
      rcases hk with hk | hk
      · exact ⟨Nat.le_trans h.2.size hk.1, hk.2⟩
      · exact ⟨hk.1, Nat.lt_of_lt_of_le hk.2 h2.2.size⟩, h.2.trans (h2.2.mono h.2.size)⟩
/-- the entries' lists lie in memory -/
def SeenAt (es : List EntC) (W : World) : Prop := ∀ u ∈ es, EntAt W u
/-- what read hands back -/
def ReadP (w : World) (recs : List (List UInt8)) (e : Ending) (w' : World) : Prop :=
  (∃ (A : Option Addr) (c : Nat) (es : List EntC), decAll recs = some (vsOf es) ∧ e = .returned (.tuple #[.slice A es.length c, .bool true]) ∧ Sep w w' (ownR 32 5 (.slice A es.length c) es.length (es.map EntC.cells) :: seesR (SeenAt es) :: [])) ∨
  (decAll recs = none ∧ e = .returned (.tuple #[.slice none 0 0, .bool false]) ∧ Below w.heap.size w w')
theorem decAll_snoc {l : List (List UInt8)} {s : List UInt8} {vs : List EntV} (h : decAll l = some vs) : decAll (l ++ [s]) = if (decodeF s).2 = true then some (vs ++ [(decodeF s).1]) else none := by
  induction l generalizing vs with
  | nil =>
    have : vs = [] := by simpa [decAll] using h.symm
    subst this
    show decAll [s] = _
    simp only [decAll]
    split <;> rfl
  | cons x r ih =>
    simp only [decAll, List.cons_append] at h ⊢
    by_cases hx : (decodeF x).2 = true
    · rw [if_pos hx] at h ⊢
      cases hr : decAll r with
      | none => rw [hr] at h; cases h
      | some us =>
        rw [hr] at h
        have : vs = (decodeF x).1 :: us := by simpa using h.symm
        subst this
        rw [ih hr]
        split <;> rfl
    · rw [if_neg hx] at h; cases h
theorem decAll_no : ∀ {l m : List (List UInt8)}, decAll l = none → decAll (l ++ m) = none
  | [], _, h => by simp [decAll] at h
  | x :: r, m, h => by
    simp only [decAll, List.cons_append] at h ⊢
    by_cases hx : (decodeF x).2 = true
    · rw [if_pos hx] at h ⊢
      have hr : decAll r = none := by cases hr : decAll r with | none => rfl | some us => rw [hr] at h; cases h
      rw [decAll_no hr]; rfl
    · rw [if_neg hx]
set_option maxRecDepth 100000 in
set_option maxHeartbeats 4000000 in
theorem read_dev (w : World) (hE : Env w.heap.size w) (A : Option Addr) (n c : Nat) (recs : List (List UInt8)) (hs : Sl w 1 A n (recs.map strC)) (hn : n ≤ 20000000) (hsm : ∀ s ∈ recs, s.length ≤ 100000) :
    Calls Tryz.prog 62 #[.slice A n c] w (ReadP w recs) := by
  obtain ⟨ie, he0, he1, he2, he3⟩ := info_parts infoEnt
  have HE := Lib.hid (fun W (hb : Below w.heap.size w W) => hE.below hb)
  have HS := Lib.hid hs
  have HSM := Lib.hid hsm
  have HLL : Hid (recs.length = n) := Lib.hid (by simpa using hs.1)
  have HS0 := Lib.hid (((Sep.start w).seesNew (φ := SeenAt []) fun _ u hu => by simp at hu).ownNil 32 5)
  clear hE hs hsm
  go_enter Tryz.func62, Tryz.ntmps62
  go_wp2_with (fail)
  go_loopw [4, 11] (fun ov iv wr => ∃ (k : Nat) (A' : Option Addr) (c' : Nat) (es : List EntC), ov = .slice A' k c' ∧ iv = .int .i64 (k : Int) ∧ k ≤ n ∧ es.length = k ∧ decAll (recs.take k) = some (vsOf es) ∧ Sep w wr (ownR 32 5 (.slice A' k c') k (es.map EntC.cells) :: seesR (SeenAt es) :: [])) (fun _ iv _ => n - (Go.RowKit.intOf iv).toNat)
  case atStart => exact ⟨0, none, 0, [], rfl, rfl, Nat.zero_le _, rfl, rfl, HS0.out⟩
  case round =>
    obtain ⟨k, A', c', es, rfl, rfl, hk, hel, hd, hS⟩ := hrel
    obtain ⟨wo, rfl⟩ : ∃ wo : World, wo = wr := ⟨_, rfl⟩
    have HSO := Lib.hid hS
    have HD := Lib.hid hd
    have HEL := Lib.hid hel
    clear hS hd hel HS0
    by_cases hlt : k < n
    · obtain ⟨s, hsx⟩ : ∃ v, recs[k]? = some v := ⟨_, List.getElem?_eq_getElem (by rw [HLL.out]; exact hlt)⟩
      obtain ⟨b, o, rfl, hbl, d0⟩ := (HS.out.below HSO.out.base).at1 (k := k) (v := .string ⟨s.toArray⟩) (by rw [List.getElem?_map, hsx]; rfl)
      have htk : recs.take (k + 1) = recs.take k ++ [s] := by rw [List.take_add_one, hsx]; rfl
      obtain ⟨⟨v, db⟩, hv⟩ : ∃ v, decodeF s = v := ⟨_, rfl⟩
      have hsn := decAll_snoc (s := s) HD.out
      rw [← htk, hv] at hsn
      simp only at hsn
      have HSN := Lib.hid hsn
      have HDE := Lib.hid (Decode_any wo ((HE.out wo HSO.out.base).up HSO.out.base.size) s (HSM.out s (List.mem_of_getElem? hsx)) _ hv)
      have HLT := Lib.hid hlt
      have hki : (k : Int) < (n : Int) := by omega
      have hk0 : (0 : Int) ≤ (k : Int) := by omega
      have hwk : IntKind.i64.wrap ((k : Int) + 1) = (k : Int) + 1 := IntWalk.i64_in _ (by omega)
      have HTK : Hid (recs = recs.take (k + 1) ++ recs.drop (k + 1)) := Lib.hid (List.take_append_drop _ _).symm
      clear hsx htk hv hsn hlt hk hbl
      go_wp2_with (fail)
      ((with_reducible refine HDE.out.mono ?_); rintro _ w2 ⟨⟨⟨xd, xn, xy, xs, xt⟩, xA, xc⟩, hxv, rfl, hxf, hb2⟩)
      simp only at hxv
      simp only [EntC.cells]
      have HXV := Lib.hid hxv
      have hsl2 : SlF wo w2 1 xA xs.length (xs.map intC) := hxf
      have HS2 := Lib.hid (((HSO.out.sw.seesAdd hb2 (Sl.rests hsl2)).seesTurn (ψ := SeenAt (es ++ [⟨⟨xd, xn, xy, xs, xt⟩, xA, xc⟩])) fun W h u hu => by
        rcases List.mem_append.1 hu with h1 | h1
        · exact h.1 u h1
        · rw [List.mem_singleton.1 h1]; exact h.2).sw.alloc (.cells #[.int .i64 xd, .int .i64 xn, .int .i64 xy, .slice xA xs.length xc, .string ⟨xt.toArray⟩] 32))
      have LX := Lib.hid (Loc.new_ w2 #[.int .i64 xd, .int .i64 xn, .int .i64 xy, .slice xA xs.length xc, .string ⟨xt.toArray⟩] 32)
      clear hxv hxf hb2 hsl2 HDE d0
      go_upto_region 6 with (fail)
      generalize hWX : w2.alloc (.cells #[.int .i64 xd, .int .i64 xn, .int .i64 xy, .slice xA xs.length xc, .string ⟨xt.toArray⟩] 32) = W at *
      generalize hbX : w2.heap.size = bX at *
      clear hWX hbX HSO
      cases db
      · have hno : decAll recs = none := by
          rw [HTK.out]
          refine decAll_no ?_
          rw [HSN.out, if_neg (by simp)]
        have HNO := Lib.hid hno
        clear hno
        go_wp2_with (fail)
        go_ret2
        exact .inr ⟨HNO.out, rfl, HS2.out.base⟩
      · have HDN : Hid (decAll (recs.take (k + 1)) = some (vsOf (es ++ [⟨⟨xd, xn, xy, xs, xt⟩, xA, xc⟩]))) := Lib.hid (by
          rw [HSN.out, if_pos rfl, ← HXV.out]
          simp [vsOf])
        obtain ⟨zX, kX, fX⟩ := LX.out
        have HS3 := Lib.hid (HS2.out.alloc (.cells #[.int .i64 xd, .int .i64 xn, .int .i64 xy, .slice xA xs.length xc, .string ⟨xt.toArray⟩] 32))
        have HN3 := Lib.hid (Sl.new_ W 32 (EntC.cells ⟨⟨xd, xn, xy, xs, xt⟩, xA, xc⟩))
        simp only [EntC.cells] at HN3
        have hk6 : k ≤ 20000000 := by have := HLT.out; omega
        go_wp2_with (at_builtin; (refine wpList_append_sl _ rfl (.tmp 22) (.tmp 24) _ rfl w.heap.size 32 ie _ 5 64 Tryz.underlying22 he0 he1 he2 he3 rfl (by omega) _ k (es.map EntC.cells) rfl HS3.out.own (some ⟨W.heap.size, 0, none⟩) 1 1 ([(⟨⟨xd, xn, xy, xs, xt⟩, xA, xc⟩ : EntC)].map EntC.cells) rfl HN3.out (ents_len _) (ents_one _) (by simp only [maxLen]; omega) (by omega) HS3.out.base.size ?_); intro A9 c9 w9 hown9 hg9 hat9
                     have HS9 := Lib.hid (HS3.out.grown hown9 hg9 hat9)
                     clear hown9 hg9 hat9)
        go_roundw
        case rel => exact ⟨k + 1, A9, c9, es ++ [⟨⟨xd, xn, xy, xs, xt⟩, xA, xc⟩], rfl, by go_num, HLT.out, by rw [List.length_append, HEL.out]; rfl, HDN.out, by rw [List.map_append]; exact HS9.out⟩
        case measure => have := HLT.out; simp [Go.RowKit.intOf]; omega
    · obtain rfl : k = n := by omega
      have hki : ¬ ((k : Int) < (k : Int)) := by omega
      have hd := HD.out
      rw [List.take_of_length_le (by rw [HLL.out]; exact Nat.le_refl _)] at hd
      have HD2 := Lib.hid hd
      clear hd hlt hk
      go_wp2_with (fail)
      go_ret2
      exact .inl ⟨A', c', es, HD2.out, by rw [HEL.out]; rfl, by rw [HEL.out]; exact HSO.out⟩
/-- Open's closure: an entry of another device -/
theorem other_any (w : World) (bx : Nat) (f : Int) (hb : Loc w bx #[.int .i64 f]) (x : EntC) (r : Bool) (hr : decide (x.v.dev ≠ f) = r) :
    Calls Tryz.prog 64 #[.agg x.cells.toArray, .pointer (some ⟨bx, 0, none⟩)] w fun e w' => e = .returned (.bool r) ∧ Below w.heap.size w w' := by
  obtain ⟨⟨xd, xn, xy, xs, xt⟩, xA, xc⟩ := x
  obtain ⟨zX, kX, fX⟩ := hb
  have HR := Lib.hid hr
  clear hr
  simp only [EntC.cells]
  go_enter Tryz.func64, Tryz.ntmps64
  go_wp2_with (fail)
  go_ret
  exact ⟨ret_bool (by rw [← HR.out, Bool.eq_iff_iff]; simp), below_alloc _ _⟩
def AllOf (f : Int) (l : List EntC) (k : Nat) : Prop := ∀ x ∈ l.take k, x.v.dev = f
set_option maxRecDepth 100000 in
set_option maxHeartbeats 1000000 in
theorem IndexOther_any (w : World) (A : Option Addr) (n c : Nat) (l : List EntC) (hs : Sl w 5 A n (l.map EntC.cells)) (hn : n ≤ 1099511627776) (bx : Nat) (f : Int) (hb : Loc w bx #[.int .i64 f]) :
    Calls Tryz.prog 110 #[.slice A n c, .func (.func 64) #[] #[.pointer (some ⟨bx, 0, none⟩)]] w fun e w' => ∃ i : Int, e = .returned (.int .i64 i) ∧ (i = -1 ∧ AllOf f l n ∨ 0 ≤ i ∧ ∃ x ∈ l, x.v.dev ≠ f) ∧ Below w.heap.size w w' := by
  have HLL : Hid (l.length = n) := Lib.hid (by simpa using hs.1)
  have HS := Lib.hid hs
  have HX := Lib.hid hb
  clear hs hb
  go_enter Tryz.func110, Tryz.ntmps110
  go_wp2_with (fail)
  go_loopw [8] (fun iv wr => ∃ k : Nat, k ≤ n ∧ iv = .int .i64 (k : Int) ∧ Below w.heap.size w wr ∧ AllOf f l k) (fun iv _ => n - (Go.RowKit.intOf iv).toNat)
  case atStart => exact ⟨0, Nat.zero_le _, rfl, Below.refl _ _, fun x hx => by simp at hx⟩
  case round =>
    obtain ⟨k, hk, rfl, hb, ha⟩ := hrel
    obtain ⟨wo, rfl⟩ : ∃ wo : World, wo = wr := ⟨_, rfl⟩
    have HB := Lib.hid hb
    have HA := Lib.hid ha
    clear hb ha
    by_cases hlt : k < n
    · obtain ⟨x, hx⟩ : ∃ v, l[k]? = some v := ⟨_, List.getElem?_eq_getElem (by rw [HLL.out]; exact hlt)⟩
      obtain ⟨b, o, rfl, hbl, d0, d1, d2, d3, d4⟩ := ent_at (HS.out.below HB.out) hx
      obtain ⟨r, hr⟩ : ∃ r, decide (x.v.dev ≠ f) = r := ⟨_, rfl⟩
      have HC := Lib.hid (other_any wo bx f (HX.out.below HB.out) x r hr)
      simp only [EntC.cells] at HC
      have hki : (k : Int) < (n : Int) := by omega
      have hk0 : (0 : Int) ≤ (k : Int) := by omega
      have hwk : IntKind.i64.wrap ((k : Int) + 1) = (k : Int) + 1 := IntWalk.i64_in _ (by omega)
      have HR := Lib.hid hr
      have HXI := Lib.hid hx
      have HLT := Lib.hid hlt
      clear hx hr hlt hk hbl
      go_wp2_with (fail)
      ((with_reducible refine HC.out.mono ?_); rintro _ w2 ⟨rfl, hb2⟩)
      have HB2 := Lib.hid (HB.out.trans (hb2.mono HB.out.size))
      clear hb2 HC d0 d1 d2 d3 d4
      cases r
      · go_wp2_with (fail)
        go_roundw
        case rel => exact ⟨k + 1, HLT.out, by go_num, HB2.out, fun y hy => by
          rw [List.take_add_one, HXI.out, Option.toList_some] at hy
          rcases List.mem_append.1 hy with h | h
          · exact HA.out y h
          · rw [List.mem_singleton.1 h]; simpa using HR.out⟩
        case measure => have := HLT.out; simp [Go.RowKit.intOf]; omega
      · go_wp2_with (fail)
        go_ret
        exact ⟨(k : Int), rfl, .inr ⟨by omega, x, List.mem_of_getElem? HXI.out, by simpa using HR.out⟩, HB2.out⟩
    · obtain rfl : k = n := by omega
      have hki : ¬ ((k : Int) < (k : Int)) := by omega
      clear hlt hk
      go_wp2_with (fail)
      go_ret
      exact ⟨-1, rfl, .inl ⟨rfl, HA.out⟩, HB.out⟩
set_option maxRecDepth 100000 in
set_option maxHeartbeats 1000000 in
theorem ContainsOther_any (w : World) (A : Option Addr) (n c : Nat) (l : List EntC) (hs : Sl w 5 A n (l.map EntC.cells)) (hn : n ≤ 1099511627776) (bx : Nat) (f : Int) (hb : Loc w bx #[.int .i64 f]) (r : Bool) (hr : ((vsOf l).all fun x => decide (x.dev = f)) = !r) :
    Calls Tryz.prog 66 #[.slice A n c, .func (.func 64) #[] #[.pointer (some ⟨bx, 0, none⟩)]] w fun e w' => e = .returned (.bool r) ∧ Below w.heap.size w w' := by
  have HLL : l.length = n := by simpa using hs.1
  have HC := Lib.hid (IndexOther_any w A n c l hs hn bx f hb)
  have hf : ∀ i : Int, (i = -1 ∧ AllOf f l n ∨ 0 ≤ i ∧ ∃ x ∈ l, x.v.dev ≠ f) → decide (0 ≤ i) = r := fun i h => by
    rcases h with ⟨rfl, h⟩ | ⟨h0, x, hx, h⟩
    · have : ((vsOf l).all fun x => decide (x.dev = f)) = true := by
        rw [List.all_eq_true]
        intro v hv
        obtain ⟨u, hu, rfl⟩ := List.mem_map.1 hv
        exact decide_eq_true (h u (by rw [List.take_of_length_le (by omega)]; exact hu))
      rw [this] at hr
      have : r = false := by cases r with | false => rfl | true => cases hr
      rw [this]; rfl
    · have : ((vsOf l).all fun x => decide (x.dev = f)) = false := by
        rw [Bool.eq_false_iff]
        intro h2
        rw [List.all_eq_true] at h2
        exact h (of_decide_eq_true (h2 x.v (List.mem_map.2 ⟨x, hx, rfl⟩)))
      rw [this] at hr
      have : r = true := by cases r with | true => rfl | false => cases hr
      rw [this]; exact decide_eq_true h0
  have HF := Lib.hid hf
  clear hs hb hr hf HLL
  go_enter Tryz.func66, Tryz.ntmps66
  go_wp2_with ((with_reducible refine HC.out.mono ?_); rintro _ w9 ⟨i, rfl, hi, hb9⟩)
  go_ret
  exact ⟨by rw [← HF.out i hi]; rfl, hb9⟩
end Go.Proofs.YtjncmlglhegnaaaGreatDoor
namespace Go.Proofs.YtjncmlglhegnaaaGreatDoor
open Go.RowKit Go.Sort

theorem SepIn.split {w : World} : ∀ {Ss Rs : List Res} {G : Nat → Prop}, SepIn w (Ss ++ Rs) G → ∃ F : Nat → Prop, (∀ k, F k → G k) ∧ SepIn w Ss F ∧ SepIn w Rs (fun k => G k ∧ ¬ F k)
  | [], _, _, h => ⟨fun _ => False, fun _ hf => hf.elim, trivial, h.mono fun _ hk => ⟨hk, fun hf => hf⟩⟩
  | R :: Ss, Rs, G, h => by
    obtain ⟨F1, a, b, c⟩ := h
    obtain ⟨F2, d, e, f⟩ := SepIn.split (Ss := Ss) c
    refine ⟨fun k => F1 k ∨ F2 k, fun k hk => ?_, ⟨F1, a, fun k hk => .inl hk, e.mono fun k hk => ⟨.inr hk, (d k hk).2⟩⟩, f.mono fun k hk => ⟨hk.1.1, fun hf => ?_⟩⟩
    · rcases hk with hk | hk
      · exact b k hk
      · exact (d k hk).1
    · rcases hf with hf | hf
      · exact hk.1.2 hf
      · exact hk.2 hf
/-- many things, told as one: some case of them holds -/
def packR {ι : Type} (φ : ι → Prop) (ls : ι → List Res) : Res where
  P := fun w F => (∃ i, φ i ∧ SepIn w (ls i) F) ∧ ∀ k, F k → k < w.heap.size
  lt := fun _ _ h k hk => h.2 k hk
  keep := fun _ _ _ ⟨⟨i, h0, h1⟩, h2⟩ hz hb => ⟨⟨i, h0, h1.keep hz fun k hk _ => hb k hk⟩, fun k hk => Nat.lt_of_lt_of_le (h2 k hk) hz⟩
theorem Sep.unpack {ι : Type} {φ : ι → Prop} {ls : ι → List Res} {w0 w : World} {Rs : List Res} (h : Sep w0 w (packR φ ls :: Rs)) : ∃ i, φ i ∧ Sep w0 w (ls i ++ Rs) := by
  obtain ⟨⟨F, ⟨⟨i, h0, h1⟩, _⟩, h3, h4⟩, hb⟩ := h
  exact ⟨i, h0, (SepIn.append h1 h4 fun k hk hk2 => hk2.2 hk).mono fun k hk => by
    rcases hk with hk | hk
    · exact h3 k hk
    · exact hk.1, hb⟩
theorem Sep.pack {ι : Type} {φ : ι → Prop} {ls : ι → List Res} {w0 w : World} {Rs : List Res} (i : ι) (h0 : φ i) (h : Sep w0 w (ls i ++ Rs)) : Sep w0 w (packR φ ls :: Rs) := by
  obtain ⟨h1, hb⟩ := h
  obtain ⟨F, a, b, c⟩ := SepIn.split h1
  exact ⟨⟨F, ⟨⟨i, h0, b⟩, fun k hk => (a k hk).2⟩, a, c⟩, hb⟩

/-! ### a device -/
abbrev devX (J : Nat) (number : Int) (A : Option Addr) (n c : Nat) (l : LoanV) : Array Value := #[.int .i64 number, .pointer (some ⟨J, 0, none⟩), .slice A n c, .int .i64 l.device, .int .i64 l.units, .int .i64 l.spent, .bool l.back]
structure DevI where
  J : Nat
  A : Option Addr
  c : Nat
  es : List EntC
/-- a device in block X, its journal on the disk of block B -/
def devR (B X : Nat) (x : DevV) : Res :=
  packR (fun i : DevI => vsOf i.es = x.ents) fun i => [boxR X (devX i.J x.number i.A i.es.length i.c x.loan), ownR 32 5 (.slice i.A i.es.length i.c) i.es.length (i.es.map EntC.cells), seesR (SeenAt i.es), jourR B i.J x.j]
theorem Sep.devPack {w0 w : World} {Rs : List Res} {B X J c : Nat} {A : Option Addr} {es : List EntC} {x : DevV} (h : Sep w0 w (boxR X (devX J x.number A es.length c x.loan) :: ownR 32 5 (.slice A es.length c) es.length (es.map EntC.cells) :: seesR (SeenAt es) :: jourR B J x.j :: Rs)) (hx : vsOf es = x.ents) : Sep w0 w (devR B X x :: Rs) :=
  Sep.pack (φ := fun i : DevI => vsOf i.es = x.ents) (ls := fun i : DevI => [boxR X (devX i.J x.number i.A i.es.length i.c x.loan), ownR 32 5 (.slice i.A i.es.length i.c) i.es.length (i.es.map EntC.cells), seesR (SeenAt i.es), jourR B i.J x.j]) ⟨J, A, c, es⟩ hx h
theorem Sep.devPart {w0 w : World} {Rs : List Res} {B X : Nat} {x : DevV} (h : Sep w0 w (devR B X x :: Rs)) : ∃ (J : Nat) (A : Option Addr) (c : Nat) (es : List EntC), vsOf es = x.ents ∧ Sep w0 w (boxR X (devX J x.number A es.length c x.loan) :: ownR 32 5 (.slice A es.length c) es.length (es.map EntC.cells) :: seesR (SeenAt es) :: jourR B J x.j :: Rs) := by
  obtain ⟨⟨J, A, c, es⟩, h0, h1⟩ := Sep.unpack h
  exact ⟨J, A, c, es, h0, h1⟩
/-- what Open leaves -/
def DevPost (w0 : World) (Rs : List Res) (B : Nat) : DV × Option DevV × Int → Ending → World → Prop
  | (d, some x, er), e, w' => ∃ X, e = .returned (.tuple #[.pointer (some ⟨X, 0, none⟩), .int .i64 er]) ∧ Sep w0 w' (devR B X x :: diskR B d :: Rs)
  | (d, none, er), e, w' => e = .returned (.tuple #[.pointer none, .int .i64 er]) ∧ Sep w0 w' (diskR B d :: Rs)
/-! ### what Open finds -/
theorem decAll_right : ∀ {l : List (List UInt8)} {vs : List EntV}, decAll l = some vs → ∀ v ∈ vs, RightE v
  | [], vs, h, v, hv => by
    have : vs = [] := by simpa [decAll] using h.symm
    subst this
    simp at hv
  | s :: r, vs, h, v, hv => by
    simp only [decAll] at h
    by_cases hs : (decodeF s).2 = true
    · rw [if_pos hs] at h
      cases hr : decAll r with
      | none => rw [hr] at h; cases h
      | some us =>
        rw [hr] at h
        have : vs = (decodeF s).1 :: us := by simpa using h.symm
        subst this
        rcases List.mem_cons.1 hv with rfl | hv
        · unfold decodeF at hs ⊢
          by_cases hg : goodD s = true
          · rw [if_pos hg]; exact (enc_decE hg).2
          · rw [if_neg hg] at hs; cases hs
        · exact decAll_right hr v hv
    · rw [if_neg hs] at h; cases h
theorem decAll_len : ∀ {l : List (List UInt8)} {vs : List EntV}, decAll l = some vs → vs.length = l.length
  | [], vs, h => by
    have : vs = [] := by simpa [decAll] using h.symm
    subst this
    rfl
  | s :: r, vs, h => by
    simp only [decAll] at h
    by_cases hs : (decodeF s).2 = true
    · rw [if_pos hs] at h
      cases hr : decAll r with
      | none => rw [hr] at h; cases h
      | some us =>
        rw [hr] at h
        have : vs = (decodeF s).1 :: us := by simpa using h.symm
        subst this
        rw [List.length_cons, List.length_cons, decAll_len hr]
    · rw [if_neg hs] at h; cases h
theorem chAt_of {w : World} {A : Option Addr} {es : List EntC} {l : List (List UInt8)} (hd : decAll l = some (vsOf es)) (hs : Sl w 5 A es.length (es.map EntC.cells)) (hi : SeenAt es w) : ChAt w A es.length es :=
  ⟨hs, hi, fun e he => by
    have h := decAll_right hd e.v (List.mem_map.2 ⟨e, he, rfl⟩)
    have := h.len
    have := h.txt
    exact ⟨by omega, by omega⟩⟩
theorem openJ_some {d d' : DV} {f e : Int} {j : JV} (h : openJ d f = (d', some j, e)) : e = 0 ∧ j.broken = false ∧ j.file = f ∧ j.recs = recsF (((SyncF d f).1.file f).now) ∧ j.bytes = ((formsB j.recs).length : Int) := by
  unfold openJ at h
  split at h
  · simp at h
  · split at h
    · simp at h
    · dsimp only at h
      split at h
      · split at h
        · simp at h
        · simp only [Prod.mk.injEq, Option.some.injEq] at h
          obtain ⟨_, h2, h3⟩ := h
          subst h2
          exact ⟨h3.symm, rfl, rfl, rfl, rfl⟩
      · simp only [Prod.mk.injEq, Option.some.injEq] at h
        obtain ⟨_, h2, h3⟩ := h
        subst h2
        exact ⟨h3.symm, rfl, rfl, rfl, rfl⟩
theorem openJ_none {d d' : DV} {f e : Int} (h : openJ d f = (d', none, e)) : e ≠ 0 := by
  unfold openJ at h
  split at h
  · simp only [Prod.mk.injEq] at h
    omega
  · split at h
    · rename_i hs
      simp only [Prod.mk.injEq] at h
      rw [← h.2.2]; exact hs
    · dsimp only at h
      split at h
      · split at h
        · rename_i hs
          simp only [Prod.mk.injEq] at h
          rw [← h.2.2]; exact hs
        · simp at h
      · simp at h
end Go.Proofs.YtjncmlglhegnaaaGreatDoor
