/- wire: Int, Num, walked. -/
/- wire: the library's variables in the world; strconv.Atoi, strings.IndexByte, strings.CutPrefix as the reader uses them; close, walked. -/
import Derived.Test.YtjncmlglhegnaaaGreatDoorWireQ
import Derived.Test.YtjncmlglhegnaaaGreatDoorWireL
import Derived.Lib.AppendIntMem
import Derived.WalkSmall
namespace Go.Proofs.YtjncmlglhegnaaaGreatDoor
open Go.RowKit Go.Sort Go.Lib

/-- the library's table of powers lies in the world -/
def Tab (w : World) : Prop := Lib.TabIs Tryz.prog w "internal/strconv.uint64pow10" .u64 Lib.pow10Tab
theorem itoa_any (w : World) (ht : Tab w) (n : Int) (h0 : -9223372036854775808 ≤ n) (h1 : n ≤ 9223372036854775807) :
    Calls Tryz.prog 177 #[.int .i64 n] w fun e w' => e = .returned (.string ⟨(Lib.itoa n).toArray⟩) ∧ Below w.heap.size w w' :=
  (strconv_Itoa n h0 h1 w ht).mono fun e w' ⟨he, k, os, hw⟩ => ⟨he, by rw [hw]; exact below_grow _ w (Nat.le_refl _) k os⟩
set_option maxRecDepth 100000 in
set_option maxHeartbeats 1000000 in
theorem Int_any (w : World) (ht : Tab w) (n : Int) (h0 : -9223372036854775808 ≤ n) (h1 : n ≤ 9223372036854775807) (s : List UInt8) (hs : encI n = s) :
    Calls Tryz.prog 132 #[.int .i64 n] w fun e w' => e = .returned (.string ⟨s.toArray⟩) ∧ Below w.heap.size w w' := by
  have HC := Lib.hid (itoa_any w ht n h0 h1)
  have hl : (Lib.itoa n).length ≤ 20 := itoa_length h0 h1
  have hsz : (⟨(Lib.itoa n).toArray⟩ : ByteArray).size = (Lib.itoa n).length := by simp [ByteArray.size]
  have hs' : (⟨(Lib.itoa n).toArray⟩ : ByteArray) ++ ⟨#[59]⟩ = ⟨s.toArray⟩ := by rw [← hs]; exact str_app (Lib.itoa n) [59]
  generalize Lib.itoa n = l at *
  clear hs ht h0 h1
  go_enter Tryz.func132, Tryz.ntmps132
  go_wp2_with ((with_reducible refine (HC.out).mono ?_); rintro _ w1 ⟨rfl, hb1⟩; have HB1 := Lib.hid hb1; clear hb1)
  go_ret
  exact ⟨by rw [← hs']; rfl, HB1.out⟩
set_option maxRecDepth 100000 in
set_option maxHeartbeats 1000000 in
theorem Num_any (w : World) (ht : Tab w) (n : Int) (h0 : -9223372036854775808 ≤ n) (h1 : n ≤ 9223372036854775807) (s : List UInt8) (hs : encN n = s) :
    Calls Tryz.prog 79 #[.int .i64 n] w fun e w' => e = .returned (.string ⟨s.toArray⟩) ∧ Below w.heap.size w w' := by
  unfold encN at hs
  by_cases hn : n < 0
  · rw [if_pos hn] at hs
    subst hs
    clear ht h0 h1
    go_enter Tryz.func79, Tryz.ntmps79
    go_wp2_with (fail)
    go_ret
    exact ⟨rfl, Below.refl _ _⟩
  · rw [if_neg hn] at hs
    have HC := Lib.hid (Int_any w ht n h0 h1 s hs)
    have hn' : 0 ≤ n := by omega
    clear hs ht h0 h1 hn
    go_enter Tryz.func79, Tryz.ntmps79
    go_wp2_with ((with_reducible refine (HC.out).mono ?_); rintro _ w1 ⟨rfl, hb1⟩; have HB1 := Lib.hid hb1; clear hb1)
    go_ret
    exact ⟨rfl, HB1.out⟩
set_option maxRecDepth 100000 in
set_option maxHeartbeats 1000000 in
theorem Text_any (w : World) (ht : Tab w) (s : List UInt8) (h1 : s.length ≤ 140737488351232) (r : List UInt8) (hr : encT s = r) :
    Calls Tryz.prog 172 #[.string ⟨s.toArray⟩] w fun e w' => e = .returned (.string ⟨r.toArray⟩) ∧ Below w.heap.size w w' := by
  have HC := Lib.hid (itoa_any w ht (s.length : Int) (by omega) (by omega))
  have hl : (Lib.itoa (s.length : Int)).length ≤ 20 := itoa_length (by omega) (by omega)
  have hs' : (((⟨(Lib.itoa (s.length : Int)).toArray⟩ : ByteArray) ++ ⟨#[58]⟩) ++ (⟨s.toArray⟩ : ByteArray)) ++ (⟨#[44]⟩ : ByteArray) = ⟨r.toArray⟩ := by
    rw [← hr]
    have e1 := str_app (Lib.itoa (s.length : Int)) [58]
    have e2 := str_app (Lib.itoa (s.length : Int) ++ [58]) s
    have e3 := str_app (Lib.itoa (s.length : Int) ++ [58] ++ s) [44]
    have e4 : Lib.itoa (s.length : Int) ++ [58] ++ s ++ [44] = encT s := by unfold encT; simp
    rw [← e4, ← e3, ← e2, ← e1]
  have hsz : (⟨s.toArray⟩ : ByteArray).size = s.length := by simp [ByteArray.size]
  generalize Lib.itoa (s.length : Int) = l at *
  have z1 : (⟨l.toArray⟩ : ByteArray).size = l.length := by simp [ByteArray.size]
  have z2 : ((⟨l.toArray⟩ : ByteArray) ++ ⟨#[58]⟩).size = l.length + 1 := by rw [show ((⟨l.toArray⟩ : ByteArray) ++ ⟨#[58]⟩) = ⟨(l ++ [58]).toArray⟩ from str_app l [58]]; simp [ByteArray.size]
  have z3 : (((⟨l.toArray⟩ : ByteArray) ++ ⟨#[58]⟩) ++ (⟨s.toArray⟩ : ByteArray)).size = l.length + 1 + s.length := by rw [show ((⟨l.toArray⟩ : ByteArray) ++ ⟨#[58]⟩) = ⟨(l ++ [58]).toArray⟩ from str_app l [58], str_app]; simp [ByteArray.size]; omega
  have b1 : l.length + 1 ≤ 9223372036854775807 := by omega
  have b2 : l.length + 1 + s.length ≤ 9223372036854775807 := by omega
  have b3 : l.length + 1 + s.length + 1 ≤ 9223372036854775807 := by omega
  clear hr ht
  go_enter Tryz.func172, Tryz.ntmps172
  go_wp2_with ((with_reducible refine (HC.out).mono ?_); rintro _ w1 ⟨rfl, hb1⟩; have HB1 := Lib.hid hb1; clear hb1)
  go_ret
  exact ⟨by rw [← hs']; rfl, HB1.out⟩
end Go.Proofs.YtjncmlglhegnaaaGreatDoor
namespace Go.Proofs.YtjncmlglhegnaaaGreatDoor
open Go.RowKit Go.Sort Go.Lib

/-- a package variable that lies below B -/
def VarIn (B : Nat) (w : World) (name : String) (cs : Array Value) : Prop := ∃ g, Tryz.prog.globalNamed name = some g ∧ g < B ∧ w.var? Tryz.prog name = some cs
theorem VarIn.of {w : World} {name : String} {cs : Array Value} (h : w.var? Tryz.prog name = some cs) : VarIn w.heap.size w name cs := by
  have h' := h
  unfold World.var? at h'
  cases hg : Tryz.prog.globalNamed name with
  | none => rw [hg] at h'; cases h'
  | some g =>
    rw [hg] at h'
    refine ⟨g, (by first | rfl | exact hg), ?_, h⟩
    simp only [Option.bind_some] at h'
    cases hb : w.heap[g]? with
    | none => rw [hb] at h'; cases h'
    | some o => exact (Array.getElem?_eq_some_iff.1 hb).1
theorem VarIn.below {B : Nat} {w w' : World} {name : String} {cs : Array Value} (h : VarIn B w name cs) (hb : Below B w w') : VarIn B w' name cs := by
  obtain ⟨g, h1, h2, h3⟩ := h
  exact ⟨g, h1, h2, var?_below hb h1 h2 h3⟩
theorem VarIn.grown {B b : Nat} {w w' : World} {name : String} {cs : Array Value} (h : VarIn B w name cs) (hB : B ≤ b) (hs : B ≤ w.heap.size) (hg : w.grownBy w' (some b)) : VarIn B w' name cs :=
  h.below ((Below.refl B w).grown hg hs fun k hk => by injection hk with hk; omega)
structure Env (B : Nat) (w : World) : Prop where
  tab : VarIn B w "internal/strconv.uint64pow10" (Lib.pow10Tab.map fun z => Value.int .u64 z).toArray
  syn : ∃ tp p, VarIn B w "strconv.ErrSyntax" #[.iface tp p]
  rng : ∃ tp p, VarIn B w "strconv.ErrRange" #[.iface tp p]
theorem Env.below {B : Nat} {w w' : World} (h : Env B w) (hb : Below B w w') : Env B w' :=
  ⟨h.tab.below hb, by obtain ⟨tp, p, h⟩ := h.syn; exact ⟨tp, p, h.below hb⟩, by obtain ⟨tp, p, h⟩ := h.rng; exact ⟨tp, p, h.below hb⟩⟩
theorem Env.grown {B b : Nat} {w w' : World} (h : Env B w) (hB : B ≤ b) (hs : B ≤ w.heap.size) (hg : w.grownBy w' (some b)) : Env B w' :=
  h.below ((Below.refl B w).grown hg hs fun k hk => by injection hk with hk; omega)
theorem Env.isTab {B : Nat} {w : World} (h : Env B w) : Tab w := by
  obtain ⟨_, _, _, h⟩ := h.tab
  exact h
theorem Env.lt {B : Nat} {w : World} (h : Env B w) : 0 < B := by
  obtain ⟨g, _, h, _⟩ := h.tab
  omega
theorem atoi_ok (w : World) (l : List UInt8) (hl : l.length ≤ 140737488351232) (v : Int) (h : Lib.atoiAll l = .ok v) :
    Calls Tryz.prog 186 #[.string ⟨l.toArray⟩] w fun e w' => e = .returned (.tuple #[.int .i64 v, .nilIface]) ∧ Below w.heap.size w w' :=
  (strconv_Atoi_ok ⟨l.toArray⟩ (by rw [str_size]; omega) v h w).mono fun e w' ⟨he, hw⟩ => ⟨he, by
    rcases hw with rfl | ⟨t, rfl⟩
    · exact Below.refl _ _
    · exact ⟨by simp only [Lib.bytesWorld, World.freeze]; rfl, by simp only [Lib.bytesWorld, World.freeze]; rfl, by simp only [Lib.bytesWorld, World.freeze]; rfl, by rw [Lib.bytesWorld_size]; omega, fun k hk => Lib.bytesWorld_at_old w _ t k hk⟩⟩
def AtoiNo (w : World) (e : Ending) (w' : World) : Prop := ∃ (n : Int) (N : Nat), e = .returned (.tuple #[.int .i64 n, .iface 255 (.pointer (some ⟨N, 0, none⟩))]) ∧ Below w.heap.size w w'
theorem atoi_no {B : Nat} (w : World) (he : Env B w) (l : List UInt8) (hl : l.length ≤ 140737488351232) (h : ∀ v, Lib.atoiAll l ≠ .ok v) :
    Calls Tryz.prog 186 #[.string ⟨l.toArray⟩] w (AtoiNo w) := by
  cases hc : Lib.atoiAll l with
  | ok v => exact absurd hc (h v)
  | range =>
    obtain ⟨tp, p, _, _, _, hv⟩ := he.rng
    exact (strconv_Atoi_range_var ⟨l.toArray⟩ (by rw [str_size]; omega) hc tp p w hv).mono fun e w' ⟨N, h1, _, _, h4⟩ => ⟨_, N, h1, h4⟩
  | _ =>
    obtain ⟨tp, p, _, _, _, hv⟩ := he.syn
    exact (Any.strconv_Atoi_syntax_var laysC172 ⟨l.toArray⟩ (by rw [str_size]; omega) hc tp p w hv).mono fun e w' ⟨N, h1, _, _, h4⟩ => ⟨_, N, h1, h4⟩
theorem indexByte_place (c : UInt8) : ∀ l : List UInt8, Lib.indexByte l c = match placeOf c l with | none => -1 | some i => (i : Int)
  | [] => rfl
  | b :: l => by
    rw [Lib.indexByte, placeOf, indexByte_place c l]
    by_cases h : b = c
    · simp [h]
    · cases hp : placeOf c l with
      | none => simp [h]
      | some i =>
        have : ¬ ((i : Int) = -1) := by omega
        simp [h, this]
theorem index_any (w : World) (l : List UInt8) (c : UInt8) (n : Int) (h : (match placeOf c l with | none => -1 | some i => (i : Int)) = n) :
    Calls Tryz.prog 184 #[.string ⟨l.toArray⟩, .int .u8 c.toNat] w fun e w' => e = .returned (.int .i64 n) ∧ w = w' :=
  (strings_IndexByte ⟨l.toArray⟩ (c.toNat : Int) w).mono fun e w' ⟨he, hw⟩ => ⟨by rw [he, ← h, ← indexByte_place]; simp, hw.symm⟩
theorem cut_any (w : World) (l : List UInt8) (e : UInt8) (r : RdV) (hr : r.rest = l) (k : Bool) (hk : closeB e r = k) :
    Calls Tryz.prog 98 #[.string ⟨l.toArray⟩, .string ⟨#[e]⟩] w fun x w' => x = .returned (.tuple #[.string ⟨(if k = true then l.drop 1 else l).toArray⟩, .bool k]) ∧ w = w' := by
  refine (strings_CutPrefix ⟨l.toArray⟩ ⟨#[e]⟩ w).mono fun x w' ⟨he, hw⟩ => ⟨?_, hw.symm⟩
  have hp : Lib.hasPrefix l [e] = k := by
    rw [← hk]
    unfold closeB
    rw [hr]
    cases l with
    | nil => simp [Lib.hasPrefix]
    | cons c t =>
      rw [Bool.eq_iff_iff]
      simp only [Lib.hasPrefix, List.isPrefixOf, Bool.and_true, beq_iff_eq, List.head?_cons, Option.some.injEq, decide_eq_true_eq]
      exact ⟨Eq.symm, Eq.symm⟩
  rw [he]
  show Ending.returned (.tuple #[.string ⟨(Lib.trimPrefix l [e]).toArray⟩, .bool (Lib.hasPrefix l [e])]) = _
  unfold Lib.trimPrefix
  rw [hp]
  rfl
set_option maxRecDepth 100000 in
set_option maxHeartbeats 1000000 in
theorem close_any {w : World} {b : Nat} {r : RdV} (h : RdAt w b r) (e : UInt8) (r' : RdV) (hr : closeF e r = r') :
    Calls Tryz.prog 191 #[.pointer (some ⟨b, 0, none⟩), .string ⟨#[e]⟩] w (RdPost w b (.tuple #[]) r') := by
  obtain ⟨l, x⟩ := r
  have H := Lib.hid h
  obtain ⟨k, hk⟩ : ∃ k, closeB e ⟨l, x⟩ = k := ⟨_, rfl⟩
  have HC := Lib.hid (cut_any w l e ⟨l, x⟩ rfl k hk)
  have HR := Lib.hid hr
  have HK := Lib.hid hk
  obtain ⟨z, f1, f2⟩ := h
  clear hr hk
  cases k
  · rw [if_neg (by simp)] at HC
    have hr' : r' = .fail := by
      rw [← HR.out]
      have hk := HK.out
      unfold closeB at hk
      unfold closeF
      cases l with
      | nil => rfl
      | cons c t => simp at hk; simp [hk]
    subst hr'
    have H2 := Lib.hid (fail_any (H.out.set1 l))
    have G2 := Lib.hid (grownBy_setCell w ⟨b, 0, none⟩ (.string ⟨l.toArray⟩))
    go_enter Tryz.func191, Tryz.ntmps191
    go_wp2_with (first | ((with_reducible refine (HC.out).mono ?_); rintro _ w1 ⟨rfl, hw1⟩; obtain rfl := hw1) | ((with_reducible refine (H2.out).mono ?_); rintro _ w3 ⟨rfl, h1, g1⟩; have H3 := Lib.hid h1; have G3 := Lib.hid (G2.out.trans g1); clear h1 g1))
    first
      | exact bodyPost_ret (v := .tuple #[]) (by simp [results, Tryz.results191, go_sem]) rfl ⟨rfl, H3.out, G3.out⟩
      | exact ⟨rfl, .tuple #[], by simp [results, Tryz.results191, go_sem], rfl, H3.out, G3.out⟩
      | exact ⟨rfl, _, rfl, rfl, H3.out, G3.out⟩
  · rw [if_pos rfl] at HC
    have hr' : r' = ⟨l.drop 1, x⟩ := by
      rw [← HR.out]
      have hk := HK.out
      unfold closeB at hk
      unfold closeF
      cases l with
      | nil => simp at hk
      | cons c t => simp at hk; simp [hk]
    subst hr'
    generalize l.drop 1 = l2 at *
    have H3 := Lib.hid (H.out.set1 l2)
    have G3 := Lib.hid (grownBy_setCell w ⟨b, 0, none⟩ (.string ⟨l2.toArray⟩))
    go_enter Tryz.func191, Tryz.ntmps191
    go_wp2_with ((with_reducible refine (HC.out).mono ?_); rintro _ w1 ⟨rfl, hw1⟩; obtain rfl := hw1)
    first
      | exact bodyPost_ret (v := .tuple #[]) (by simp [results, Tryz.results191, go_sem]) rfl ⟨rfl, H3.out, G3.out⟩
      | exact ⟨rfl, .tuple #[], by simp [results, Tryz.results191, go_sem], rfl, H3.out, G3.out⟩
      | exact ⟨rfl, _, rfl, rfl, H3.out, G3.out⟩
end Go.Proofs.YtjncmlglhegnaaaGreatDoor
