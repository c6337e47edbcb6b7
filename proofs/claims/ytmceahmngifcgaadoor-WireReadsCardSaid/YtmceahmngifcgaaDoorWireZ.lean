/- kerbsidelaw01: write, small, walked. -/
import Derived.Test.YtmceahmngifcgaaDoorWireY
namespace Go.Proofs.YtmceahmngifcgaaDoor
open Go.RowKit Go.Sort Go.Lib

def wvOf (v : ValC) : WV :=
  if kindF v.k = 0 then .nat (numberF v.n) else if kindF v.k = 1 then .int v.n else if kindF v.k = 2 then .text v.s else if kindF v.k = 3 then .ints v.L else .texts v.T
theorem kindF_rng (k : Int) : kindF k = 0 ∨ kindF k = 1 ∨ kindF k = 2 ∨ kindF k = 3 ∨ kindF k = 4 := by unfold kindF; omega
theorem flat_le {α : Type} (f : α → List UInt8) (M : Nat) : ∀ (l : List α), (∀ x ∈ l, (f x).length ≤ M) → (l.map f).flatten.length ≤ l.length * M
  | [], _ => by simp
  | a :: l, h => by
    have h1 := h a (by simp)
    have h2 := flat_le f M l fun x hx => h x (by simp [hx])
    simp only [List.map_cons, List.flatten_cons, List.length_append, List.length_cons, Nat.add_mul, Nat.one_mul]
    omega
theorem encI_len {n : Int} (h : inI n) : (encI n).length ≤ 21 := by
  have := itoa_length h.1 h.2
  unfold encI
  simp
  omega
theorem encT_len {s : List UInt8} (h : s.length ≤ 140737488351232) : (encT s).length ≤ s.length + 22 := by
  have := itoa_length (n := (s.length : Int)) (by omega) (by omega)
  unfold encT
  simp
  omega
theorem few_flatI {v : ValC} (h : v.few) (hok : ∀ x ∈ v.L, inI x) : (v.L.map encI).flatten.length ≤ 70368744177664 := by
  have h1 := flat_le encI 21 v.L fun x hx => encI_len (hok x hx)
  have h2 := h.1
  omega
theorem few_flatT {v : ValC} (h : v.few) : (v.T.map encT).flatten.length ≤ 70368744177664 := by
  have h1 := flat_le encT 422 v.T fun x hx => by
    have := h.2.2.2 x hx
    have := encT_len (s := x) (by omega)
    omega
  have h2 := h.2.1
  omega
set_option maxRecDepth 100000 in
set_option maxHeartbeats 4000000 in
theorem write_any {B0 : Nat} (w : World) (hE : Env B0 w) (hB0 : B0 ≤ w.heap.size) (v : ValC) (hok : v.ok) (hat : ValAt w v) (hf : v.few) (r : List UInt8) (hr : (wvOf v).enc = r) :
    Calls Tryd.prog 30 #[.agg #[.int .i64 v.k, .int .i64 v.n, .string ⟨v.s.toArray⟩, .slice v.A v.L.length v.c, .slice v.A' v.T.length v.c']] w fun e w' => e = .returned (.string ⟨r.toArray⟩) ∧ Below w.heap.size w w' := by
  have HT := Lib.hid (fun W (hb : Below w.heap.size w W) => (hE.below (hb.mono hB0)).isTab)
  have HE := Lib.hid (fun W (hb : Below w.heap.size w W) => hE.below (hb.mono hB0))
  have hn := numberF_rng hok.n
  have HK := Lib.hid (kind_any (w.alloc (.cells #[.int .i64 v.k, .int .i64 v.n, .string ⟨v.s.toArray⟩, .slice v.A v.L.length v.c, .slice v.A' v.T.length v.c'] 25)) v.k v.n ⟨v.s.toArray⟩ (.slice v.A v.L.length v.c) (.slice v.A' v.T.length v.c') hok.k _ rfl)
  unfold wvOf at hr
  rcases kindF_rng v.k with h | h | h | h | h
  all_goals rw [h] at HK hr
  · rw [if_pos rfl] at hr
    have HC := Lib.hid (fun W => lawNumber_any W v.n hok.n _ rfl)
    have HD := Lib.hid (fun W (hb : Below w.heap.size w W) => Num_any W (HT.out W hb) (numberF v.n) (by omega) hn.2 r hr)
    have HB := Lib.hid (Below.refl w.heap.size w)
    clear h hr hn hE hok hat hf
    go_enter Tryd.func30, Tryd.ntmps30
    go_wp2_with (fail)
    ((with_reducible refine (HK.out).mono ?_); rintro _ w1 ⟨rfl, hb1⟩)
    obtain ⟨hX, hbT⟩ := locs1 hb1
    have X := Lib.hid hX
    clear hX
    replace HB := Lib.hid (HB.out.trans (hbT.mono HB.out.size))
    clear hbT hb1 
    obtain ⟨zX, kX, fX⟩ := X.out
    go_wp2_with (first | ((with_reducible refine (HC.out _).mono ?_); rintro _ w9 ⟨rfl, hw9⟩; obtain rfl := hw9) | ((with_reducible refine (HD.out _ HB.out).mono ?_); rintro _ w2 ⟨rfl, hb2⟩; have HB2 := Lib.hid (HB.out.trans (hb2.mono HB.out.size)); clear hb2))
    go_ret
    exact ⟨rfl, HB2.out⟩
  · rw [if_neg (by decide), if_pos rfl] at hr
    have HD := Lib.hid (fun W (hb : Below w.heap.size w W) => Int_any W (HT.out W hb) v.n hok.n.1 hok.n.2 r hr)
    have HB := Lib.hid (Below.refl w.heap.size w)
    clear h hr hn hE hok hat hf
    go_enter Tryd.func30, Tryd.ntmps30
    go_wp2_with (fail)
    ((with_reducible refine (HK.out).mono ?_); rintro _ w1 ⟨rfl, hb1⟩)
    obtain ⟨hX, hbT⟩ := locs1 hb1
    have X := Lib.hid hX
    clear hX
    replace HB := Lib.hid (HB.out.trans (hbT.mono HB.out.size))
    clear hbT hb1 
    obtain ⟨zX, kX, fX⟩ := X.out
    go_wp2_with ((with_reducible refine (HD.out _ HB.out).mono ?_); rintro _ w2 ⟨rfl, hb2⟩; have HB2 := Lib.hid (HB.out.trans (hb2.mono HB.out.size)); clear hb2)
    go_ret
    exact ⟨rfl, HB2.out⟩
  · rw [if_neg (by decide), if_neg (by decide), if_pos rfl] at hr
    have HD := Lib.hid (fun W (hb : Below w.heap.size w W) => Text_any W (HT.out W hb) v.s (by have := hf.2.2.1; omega) r hr)
    have HB := Lib.hid (Below.refl w.heap.size w)
    clear h hr hn hE hok hat hf
    go_enter Tryd.func30, Tryd.ntmps30
    go_wp2_with (fail)
    ((with_reducible refine (HK.out).mono ?_); rintro _ w1 ⟨rfl, hb1⟩)
    obtain ⟨hX, hbT⟩ := locs1 hb1
    have X := Lib.hid hX
    clear hX
    replace HB := Lib.hid (HB.out.trans (hbT.mono HB.out.size))
    clear hbT hb1 
    obtain ⟨zX, kX, fX⟩ := X.out
    go_wp2_with ((with_reducible refine (HD.out _ HB.out).mono ?_); rintro _ w2 ⟨rfl, hb2⟩; have HB2 := Lib.hid (HB.out.trans (hb2.mono HB.out.size)); clear hb2)
    go_ret
    exact ⟨rfl, HB2.out⟩
  · rw [if_neg (by decide), if_neg (by decide), if_neg (by decide), if_pos rfl] at hr
    have HD := Lib.hid (fun W (hb : Below w.heap.size w W) => Nums_any W (HE.out W hb) (Nat.le_trans hB0 hb.size) v.A v.L.length v.c v.L (hat.ints.below hb) hok.L (by have := hf.1; omega) (few_flatI hf hok.L) r hr)
    have HB := Lib.hid (Below.refl w.heap.size w)
    clear h hr hn hE hok hat hf
    go_enter Tryd.func30, Tryd.ntmps30
    go_wp2_with (fail)
    ((with_reducible refine (HK.out).mono ?_); rintro _ w1 ⟨rfl, hb1⟩)
    obtain ⟨hX, hbT⟩ := locs1 hb1
    have X := Lib.hid hX
    clear hX
    replace HB := Lib.hid (HB.out.trans (hbT.mono HB.out.size))
    clear hbT hb1 
    obtain ⟨zX, kX, fX⟩ := X.out
    go_wp2_with ((with_reducible refine (HD.out _ HB.out).mono ?_); rintro _ w2 ⟨rfl, hb2⟩; have HB2 := Lib.hid (HB.out.trans (hb2.mono HB.out.size)); clear hb2)
    go_ret
    exact ⟨rfl, HB2.out⟩
  · rw [if_neg (by decide), if_neg (by decide), if_neg (by decide), if_neg (by decide)] at hr
    have HD := Lib.hid (fun W (hb : Below w.heap.size w W) => Texts_any W (HE.out W hb) (Nat.le_trans hB0 hb.size) v.A' v.T.length v.c' v.T (hat.strs.below hb) (fun x hx => by have := hf.2.2.2 x hx; omega) (by have := hf.2.1; omega) (few_flatT hf) r hr)
    have HB := Lib.hid (Below.refl w.heap.size w)
    clear h hr hn hE hok hat hf
    go_enter Tryd.func30, Tryd.ntmps30
    go_wp2_with (fail)
    ((with_reducible refine (HK.out).mono ?_); rintro _ w1 ⟨rfl, hb1⟩)
    obtain ⟨hX, hbT⟩ := locs1 hb1
    have X := Lib.hid hX
    clear hX
    replace HB := Lib.hid (HB.out.trans (hbT.mono HB.out.size))
    clear hbT hb1 
    obtain ⟨zX, kX, fX⟩ := X.out
    go_wp2_with ((with_reducible refine (HD.out _ HB.out).mono ?_); rintro _ w2 ⟨rfl, hb2⟩; have HB2 := Lib.hid (HB.out.trans (hb2.mono HB.out.size)); clear hb2)
    go_ret
    exact ⟨rfl, HB2.out⟩
end Go.Proofs.YtmceahmngifcgaaDoor
