/- DiskTells: a disk and the reference's disk tell the same, walked. -/
import Derived.Test.YthnechlnaacgfaaRefN
import Derived.Test.YthnechlnaacgfaaDiskS
import Derived.Deep.RegionHeld3
namespace Go.Proofs.Ythnechlnaacgfaa
open Go.RowKit

theorem Sl.anew {w w' : World} {size b o n k : Nat} {xs : List (List Value)} {x : List Value} (h : Sl w size (some ⟨b, o, none⟩) n xs) (hb : Below w.heap.size w w') (hx : xs[k]? = some x) :
    b < w'.heap.size ∧ ∀ j v, x[j]? = some v → w'.cell? ⟨b, o + k * size + j, none⟩ = some v := by
  obtain ⟨b', o', he, h1, h2⟩ := (h.below hb).2 k x hx
  cases he
  exact ⟨h1, h2⟩
theorem Both.downD {w0 w : World} {B C : Nat} {d r : DV} (h : Both w0 w B d C r) (x : Bool) (hx : d.down = x) :
    Calls Try.prog 14 #[.pointer (some ⟨B, 0, none⟩)] w fun e w' => e = .returned (.bool x) ∧ w = w' := Down_has h.has x hx
theorem Both.sizeD {w0 w : World} {B C : Nat} {d r : DV} (h : Both w0 w B d C r) (f x : Int) (hx : x = (d.file f).now.length) :
    Calls Try.prog 16 #[.pointer (some ⟨B, 0, none⟩), .int .i64 f] w fun e w' => e = .returned (.int .i64 x) ∧ w = w' := Size_has h.has f x hx
theorem Both.readStr {w0 w : World} {B C : Nat} {d r : DV} (h : Both w0 w B d C r) (f at_ n : Int) (s : List UInt8) (e : Int) (hx : ReadF r f at_ n = (s, e)) :
    Calls Try.prog 21 #[.pointer (some ⟨C, 0, none⟩), .int .i64 f, .int .i64 at_, .int .i64 n] w fun e' w' => e' = .returned (.tuple #[.string ⟨s.toArray⟩, .int .i64 e]) ∧ Both w0 w' B d C r :=
  h.read f at_ n (s, e) hx
set_option maxRecDepth 100000 in
set_option maxHeartbeats 8000000 in
theorem tells_any (w : World) (A : Option Addr) (n c : Nat) (l : List ActC) (hs : Sl w 5 A n (l.map ActC.cells)) (hn : n ≤ maxLen) (ho : ∀ a ∈ l, a.ok) (hk : ActsAt w l) (f at_ size : Int) :
    Calls Try.prog 3 #[.slice A n c, .int .i64 f, .int .i64 at_, .int .i64 size] w fun e w' => e = .returned (.bool true) ∧ Below w.heap.size w w' := by
  have HS := Lib.hid hs
  have HO := Lib.hid ho
  have HK := Lib.hid hk
  have HN := Lib.hid hn
  clear hs ho hk hn
  have HSM := Lib.hid (small_any w)
  obtain ⟨q, hq⟩ : ∃ q, fewB l = q := ⟨_, rfl⟩
  have HFW := Lib.hid (fun w1 hb => few_any w1 A n c l (HS.out.below hb) HN.out q hq)
  have HQ := Lib.hid hq
  clear hq
  by_cases hbad : q = false
  · subst hbad
    go_enter Try.func3, Try.ntmps3
    go_wp2_with (first
      | ((with_reducible refine (HSM.out).mono ?_); rintro e w1 ⟨rfl, hb⟩; have HB := Lib.hid hb; clear hb)
      | ((with_reducible refine (HFW.out _ HB.out).mono ?_); rintro _ _ ⟨rfl, rfl⟩))
    go_ret
    exact ⟨rfl, HB.out⟩
  obtain rfl : q = true := by simpa using hbad
  have hfew := (few_all HQ.out).1
  have hl40 := (few_all HQ.out).2
  have HFE := Lib.hid hfew
  have hln : l.length = n := by simpa using HS.out.1
  have hn40 : n ≤ 40 := by omega
  have HLN := Lib.hid hln
  clear hbad hfew hl40 hln
  go_enter Try.func3, Try.ntmps3
  go_wp2_with (first
    | ((with_reducible refine (HSM.out).mono ?_); rintro e w1 ⟨rfl, hb⟩; have HB := Lib.hid hb; clear hb)
    | ((with_reducible refine (HFW.out _ HB.out).mono ?_); rintro _ w9 ⟨rfl, hw9⟩; obtain rfl := hw9)
    | ((with_reducible refine (New_has w1).mono ?_); rintro e w2 ⟨Bd, rfl, h2⟩; have H2 := Lib.hid h2; clear h2)
    | ((with_reducible refine (Both.new H2.out).mono ?_); rintro e w3 ⟨C, rfl, h3⟩; have H3 := Lib.hid h3; clear h3))
  go_loopw [10, 12] (fun dv i wr => ∃ (k B : Nat) (d r : DV), k ≤ n ∧ i = .int .i64 (k : Int) ∧ dv = .pointer (some ⟨B, 0, none⟩) ∧ Both w1 wr B d C r ∧ RelD d r) (fun _ i _ => n - (intOf i).toNat)
  case atStart => exact ⟨0, Bd, newD, newD, Nat.zero_le _, rfl, rfl, H3.out, RelD.new⟩
  case round =>
    obtain ⟨k, B, d, r, hk, rfl, rfl, ht, hr⟩ := hrel
    obtain ⟨wo, rfl⟩ : ∃ wo : World, wo = wr := ⟨_, rfl⟩
    by_cases hlt : k < n
    · obtain ⟨a, ha⟩ : ∃ a, l[k]? = some a := ⟨_, List.getElem?_eq_getElem (by rw [HLN.out]; exact hlt)⟩
      obtain ⟨a0, ha0⟩ : ∃ a, l[0]? = some a := ⟨_, List.getElem?_eq_getElem (by rw [HLN.out]; omega)⟩
      have hA0 := HS.out.2 k a.cells (by rw [List.getElem?_map, ha]; rfl)
      obtain ⟨b, o, rfl, hbl, hcell⟩ := hA0
      have HSS : Hid (∀ w', Below w1.heap.size w1 w' → w'.cell? ⟨b, o + k * 5, none⟩ = some (.int .i64 a.do_) ∧ w'.cell? ⟨b, o + k * 5 + 1, none⟩ = some (.int .i64 a.f) ∧ w'.cell? ⟨b, o + k * 5 + 2, none⟩ = some (.int .i64 a.n) ∧ w'.cell? ⟨b, o + k * 5 + 3, none⟩ = some (.string ⟨a.s.toArray⟩) ∧ w'.cell? ⟨b, o + k * 5 + 4, none⟩ = some (.slice a.A a.keep.length a.c)) :=
        Lib.hid fun w' hb => by
          have hw := HB.out.trans (hb.mono HB.out.size)
          have h5 := HS.out.anew hw (show (l.map ActC.cells)[k]? = some a.cells by rw [List.getElem?_map, ha]; rfl)
          exact ⟨h5.2 0 _ rfl, h5.2 1 _ rfl, h5.2 2 _ rfl, h5.2 3 _ rfl, h5.2 4 _ rfl⟩
      have HS0 : Hid (∀ w', Below w1.heap.size w1 w' → w'.cell? ⟨b, o, none⟩ = some (.int .i64 a0.do_) ∧ w'.cell? ⟨b, o + 1, none⟩ = some (.int .i64 a0.f) ∧ w'.cell? ⟨b, o + 2, none⟩ = some (.int .i64 a0.n) ∧ w'.cell? ⟨b, o + 3, none⟩ = some (.string ⟨a0.s.toArray⟩) ∧ w'.cell? ⟨b, o + 4, none⟩ = some (.slice a0.A a0.keep.length a0.c)) :=
        Lib.hid fun w' hb => by
          have hw := HB.out.trans (hb.mono HB.out.size)
          have h5 := HS.out.anew hw (show (l.map ActC.cells)[0]? = some a0.cells by rw [List.getElem?_map, ha0]; rfl)
          have h6 := h5.2 0 _ rfl
          have h7 := h5.2 1 _ rfl
          have h8 := h5.2 2 _ rfl
          have h9 := h5.2 3 _ rfl
          have h10 := h5.2 4 _ rfl
          simp only [Nat.zero_mul, Nat.add_zero] at h6 h7 h8 h9 h10
          exact ⟨h6, h7, h8, h9, h10⟩
      have hmem := List.mem_of_getElem? ha
      have hmem0 := List.mem_of_getElem? ha0
      have hki : (k : Int) < (n : Int) := by omega
      have hk0 : (0 : Int) ≤ (k : Int) := Int.natCast_nonneg _
      have hn0 : (0 : Int) < (n : Int) := by omega
      obtain ⟨d', e1, hd1⟩ : ∃ x y, doF d a = (x, y) := ⟨_, _, rfl⟩
      obtain ⟨r', e2, hr1⟩ : ∃ x y, tellF r a = (x, y) := ⟨_, _, rfl⟩
      have hdo := hr.do_ ht.ok.armed.1 a
      rw [hd1, hr1] at hdo
      obtain ⟨he, hr'⟩ := hdo
      simp only at he hr'
      subst he
      obtain ⟨dn, hdn⟩ : ∃ dn, d'.down = dn := ⟨_, rfl⟩
      obtain ⟨sz, hsz⟩ : ∃ sz : Int, sz = (d'.file f).now.length := ⟨_, rfl⟩
      have hdn2 : r'.down = dn := by rw [← hr'.down]; exact hdn
      have hsz2 : sz = (r'.file f).now.length := by rw [← hr'.file]; exact hsz
      have HDO := Lib.hid (fun W (h : Both w1 W B d C r) => h.do_ a (HO.out a hmem) (HFE.out a hmem) ((HK.out a hmem).below HB.out) _ hd1)
      have HTE := Lib.hid (fun W d (h : Both w1 W B d C r) => h.tell a (HO.out a hmem) (HFE.out a hmem) ((HK.out a hmem).below HB.out) _ hr1)
      have HD0 := Lib.hid (fun W B1 d1 B2 d2 r (h : Three w1 W B1 d1 B2 d2 C r) => h.do_ a0 (HO.out a0 hmem0) (HFE.out a0 hmem0) ((HK.out a0 hmem0).below HB.out) (doF d1 a0) rfl)
      have HDN := Lib.hid hdn
      have HDN2 := Lib.hid hdn2
      have HSZ := Lib.hid hsz
      have HSZ2 := Lib.hid hsz2
      have HR := Lib.hid hr'
      have HT := Lib.hid (ht.below (Below.refl _ _).drew)
      have HTB := Lib.hid ht.base
      have HLT := Lib.hid hlt
      unfold strV at HDO HTE HD0
      simp only at HDO HTE
      clear hcell ha ha0 hmem hmem0 hd1 hr1 hr hr' ht hdn hdn2 hsz hsz2 hlt hbl
      go_wp2_with (fail)
      have hB7 := HTB.out.drew
      go_region_held3 (fun w' => w'.cell? ⟨b, o + k * 5, none⟩ = some (.int .i64 a.do_) ∧ w'.cell? ⟨b, o + k * 5 + 1, none⟩ = some (.int .i64 a.f) ∧ w'.cell? ⟨b, o + k * 5 + 2, none⟩ = some (.int .i64 a.n) ∧ w'.cell? ⟨b, o + k * 5 + 3, none⟩ = some (.string ⟨a.s.toArray⟩) ∧ w'.cell? ⟨b, o + k * 5 + 4, none⟩ = some (.slice a.A a.keep.length a.c))
        (first | exact HSS.out _ hB7 | (refine HSS.out _ ?_; repeat (first | exact hB7 | exact Below.refl _ _ | refine Below.drew ?_ | refine Below.alloc ?_ (by first | exact Nat.le_refl _ | exact hB7.size | (simp <;> omega)) _ | refine Below.setCell ?_ (by first | exact Nat.le_refl _ | exact hB7.size | (simp <;> omega)) _)))
        (first
          | ((with_reducible refine (HDO.out _ HT.out).mono ?_); rintro e w5 ⟨rfl, h5⟩; have H5 := Lib.hid h5; have hB7 := h5.base; clear h5)
          | ((with_reducible refine (HTE.out _ _ H5.out).mono ?_); rintro e w6 ⟨rfl, h6⟩; have H6 := Lib.hid h6; have hB7 := h6.base; clear h6)
          | ((with_reducible refine (H6.out.downD dn HDN.out).mono ?_); rintro e w9 ⟨rfl, hw9⟩; obtain rfl := hw9)
          | ((with_reducible refine (H6.out.down dn HDN2.out).mono ?_); rintro e w9 ⟨rfl, hw9⟩; obtain rfl := hw9)
          | ((with_reducible refine (H6.out.sizeD f sz HSZ.out).mono ?_); rintro e w9 ⟨rfl, hw9⟩; obtain rfl := hw9)
          | ((with_reducible refine (H6.out.size f sz HSZ2.out).mono ?_); rintro e w7 ⟨rfl, h7⟩; have H7 := Lib.hid h7; have hB7 := h7.base; clear h7))
      obtain ⟨m, hm⟩ : ∃ m : Int, (n : Int) / 2 = m := ⟨_, rfl⟩
      by_cases hkm : (k : Int) = m
      · have hkb : ((k : Int) == m) = true := by simpa using hkm
        have HSY := Lib.hid (fun W B1 d1 B2 d2 r (h : Three w1 W B1 d1 B2 d2 C r) => h.sync f (SyncF d1 f) rfl)
        clear hkm
        go_wp2_with (first
          | ((with_reducible refine (H7.out.copy_).mono ?_); rintro e w8 ⟨B', rfl, h8⟩; obtain ⟨x0, x1, x2, x3, x4⟩ := HS0.out _ h8.base; have H8 := Lib.hid h8; clear h8)
          | ((with_reducible refine (HD0.out _ _ _ _ _ _ H8.out).mono ?_); rintro e w10 ⟨rfl, h10⟩; have H10 := Lib.hid h10; clear h10)
          | ((with_reducible refine (HSY.out _ _ _ _ _ _ H10.out).mono ?_); rintro e w11 ⟨rfl, h11⟩; have H11 := Lib.hid h11; clear h11))
        go_roundw
        case rel => exact ⟨k + 1, B', d', r', HLT.out, by go_num, rfl, H11.out.snd, HR.out⟩
        case measure => have := HLT.out; simp [intOf]; omega
      · have hkb : ((k : Int) == m) = false := by simpa using hkm
        clear hkm
        go_wp2_with (fail)
        go_roundw
        case rel => exact ⟨k + 1, B, d', r', HLT.out, by go_num, rfl, H7.out, HR.out⟩
        case measure => have := HLT.out; simp [intOf]; omega
    · obtain rfl : k = n := by omega
      have hki : ¬ (k : Int) < (k : Int) := by omega
      obtain ⟨y, e2, hy⟩ : ∃ y e2, ReadF d f at_ size = (y, e2) := ⟨_, _, rfl⟩
      have hy2 := hy
      rw [hr.read] at hy2
      have HT := Lib.hid ht
      have HRD := Lib.hid (Read_str ht.has f at_ size y e2 hy)
      have HRR := Lib.hid (ht.readStr f at_ size y e2 hy2)
      clear ht hr hy hy2
      go_wp2_with (first
        | ((with_reducible refine (HRD.out).mono ?_); rintro _ w9 ⟨rfl, hw9⟩; obtain rfl := hw9)
        | ((with_reducible refine (HRR.out).mono ?_); rintro e w5 ⟨rfl, h5⟩; have H5 := Lib.hid h5; clear h5))
      go_ret
      exact ⟨rfl, HB.out.trans (H5.out.base.mono HB.out.size)⟩
end Go.Proofs.Ythnechlnaacgfaa
