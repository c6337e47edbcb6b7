/- merge: the law's shuffled, walked. -/
import Derived.Test.YtnnnibkainlplaaDoorMrgG0
namespace Go.Proofs.YtnnnibkainlplaaDoor
open Go.RowKit Go.Sort Go.Lib

theorem swap_mem {α : Type} {l : List α} {p q : Nat} {x y : α} (hp : l[p]? = some x) (hq : l[q]? = some y) (u : α) : u ∈ (l.set p y).set q x ↔ u ∈ l := by
  have hpl : p < l.length := (List.getElem?_eq_some_iff.1 hp).1
  have hql : q < l.length := (List.getElem?_eq_some_iff.1 hq).1
  have hat : ∀ k, ((l.set p y).set q x)[k]? = if q = k then some x else if p = k then some y else l[k]? := fun k => by
    rw [List.getElem?_set, List.length_set]
    by_cases h : q = k
    · rw [if_pos h, if_pos h, if_pos (by omega)]
    · rw [if_neg h, if_neg h, List.getElem?_set]
      by_cases h2 : p = k
      · rw [if_pos h2, if_pos h2, if_pos (by omega)]
      · rw [if_neg h2, if_neg h2]
  constructor
  · intro h
    obtain ⟨k, hk⟩ := List.mem_iff_getElem?.1 h
    rw [hat] at hk
    by_cases h1 : q = k
    · rw [if_pos h1] at hk; injection hk with hk; subst hk; exact List.mem_of_getElem? hp
    · rw [if_neg h1] at hk
      by_cases h2 : p = k
      · rw [if_pos h2] at hk; injection hk with hk; subst hk; exact List.mem_of_getElem? hq
      · rw [if_neg h2] at hk; exact List.mem_of_getElem? hk
  · intro h
    obtain ⟨k, hk⟩ := List.mem_iff_getElem?.1 h
    refine List.mem_iff_getElem?.2 ?_
    by_cases h1 : k = p
    · subst h1
      refine ⟨q, ?_⟩
      rw [hat, if_pos rfl, ← hp, hk]
    · by_cases h2 : k = q
      · subst h2
        refine ⟨p, ?_⟩
        rw [hat]
        by_cases h3 : k = p
        · exact absurd h3 h1
        · rw [if_neg h3, if_pos rfl, ← hq, hk]
      · exact ⟨k, by rw [hat, if_neg (Ne.symm h2), if_neg (Ne.symm h1)]; exact hk⟩
theorem Sep.entAt {w0 w : World} {A : Option Addr} {m c k : Nat} {os : List EntC} {x : EntC} {Rs : List Res} (h : Sep w0 w (ownR 40 5 (.slice A m c) m (os.map EntC.cells) :: Rs)) (hx : os[k]? = some x) :
    ∃ g, A = some ⟨g, 0, none⟩ ∧ g < w.heap.size ∧ (∀ j, w.frozen? ⟨g, j, none⟩ = false) ∧ w.cell? ⟨g, k * 5, none⟩ = some (.int .i64 x.v.dev) ∧ w.cell? ⟨g, k * 5 + 1, none⟩ = some (.int .i64 x.v.no) ∧ w.cell? ⟨g, k * 5 + 2, none⟩ = some (.int .i64 x.v.day) ∧ w.cell? ⟨g, k * 5 + 3, none⟩ = some (.slice x.A x.v.seen.length x.c) ∧ w.cell? ⟨g, k * 5 + 4, none⟩ = some (.string ⟨x.v.text.toArray⟩) := by
  obtain ⟨g, c', hv, _, h1, h2, h3⟩ := h.own.at_ (i := k) (x := x.cells) (by rw [List.getElem?_map, hx]; rfl)
  injection hv with hA
  exact ⟨g, hA, h1, h3, h2 0 _ rfl, h2 1 _ rfl, h2 2 _ rfl, h2 3 _ rfl, h2 4 _ rfl⟩
theorem Sep.setRow {w0 w : World} {g m c p : Nat} {os : List EntC} {x : EntC} {Rs : List Res} (h : Sep w0 w (ownR 40 5 (.slice (some ⟨g, 0, none⟩) m c) m (os.map EntC.cells) :: Rs)) (hx : os[p]? = some x) (y : EntC) :
    Sep w0 (((((w.setCell ⟨g, p * 5, none⟩ (.int .i64 y.v.dev)).setCell ⟨g, p * 5 + 1, none⟩ (.int .i64 y.v.no)).setCell ⟨g, p * 5 + 2, none⟩ (.int .i64 y.v.day)).setCell ⟨g, p * 5 + 3, none⟩ (.slice y.A y.v.seen.length y.c)).setCell ⟨g, p * 5 + 4, none⟩ (.string ⟨y.v.text.toArray⟩)) (ownR 40 5 (.slice (some ⟨g, 0, none⟩) m c) m ((os.set p y).map EntC.cells) :: Rs) := by
  have hpl : p < (os.map EntC.cells).length := by rw [List.length_map]; exact (List.getElem?_eq_some_iff.1 hx).1
  have hs : ∀ r : List Value, ((os.map EntC.cells).set p r)[p]? = some r := fun r => by rw [List.getElem?_set, if_pos rfl, if_pos hpl]
  have h0 := h.stored (i := p) (x := x.cells) (by rw [List.getElem?_map, hx]; rfl) 0 (by omega) (.int .i64 y.v.dev)
  have h1 := h0.stored (i := p) (hs _) 1 (by omega) (.int .i64 y.v.no)
  rw [List.set_set] at h1
  have h2 := h1.stored (i := p) (hs _) 2 (by omega) (.int .i64 y.v.day)
  rw [List.set_set] at h2
  have h3 := h2.stored (i := p) (hs _) 3 (by omega) (.slice y.A y.v.seen.length y.c)
  rw [List.set_set] at h3
  have h4 := h3.stored (i := p) (hs _) 4 (by omega) (.string ⟨y.v.text.toArray⟩)
  rw [List.set_set] at h4
  rw [List.map_set]
  exact h4
/-- what shuffled hands back: the same entries, in another order, some of them repeated -/
def ShufP (w : World) (l : List EntC) (most : Nat) (e : Ending) (w' : World) : Prop := ∃ (A : Option Addr) (c : Nat) (os : List EntC), e = .returned (.slice A os.length c) ∧ ChAt w' A os.length os ∧ (∀ u, u ∈ os ↔ u ∈ l) ∧ os.length ≤ most ∧ Below w.heap.size w w'
def SameMem (os l : List EntC) : Prop := ∀ u, u ∈ os ↔ u ∈ l
set_option maxRecDepth 100000 in
set_option maxHeartbeats 8000000 in
theorem shuffled_any (w : World) (A : Option Addr) (n c : Nat) (l : List EntC) (hs : ChAt w A n l) (hn : n ≤ 1000) (P : Option Addr) (nb cb : Nat) (bs : List Int) (hb : Sl w 1 P nb (bs.map fun o => [.int .u8 o])) (hbs : ∀ o ∈ bs, 0 ≤ o ∧ o ≤ 255) (hnb : nb ≤ 1000) :
    Calls Tryd.prog 12 #[.slice A n c, .slice P nb cb] w (ShufP w l (n + nb)) := by
  obtain ⟨ie, he0, he1, he2, he3⟩ := info_parts infoEnt
  have HCH := Lib.hid hs
  have HP := Lib.hid hb
  have HBS := Lib.hid hbs
  have HLN := Lib.hid hs.lenEq
  have HBN : Hid (bs.length = nb) := Lib.hid (by simpa using hb.1)
  clear hs hb hbs
  go_enter Tryd.func12, Tryd.ntmps12
  go_wp2_with (at_builtin; refine wpList_append_sl _ rfl (.tmp 10) (.tmp 11) _ rfl w.heap.size 40 ie _ 5 64 Tryd.underlying22 he0 he1 he2 he3 rfl (by omega) (.slice (some ⟨w.heap.size, 0, none⟩) 0 0) 0 [] rfl ⟨World.ownsRow_lit w #[] 0 (Nat.le_refl _) (by simp [maxLen]) rfl, by simp, rfl⟩ A n c (l.map EntC.cells) rfl (HCH.out.sl.alloc _) (ents_len l) (ents_one l) (by simp only [maxLen]; omega) (by omega) (by simp) ?_; intro A1 c1 w1 hown1 hg1 hat1; simp only [Nat.zero_add])
  rw [Nat.zero_add, List.nil_append] at hown1
  have HS1 : Hid (Sep w w1 (ownR 40 5 (.slice A1 n c1) n (l.map EntC.cells) :: [])) := Lib.hid ((Sep.start w).ownNew ((below_alloc w _).trans ((Below.refl _ _).grown hg1 (by simp) (fun k hk => by
    simp [Value.ownBlock] at hk
    omega))) hown1)
  clear hown1 hg1 hat1
  go_wp2_with (fail)
  go_loopw [5, 6] (fun s iv wr => ∃ (i m : Nat) (A' : Option Addr) (c' : Nat) (os : List EntC), s = .slice A' m c' ∧ iv = .int .i64 (i : Int) ∧ i ≤ nb ∧ m ≤ n + i ∧ os.length = m ∧ Sep w wr (ownR 40 5 (.slice A' m c') m (os.map EntC.cells) :: []) ∧ SameMem os l) (fun _ iv _ => nb - (intOf iv).toNat)
  case atStart => exact ⟨0, n, A1, c1, l, rfl, rfl, Nat.zero_le _, by omega, HLN.out, HS1.out, fun _ => Iff.rfl⟩
  case round =>
    obtain ⟨i, m, A', c', os, rfl, rfl, hi, hmi, hol, hS, hmem⟩ := hrel
    obtain ⟨wo, rfl⟩ : ∃ wo : World, wo = wr := ⟨_, rfl⟩
    have HSO := Lib.hid hS
    have HOL := Lib.hid hol
    have HMEM := Lib.hid hmem
    have HX : Hid (ShufP w l (n + nb) (.returned (.slice A' m c')) wo) := Lib.hid ⟨A', c', os, by rw [hol], ⟨by rw [hol]; exact hS.own.sl', fun u hu => Sl.below (HCH.out.at_ u ((hmem u).1 hu)) hS.base, fun u hu => HCH.out.len u ((hmem u).1 hu)⟩, hmem, by omega, hS.base⟩
    clear hS hol hmem HS1
    have hw1 : IntKind.i64.wrap ((i : Int) + 1) = (i : Int) + 1 := IntWalk.i64_in _ (by omega)
    by_cases hlt : i + 1 < nb
    case neg =>
      have hii : ¬ ((i : Int) + 1 < (nb : Int)) := by omega
      go_wp2_with (fail)
      go_ret
      exact HX.out
    have hii : (i : Int) + 1 < (nb : Int) := by omega
    by_cases hm0 : m = 0
    · have hmz : ¬ ((0 : Int) < (m : Int)) := by omega
      clear hm0
      go_wp2_with (fail)
      go_ret
      exact HX.out
    have hmz : (0 : Int) < (m : Int) := by omega
    have hmn : ¬ ((m : Int) = 0) := by omega
    obtain ⟨o1, ho1⟩ : ∃ o, bs[i]? = some o := ⟨_, List.getElem?_eq_getElem (by rw [HBN.out]; omega)⟩
    obtain ⟨o2, ho2⟩ : ∃ o, bs[i + 1]? = some o := ⟨_, List.getElem?_eq_getElem (by rw [HBN.out]; omega)⟩
    have hr1 := HBS.out o1 (List.mem_of_getElem? ho1)
    have hr2 := HBS.out o2 (List.mem_of_getElem? ho2)
    obtain ⟨b1, q1, eP, hb1, k1⟩ := (HP.out.below HSO.out.base).at1 (k := i) (v := .int .u8 o1) (by rw [List.getElem?_map, ho1]; rfl)
    obtain ⟨b2, q2, eP2, hb2, k2⟩ := (HP.out.below HSO.out.base).at1 (k := i + 1) (v := .int .u8 o2) (by rw [List.getElem?_map, ho2]; rfl)
    rw [eP] at eP2
    injection eP2 with eP2
    injection eP2 with e1 e2
    subst e1 e2 eP
    obtain ⟨a1, rfl⟩ : ∃ a : Nat, o1 = (a : Int) := ⟨o1.toNat, by omega⟩
    obtain ⟨a2, rfl⟩ : ∃ a : Nat, o2 = (a : Int) := ⟨o2.toNat, by omega⟩
    obtain ⟨p, hp, hpm⟩ : ∃ p, a1 % m = p ∧ p < m := ⟨_, rfl, Nat.mod_lt _ (by omega)⟩
    obtain ⟨q, hq, hqm⟩ : ∃ p, a2 % m = p ∧ p < m := ⟨_, rfl, Nat.mod_lt _ (by omega)⟩
    have tp1 : (a1 : Int) % (m : Int) = (p : Int) := by rw [← hp]; norm_cast
    have tq1 : (a2 : Int) % (m : Int) = (q : Int) := by rw [← hq]; norm_cast
    have tp2 : (a1 : Int).tmod (m : Int) = (p : Int) := by rw [Int.tmod_eq_emod_of_nonneg (by omega)]; exact tp1
    have tq2 : (a2 : Int).tmod (m : Int) = (q : Int) := by rw [Int.tmod_eq_emod_of_nonneg (by omega)]; exact tq1
    have ha1 : IntKind.i64.wrap (a1 : Int) = (a1 : Int) := IntWalk.i64_in _ (by omega)
    have ha2 : IntKind.i64.wrap (a2 : Int) = (a2 : Int) := IntWalk.i64_in _ (by omega)
    have hwp : IntKind.i64.wrap (p : Int) = (p : Int) := IntWalk.i64_in _ (by omega)
    have hwq : IntKind.i64.wrap (q : Int) = (q : Int) := IntWalk.i64_in _ (by omega)
    have hpi : (p : Int) < (m : Int) := by omega
    have hqi : (q : Int) < (m : Int) := by omega
    have hp0 : (0 : Int) ≤ (p : Int) := by omega
    have hq0 : (0 : Int) ≤ (q : Int) := by omega
    have hi0 : (0 : Int) ≤ (i : Int) := by omega
    have hi1 : (0 : Int) ≤ (i : Int) + 1 := by omega
    have hii0 : (i : Int) < (nb : Int) := by omega
    have hit : ((i : Int) + 1).toNat = i + 1 := by omega
    obtain ⟨x, hx⟩ : ∃ x, os[p]? = some x := ⟨_, List.getElem?_eq_getElem (by rw [HOL.out]; exact hpm)⟩
    obtain ⟨y, hy⟩ : ∃ y, os[q]? = some y := ⟨_, List.getElem?_eq_getElem (by rw [HOL.out]; exact hqm)⟩
    obtain ⟨g, rfl, zx, fx, x0, x1, x2, x3, x4⟩ := HSO.out.entAt hx
    have HXP := Lib.hid hx
    have HYQ := Lib.hid hy
    have HM0 := Lib.hid hm0
    have HLT := Lib.hid hlt
    clear hx hy hp hq hpm hqm ho1 ho2 hr1 hr2 hlt hm0
    go_upto_region 8 with (fail)
    have HS2 := Lib.hid (HSO.out.box #[.int .i64 x.v.dev, .int .i64 x.v.no, .int .i64 x.v.day, .slice x.A x.v.seen.length x.c, .string ⟨x.v.text.toArray⟩] 40)
    clear x0 x1 x2 x3 x4 zx fx
    generalize hWW : wo.alloc (.cells #[.int .i64 x.v.dev, .int .i64 x.v.no, .int .i64 x.v.day, .slice x.A x.v.seen.length x.c, .string ⟨x.v.text.toArray⟩] 40) = W2 at *
    clear hWW
    generalize hbx : wo.heap.size = bx at *
    clear hbx
    obtain ⟨g', eg, zy, fy, y0, y1, y2, y3, y4⟩ := HS2.out.sw.entAt HYQ.out
    injection eg with eg
    injection eg with eg
    subst eg
    obtain ⟨g', eg, _, _, u0, u1, u2, u3, u4⟩ := HS2.out.sw.entAt HXP.out
    injection eg with eg
    injection eg with eg
    subst eg
    go_upto_region 9 with (fail)
    clear u0 u1 u2 u3 u4
    have HS3 := Lib.hid (HS2.out.sw.setRow HXP.out y)
    clear y0 y1 y2 y3 y4 zy fy
    generalize hWW : ((((W2.setCell ⟨g, p * 5, none⟩ (.int .i64 y.v.dev)).setCell ⟨g, p * 5 + 1, none⟩ (.int .i64 y.v.no)).setCell ⟨g, p * 5 + 2, none⟩ (.int .i64 y.v.day)).setCell ⟨g, p * 5 + 3, none⟩ (.slice y.A y.v.seen.length y.c)).setCell ⟨g, p * 5 + 4, none⟩ (.string ⟨y.v.text.toArray⟩) = W3 at *
    clear hWW
    obtain ⟨v, hv⟩ : ∃ v, (os.set p y)[q]? = some v := ⟨_, List.getElem?_eq_getElem (by rw [List.length_set]; exact (List.getElem?_eq_some_iff.1 HYQ.out).1)⟩
    have HVQ := Lib.hid hv
    clear hv
    obtain ⟨g', eg, zv, fv, u0, u1, u2, u3, u4⟩ := HS3.out.entAt HVQ.out
    injection eg with eg
    injection eg with eg
    subst eg
    obtain ⟨zX, kX, fX⟩ := HS3.out.sw.loc
    go_upto_region 10 with (fail)
    have HS4 := Lib.hid (HS3.out.setRow HVQ.out x)
    clear zv fv zX kX fX u0 u1 u2 u3 u4
    generalize hWW : ((((W3.setCell ⟨g, q * 5, none⟩ (.int .i64 x.v.dev)).setCell ⟨g, q * 5 + 1, none⟩ (.int .i64 x.v.no)).setCell ⟨g, q * 5 + 2, none⟩ (.int .i64 x.v.day)).setCell ⟨g, q * 5 + 3, none⟩ (.slice x.A x.v.seen.length x.c)).setCell ⟨g, q * 5 + 4, none⟩ (.string ⟨x.v.text.toArray⟩) = W4 at *
    clear hWW
    have hmem2 : SameMem ((os.set p y).set q x) l := fun u => (swap_mem HXP.out HYQ.out u).trans (HMEM.out u)
    have hln : ((os.set p y).set q x).length = m := by rw [List.length_set, List.length_set]; exact HOL.out
    obtain ⟨os', hos⟩ : ∃ os', (os.set p y).set q x = os' := ⟨_, rfl⟩
    have hxin : x ∈ l := (HMEM.out x).1 (List.mem_of_getElem? HXP.out)
    rw [hos] at HS4 hmem2 hln
    have HM2 := Lib.hid hmem2
    have HLN2 := Lib.hid hln
    have HXI := Lib.hid hxin
    clear hmem2 hln hxin hos HS2 HS3 HXP HYQ HVQ HMEM HSO HX HOL
    obtain ⟨zX, kX, fX⟩ := HS4.out.sw.loc
    by_cases h4 : i % 4 = 0
    · have t41 : (i : Int) % 4 = 0 := by omega
      have t42 : (i : Int).tmod 4 = 0 := by rw [Int.tmod_eq_emod_of_nonneg (by omega)]; exact t41
      have hw0 : IntKind.i64.wrap 0 = 0 := by decide
      have HSA := Lib.hid (HS4.out.alloc (.cells #[.int .i64 x.v.dev, .int .i64 x.v.no, .int .i64 x.v.day, .slice x.A x.v.seen.length x.c, .string ⟨x.v.text.toArray⟩] 40))
      have HN1 := Lib.hid (Sl.new_ W4 40 (EntC.cells x))
      simp only [EntC.cells] at HN1
      clear h4
      go_wp2_with (at_builtin; (refine wpList_append_sl _ rfl (.tmp 60) (.tmp 62) _ rfl w.heap.size 40 ie _ 5 64 Tryd.underlying22 he0 he1 he2 he3 rfl (by omega) _ m (os'.map EntC.cells) rfl HSA.out.own (some ⟨W4.heap.size, 0, none⟩) 1 1 ([x].map EntC.cells) rfl HN1.out (ents_len _) (ents_one _) (by simp only [maxLen]; omega) (by omega) HSA.out.base.size ?_); intro A9 c9 w9 hown9 hg9 hat9
                   have HS9 := Lib.hid (HSA.out.grown hown9 hg9 hat9)
                   clear hown9 hg9 hat9)
      go_roundw
      case rel =>
        refine ⟨i + 1, m + 1, A9, c9, os' ++ [x], rfl, by go_num, by have := HLT.out; omega, by omega, by rw [List.length_append, HLN2.out]; rfl, ?_, fun u => ?_⟩
        · rw [List.map_append]; exact HS9.out.drop2
        · rw [List.mem_append, List.mem_singleton]
          exact ⟨fun h => h.elim (HM2.out u).1 (fun e => e ▸ HXI.out), fun h => Or.inl ((HM2.out u).2 h)⟩
      case measure => have := HLT.out; simp [intOf]; omega
    · obtain ⟨r4, hr4, hr5⟩ : ∃ r, i % 4 = r ∧ r ≠ 0 := ⟨_, rfl, h4⟩
      have t41 : (i : Int) % 4 = (r4 : Int) := by omega
      have t42 : (i : Int).tmod 4 = (r4 : Int) := by rw [Int.tmod_eq_emod_of_nonneg (by omega)]; exact t41
      have hw4 : IntKind.i64.wrap (r4 : Int) = (r4 : Int) := IntWalk.i64_in _ (by omega)
      have hrb : ((r4 : Int) == 0) = false := beq_eq_false_iff_ne.2 (by omega)
      have hrn : ¬ ((r4 : Int) = 0) := by omega
      clear hr4 h4 hr5
      go_wp2_with (fail)
      go_roundw
      case rel => exact ⟨i + 1, m, _, c', os', rfl, by go_num, by have := HLT.out; omega, by omega, HLN2.out, HS4.out.drop2, HM2.out⟩
      case measure => have := HLT.out; simp [intOf]; omega
end Go.Proofs.YtnnnibkainlplaaDoor
