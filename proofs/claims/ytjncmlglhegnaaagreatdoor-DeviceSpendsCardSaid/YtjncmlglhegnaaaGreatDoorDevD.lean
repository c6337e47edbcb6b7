/- journal: All, Len, Get, walked. -/
/- kerbsidelaw03: few, texts, disky, begins, walked. -/
/- kerbsidelaw03: small, walked. -/
/- device: Open, walked. -/
import Derived.Test.YtjncmlglhegnaaaGreatDoorDevB
import Derived.Test.YtjncmlglhegnaaaGreatDoorWireST
import Derived.Laws.CopyOwn
import Derived.Test.YtjncmlglhegnaaaGreatDoorDevC
namespace Go.Proofs.YtjncmlglhegnaaaGreatDoor
open Go.RowKit Go.Sort Go.Lib

theorem own_cells {w : World} {base g n c : Nat} {e : TypeId} {xs : List (List Value)} (h : Own w base e 1 (.slice (some ⟨g, 0, none⟩) n c) n xs) : ∃ cur : Array Value, w.heap[g]? = some (.cells cur e (0, 0)) ∧ cur.size = c ∧ n ≤ c ∧ c ≤ maxLen ∧ base ≤ g := by
  rcases h.1.2 with ⟨h', _⟩ | ⟨g', cap, cur, hv, hb, hg, h1, h2, h3, _⟩
  · cases h'
  · injection hv with e1 e2 e3
    injection e1 with e1
    injection e1 with e4
    subst e4 e3
    exact ⟨cur, hg, by omega, h1, h2, hb⟩
theorem flat_one {α : Type} : ∀ cs : List α, (cs.map fun v => [v]).flatten = cs
  | [] => rfl
  | a :: l => by rw [List.map_cons, List.flatten_cons, flat_one l]; rfl
theorem own_of {w : World} {base g n : Nat} {e : TypeId} {cs : List Value} (hg : w.heap[g]? = some (.cells cs.toArray e (0, 0))) (hn : cs.length = n) (hm : n ≤ maxLen) (hb : base ≤ g) : Own w base e 1 (.slice (some ⟨g, 0, none⟩) n n) n (cs.map fun v => [v]) := by
  have hf := flat_one cs
  refine ⟨⟨by rw [hf]; omega, .inr ⟨g, n, cs.toArray, rfl, hb, hg, Nat.le_refl _, hm, by simp; omega, ?_⟩⟩, fun x hx => ?_, by simpa using hn⟩
  · rw [hf, Nat.mul_one, ← hn]
    simp
  · obtain ⟨v, _, rfl⟩ := List.mem_map.1 hx
    rfl
theorem splice_all {α : Type} (L cs : List α) (h : L.length = cs.length) : splice L 0 cs = cs := by
  unfold splice
  simp [h]
theorem str_src {w : World} {A : Option Addr} {n : Nat} {recs : List (List UInt8)} {p : Addr} (h : Sl w 1 A n (recs.map strC)) : 0 < (recs.map fun s => (Value.string ⟨s.toArray⟩)).length → some p = some p ∧ ∃ ad, A = some ad ∧ ∀ j v, (recs.map fun s => (Value.string ⟨s.toArray⟩))[j]? = some v → w.cell? (ad.add j) = some v := by
  intro hpos
  simp only [List.length_map] at hpos
  have at_ : ∀ j v, (recs.map fun s => (Value.string ⟨s.toArray⟩))[j]? = some v → ∃ b o, A = some ⟨b, o, none⟩ ∧ w.cell? ⟨b, o + j, none⟩ = some v := fun j v hj => by
    rw [List.getElem?_map] at hj
    cases hr : recs[j]? with
    | none => rw [hr] at hj; cases hj
    | some s =>
      rw [hr] at hj
      simp only [Option.map_some, Option.some.injEq] at hj
      subst hj
      obtain ⟨b, o, hA, _, hc⟩ := h.at1 (k := j) (v := .string ⟨s.toArray⟩) (by rw [List.getElem?_map, hr]; rfl)
      exact ⟨b, o, hA, hc⟩
  obtain ⟨b, o, hA, _⟩ := at_ 0 _ (by rw [List.getElem?_map, List.getElem?_eq_getElem hpos]; rfl)
  refine ⟨rfl, ⟨b, o, none⟩, hA, fun j v hj => ?_⟩
  obtain ⟨b', o', hA', hc⟩ := at_ j v hj
  rw [hA] at hA'
  injection hA' with hA'
  injection hA' with e1 e2
  subst e1 e2
  by_cases hz : j = 0
  · subst hz; simpa [Addr.add] using hc
  · simpa [Addr.add, hz] using hc
section
variable {w0 w w' : World} {Rs : List Res} {B J : Nat} {d d' : DV} {j : JV}
theorem strCell (l : List (List UInt8)) : (l.map fun s => (Value.string ⟨s.toArray⟩)).map (fun v => [v]) = l.map strC := by rw [List.map_map]; rfl
set_option maxRecDepth 100000 in
set_option maxHeartbeats 8000000 in
theorem All_sep (h : Sep w0 w (jourR B J j :: Rs)) (hl : j.recs.length ≤ 1099511627776) :
    Calls Tryz.prog 63 #[.pointer (some ⟨J, 0, none⟩)] w fun e w' => ∃ A c, e = .returned (.slice A j.recs.length c) ∧ Sep w0 w' (ownR 9 1 (.slice A j.recs.length c) j.recs.length (j.recs.map strC) :: jourR B J j :: Rs) := by
  obtain ⟨A, c, hp⟩ := h.jour_part
  have HP := Lib.hid hp
  have HS := Lib.hid h
  obtain ⟨file, recs, bytes, broken⟩ := j
  obtain ⟨n, hn⟩ : ∃ n, recs.length = n := ⟨_, rfl⟩
  simp only [hn] at hl HP ⊢
  have HL := Lib.hid hl
  have HN := Lib.hid hn
  clear hl hp h
  obtain ⟨zJ, kJ, fJ⟩ := HP.out.loc
  simp only [jourX, hn] at kJ
  clear hn
  obtain ⟨i0, hi0, hi1, hi2, hi3⟩ := info_parts infoStr
  have hmx : n ≤ maxLen := by have := HL.out; simp only [maxLen]; omega
  have HMX := Lib.hid hmx
  clear hmx
  go_enter Tryz.func63, Tryz.ntmps63
  go_wp2_with (first
    | (at_make
       refine wpList_make_own w rfl (.tmp 8) (.tmp 8) 104 rfl w.heap.size 9 i0 _ 1 16 Tryz.underlying104 hi0 hi1 hi2 hi3 rfl (by omega) n rfl rfl (by have := HL.out; omega) HMX.out (Nat.le_refl _) ?_
       intro w1 hown1 hb1 hz1
       obtain ⟨cur, hg, hcs, _, _, hbg⟩ := own_cells hown1
       have HP1 := Lib.hid (HP.out.below hb1)
       obtain ⟨zK, kK, fK⟩ := HP1.out.loc
       have HKN := HN.out
       simp only [jourX, HKN] at kK
       have HPOS := Lib.hid (str_src (w := w1) (recs := recs) (n := n) (p := ⟨w.heap.size, 0, none⟩) (Own.sl' HP1.out.sw.own))
       clear HKN zJ kJ fJ)
    | (refine wpList_copy_splice rfl (.tmp 10) (.tmp 14) 104 104 rfl 9 Tryz.underlying104 (by rw [hi0]; exact congrArg some hi2) (some ⟨w.heap.size, 0, none⟩) A n n n c rfl rfl w.heap.size 0 cur.toList 9 (by simpa using hg) (recs.map fun s => (.string ⟨s.toArray⟩ : Value)) (by have := HN.out; simp [this]) HPOS.out (by have := HN.out; simp; omega) (by intro v hv; obtain ⟨s, _, rfl⟩ := List.mem_map.1 hv; rfl) w.heap.size w hb1 (Nat.le_refl _) ?_
       intro w2 hheap hb2))
  go_ret
  have e := HN.out
  have hc : (cur.toList).length = (recs.map fun s => (Value.string ⟨s.toArray⟩)).length := by simp; omega
  have hh := hheap.out
  rw [splice_all _ _ hc] at hh
  have ho := own_of (base := w.heap.size) hh (n := n) (by simp [e]) HMX.out (Nat.le_refl _)
  rw [strCell] at ho
  exact ⟨_, _, rfl, HS.out.ownNew hb2 ho⟩
end
end Go.Proofs.YtjncmlglhegnaaaGreatDoor
namespace Go.Proofs.YtjncmlglhegnaaaGreatDoor
open Go.RowKit Go.Sort Go.Lib

/-- an operation, with where its keep list lies -/
structure OpC where
  kind : Int
  s : List UInt8
  n : Int
  keep : List Int
  A : Option Addr
  c : Nat
def OpC.cells (a : OpC) : List Value := [.int .i64 a.kind, .string ⟨a.s.toArray⟩, .int .i64 a.n, .slice a.A a.keep.length a.c]
def i64In (x : Int) : Prop := -9223372036854775808 ≤ x ∧ x ≤ 9223372036854775807
def OpC.ok (a : OpC) : Prop := i64In a.kind ∧ i64In a.n
def OpC.few (a : OpC) : Prop := a.s.length ≤ 200 ∧ a.keep.length ≤ 50
instance (a : OpC) : Decidable a.few := by unfold OpC.few; exact inferInstance
theorem strLen (s : List UInt8) : (⟨s.toArray⟩ : ByteArray).size = s.length := by simp [ByteArray.size]
end Go.Proofs.YtjncmlglhegnaaaGreatDoor
namespace Go.Proofs.YtjncmlglhegnaaaGreatDoor
open Go.RowKit Go.Sort Go.Lib

def fE : List UInt8 := [48, 58, 44, 48, 59]
def fX : List UInt8 := [49, 58, 97, 44, 57, 56, 59]
end Go.Proofs.YtjncmlglhegnaaaGreatDoor
namespace Go.Proofs.YtjncmlglhegnaaaGreatDoor
open Go.RowKit Go.Sort

section
variable {w0 w w' : World} {Rs : List Res} {B J : Nat} {d d' : DV}
set_option maxRecDepth 100000 in
set_option maxHeartbeats 8000000 in
theorem OpenDev_sep (h : Sep w0 w (diskR B d :: Rs)) (hE : Env w0.heap.size w0) (number : Int) (loan : LoanV) (r : DV × Option DevV × Int) (hr : openD d number loan = r) :
    Calls Tryz.prog 17 #[.pointer (some ⟨B, 0, none⟩), .int .i64 number, .agg (loanX loan)] w (DevPost w0 Rs B r) := by
  have HE := Lib.hid (fun W (hb : Below w0.heap.size w0 W) => hE.below hb)
  obtain ⟨⟨⟨ld, lu, ls, lb⟩, le⟩, hrl⟩ : ∃ rl, returnF loan = rl := ⟨_, rfl⟩
  have HRT := Lib.hid (fun W => Return_any loan.device loan.units loan.spent loan.back _ hrl W)
  have HS0 := Lib.hid ((h.box #[.int .i64 number] 3).box (loanX loan) 24)
  rw [World.size_alloc] at HS0
  unfold openD at hr
  rw [hrl] at hr
  simp only at hr
  have HR := Lib.hid hr
  simp only [loanX] at HRT HS0 ⊢
  clear h hE hrl hr
  go_enter Tryz.func17, Tryz.ntmps17
  go_wp2_with (fail)
  generalize hg4 : w.heap.size = g4 at HS0 ⊢
  generalize hg5 : g4 + 1 = g5 at HS0 ⊢
  clear hg4 hg5
  generalize hWA : (w.alloc (.cells #[.int .i64 number] 3)).alloc (.cells #[.int .i64 loan.device, .int .i64 loan.units, .int .i64 loan.spent, .bool loan.back] 24) = wA at HS0 ⊢
  clear hWA
  ((with_reducible refine (HRT.out _).mono ?_); rintro _ w1 ⟨rfl, hb1⟩)
  have HS1 := Lib.hid ((HS0.out.below hb1).alloc (.cells #[.int .i64 ld, .int .i64 lu, .int .i64 ls, .bool lb] 24))
  clear hb1 HS0 HRT
  obtain ⟨z5, k5, f5⟩ := HS1.out.loc
  obtain ⟨z4, k4, f4⟩ := HS1.out.sw.loc
  have HSX : Hid (Sep w0 (w1.alloc (.cells #[.int .i64 ld, .int .i64 lu, .int .i64 ls, .bool lb] 24)) (diskR B d :: Rs)) := Lib.hid HS1.out.drop.drop
  go_upto_region 2 with (fail)
  by_cases h1 : number < 0
  · have hr := HR.out
    rw [if_pos (.inl h1)] at hr
    subst hr
    go_wp2_with (fail)
    go_ret2
    exact ⟨rfl, HSX.out⟩
  have h1i : 0 ≤ number := by omega
  by_cases h2 : 8 ≤ number
  · have hr := HR.out
    rw [if_pos (.inr (.inl h2))] at hr
    subst hr
    clear h1
    go_wp2_with (fail)
    go_ret2
    exact ⟨rfl, HSX.out⟩
  have h2i : number < 8 := by omega
  by_cases h3 : le = 0
  case neg =>
    have hr := HR.out
    rw [if_pos (.inr (.inr (.inl h3)))] at hr
    subst hr
    have hb : (le == 0) = false := by rw [beq_eq_false_iff_ne]; exact h3
    have hn : (le != 0) = true := by rw [bne_iff_ne]; exact h3
    clear h1 h2 h3
    go_wp2_with (fail)
    go_ret2
    exact ⟨rfl, HSX.out⟩
  subst h3
  by_cases h4 : loan.device = number
  case neg =>
    have hr := HR.out
    rw [if_pos (.inr (.inr (.inr (.inl h4))))] at hr
    subst hr
    have hb : (loan.device == number) = false := by rw [beq_eq_false_iff_ne]; exact h4
    have hn : (loan.device != number) = true := by rw [bne_iff_ne]; exact h4
    clear h1 h2 h4
    go_wp2_with (fail)
    go_ret2
    exact ⟨rfl, HSX.out⟩
  by_cases h5 : loan.spent = 0
  case neg =>
    have hr := HR.out
    rw [if_pos (.inr (.inr (.inr (.inr h5))))] at hr
    subst hr
    have hb : (loan.spent == 0) = false := by rw [beq_eq_false_iff_ne]; exact h5
    have hn : (loan.spent != 0) = true := by rw [bne_iff_ne]; exact h5
    clear h1 h2 h5
    go_wp2_with (fail)
    go_ret2
    exact ⟨rfl, HSX.out⟩
  have hr := HR.out
  rw [if_neg (by rintro (h | h | h | h | h) <;> omega)] at hr
  subst h4
  obtain ⟨⟨d1, oj, e1⟩, hoj⟩ : ∃ q, openJ d 0 = q := ⟨_, rfl⟩
  rw [hoj] at hr
  simp only at hr
  have C1 := Lib.hid (fun W (h : Sep w0 W (diskR B d :: boxR g5 (loanX loan) :: boxR g4 #[.int .i64 loan.device] :: Rs)) => Open_sep h (HE.out w0 (Below.refl _ _)) 0 (d1, oj, e1) hoj)
  have HS2 := Lib.hid HS1.out.r3
  clear HR HS1 HSX h1 h2
  simp only [loanX] at C1 HS2
  cases oj with
  | none =>
    have he1 : e1 ≠ 0 := openJ_none hoj
    have hb : (e1 == 0) = false := by rw [beq_eq_false_iff_ne]; exact he1
    have hn : (e1 != 0) = true := by rw [bne_iff_ne]; exact he1
    simp only at hr
    subst hr
    clear hoj he1
    go_wp2_with (fail)
    ((with_reducible refine (C1.out _ HS2.out).mono ?_); rintro _ w2 ⟨rfl, h2⟩)
    have HS3 := Lib.hid h2.drop2.drop2
    clear h2
    go_wp2_with (fail)
    go_ret2
    exact ⟨rfl, HS3.out⟩
  | some j =>
    obtain ⟨rfl, hj1, hj2, hj3, hj4⟩ := openJ_some hoj
    have hjl : j.recs.length ≤ 16777216 := by
      have a1 := ((HS2.out.disk_ok.Sync 0).file 0).1
      have a2 := (recs_prefix (((SyncF d 0).1.file 0).now)).length_le
      have a3 := formsB_len (recsF (((SyncF d 0).1.file 0).now))
      rw [hj3]
      omega
    have hjs : ∀ t ∈ j.recs, t.length ≤ 100000 := fun t ht => by
      have := recs_small _ t (by rw [← hj3]; exact ht)
      omega
    have HJL := Lib.hid hjl
    have HJS := Lib.hid hjs
    have HR := Lib.hid hr
    clear hj1 hj2 hj3 hj4 hjl hjs hr hoj
    go_wp2_with (fail)
    ((with_reducible refine (C1.out _ HS2.out).mono ?_); rintro _ w2 ⟨J, rfl, h2⟩)
    have HS3 := Lib.hid h2
    clear h2 C1 HS2 z4 k4 f4 z5 k5 f5 h5
    go_wp2_with (fail)
    ((with_reducible refine (All_sep HS3.out (by have := HJL.out; omega)).mono ?_); rintro _ w3 ⟨A3, c3, rfl, h3⟩)
    have HS4 := Lib.hid h3
    clear h3 HS3
    go_wp2_with (fail)
    ((with_reducible refine (read_dev w3 ((HE.out w3 HS4.out.base).up HS4.out.base.size) A3 j.recs.length c3 j.recs HS4.out.own.sl' (by have := HJL.out; omega) HJS.out).mono ?_); rintro _ w4 hP)
    rcases hP with ⟨A4, c4, es, hde, rfl, hS⟩ | ⟨hde, rfl, hb⟩
    case inr =>
      have hr := HR.out
      rw [hde] at hr
      simp only at hr
      subst hr
      have HS5 := Lib.hid ((HS4.out.below hb).drop.drop.drop2.drop2)
      clear hde hb
      go_wp2_with (fail)
      go_ret2
      exact ⟨rfl, HS5.out⟩
    case inl =>
      have hr := HR.out
      rw [hde] at hr
      simp only at hr
      have HS5 := Lib.hid (HS4.out.graft hS)
      simp only [List.cons_append, List.nil_append] at HS5
      have HCH := Lib.hid (chAt_of hde HS5.out.own.sl' HS5.out.sw.sees)
      have HD := Lib.hid hde
      have L5 := Lib.hid HS5.out.drop.drop.drop.drop.drop.loc
      have L4 := Lib.hid HS5.out.drop.drop.drop.drop.drop.drop.loc
      clear hS HS4 HR hde
      obtain ⟨k, hk⟩ : ∃ k, checkF (vsOf es) = k := ⟨_, rfl⟩
      rw [hk] at hr
      have HCK := Lib.hid (Check_any w4 A4 es.length c4 es HCH.out k hk)
      obtain ⟨q, hq⟩ : ∃ q, ((vsOf es).all fun x => decide (x.dev = loan.device)) = !q := ⟨!((vsOf es).all fun x => decide (x.dev = loan.device)), by simp⟩
      have HEL : Hid (es.length ≤ 1099511627776) := Lib.hid (by
        have h1 := decAll_len HD.out
        rw [vsOf_len] at h1
        have h2 := HJL.out
        omega)
      rw [hq] at hr
      clear hk
      by_cases hk0 : k = 0
      case neg =>
        rw [if_neg (fun h => hk0 h.1)] at hr
        subst hr
        have hb : (k == 0) = false := by rw [beq_eq_false_iff_ne]; exact hk0
        have hn : (k != 0) = true := by rw [bne_iff_ne]; exact hk0
        clear hk0
        go_wp2_with (fail)
        ((with_reducible refine HCK.out.mono ?_); rintro _ w5 ⟨rfl, hb5⟩)
        have HS6 := Lib.hid ((HS5.out.below hb5).drop.drop.drop.drop.drop2.drop2)
        clear hb5
        go_wp2_with (fail)
        go_ret2
        exact ⟨rfl, HS6.out⟩
      subst hk0
      have HQ := Lib.hid hq
      have HR := Lib.hid hr
      clear hr hq
      go_wp2_with (fail)
      ((with_reducible refine HCK.out.mono ?_); rintro _ w5 ⟨rfl, hb5⟩)
      have HS6 := Lib.hid (HS5.out.below hb5)
      have HCH5 := Lib.hid (HCH.out.below hb5)
      have L5' := Lib.hid (L5.out.below hb5)
      have L4' := Lib.hid (L4.out.below hb5)
      clear hb5 L5 L4 HCH HS5 HCK
      go_wp2_with (fail)
      ((with_reducible refine (ContainsOther_any w5 A4 es.length c4 es HCH5.out.sl HEL.out g4 loan.device L4'.out q HQ.out).mono ?_); rintro _ w6 ⟨rfl, hb6⟩)
      have HS7 := Lib.hid (HS6.out.below hb6)
      have HCH6 := Lib.hid (HCH5.out.below hb6)
      have L5 := Lib.hid (L5'.out.below hb6)
      have L4 := Lib.hid (L4'.out.below hb6)
      clear hb6 L5' L4' HCH5 HS6 HQ
      cases q
      case true =>
        have hr := HR.out
        rw [if_neg (fun h => by simp at h)] at hr
        subst hr
        have HS8 := Lib.hid (HS7.out.drop.drop.drop.drop.drop2.drop2)
        go_wp2_with (fail)
        go_ret2
        exact ⟨rfl, HS8.out⟩
      obtain ⟨⟨⟨rd, ru, rs, rb⟩, ro⟩, hrp⟩ : ∃ q, replayF (textsOf (vsOf es)) loan = q := ⟨_, rfl⟩
      have hr := HR.out
      rw [hrp] at hr
      have HRP := Lib.hid (Replay_any w6 (HE.out w6 HS7.out.base) HS7.out.base.size A4 es.length c4 es HCH6.out HEL.out loan _ hrp)
      simp only [loanX] at HRP L5
      obtain ⟨z5, k5, f5⟩ := L5.out
      obtain ⟨z4, k4, f4⟩ := L4.out
      clear hrp HR
      cases ro
      case false =>
        rw [if_neg (fun h => by simp at h)] at hr
        subst hr
        clear z4 k4 f4
        go_wp2_with (fail)
        ((with_reducible refine HRP.out.mono ?_); rintro _ w7 ⟨rfl, hb7⟩)
        have HS8 := Lib.hid ((HS7.out.below hb7).alloc (.cells #[.int .i64 rd, .int .i64 ru, .int .i64 rs, .bool rb] 24)).drop.drop.drop.drop.drop2.drop2
        clear hb7 z5 k5 f5
        go_wp2_with (fail)
        go_ret2
        exact ⟨rfl, HS8.out⟩
      rw [if_pos (by simp)] at hr
      subst hr
      go_wp2_with (fail)
      ((with_reducible refine HRP.out.mono ?_); rintro _ w7 ⟨rfl, hb7⟩)
      have HS8 := Lib.hid (HS7.out.below hb7)
      have L48 := Lib.hid (L4.out.below hb7)
      clear hb7 z5 k5 f5 z4 k4 f4 HRP
      obtain ⟨z4, k4, f4⟩ := (L48.out.below (below_alloc w7 (.cells #[.int .i64 rd, .int .i64 ru, .int .i64 rs, .bool rb] 24)))
      obtain ⟨z14, k14, f14⟩ := Loc.new_ w7 #[.int .i64 rd, .int .i64 ru, .int .i64 rs, .bool rb] 24
      have HS9 := Lib.hid ((HS8.out.r3.drop).alloc (.cells #[.int .i64 rd, .int .i64 ru, .int .i64 rs, .bool rb] 24))
      go_wp2_with (fail)
      go_ret2
      have HX := (Sep.devPack (x := ⟨loan.device, vsOf es, ⟨rd, ru, rs, rb⟩, j⟩) (HS9.out.box (devX J loan.device A4 es.length c4 ⟨rd, ru, rs, rb⟩) 109) rfl).r3.drop.r3.drop
      rw [World.size_alloc] at HX
      exact ⟨_, rfl, HX⟩
end
end Go.Proofs.YtjncmlglhegnaaaGreatDoor
