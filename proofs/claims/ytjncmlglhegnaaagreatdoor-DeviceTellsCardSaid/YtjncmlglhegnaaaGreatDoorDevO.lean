/- journal: All, Len, Get, walked. -/
/- kerbsidelaw03: few, texts, disky, begins, walked. -/
/- kerbsidelaw03: small, walked. -/
/- device: Open, walked. -/
/- device: put, walked. -/
/- device: Write, durably, Spend, Return, walked. -/
/- device: Spend, Return, walked. -/
/- device: Loan, walked. -/
/- device: All, Hand, walked. -/
/- kerbsidelaw49: sane's run, in plain Lean. -/
/- kerbsidelaw49: none, walked. -/
/- kerbsidelaw49: sane, walked. -/
/- kerbsideref49: Reserved, SpendText, walked. -/
import Derived.Test.YtjncmlglhegnaaaGreatDoorDevB
import Derived.Test.YtjncmlglhegnaaaGreatDoorWireST
import Derived.Laws.CopyOwn
import Derived.Test.YtjncmlglhegnaaaGreatDoorDevC
import Derived.Test.YtjncmlglhegnaaaGreatDoorDevN
import Derived.Test.YtjncmlglhegnaaaGreatDoorWireW
import Derived.Test.YtjncmlglhegnaaaGreatDoorChainJ
namespace Go.Proofs.YtjncmlglhegnaaaGreatDoor
open Go.RowKit Go.Sort Go.Lib

theorem own_cells {w : World} {base g n c : Nat} {e : TypeId} {xs : List (List Value)} (h : Own w base e 1 (.slice (some ⟨g, 0, none⟩) n c) n xs) : ∃ cur : Array Value, w.heap[g]? = some (.cells cur e (0, 0)) ∧ cur.size = c ∧ n ≤ c ∧ c ≤ maxLen ∧ base ≤ g := by
  rcases h.1.2 with ⟨h', _⟩ | ⟨g', cap, cur, hv, hb, hg, h1, h2, h3, _⟩
  · cases h'
  · injection hv with e1 e2 e3
    injection e1 with e1
    injection e1 with e4
    subst e4 e3
    exact ⟨cur, hg, by omega, h1, h2, hb⟩
theorem flat_one {α : Type} : ∀ cs : List α, (cs.map fun v => [v]).flatten = cs
  | [] => rfl
  | a :: l => by rw [List.map_cons, List.flatten_cons, flat_one l]; rfl
theorem own_of {w : World} {base g n : Nat} {e : TypeId} {cs : List Value} (hg : w.heap[g]? = some (.cells cs.toArray e (0, 0))) (hn : cs.length = n) (hm : n ≤ maxLen) (hb : base ≤ g) : Own w base e 1 (.slice (some ⟨g, 0, none⟩) n n) n (cs.map fun v => [v]) := by
  have hf := flat_one cs
  refine ⟨⟨by rw [hf]; omega, .inr ⟨g, n, cs.toArray, rfl, hb, hg, Nat.le_refl _, hm, by simp; omega, ?_⟩⟩, fun x hx => ?_, by simpa using hn⟩
  · rw [hf, Nat.mul_one, ← hn]
    simp
  · obtain ⟨v, _, rfl⟩ := List.mem_map.1 hx
    rfl
theorem splice_all {α : Type} (L cs : List α) (h : L.length = cs.length) : splice L 0 cs = cs := by
  unfold splice
  simp [h]
theorem str_src {w : World} {A : Option Addr} {n : Nat} {recs : List (List UInt8)} {p : Addr} (h : Sl w 1 A n (recs.map strC)) : 0 < (recs.map fun s => (Value.string ⟨s.toArray⟩)).length → some p = some p ∧ ∃ ad, A = some ad ∧ ∀ j v, (recs.map fun s => (Value.string ⟨s.toArray⟩))[j]? = some v → w.cell? (ad.add j) = some v := by
  intro hpos
  simp only [List.length_map] at hpos
  have at_ : ∀ j v, (recs.map fun s => (Value.string ⟨s.toArray⟩))[j]? = some v → ∃ b o, A = some ⟨b, o, none⟩ ∧ w.cell? ⟨b, o + j, none⟩ = some v := fun j v hj => by
    rw [List.getElem?_map] at hj
    cases hr : recs[j]? with
    | none => rw [hr] at hj; cases hj
    | some s =>
      rw [hr] at hj
      simp only [Option.map_some, Option.some.injEq] at hj
      subst hj
      obtain ⟨b, o, hA, _, hc⟩ := h.at1 (k := j) (v := .string ⟨s.toArray⟩) (by rw [List.getElem?_map, hr]; rfl)
      exact ⟨b, o, hA, hc⟩
  obtain ⟨b, o, hA, _⟩ := at_ 0 _ (by rw [List.getElem?_map, List.getElem?_eq_getElem hpos]; rfl)
  refine ⟨rfl, ⟨b, o, none⟩, hA, fun j v hj => ?_⟩
  obtain ⟨b', o', hA', hc⟩ := at_ j v hj
  rw [hA] at hA'
  injection hA' with hA'
  injection hA' with e1 e2
  subst e1 e2
  by_cases hz : j = 0
  · subst hz; simpa [Addr.add] using hc
  · simpa [Addr.add, hz] using hc
section
variable {w0 w w' : World} {Rs : List Res} {B J : Nat} {d d' : DV} {j : JV}
theorem strCell (l : List (List UInt8)) : (l.map fun s => (Value.string ⟨s.toArray⟩)).map (fun v => [v]) = l.map strC := by rw [List.map_map]; rfl
set_option maxRecDepth 100000 in
set_option maxHeartbeats 8000000 in
theorem All_sep (h : Sep w0 w (jourR B J j :: Rs)) (hl : j.recs.length ≤ 1099511627776) :
    Calls Tryz.prog 63 #[.pointer (some ⟨J, 0, none⟩)] w fun e w' => ∃ A c, e = .returned (.slice A j.recs.length c) ∧ Sep w0 w' (ownR 9 1 (.slice A j.recs.length c) j.recs.length (j.recs.map strC) :: jourR B J j :: Rs) := by
  obtain ⟨A, c, hp⟩ := h.jour_part
  have HP := Lib.hid hp
  have HS := Lib.hid h
  obtain ⟨file, recs, bytes, broken⟩ := j
  obtain ⟨n, hn⟩ : ∃ n, recs.length = n := ⟨_, rfl⟩
  simp only [hn] at hl HP ⊢
  have HL := Lib.hid hl
  have HN := Lib.hid hn
  clear hl hp h
  obtain ⟨zJ, kJ, fJ⟩ := HP.out.loc
  simp only [jourX, hn] at kJ
  clear hn
  obtain ⟨i0, hi0, hi1, hi2, hi3⟩ := info_parts infoStr
  have hmx : n ≤ maxLen := by have := HL.out; simp only [maxLen]; omega
  have HMX := Lib.hid hmx
  clear hmx
  go_enter Tryz.func63, Tryz.ntmps63
  go_wp2_with (first
    | (at_make
       refine wpList_make_own w rfl (.tmp 8) (.tmp 8) 104 rfl w.heap.size 9 i0 _ 1 16 Tryz.underlying104 hi0 hi1 hi2 hi3 rfl (by omega) n rfl rfl (by have := HL.out; omega) HMX.out (Nat.le_refl _) ?_
       intro w1 hown1 hb1 hz1
       obtain ⟨cur, hg, hcs, _, _, hbg⟩ := own_cells hown1
       have HP1 := Lib.hid (HP.out.below hb1)
       obtain ⟨zK, kK, fK⟩ := HP1.out.loc
       have HKN := HN.out
       simp only [jourX, HKN] at kK
       have HPOS := Lib.hid (str_src (w := w1) (recs := recs) (n := n) (p := ⟨w.heap.size, 0, none⟩) (Own.sl' HP1.out.sw.own))
       clear HKN zJ kJ fJ)
    | (refine wpList_copy_splice rfl (.tmp 10) (.tmp 14) 104 104 rfl 9 Tryz.underlying104 (by rw [hi0]; exact congrArg some hi2) (some ⟨w.heap.size, 0, none⟩) A n n n c rfl rfl w.heap.size 0 cur.toList 9 (by simpa using hg) (recs.map fun s => (.string ⟨s.toArray⟩ : Value)) (by have := HN.out; simp [this]) HPOS.out (by have := HN.out; simp; omega) (by intro v hv; obtain ⟨s, _, rfl⟩ := List.mem_map.1 hv; rfl) w.heap.size w hb1 (Nat.le_refl _) ?_
       intro w2 hheap hb2))
  go_ret
  have e := HN.out
  have hc : (cur.toList).length = (recs.map fun s => (Value.string ⟨s.toArray⟩)).length := by simp; omega
  have hh := hheap.out
  rw [splice_all _ _ hc] at hh
  have ho := own_of (base := w.heap.size) hh (n := n) (by simp [e]) HMX.out (Nat.le_refl _)
  rw [strCell] at ho
  exact ⟨_, _, rfl, HS.out.ownNew hb2 ho⟩
end
end Go.Proofs.YtjncmlglhegnaaaGreatDoor
namespace Go.Proofs.YtjncmlglhegnaaaGreatDoor
open Go.RowKit Go.Sort Go.Lib

/-- an operation, with where its keep list lies -/
structure OpC where
  kind : Int
  s : List UInt8
  n : Int
  keep : List Int
  A : Option Addr
  c : Nat
def OpC.cells (a : OpC) : List Value := [.int .i64 a.kind, .string ⟨a.s.toArray⟩, .int .i64 a.n, .slice a.A a.keep.length a.c]
def i64In (x : Int) : Prop := -9223372036854775808 ≤ x ∧ x ≤ 9223372036854775807
def OpC.ok (a : OpC) : Prop := i64In a.kind ∧ i64In a.n
def OpC.few (a : OpC) : Prop := a.s.length ≤ 200 ∧ a.keep.length ≤ 50
instance (a : OpC) : Decidable a.few := by unfold OpC.few; exact inferInstance
theorem strLen (s : List UInt8) : (⟨s.toArray⟩ : ByteArray).size = s.length := by simp [ByteArray.size]
end Go.Proofs.YtjncmlglhegnaaaGreatDoor
namespace Go.Proofs.YtjncmlglhegnaaaGreatDoor
open Go.RowKit Go.Sort Go.Lib

def fE : List UInt8 := [48, 58, 44, 48, 59]
def fX : List UInt8 := [49, 58, 97, 44, 57, 56, 59]
end Go.Proofs.YtjncmlglhegnaaaGreatDoor
namespace Go.Proofs.YtjncmlglhegnaaaGreatDoor
open Go.RowKit Go.Sort

section
variable {w0 w w' : World} {Rs : List Res} {B J : Nat} {d d' : DV}
set_option maxRecDepth 100000 in
set_option maxHeartbeats 8000000 in
theorem OpenDev_sep (h : Sep w0 w (diskR B d :: Rs)) (hE : Env w0.heap.size w0) (number : Int) (loan : LoanV) (r : DV × Option DevV × Int) (hr : openD d number loan = r) :
    Calls Tryz.prog 17 #[.pointer (some ⟨B, 0, none⟩), .int .i64 number, .agg (loanX loan)] w (DevPost w0 Rs B r) := by
  have HE := Lib.hid (fun W (hb : Below w0.heap.size w0 W) => hE.below hb)
  obtain ⟨⟨⟨ld, lu, ls, lb⟩, le⟩, hrl⟩ : ∃ rl, returnF loan = rl := ⟨_, rfl⟩
  have HRT := Lib.hid (fun W => Return_any loan.device loan.units loan.spent loan.back _ hrl W)
  have HS0 := Lib.hid ((h.box #[.int .i64 number] 3).box (loanX loan) 24)
  rw [World.size_alloc] at HS0
  unfold openD at hr
  rw [hrl] at hr
  simp only at hr
  have HR := Lib.hid hr
  simp only [loanX] at HRT HS0 ⊢
  clear h hE hrl hr
  go_enter Tryz.func17, Tryz.ntmps17
  go_wp2_with (fail)
  generalize hg4 : w.heap.size = g4 at HS0 ⊢
  generalize hg5 : g4 + 1 = g5 at HS0 ⊢
  clear hg4 hg5
  generalize hWA : (w.alloc (.cells #[.int .i64 number] 3)).alloc (.cells #[.int .i64 loan.device, .int .i64 loan.units, .int .i64 loan.spent, .bool loan.back] 24) = wA at HS0 ⊢
  clear hWA
  ((with_reducible refine (HRT.out _).mono ?_); rintro _ w1 ⟨rfl, hb1⟩)
  have HS1 := Lib.hid ((HS0.out.below hb1).alloc (.cells #[.int .i64 ld, .int .i64 lu, .int .i64 ls, .bool lb] 24))
  clear hb1 HS0 HRT
  obtain ⟨z5, k5, f5⟩ := HS1.out.loc
  obtain ⟨z4, k4, f4⟩ := HS1.out.sw.loc
  have HSX : Hid (Sep w0 (w1.alloc (.cells #[.int .i64 ld, .int .i64 lu, .int .i64 ls, .bool lb] 24)) (diskR B d :: Rs)) := Lib.hid HS1.out.drop.drop
  go_upto_region 2 with (fail)
  by_cases h1 : number < 0
  · have hr := HR.out
    rw [if_pos (.inl h1)] at hr
    subst hr
    go_wp2_with (fail)
    go_ret2
    exact ⟨rfl, HSX.out⟩
  have h1i : 0 ≤ number := by omega
  by_cases h2 : 8 ≤ number
  · have hr := HR.out
    rw [if_pos (.inr (.inl h2))] at hr
    subst hr
    clear h1
    go_wp2_with (fail)
    go_ret2
    exact ⟨rfl, HSX.out⟩
  have h2i : number < 8 := by omega
  by_cases h3 : le = 0
  case neg =>
    have hr := HR.out
    rw [if_pos (.inr (.inr (.inl h3)))] at hr
    subst hr
    have hb : (le == 0) = false := by rw [beq_eq_false_iff_ne]; exact h3
    have hn : (le != 0) = true := by rw [bne_iff_ne]; exact h3
    clear h1 h2 h3
    go_wp2_with (fail)
    go_ret2
    exact ⟨rfl, HSX.out⟩
  subst h3
  by_cases h4 : loan.device = number
  case neg =>
    have hr := HR.out
    rw [if_pos (.inr (.inr (.inr (.inl h4))))] at hr
    subst hr
    have hb : (loan.device == number) = false := by rw [beq_eq_false_iff_ne]; exact h4
    have hn : (loan.device != number) = true := by rw [bne_iff_ne]; exact h4
    clear h1 h2 h4
    go_wp2_with (fail)
    go_ret2
    exact ⟨rfl, HSX.out⟩
  by_cases h5 : loan.spent = 0
  case neg =>
    have hr := HR.out
    rw [if_pos (.inr (.inr (.inr (.inr h5))))] at hr
    subst hr
    have hb : (loan.spent == 0) = false := by rw [beq_eq_false_iff_ne]; exact h5
    have hn : (loan.spent != 0) = true := by rw [bne_iff_ne]; exact h5
    clear h1 h2 h5
    go_wp2_with (fail)
    go_ret2
    exact ⟨rfl, HSX.out⟩
  have hr := HR.out
  rw [if_neg (by rintro (h | h | h | h | h) <;> omega)] at hr
  subst h4
  obtain ⟨⟨d1, oj, e1⟩, hoj⟩ : ∃ q, openJ d 0 = q := ⟨_, rfl⟩
  rw [hoj] at hr
  simp only at hr
  have C1 := Lib.hid (fun W (h : Sep w0 W (diskR B d :: boxR g5 (loanX loan) :: boxR g4 #[.int .i64 loan.device] :: Rs)) => Open_sep h (HE.out w0 (Below.refl _ _)) 0 (d1, oj, e1) hoj)
  have HS2 := Lib.hid HS1.out.r3
  clear HR HS1 HSX h1 h2
  simp only [loanX] at C1 HS2
  cases oj with
  | none =>
    have he1 : e1 ≠ 0 := openJ_none hoj
    have hb : (e1 == 0) = false := by rw [beq_eq_false_iff_ne]; exact he1
    have hn : (e1 != 0) = true := by rw [bne_iff_ne]; exact he1
    simp only at hr
    subst hr
    clear hoj he1
    go_wp2_with (fail)
    ((with_reducible refine (C1.out _ HS2.out).mono ?_); rintro _ w2 ⟨rfl, h2⟩)
    have HS3 := Lib.hid h2.drop2.drop2
    clear h2
    go_wp2_with (fail)
    go_ret2
    exact ⟨rfl, HS3.out⟩
  | some j =>
    obtain ⟨rfl, hj1, hj2, hj3, hj4⟩ := openJ_some hoj
    have hjl : j.recs.length ≤ 16777216 := by
      have a1 := ((HS2.out.disk_ok.Sync 0).file 0).1
      have a2 := (recs_prefix (((SyncF d 0).1.file 0).now)).length_le
      have a3 := formsB_len (recsF (((SyncF d 0).1.file 0).now))
      rw [hj3]
      omega
    have hjs : ∀ t ∈ j.recs, t.length ≤ 100000 := fun t ht => by
      have := recs_small _ t (by rw [← hj3]; exact ht)
      omega
    have HJL := Lib.hid hjl
    have HJS := Lib.hid hjs
    have HR := Lib.hid hr
    clear hj1 hj2 hj3 hj4 hjl hjs hr hoj
    go_wp2_with (fail)
    ((with_reducible refine (C1.out _ HS2.out).mono ?_); rintro _ w2 ⟨J, rfl, h2⟩)
    have HS3 := Lib.hid h2
    clear h2 C1 HS2 z4 k4 f4 z5 k5 f5 h5
    go_wp2_with (fail)
    ((with_reducible refine (All_sep HS3.out (by have := HJL.out; omega)).mono ?_); rintro _ w3 ⟨A3, c3, rfl, h3⟩)
    have HS4 := Lib.hid h3
    clear h3 HS3
    go_wp2_with (fail)
    ((with_reducible refine (read_dev w3 ((HE.out w3 HS4.out.base).up HS4.out.base.size) A3 j.recs.length c3 j.recs HS4.out.own.sl' (by have := HJL.out; omega) HJS.out).mono ?_); rintro _ w4 hP)
    rcases hP with ⟨A4, c4, es, hde, rfl, hS⟩ | ⟨hde, rfl, hb⟩
    case inr =>
      have hr := HR.out
      rw [hde] at hr
      simp only at hr
      subst hr
      have HS5 := Lib.hid ((HS4.out.below hb).drop.drop.drop2.drop2)
      clear hde hb
      go_wp2_with (fail)
      go_ret2
      exact ⟨rfl, HS5.out⟩
    case inl =>
      have hr := HR.out
      rw [hde] at hr
      simp only at hr
      have HS5 := Lib.hid (HS4.out.graft hS)
      simp only [List.cons_append, List.nil_append] at HS5
      have HCH := Lib.hid (chAt_of hde HS5.out.own.sl' HS5.out.sw.sees)
      have HD := Lib.hid hde
      have L5 := Lib.hid HS5.out.drop.drop.drop.drop.drop.loc
      have L4 := Lib.hid HS5.out.drop.drop.drop.drop.drop.drop.loc
      clear hS HS4 HR hde
      obtain ⟨k, hk⟩ : ∃ k, checkF (vsOf es) = k := ⟨_, rfl⟩
      rw [hk] at hr
      have HCK := Lib.hid (Check_any w4 A4 es.length c4 es HCH.out k hk)
      obtain ⟨q, hq⟩ : ∃ q, ((vsOf es).all fun x => decide (x.dev = loan.device)) = !q := ⟨!((vsOf es).all fun x => decide (x.dev = loan.device)), by simp⟩
      have HEL : Hid (es.length ≤ 1099511627776) := Lib.hid (by
        have h1 := decAll_len HD.out
        rw [vsOf_len] at h1
        have h2 := HJL.out
        omega)
      rw [hq] at hr
      clear hk
      by_cases hk0 : k = 0
      case neg =>
        rw [if_neg (fun h => hk0 h.1)] at hr
        subst hr
        have hb : (k == 0) = false := by rw [beq_eq_false_iff_ne]; exact hk0
        have hn : (k != 0) = true := by rw [bne_iff_ne]; exact hk0
        clear hk0
        go_wp2_with (fail)
        ((with_reducible refine HCK.out.mono ?_); rintro _ w5 ⟨rfl, hb5⟩)
        have HS6 := Lib.hid ((HS5.out.below hb5).drop.drop.drop.drop.drop2.drop2)
        clear hb5
        go_wp2_with (fail)
        go_ret2
        exact ⟨rfl, HS6.out⟩
      subst hk0
      have HQ := Lib.hid hq
      have HR := Lib.hid hr
      clear hr hq
      go_wp2_with (fail)
      ((with_reducible refine HCK.out.mono ?_); rintro _ w5 ⟨rfl, hb5⟩)
      have HS6 := Lib.hid (HS5.out.below hb5)
      have HCH5 := Lib.hid (HCH.out.below hb5)
      have L5' := Lib.hid (L5.out.below hb5)
      have L4' := Lib.hid (L4.out.below hb5)
      clear hb5 L5 L4 HCH HS5 HCK
      go_wp2_with (fail)
      ((with_reducible refine (ContainsOther_any w5 A4 es.length c4 es HCH5.out.sl HEL.out g4 loan.device L4'.out q HQ.out).mono ?_); rintro _ w6 ⟨rfl, hb6⟩)
      have HS7 := Lib.hid (HS6.out.below hb6)
      have HCH6 := Lib.hid (HCH5.out.below hb6)
      have L5 := Lib.hid (L5'.out.below hb6)
      have L4 := Lib.hid (L4'.out.below hb6)
      clear hb6 L5' L4' HCH5 HS6 HQ
      cases q
      case true =>
        have hr := HR.out
        rw [if_neg (fun h => by simp at h)] at hr
        subst hr
        have HS8 := Lib.hid (HS7.out.drop.drop.drop.drop.drop2.drop2)
        go_wp2_with (fail)
        go_ret2
        exact ⟨rfl, HS8.out⟩
      obtain ⟨⟨⟨rd, ru, rs, rb⟩, ro⟩, hrp⟩ : ∃ q, replayF (textsOf (vsOf es)) loan = q := ⟨_, rfl⟩
      have hr := HR.out
      rw [hrp] at hr
      have HRP := Lib.hid (Replay_any w6 (HE.out w6 HS7.out.base) HS7.out.base.size A4 es.length c4 es HCH6.out HEL.out loan _ hrp)
      simp only [loanX] at HRP L5
      obtain ⟨z5, k5, f5⟩ := L5.out
      obtain ⟨z4, k4, f4⟩ := L4.out
      clear hrp HR
      cases ro
      case false =>
        rw [if_neg (fun h => by simp at h)] at hr
        subst hr
        clear z4 k4 f4
        go_wp2_with (fail)
        ((with_reducible refine HRP.out.mono ?_); rintro _ w7 ⟨rfl, hb7⟩)
        have HS8 := Lib.hid ((HS7.out.below hb7).alloc (.cells #[.int .i64 rd, .int .i64 ru, .int .i64 rs, .bool rb] 24)).drop.drop.drop.drop.drop2.drop2
        clear hb7 z5 k5 f5
        go_wp2_with (fail)
        go_ret2
        exact ⟨rfl, HS8.out⟩
      rw [if_pos (by simp)] at hr
      subst hr
      go_wp2_with (fail)
      ((with_reducible refine HRP.out.mono ?_); rintro _ w7 ⟨rfl, hb7⟩)
      have HS8 := Lib.hid (HS7.out.below hb7)
      have L48 := Lib.hid (L4.out.below hb7)
      clear hb7 z5 k5 f5 z4 k4 f4 HRP
      obtain ⟨z4, k4, f4⟩ := (L48.out.below (below_alloc w7 (.cells #[.int .i64 rd, .int .i64 ru, .int .i64 rs, .bool rb] 24)))
      obtain ⟨z14, k14, f14⟩ := Loc.new_ w7 #[.int .i64 rd, .int .i64 ru, .int .i64 rs, .bool rb] 24
      have HS9 := Lib.hid ((HS8.out.r3.drop).alloc (.cells #[.int .i64 rd, .int .i64 ru, .int .i64 rs, .bool rb] 24))
      go_wp2_with (fail)
      go_ret2
      have HX := (Sep.devPack (x := ⟨loan.device, vsOf es, ⟨rd, ru, rs, rb⟩, j⟩) (HS9.out.box (devX J loan.device A4 es.length c4 ⟨rd, ru, rs, rb⟩) 109) rfl).r3.drop.r3.drop
      rw [World.size_alloc] at HX
      exact ⟨_, rfl, HX⟩
end
end Go.Proofs.YtjncmlglhegnaaaGreatDoor
namespace Go.Proofs.YtjncmlglhegnaaaGreatDoor
open Go.RowKit Go.Sort

theorem Sep.setEntD {w0 w : World} {n : Nat} {a b c d e : Value} {Rs : List Res} (h : Sep w0 w (boxR n #[a, b, c, d, e] :: Rs)) (x : EntC) : Sep w0 (((((w.setCell ⟨n, 0, none⟩ (.int .i64 x.v.dev)).setCell ⟨n, 1, none⟩ (.int .i64 x.v.no)).setCell ⟨n, 2, none⟩ (.int .i64 x.v.day)).setCell ⟨n, 3, none⟩ (.slice x.A x.v.seen.length x.c)).setCell ⟨n, 4, none⟩ (.string ⟨x.v.text.toArray⟩)) (boxR n x.cells.toArray :: Rs) := by
  have := ((((h.set_ 0 (.int .i64 x.v.dev)).set_ 1 (.int .i64 x.v.no)).set_ 2 (.int .i64 x.v.day)).set_ 3 (.slice x.A x.v.seen.length x.c)).set_ 4 (.string ⟨x.v.text.toArray⟩)
  simpa [EntC.cells] using this
theorem Sep.r6 {w0 w : World} {R1 R2 R3 R4 R5 R6 : Res} {Rs : List Res} (h : Sep w0 w (R1 :: R2 :: R3 :: R4 :: R5 :: R6 :: Rs)) : Sep w0 w (R6 :: R1 :: R2 :: R3 :: R4 :: R5 :: Rs) :=
  h.perm (List.perm_middle (l₁ := [R1, R2, R3, R4, R5]) (a := R6))
theorem Sep.own_ne {w0 w : World} {X : Nat} {cs : Array Value} {e : TypeId} {size n : Nat} {v : Value} {xs : List (List Value)} {Rs : List Res} (h : Sep w0 w (boxR X cs :: ownR e size v n xs :: Rs)) : v.ownBlock ≠ some X := by
  obtain ⟨⟨F1, a1, a2, F2, b1, b2, c⟩, hb⟩ := h
  intro hv
  exact (b2 X ((b1.2 X).2 hv)).2 ((a1.2 X).2 rfl)
/-- a right entry's encoding is short -/
theorem encE_short {x : EntV} (h : RightE x) : (encE x).length ≤ x.text.length + 1200 := by
  have h1 : ∀ n : Int, 0 ≤ n → n ≤ 100000 → (encN n).length ≤ 21 := fun n h0 h1 => by unfold encN; rw [if_neg (by omega)]; exact encI_len ⟨by omega, by omega⟩
  have a1 := h1 x.dev h.d0 (by have := h.d1; omega)
  have a2 := h1 x.no h.n0 (by have := h.n1; omega)
  have a3 := h1 x.day h.y0 h.y1
  have a4 := encT_len (s := x.text) (by have := h.txt; omega)
  have a5 := flat_le encI 21 x.seen fun n hn => encI_len (by have := h.rng n hn; exact ⟨by omega, by omega⟩)
  have a6 := h.len
  have a7 := itoa_length (n := (x.seen.length : Int)) (by omega) (by omega)
  have a8 : (encIs x.seen).length ≤ 1000 := by
    unfold encIs
    simp
    simp only [List.length_flatten, List.map_map, Function.comp_def] at a5 ⊢
    omega
  unfold encE
  simp only [List.length_append]
  omega
theorem nextF_right {l : List EntV} {device day : Int} {seen : List Int} {text : List UInt8} {v : EntV} (h : nextF l device day seen text = (v, 0)) : RightE v := by
  unfold nextF at h
  split at h
  · split at h
    · rename_i hc
      simp only [Prod.mk.injEq] at h
      rw [← h.1]
      exact (check_at hc (i := l.length) (x := nextV l device day seen text) (by simp)).right
    · rename_i hc
      simp only [Prod.mk.injEq] at h
      exact absurd h.2 hc
  · simp at h
section
variable {w0 w w' : World} {Rs : List Res} {B X : Nat} {d d' : DV} {x : DevV}
/-- what put wants of a device -/
structure DevOk (x : DevV) : Prop where
  few : x.ents.length ≤ 1000
  right : ∀ v ∈ x.ents, RightE v
  bytes : -9223372036854775808 ≤ x.j.bytes ∧ x.j.bytes ≤ 4611686018427387904
  recs : x.j.recs.length ≤ 16777216
set_option maxRecDepth 100000 in
set_option maxHeartbeats 8000000 in
theorem put_sep (h : Sep w0 w (devR B X x :: diskR B d :: Rs)) (hE : Env w0.heap.size w0) (hok : DevOk x) (day : Int) (sA : Option Addr) (sc : Nat) (seen : List Int) (hse : Sl w 1 sA seen.length (seen.map intC)) (text : List UInt8) (ht : text.length ≤ 1099511627776) (r : DV × DevV × Int) (hr : putD d x day seen text = r) :
    Calls Tryz.prog 76 #[.pointer (some ⟨X, 0, none⟩), .int .i64 day, .slice sA seen.length sc, .string ⟨text.toArray⟩] w fun e w' => e = .returned (.int .i64 r.2.2) ∧ Sep w0 w' (devR B X r.2.1 :: diskR B r.1 :: Rs) := by
  have HE := Lib.hid (fun W (hb : Below w0.heap.size w0 W) => hE.below hb)
  obtain ⟨J, A, c, es, hes, hp⟩ := h.devPart
  obtain ⟨number, ents, loan, j⟩ := x
  obtain rfl : vsOf es = ents := hes
  simp only at hp
  have HCH : Hid (ChAt w A es.length es) := Lib.hid ⟨hp.sw.own.sl', hp.r3.sees, fun e he => by
    have h := hok.right e.v (List.mem_map.2 ⟨e, he, rfl⟩)
    have := h.len
    have := h.txt
    exact ⟨by omega, by omega⟩⟩
  have hfew : es.length ≤ 1000 := by have := hok.few; rwa [vsOf_len] at this
  obtain ⟨⟨NV, er⟩, hnx⟩ : ∃ q, nextF (vsOf es) number day seen text = q := ⟨_, rfl⟩
  have HNX : Hid (∀ W, Below w.heap.size w W → Calls Tryz.prog 126 #[.slice A es.length c, .int .i64 number, .int .i64 day, .slice sA seen.length sc, .string ⟨text.toArray⟩] W (EntPost W NV (.int .i64 er))) := Lib.hid fun W hb => Next_any W A es.length c es (HCH.out.below hb) hfew number day sA seen.length sc seen (hse.below hb) text (by omega) _ hnx
  unfold putD at hr
  rw [hnx] at hr
  simp only at hr
  have HR := Lib.hid hr
  have HNE := Lib.hid hnx
  have HOK := Lib.hid hok
  have HS := Lib.hid hp
  have HSS : Hid (∀ w', Below w.heap.size w w' → (w'.cell? ⟨X, 0, none⟩ = some (.int .i64 number) ∧ w'.cell? ⟨X, 2, none⟩ = some (.slice A es.length c))) := Lib.hid fun w' hb => ⟨(hp.loc.below hb).cell 0, (hp.loc.below hb).cell 2⟩
  clear h hE hok hse hnx hr hp hfew HCH
  go_enter Tryz.func76, Tryz.ntmps76
  go_upto_region 1 with (fail)
  go_cut [9, 10] (fun s9 s10 wy => ∃ (g : Nat) (v : EntC), s9 = .pointer (some ⟨g, 0, none⟩) ∧ s10 = .int .i64 er ∧ v.v = NV ∧ Sep w0 wy (boxR g v.cells.toArray :: boxR X (devX J number A es.length c loan) :: ownR 32 5 (.slice A es.length c) es.length (es.map EntC.cells) :: seesR (fun W => SeenAt es W ∧ EntAt W v) :: jourR B J j :: diskR B d :: Rs))
  case first =>
    refine wpTill.startN 18 (S := fun w' => w'.cell? ⟨X, 0, none⟩ = some (.int .i64 number) ∧ w'.cell? ⟨X, 2, none⟩ = some (.slice A es.length c)) (T := fun _ => True) (m := 300) rfl (by kernel_rfl) ?_
    have HBZ := Lib.hid (Below.drew (Below.refl w.heap.size w))
    have HQ := Lib.hid HS.out.drew
    generalize w.drew = wz at *
    refine wpTill.take (i := 0) (v := ?_) (by rfl) rfl (by kernel_rfl) (by kernel_rfl) (by kernel_rfl) (by exact fun _ _ _ h => h) (HSS.out _ HBZ.out) (fun _ => trivial) (Or.inl ⟨by rfl, ?_⟩) ?_
    rotate_left
    · (intro w' hSw; (try dsimp only at hSw); go_simp; (try with_reducible rfl))
    (try simp only [Act.put, List.setIfInBounds_toArray, List.set_cons_zero, List.set_cons_succ, List.getElem_toArray, List.getElem_cons_zero, List.getElem_cons_succ])
    refine wpTill.take (i := 1) (v := ?_) (by rfl) rfl (by kernel_rfl) (by kernel_rfl) (by kernel_rfl) (by exact fun _ _ _ h => h) (HSS.out _ HBZ.out) (fun _ => trivial) (Or.inl ⟨by rfl, ?_⟩) ?_
    rotate_left
    · (intro w' hSw; (try dsimp only at hSw); go_simp; (try with_reducible rfl))
    (try simp only [Act.put, List.setIfInBounds_toArray, List.set_cons_zero, List.set_cons_succ, List.getElem_toArray, List.getElem_cons_zero, List.getElem_cons_succ])
    refine wpTill.take (i := 2) (v := ?_) (by rfl) rfl (by kernel_rfl) (by kernel_rfl) (by kernel_rfl) (by exact fun _ _ _ h => h) (HSS.out _ HBZ.out) (fun _ => trivial) (Or.inl ⟨by rfl, ?_⟩) ?_
    rotate_left
    · (intro w' hSw; (try dsimp only at hSw); go_simp; (try with_reducible rfl))
    (try simp only [Act.put, List.setIfInBounds_toArray, List.set_cons_zero, List.set_cons_succ, List.getElem_toArray, List.getElem_cons_zero, List.getElem_cons_succ])
    refine wpTill.take (i := 3) (v := ?_) (by rfl) rfl (by kernel_rfl) (by kernel_rfl) (by kernel_rfl) (by exact fun _ _ _ h => h) (HSS.out _ HBZ.out) (fun _ => trivial) (Or.inl ⟨by rfl, ?_⟩) ?_
    rotate_left
    · (intro w' hSw; (try dsimp only at hSw); go_simp; (try with_reducible rfl))
    (try simp only [Act.put, List.setIfInBounds_toArray, List.set_cons_zero, List.set_cons_succ, List.getElem_toArray, List.getElem_cons_zero, List.getElem_cons_succ])
    refine wpTill.take (i := 4) (v := ?_) (by rfl) rfl (by kernel_rfl) (by kernel_rfl) (by kernel_rfl) (by exact fun _ _ _ h => h) (HSS.out _ HBZ.out) (fun _ => trivial) (Or.inl ⟨by rfl, ?_⟩) ?_
    rotate_left
    · (intro w' hSw; (try dsimp only at hSw); go_simp; (try with_reducible rfl))
    (try simp only [Act.put, List.setIfInBounds_toArray, List.set_cons_zero, List.set_cons_succ, List.getElem_toArray, List.getElem_cons_zero, List.getElem_cons_succ])
    refine wpTill.take (i := 5) (v := ?_) (by rfl) rfl (by kernel_rfl) (by kernel_rfl) (by kernel_rfl) (by exact fun _ _ _ h => h) (HSS.out _ HBZ.out) (fun _ => trivial) (Or.inl ⟨by rfl, ?_⟩) ?_
    rotate_left
    · (intro w' hSw; (try dsimp only at hSw); go_simp; (try with_reducible rfl))
    (try simp only [Act.put, List.setIfInBounds_toArray, List.set_cons_zero, List.set_cons_succ, List.getElem_toArray, List.getElem_cons_zero, List.getElem_cons_succ])
    refine wpTill.take (i := 6) (v := ?_) (by rfl) rfl (by kernel_rfl) (by kernel_rfl) (by kernel_rfl) (by exact fun _ _ _ h => h) (HSS.out _ HBZ.out) (fun _ => trivial) (Or.inl ⟨by rfl, ?_⟩) ?_
    rotate_left
    · (intro w' hSw; (try dsimp only at hSw); go_simp; (try with_reducible rfl))
    (try simp only [Act.put, List.setIfInBounds_toArray, List.set_cons_zero, List.set_cons_succ, List.getElem_toArray, List.getElem_cons_zero, List.getElem_cons_succ])
    refine wpTill.take (i := 7) (v := ?_) (by rfl) rfl (by kernel_rfl) (by kernel_rfl) (by kernel_rfl) (by exact fun _ _ _ h => h) (HSS.out _ HBZ.out) (fun _ => trivial) (Or.inl ⟨by rfl, ?_⟩) ?_
    rotate_left
    · (intro w' hSw; (try dsimp only at hSw); go_simp; (try with_reducible rfl))
    (try simp only [Act.put, List.setIfInBounds_toArray, List.set_cons_zero, List.set_cons_succ, List.getElem_toArray, List.getElem_cons_zero, List.getElem_cons_succ])
    refine wpTill.take (i := 8) (v := ?_) (by rfl) rfl (by kernel_rfl) (by kernel_rfl) (by kernel_rfl) (by exact fun _ _ _ h => h) (HSS.out _ HBZ.out) (fun _ => trivial) (Or.inl ⟨by rfl, ?_⟩) ?_
    rotate_left
    · (intro w' hSw; (try dsimp only at hSw); go_simp; (try with_reducible rfl))
    (try simp only [Act.put, List.setIfInBounds_toArray, List.set_cons_zero, List.set_cons_succ, List.getElem_toArray, List.getElem_cons_zero, List.getElem_cons_succ])
    refine wpTill.take (i := 9) (v := ?_) (by rfl) rfl (by kernel_rfl) (by kernel_rfl) (by kernel_rfl) (by exact fun _ _ _ h => h) (HSS.out _ HBZ.out) (fun _ => trivial) (Or.inl ⟨by rfl, ?_⟩) ?_
    rotate_left
    · (intro w' hSw; (try dsimp only at hSw); go_simp; (try with_reducible rfl))
    (try simp only [Act.put, List.setIfInBounds_toArray, List.set_cons_zero, List.set_cons_succ, List.getElem_toArray, List.getElem_cons_zero, List.getElem_cons_succ])
    refine wpTill.take (i := 10) (v := ?_) (by rfl) rfl (by kernel_rfl) (by kernel_rfl) (by kernel_rfl) (by exact fun _ _ _ h => h) (HSS.out _ HBZ.out) (fun _ => trivial) (Or.inl ⟨by rfl, ?_⟩) ?_
    rotate_left
    · (intro w' hSw; (try dsimp only at hSw); go_simp; (try with_reducible rfl))
    (try simp only [Act.put, List.setIfInBounds_toArray, List.set_cons_zero, List.set_cons_succ, List.getElem_toArray, List.getElem_cons_zero, List.getElem_cons_succ])
    refine wpTill.step2 (i := 11) (j := 15) (by kernel_rfl) (by rfl) (by rfl) (fun K' hK => ?_) (fun K' hK => ?_)
    rotate_left
    · as_aux_lemma =>
      replace hK := Lib.hid hK
      go_simp
      replace HQ := Lib.hid (HQ.out.box #[.int .i64 0, .int .i64 0, .int .i64 0, .slice none 0 0, .string ⟨#[]⟩] 32)
      replace HBZ := Lib.hid (HBZ.out.alloc HBZ.out.size (.cells #[.int .i64 0, .int .i64 0, .int .i64 0, .slice none 0 0, .string ⟨#[]⟩] 32))
      refine hK.out _ _ (HSS.out _ HBZ.out) (fun _ => trivial) ?_
      clear hK K'
      (try simp only [Act.put, List.setIfInBounds_toArray, List.set_cons_zero, List.set_cons_succ, List.getElem_toArray, List.getElem_cons_zero, List.getElem_cons_succ])
      generalize wz.alloc (.cells #[.int .i64 0, .int .i64 0, .int .i64 0, .slice none 0 0, .string ⟨#[]⟩] 32) = wX at *
      generalize wz.heap.size = gX at *
      refine wpTill.step (i := 11) (by kernel_rfl) (by rfl) (fun K' hK => ?_)
      replace hK := Lib.hid hK
      go_simp
      go_at_call 126
      ((with_reducible refine (HNX.out _ HBZ.out).mono ?_); rintro _ wN ⟨⟨⟨xd, xn, xy, xs, xt⟩, xA, xc⟩, hxv, rfl, hxf, hbN⟩)
      simp only at hxf hxv ⊢
      simp only [EntC.cells]
      have HXV := Lib.hid hxv
      replace HQ := Lib.hid ((HQ.out.r4.seesAdd hbN (Sl.rests hxf)).l4)
      replace HBZ := Lib.hid (HBZ.out.trans (hbN.mono HBZ.out.size))
      clear hxv hxf hbN
      refine hK.out _ _ (HSS.out _ HBZ.out) (fun _ => trivial) ?_
      clear hK K'
      (try simp only [Act.put, List.setIfInBounds_toArray, List.set_cons_zero, List.set_cons_succ, List.getElem_toArray, List.getElem_cons_zero, List.getElem_cons_succ])
      refine wpTill.take (i := 12) (v := ?_) (by rfl) rfl (by kernel_rfl) (by kernel_rfl) (by kernel_rfl) (by exact fun _ _ _ h => h) (HSS.out _ HBZ.out) (fun _ => trivial) (Or.inl ⟨by rfl, ?_⟩) ?_
      rotate_left
      · (intro w' hSw; (try dsimp only at hSw); go_simp; (try with_reducible rfl))
      (try simp only [Act.put, List.setIfInBounds_toArray, List.set_cons_zero, List.set_cons_succ, List.getElem_toArray, List.getElem_cons_zero, List.getElem_cons_succ])
      refine wpTill.take (i := 13) (v := ?_) (by rfl) rfl (by kernel_rfl) (by kernel_rfl) (by kernel_rfl) (by exact fun _ _ _ h => h) (HSS.out _ HBZ.out) (fun _ => trivial) (Or.inl ⟨by rfl, ?_⟩) ?_
      rotate_left
      · (intro w' hSw; (try dsimp only at hSw); go_simp; (try with_reducible rfl))
      (try simp only [Act.put, List.setIfInBounds_toArray, List.set_cons_zero, List.set_cons_succ, List.getElem_toArray, List.getElem_cons_zero, List.getElem_cons_succ])
      refine wpTill.take (i := 14) (v := ?_) (by rfl) rfl (by kernel_rfl) (by kernel_rfl) (by kernel_rfl) (by exact fun _ _ _ h => h) (HSS.out _ HBZ.out) (fun _ => trivial) (Or.inl ⟨by rfl, ?_⟩) ?_
      rotate_left
      · (intro w' hSw; (try dsimp only at hSw); go_simp; (try with_reducible rfl))
      (try simp only [Act.put, List.setIfInBounds_toArray, List.set_cons_zero, List.set_cons_succ, List.getElem_toArray, List.getElem_cons_zero, List.getElem_cons_succ])
      obtain ⟨zE, kE, fE⟩ := HQ.out.loc
      refine wpTill.step (i := 16) (by kernel_rfl) (by rfl) (fun K' hK => ?_)
      replace hK := Lib.hid hK
      go_simp
      have HQ2 := Lib.hid (HQ.out.setEntD ⟨⟨xd, xn, xy, xs, xt⟩, xA, xc⟩)
      simp only [EntC.cells] at HQ2
      refine hK.out _ _ ⟨HQ2.out.sw.loc.cell 0, HQ2.out.sw.loc.cell 2⟩ (fun _ => trivial) ?_
      clear hK K'
      (try simp only [Act.put, List.setIfInBounds_toArray, List.set_cons_zero, List.set_cons_succ, List.getElem_toArray, List.getElem_cons_zero, List.getElem_cons_succ])
      refine wpTill.take (i := 17) (v := ?_) (by rfl) rfl (by kernel_rfl) (by kernel_rfl) (by kernel_rfl) (by exact fun _ _ _ h => h) ⟨HQ2.out.sw.loc.cell 0, HQ2.out.sw.loc.cell 2⟩ (fun _ => trivial) (Or.inl ⟨by rfl, ?_⟩) ?_
      rotate_left
      · (intro w' hSw; (try dsimp only at hSw); go_simp; (try with_reducible rfl))
      (try simp only [Act.put, List.setIfInBounds_toArray, List.set_cons_zero, List.set_cons_succ, List.getElem_toArray, List.getElem_cons_zero, List.getElem_cons_succ])
      refine wpTill.stop (by kernel_rfl) ?_ _
      go_wp2_with (fail)
      go_meet
      exact ⟨_, ⟨⟨xd, xn, xy, xs, xt⟩, xA, xc⟩, rfl, rfl, HXV.out, HQ2.out⟩
    replace hK := Lib.hid hK
    go_simp
    go_at_call 126
    ((with_reducible refine (HNX.out _ HBZ.out).mono ?_); rintro _ wN ⟨⟨⟨xd, xn, xy, xs, xt⟩, xA, xc⟩, hxv, rfl, hxf, hbN⟩)
    simp only at hxf hxv ⊢
    simp only [EntC.cells]
    have HXV := Lib.hid hxv
    replace HQ := Lib.hid ((HQ.out.r3.seesAdd hbN (Sl.rests hxf)).l3)
    replace HBZ := Lib.hid (HBZ.out.trans (hbN.mono HBZ.out.size))
    clear hxv hxf hbN
    refine hK.out _ _ (HSS.out _ HBZ.out) (fun _ => trivial) ?_
    clear hK K'
    (try simp only [Act.put, List.setIfInBounds_toArray, List.set_cons_zero, List.set_cons_succ, List.getElem_toArray, List.getElem_cons_zero, List.getElem_cons_succ])
    refine wpTill.take (i := 12) (v := ?_) (by rfl) rfl (by kernel_rfl) (by kernel_rfl) (by kernel_rfl) (by exact fun _ _ _ h => h) (HSS.out _ HBZ.out) (fun _ => trivial) (Or.inl ⟨by rfl, ?_⟩) ?_
    rotate_left
    · (intro w' hSw; (try dsimp only at hSw); go_simp; (try with_reducible rfl))
    (try simp only [Act.put, List.setIfInBounds_toArray, List.set_cons_zero, List.set_cons_succ, List.getElem_toArray, List.getElem_cons_zero, List.getElem_cons_succ])
    refine wpTill.take (i := 13) (v := ?_) (by rfl) rfl (by kernel_rfl) (by kernel_rfl) (by kernel_rfl) (by exact fun _ _ _ h => h) (HSS.out _ HBZ.out) (fun _ => trivial) (Or.inl ⟨by rfl, ?_⟩) ?_
    rotate_left
    · (intro w' hSw; (try dsimp only at hSw); go_simp; (try with_reducible rfl))
    (try simp only [Act.put, List.setIfInBounds_toArray, List.set_cons_zero, List.set_cons_succ, List.getElem_toArray, List.getElem_cons_zero, List.getElem_cons_succ])
    refine wpTill.take (i := 14) (v := ?_) (by rfl) rfl (by kernel_rfl) (by kernel_rfl) (by kernel_rfl) (by exact fun _ _ _ h => h) (HSS.out _ HBZ.out) (fun _ => trivial) (Or.inl ⟨by rfl, ?_⟩) ?_
    rotate_left
    · (intro w' hSw; (try dsimp only at hSw); go_simp; (try with_reducible rfl))
    (try simp only [Act.put, List.setIfInBounds_toArray, List.set_cons_zero, List.set_cons_succ, List.getElem_toArray, List.getElem_cons_zero, List.getElem_cons_succ])
    refine wpTill.step (i := 15) (by kernel_rfl) (by rfl) (fun K' hK => ?_)
    replace hK := Lib.hid hK
    go_simp
    replace HQ := Lib.hid (HQ.out.box #[.int .i64 0, .int .i64 0, .int .i64 0, .slice none 0 0, .string ⟨#[]⟩] 32)
    replace HBZ := Lib.hid (HBZ.out.alloc HBZ.out.size (.cells #[.int .i64 0, .int .i64 0, .int .i64 0, .slice none 0 0, .string ⟨#[]⟩] 32))
    refine hK.out _ _ (HSS.out _ HBZ.out) (fun _ => trivial) ?_
    clear hK K'
    (try simp only [Act.put, List.setIfInBounds_toArray, List.set_cons_zero, List.set_cons_succ, List.getElem_toArray, List.getElem_cons_zero, List.getElem_cons_succ])
    generalize wN.alloc (.cells #[.int .i64 0, .int .i64 0, .int .i64 0, .slice none 0 0, .string ⟨#[]⟩] 32) = wX at *
    generalize wN.heap.size = gX at *
    obtain ⟨zE, kE, fE⟩ := HQ.out.loc
    refine wpTill.step (i := 16) (by kernel_rfl) (by rfl) (fun K' hK => ?_)
    replace hK := Lib.hid hK
    go_simp
    have HQ2 := Lib.hid (HQ.out.setEntD ⟨⟨xd, xn, xy, xs, xt⟩, xA, xc⟩)
    simp only [EntC.cells] at HQ2
    refine hK.out _ _ ⟨HQ2.out.sw.loc.cell 0, HQ2.out.sw.loc.cell 2⟩ (fun _ => trivial) ?_
    clear hK K'
    (try simp only [Act.put, List.setIfInBounds_toArray, List.set_cons_zero, List.set_cons_succ, List.getElem_toArray, List.getElem_cons_zero, List.getElem_cons_succ])
    refine wpTill.take (i := 17) (v := ?_) (by rfl) rfl (by kernel_rfl) (by kernel_rfl) (by kernel_rfl) (by exact fun _ _ _ h => h) ⟨HQ2.out.sw.loc.cell 0, HQ2.out.sw.loc.cell 2⟩ (fun _ => trivial) (Or.inl ⟨by rfl, ?_⟩) ?_
    rotate_left
    · (intro w' hSw; (try dsimp only at hSw); go_simp; (try with_reducible rfl))
    (try simp only [Act.put, List.setIfInBounds_toArray, List.set_cons_zero, List.set_cons_succ, List.getElem_toArray, List.getElem_cons_zero, List.getElem_cons_succ])
    refine wpTill.stop (by kernel_rfl) ?_ _
    go_wp2_with (fail)
    go_meet
    exact ⟨_, ⟨⟨xd, xn, xy, xs, xt⟩, xA, xc⟩, rfl, rfl, HXV.out, HQ2.out⟩
  case rest =>
    obtain ⟨g, ⟨⟨vd, vn, vy, vs, vt⟩, vA, vc⟩, rfl, rfl, hv, hq⟩ := hcut
    obtain ⟨w2, rfl⟩ : ∃ w2 : World, w2 = wc := ⟨_, rfl⟩
    simp only at hv
    have HS2 := Lib.hid hq
    have HSP := Lib.hid ((hq.drop.r3.seesTurn (ψ := SeenAt es) fun W h => h.1).l3)
    have HEV := Lib.hid hq.r4.sees.2
    clear hq HNX HSS HS
    by_cases her : er = 0
    case neg =>
      have hr := HR.out
      rw [if_pos her] at hr
      subst hr
      have hb : (er == 0) = false := by rw [beq_eq_false_iff_ne]; exact her
      have hn : (er != 0) = true := by rw [bne_iff_ne]; exact her
      clear her
      go_wp2_with (fail)
      go_ret
      exact ⟨rfl, HSP.out.devPack rfl⟩
    subst her
    have hrt : RightE NV := nextF_right HNE.out
    have henc : encodeF NV = (encE NV, true) := by unfold encodeF; rw [if_pos (rightB_true.2 hrt)]
    have hr := HR.out
    rw [if_neg (fun h => h rfl), henc] at hr
    simp only at hr
    have HEN := Lib.hid (Encode_any w2 (HE.out w2 HS2.out.base) HS2.out.base.size ⟨⟨vd, vn, vy, vs, vt⟩, vA, vc⟩ HEV.out (by have h1 := hrt.len; have h2 := hrt.txt; rw [← hv] at h1 h2; simp only at h1 h2 ⊢; exact ⟨by omega, by omega⟩) (encE NV, true) (by rw [← henc]; exact congrArg encodeF hv))
    have HEL : Hid ((encE NV).length ≤ 1099511627776) := Lib.hid (by have h1 := encE_short hrt; have h2 := hrt.txt; omega)
    have HV := Lib.hid hv
    have HRT := Lib.hid hrt
    obtain ⟨⟨d2, j2, e2⟩, hap⟩ : ∃ q, appendJ d j (encE NV) = q := ⟨_, rfl⟩
    rw [hap] at hr
    simp only at hr
    simp only [EntC.cells] at HEN
    have HSA := Lib.hid HS2.out.r6.r6
    obtain ⟨zg, kg, fg⟩ := HS2.out.loc
    simp only [EntC.cells] at kg
    obtain ⟨zX, kX, fX⟩ := HS2.out.sw.loc
    clear HR hv hrt henc HSP
    go_wp2_with (fail)
    ((with_reducible refine HEN.out.mono ?_); rintro _ w3 ⟨rfl, hb3⟩)
    have HS3 := Lib.hid (HSA.out.below hb3)
    clear hb3 HSA HS2 HEN zg kg fg zX kX fX HEV
    obtain ⟨zX, kX, fX⟩ := HS3.out.r4.loc
    go_wp2_with (fail)
    ((with_reducible refine (Append_sep HS3.out (HE.out w0 (Below.refl _ _)) HOK.out.bytes (by have h := HOK.out.recs; simp only at h; omega) (encE NV) HEL.out _ hap).mono ?_); rintro _ w4 ⟨rfl, h4⟩)
    simp only at h4
    have HS4 := Lib.hid h4.r6.r6.r6.r6
    clear h4 hap HS3 zX kX fX
    by_cases he2 : e2 = 0
    case neg =>
      rw [if_pos he2] at hr
      subst hr
      have hb : (e2 == 0) = false := by rw [beq_eq_false_iff_ne]; exact he2
      have hn : (e2 != 0) = true := by rw [bne_iff_ne]; exact he2
      have HSP := Lib.hid ((HS4.out.drop.r3.seesTurn (ψ := SeenAt es) fun W h => h.1).l3)
      clear he2
      go_wp2_with (fail)
      go_ret
      exact ⟨rfl, HSP.out.devPack rfl⟩
    subst he2
    rw [if_neg (fun h => h rfl)] at hr
    subst hr
    obtain ⟨i0, hi0, hi1, hi2, hi3⟩ := info_parts infoEnt
    have HO := Lib.hid HS4.out.r3.own
    have HNB := Lib.hid HS4.out.drop.own_ne
    have hfw : es.length ≤ 1000 := by have h := HOK.out.few; simp only [vsOf_len] at h; exact h
    obtain ⟨zg, kg, fg⟩ := HS4.out.loc
    simp only [EntC.cells] at kg
    obtain ⟨zX, kX, fX⟩ := HS4.out.sw.loc
    go_upto_region 8 with (fail)
    go_cut [] (fun wx => ∃ A8 c8, Sep w0 wx (boxR X (devX J number A8 (es.length + 1) c8 loan) :: ownR 32 5 (.slice A8 (es.length + 1) c8) (es.length + 1) ((es ++ [(⟨⟨vd, vn, vy, vs, vt⟩, vA, vc⟩ : EntC)]).map EntC.cells) :: seesR (SeenAt (es ++ [(⟨⟨vd, vn, vy, vs, vt⟩, vA, vc⟩ : EntC)])) :: jourR B J j2 :: diskR B d2 :: Rs))
    case first =>
      go_region_law (first
        | (refine step_append_sl _ (by rfl) (.tmp 50) (.tmp 52) _ (by rfl) w0.heap.size 32 i0 _ 5 64 Tryz.underlying22 hi0 hi1 hi2 hi3 rfl (by omega) (.slice A es.length c) es.length (es.map EntC.cells) (by rfl) (by first | exact HO.out | exact HO.out.alloc _ | exact (HO.out.alloc _).drew | exact HO.out.drew.alloc _) (some ⟨w4.heap.size, 0, none⟩) 1 1 ([(⟨⟨vd, vn, vy, vs, vt⟩, vA, vc⟩ : EntC)].map EntC.cells) (by rfl) (by first | exact Sl.new_ _ _ _ | exact Sl.drew (Sl.new_ _ _ _)) (ents_len _) (ents_one _) (by simp only [maxLen]; omega) (by omega) (by have := HS4.out.base.size; simp; omega) ?_
           intro A8 c8 w8 hown hg hat
           obtain ⟨z8, k8, f8⟩ := (((HS4.out.sw.loc.drew).alloc (.cells #[.int .i64 vd, .int .i64 vn, .int .i64 vy, .slice vA vs.length vc, .string ⟨vt.toArray⟩] 32)).grown hg HNB.out)
           have hs8 := (((HS4.out.drop.drew).alloc (.cells #[.int .i64 vd, .int .i64 vn, .int .i64 vy, .slice vA vs.length vc, .string ⟨vt.toArray⟩] 32)).sw.grown hown hg hat).sw))
      all_goals
        go_wp2_with (fail)
        go_meet
        have hq8 := (((hs8.set_ 2 (.slice A8 (es.length + 1) c8)).r3.seesTurn (ψ := SeenAt (es ++ [(⟨⟨vd, vn, vy, vs, vt⟩, vA, vc⟩ : EntC)])) fun W h u hu => by
          rcases List.mem_append.1 hu with h1 | h1
          · exact h.1 u h1
          · rw [List.mem_singleton.1 h1]; exact h.2).l3)
        rw [List.map_append]
        exact ⟨A8, c8, hq8⟩
    case rest =>
      obtain ⟨A8, c8, h8⟩ := hcut
      obtain ⟨w8, rfl⟩ : ∃ w8 : World, w8 = wc := ⟨_, rfl⟩
      have HS8 := Lib.hid h8
      obtain ⟨⟨⟨sd, su, ss, sb⟩, so⟩, hst⟩ : ∃ q, stepL text loan = q := ⟨_, rfl⟩
      have HST := Lib.hid (step_any w8 (HE.out w8 h8.base) h8.base.size text (by omega) loan _ hst)
      simp only [loanX] at HST
      clear h8 zX kX fX zg kg fg HS4 HO HNB hfw
      obtain ⟨zX, kX, fX⟩ := HS8.out.loc
      go_wp2_with (fail)
      ((with_reducible refine HST.out.mono ?_); rintro _ w9 ⟨rfl, hb9⟩)
      have HS9 := Lib.hid (HS8.out.below hb9)
      clear hb9 HS8 HST zX kX fX
      obtain ⟨zX, kX, fX⟩ := HS9.out.loc
      go_wp2_with (fail)
      go_ret
      have hq9 := ((((HS9.out.set_ 3 (.int .i64 sd)).set_ 4 (.int .i64 su)).set_ 5 (.int .i64 ss)).set_ 6 (.bool sb))
      refine ⟨rfl, Sep.devPack (x := ⟨number, vsOf es ++ [NV], ⟨sd, su, ss, sb⟩, j2⟩) (J := J) (A := A8) (c := c8) (es := es ++ [(⟨⟨vd, vn, vy, vs, vt⟩, vA, vc⟩ : EntC)]) ?_ (by simp [vsOf, HV.out])⟩
      rw [List.length_append]
      exact hq9
end
end Go.Proofs.YtjncmlglhegnaaaGreatDoor
namespace Go.Proofs.YtjncmlglhegnaaaGreatDoor
open Go.RowKit Go.Sort

section
variable {w0 w w' : World} {Rs : List Res} {B X : Nat} {d d' : DV} {x : DevV}
set_option maxRecDepth 100000 in
set_option maxHeartbeats 4000000 in
theorem writeD_sep (h : Sep w0 w (devR B X x :: diskR B d :: Rs)) (hE : Env w0.heap.size w0) (hok : DevOk x) (day : Int) (sA : Option Addr) (sc : Nat) (seen : List Int) (hse : Sl w 1 sA seen.length (seen.map intC)) (text : List UInt8) (ht : text.length ≤ 1099511627776) (r : DV × DevV × Int) (hr : writeD d x day seen text = r) :
    Calls Tryz.prog 27 #[.pointer (some ⟨X, 0, none⟩), .int .i64 day, .slice sA seen.length sc, .string ⟨text.toArray⟩] w fun e w' => e = .returned (.int .i64 r.2.2) ∧ Sep w0 w' (devR B X r.2.1 :: diskR B r.1 :: Rs) := by
  obtain ⟨b, hb⟩ : ∃ b, resB text = b := ⟨_, rfl⟩
  have HB := Lib.hid (reserved_any w text b hb)
  have HS := Lib.hid h
  have hsz := str_size text
  unfold writeD at hr
  rw [hb] at hr
  cases b
  case true =>
    rw [if_pos rfl] at hr
    subst hr
    clear h hE hok hse hb
    go_enter Tryz.func27, Tryz.ntmps27
    go_wp2_with ((with_reducible refine HB.out.mono ?_); rintro _ w9 ⟨rfl, hw9⟩; obtain rfl := hw9)
    go_ret
    exact ⟨rfl, HS.out⟩
  rw [if_neg (by simp)] at hr
  by_cases h3 : 3000 < text.length
  · rw [if_pos h3] at hr
    subst hr
    have h3i : (3000 : Int) < (text.length : Int) := by omega
    clear h hE hok hse hb h3
    go_enter Tryz.func27, Tryz.ntmps27
    go_wp2_with ((with_reducible refine HB.out.mono ?_); rintro _ w9 ⟨rfl, hw9⟩; obtain rfl := hw9)
    go_ret
    exact ⟨rfl, HS.out⟩
  rw [if_neg h3] at hr
  have h3i : (text.length : Int) ≤ 3000 := by omega
  have HP := Lib.hid (put_sep h hE hok day sA sc seen hse text ht r hr)
  clear h hE hok hse hb h3 hr ht
  go_enter Tryz.func27, Tryz.ntmps27
  go_wp2_with (first
    | ((with_reducible refine HB.out.mono ?_); rintro _ w9 ⟨rfl, hw9⟩; obtain rfl := hw9)
    | ((with_reducible refine HP.out.mono ?_); rintro _ w9 ⟨rfl, h9⟩))
  go_ret
  exact ⟨rfl, h9⟩
set_option maxRecDepth 100000 in
set_option maxHeartbeats 4000000 in
theorem dur_sep (h : Sep w0 w (devR B X x :: diskR B d :: Rs)) (hE : Env w0.heap.size w0) (hok : DevOk x) (day : Int) (sA : Option Addr) (sc : Nat) (seen : List Int) (hse : Sl w 1 sA seen.length (seen.map intC)) (text : List UInt8) (ht : text.length ≤ 1099511627776) (e : Int) (r : DV × DevV × Int) (hr : durD d x day seen text e = r) :
    Calls Tryz.prog 78 #[.pointer (some ⟨X, 0, none⟩), .int .i64 day, .slice sA seen.length sc, .string ⟨text.toArray⟩, .int .i64 e] w fun e w' => e = .returned (.int .i64 r.2.2) ∧ Sep w0 w' (devR B X r.2.1 :: diskR B r.1 :: Rs) := by
  have HS := Lib.hid h
  unfold durD at hr
  by_cases he : e = 0
  case neg =>
    rw [if_pos he] at hr
    subst hr
    have hb : (e == 0) = false := by rw [beq_eq_false_iff_ne]; exact he
    have hn : (e != 0) = true := by rw [bne_iff_ne]; exact he
    clear h hE hok hse he
    go_enter Tryz.func78, Tryz.ntmps78
    go_wp2_with (fail)
    go_ret
    exact ⟨rfl, HS.out⟩
  subst he
  rw [if_neg (fun h => h rfl)] at hr
  obtain ⟨⟨d2, x2, e2⟩, hp⟩ : ∃ q, putD d x day seen text = q := ⟨_, rfl⟩
  have HP := Lib.hid (put_sep h hE hok day sA sc seen hse text ht _ hp)
  rw [hp] at hr
  simp only at hr
  clear h hE hok hse hp ht
  by_cases h2 : e2 = 0
  case neg =>
    rw [if_pos h2] at hr
    subst hr
    have hb : (e2 == 0) = false := by rw [beq_eq_false_iff_ne]; exact h2
    have hn : (e2 != 0) = true := by rw [bne_iff_ne]; exact h2
    clear h2
    go_enter Tryz.func78, Tryz.ntmps78
    go_wp2_with ((with_reducible refine HP.out.mono ?_); rintro _ w9 ⟨rfl, h9⟩)
    go_ret
    exact ⟨rfl, h9⟩
  subst h2
  rw [if_neg (fun h => h rfl)] at hr
  have HR := Lib.hid hr
  clear hr
  go_enter Tryz.func78, Tryz.ntmps78
  go_wp2_with (fail)
  ((with_reducible refine HP.out.mono ?_); rintro _ w9 ⟨rfl, h9⟩)
  (try simp only at h9)
  obtain ⟨J, A, c, es, hes, hq⟩ := h9.devPart
  obtain ⟨number, ents, loan, j⟩ := x2
  (try simp only at hes hq)
  have hr := HR.out
  (try simp only at hr)
  obtain ⟨⟨d3, j3, e3⟩, hy⟩ : ∃ q, syncJ d2 j = q := ⟨_, rfl⟩
  rw [hy] at hr
  subst hr
  have HQ := Lib.hid hq
  have HY := Lib.hid (SyncJ_sep hq.r5.r5 _ hy)
  have HES := Lib.hid hes
  obtain ⟨zX, kX, fX⟩ := hq.loc
  clear h9 hq HR HP HS hes hy
  go_wp2_with (fail)
  ((with_reducible refine HY.out.mono ?_); rintro _ w8 ⟨rfl, h8⟩)
  clear zX kX fX
  (try simp only at h8)
  have HS8 := Lib.hid h8.r5.r5.r5
  clear h8
  go_wp2_with (fail)
  go_ret
  exact ⟨rfl, Sep.devPack (x := ⟨number, ents, loan, j3⟩) HS8.out HES.out⟩
end
end Go.Proofs.YtjncmlglhegnaaaGreatDoor
namespace Go.Proofs.YtjncmlglhegnaaaGreatDoor
open Go.RowKit Go.Sort

section
variable {w0 w w' : World} {Rs : List Res} {B X : Nat} {d d' : DV} {x : DevV}
set_option maxRecDepth 100000 in
set_option maxHeartbeats 4000000 in
theorem returnD_sep (h : Sep w0 w (devR B X x :: diskR B d :: Rs)) (hE : Env w0.heap.size w0) (hok : DevOk x) (day : Int) (sA : Option Addr) (sc : Nat) (seen : List Int) (hse : Sl w 1 sA seen.length (seen.map intC)) (r : DV × DevV × Int) (hr : returnD d x day seen = r) :
    Calls Tryz.prog 31 #[.pointer (some ⟨X, 0, none⟩), .int .i64 day, .slice sA seen.length sc] w fun e w' => e = .returned (.int .i64 r.2.2) ∧ Sep w0 w' (devR B X r.2.1 :: diskR B r.1 :: Rs) := by
  obtain ⟨J, A, c, es, hes, hq⟩ := h.devPart
  obtain ⟨⟨⟨ld, lu, ls, lb⟩, le⟩, hrl⟩ : ∃ rl, returnF x.loan = rl := ⟨_, rfl⟩
  have HRT := Lib.hid (fun W => Return_any x.loan.device x.loan.units x.loan.spent x.loan.back _ hrl W)
  unfold returnD at hr
  rw [hrl] at hr
  simp only at hr
  have HD : Hid (∀ W, Below w.heap.size w W → Calls Tryz.prog 78 #[.pointer (some ⟨X, 0, none⟩), .int .i64 day, .slice sA seen.length sc, .string ⟨#[33, 98]⟩, .int .i64 le] W fun e w' => e = .returned (.int .i64 r.2.2) ∧ Sep w0 w' (devR B X r.2.1 :: diskR B r.1 :: Rs)) :=
    Lib.hid fun W hb => dur_sep (h.below hb) hE hok day sA sc seen (hse.below hb) backT (by simp [backT]) le r hr
  obtain ⟨zX, kX, fX⟩ := hq.loc
  clear h hE hok hse hr hrl hes hq
  go_enter Tryz.func31, Tryz.ntmps31
  go_wp2_with (fail)
  ((with_reducible refine (HRT.out _).mono ?_); rintro _ w1 ⟨rfl, hb1⟩)
  have HB1 := Lib.hid (hb1.alloc hb1.size (.cells #[.int .i64 ld, .int .i64 lu, .int .i64 ls, .bool lb] 24))
  clear zX kX fX hb1
  go_wp2_with (fail)
  ((with_reducible refine (HD.out _ HB1.out).mono ?_); rintro _ w2 ⟨rfl, h2⟩)
  go_wp2_with (fail)
  go_ret
  exact ⟨rfl, h2⟩
set_option maxRecDepth 100000 in
set_option maxHeartbeats 4000000 in
theorem spendD_sep (h : Sep w0 w (devR B X x :: diskR B d :: Rs)) (hE : Env w0.heap.size w0) (hok : DevOk x) (day : Int) (sA : Option Addr) (sc : Nat) (seen : List Int) (hse : Sl w 1 sA seen.length (seen.map intC)) (n : Int) (hn : -9223372036854775808 ≤ n ∧ n ≤ 9223372036854775807) (r : DV × DevV × Int) (hr : spendD d x day seen n = r) :
    Calls Tryz.prog 29 #[.pointer (some ⟨X, 0, none⟩), .int .i64 day, .slice sA seen.length sc, .int .i64 n] w fun e w' => e = .returned (.int .i64 r.2.2) ∧ Sep w0 w' (devR B X r.2.1 :: diskR B r.1 :: Rs) := by
  obtain ⟨J, A, c, es, hes, hq⟩ := h.devPart
  obtain ⟨⟨⟨ld, lu, ls, lb⟩, le⟩, hrl⟩ : ∃ rl, spendF x.loan n = rl := ⟨_, rfl⟩
  have HRT := Lib.hid (fun W => Spend_any x.loan.device x.loan.units x.loan.spent x.loan.back n _ hrl W)
  unfold spendD at hr
  rw [hrl] at hr
  simp only at hr
  obtain ⟨q, hqn⟩ : ∃ q, encN n = q := ⟨_, rfl⟩
  have hql : q.length ≤ 21 := by
    rw [← hqn]
    unfold encN
    split
    · simp
    · exact encI_len ⟨by omega, by omega⟩
  have hst : spendT n = [33, 115] ++ q := by unfold spendT; rw [hqn]
  rw [hst] at hr
  have HN := Lib.hid (fun W (hb : Below w.heap.size w W) => Num_any W (hE.below (h.base.trans (hb.mono h.base.size))).isTab n hn.1 hn.2 q hqn)
  have HD : Hid (∀ W, Below w.heap.size w W → Calls Tryz.prog 78 #[.pointer (some ⟨X, 0, none⟩), .int .i64 day, .slice sA seen.length sc, .string ((⟨#[33, 115]⟩ : ByteArray) ++ ⟨q.toArray⟩), .int .i64 le] W fun e w' => e = .returned (.int .i64 r.2.2) ∧ Sep w0 w' (devR B X r.2.1 :: diskR B r.1 :: Rs)) :=
    Lib.hid fun W hb => by
      have := dur_sep (h.below hb) hE hok day sA sc seen (hse.below hb) ([33, 115] ++ q) (by simp; omega) le r hr
      rw [← str_app] at this
      exact this
  have hz := str_size q
  have z1 : ((⟨#[33, 115]⟩ : ByteArray) ++ ⟨q.toArray⟩).size = 2 + q.length := by
    have := str_app [33, 115] q
    have e : (⟨#[33, 115]⟩ : ByteArray) = ⟨([33, 115] : List UInt8).toArray⟩ := rfl
    rw [e, this]
    simp [ByteArray.size]
    omega
  have i1 : ¬ 9223372036854775807 < 2 + q.length := by omega
  obtain ⟨zX, kX, fX⟩ := hq.loc
  clear h hE hok hse hr hrl hes hq hn hqn hst
  go_enter Tryz.func29, Tryz.ntmps29
  go_wp2_with (fail)
  ((with_reducible refine (HRT.out _).mono ?_); rintro _ w1 ⟨rfl, hb1⟩)
  have HB1 := Lib.hid (hb1.alloc hb1.size (.cells #[.int .i64 ld, .int .i64 lu, .int .i64 ls, .bool lb] 24))
  clear zX kX fX hb1
  go_wp2_with (fail)
  ((with_reducible refine (HN.out _ HB1.out).mono ?_); rintro _ w2 ⟨rfl, hb2⟩)
  have HB2 := Lib.hid (HB1.out.trans (hb2.mono HB1.out.size))
  clear hb2
  go_wp2_with (fail)
  ((with_reducible refine (HD.out _ HB2.out).mono ?_); rintro _ w3 ⟨rfl, h3⟩)
  go_wp2_with (fail)
  go_ret
  exact ⟨rfl, h3⟩
end
end Go.Proofs.YtjncmlglhegnaaaGreatDoor
namespace Go.Proofs.YtjncmlglhegnaaaGreatDoor
open Go.RowKit Go.Sort

theorem results_loan {W : World} {n : Nat} {l : LoanV} {tmps : Array Value} (h : Loc W n (loanX l)) (ht : tmps.getD 2 undef = .pointer (some ⟨n, 0, none⟩)) :
    (results Tryz.f38 tmps).run Tryz.prog W = .ok (.agg (loanX l)) W := by
  have ht' : tmps[2]?.getD undef = .pointer (some ⟨n, 0, none⟩) := by simpa using ht
  simp only [results, show Tryz.f38.results = #[.cell 2 24] from rfl]
  have hl := loadVar_loan h
  simp [ht', asAddr, hl]
section
variable {w0 w w' : World} {Rs : List Res} {B X : Nat} {x : DevV}
set_option maxRecDepth 100000 in
set_option maxHeartbeats 4000000 in
theorem Loan_sep (h : Sep w0 w (devR B X x :: Rs)) :
    Calls Tryz.prog 38 #[.pointer (some ⟨X, 0, none⟩)] w fun e w' => e = .returned (.agg (loanX x.loan)) ∧ Sep w0 w' (devR B X x :: Rs) := by
  obtain ⟨J, A, c, es, hes, hq⟩ := h.devPart
  have HS := Lib.hid (h.box #[.int .i64 0, .int .i64 0, .int .i64 0, .bool false] 24)
  have HSE := Lib.hid (h.box (loanX x.loan) 24)
  have HX := Lib.hid (hq.loc.below (below_alloc w (.cells #[.int .i64 0, .int .i64 0, .int .i64 0, .bool false] 24)))
  clear h hes hq
  obtain ⟨zX, kX, fX⟩ := HX.out
  go_enter Tryz.func38, Tryz.ntmps38
  obtain ⟨zL, kL, fL⟩ := HS.out.loc
  go_wp2_with (fail)
  exact bodyPost_ret (results_loan HSE.out.loc rfl) rfl ⟨rfl, HSE.out.drop⟩
end
end Go.Proofs.YtjncmlglhegnaaaGreatDoor
namespace Go.Proofs.YtjncmlglhegnaaaGreatDoor
open Go.RowKit Go.Sort

theorem Sep.storedD {w0 w : World} {e : TypeId} {g c n i size : Nat} {xs : List (List Value)} {x : List Value} {Rs : List Res} (h : Sep w0 w (ownR e size (.slice (some ⟨g, 0, none⟩) n c) n xs :: Rs)) (hx : xs[i]? = some x) (j : Nat) (hj : j < size) (u : Value) :
    Sep w0 (w.setCell ⟨g, i * size + j, none⟩ u) (ownR e size (.slice (some ⟨g, 0, none⟩) n c) n (xs.set i (x.set j u)) :: Rs) :=
  h.step fun F hF => ⟨F, ⟨hF.1.stored hx hj u, hF.2⟩, fun _ hk => .inl hk, Keeps.setCell ((hF.2 g).2 rfl) u⟩
section
variable {w0 w w' : World} {Rs : List Res} {B X : Nat} {x : DevV}
set_option maxRecDepth 100000 in
set_option maxHeartbeats 8000000 in
theorem All_dev (h : Sep w0 w (devR B X x :: Rs)) (hfew : x.ents.length ≤ 1000) (hrt : ∀ v ∈ x.ents, RightE v) :
    Calls Tryz.prog 36 #[.pointer (some ⟨X, 0, none⟩)] w fun e w' => ∃ A c fs, vsOf fs = x.ents ∧ e = .returned (.slice A fs.length c) ∧ Sep w0 w' (ownR 32 5 (.slice A fs.length c) fs.length (fs.map EntC.cells) :: seesR (SeenAt fs) :: devR B X x :: Rs) := by
  obtain ⟨J, A, c, es, hes, hq⟩ := h.devPart
  obtain ⟨n, hn⟩ : ∃ n, es.length = n := ⟨_, rfl⟩
  rw [← hes, vsOf_len, hn] at hfew
  rw [← hes] at hrt
  have HES := Lib.hid hes
  have HN := Lib.hid hn
  have HRT := Lib.hid hrt
  have HS0 := Lib.hid (hq.seesNew (φ := SeenAt []) fun _ u hu => by simp at hu)
  have hcl := CloneE_any A es.length c es w hq.sw.own.sl' (by omega)
  rw [hn] at hcl
  have HCL := Lib.hid hcl
  have hX := hq.loc
  rw [hn] at hX
  obtain ⟨zX, kX, fX⟩ := hX
  clear h hq hes hn hrt hcl
  go_enter Tryz.func36, Tryz.ntmps36
  go_wp2_with (fail)
  ((with_reducible refine HCL.out.mono ?_); rintro _ w1 ⟨A1, c1, rfl, ho1, hb1⟩)
  have HS1 := Lib.hid (HS0.out.ownNew hb1 ho1)
  clear ho1 hb1 HS0 HCL zX kX fX
  go_wp2_with (fail)
  go_loopw [12] (fun iv wr => ∃ (k : Nat) (fs : List EntC), iv = .int .i64 (k : Int) ∧ k ≤ n ∧ fs.length = k ∧ vsOf fs = (vsOf es).take k ∧ Sep w0 wr (ownR 32 5 (.slice A1 n c1) n ((fs ++ es.drop k).map EntC.cells) :: seesR (SeenAt fs) :: boxR X (devX J x.number A es.length c x.loan) :: ownR 32 5 (.slice A es.length c) es.length (es.map EntC.cells) :: seesR (SeenAt es) :: jourR B J x.j :: Rs)) (fun iv _ => n - (Go.RowKit.intOf iv).toNat)
  case atStart => exact ⟨0, [], rfl, Nat.zero_le _, rfl, rfl, HS1.out⟩
  case round =>
    obtain ⟨k, fs, rfl, hk, hfl, hfv, hS⟩ := hrel
    obtain ⟨wo, rfl⟩ : ∃ wo : World, wo = wr := ⟨_, rfl⟩
    have HSO := Lib.hid hS
    have HFL := Lib.hid hfl
    have HFV := Lib.hid hfv
    clear hS hfl hfv HS1
    by_cases hlt : k < n
    · obtain ⟨v, hv⟩ : ∃ v, es[k]? = some v := ⟨_, List.getElem?_eq_getElem (by rw [HN.out]; exact hlt)⟩
      have hv2 : (fs ++ es.drop k)[k]? = some v := by
        rw [List.getElem?_append_right (by rw [HFL.out]; exact Nat.le_refl _), HFL.out, Nat.sub_self, List.getElem?_drop, Nat.add_zero]
        exact hv
      obtain ⟨g, rfl⟩ : ∃ g, A1 = some ⟨g, 0, none⟩ := by
        rcases HSO.out.own.1.2 with ⟨_, h⟩ | ⟨g, cap, cur, hg, _⟩
        · omega
        · injection hg with hg; exact ⟨g, hg⟩
      obtain ⟨b, o, hA, hbl, d0, d1, d2, d3, d4⟩ := ent_at HSO.out.own.sl' hv2
      simp only [Option.some.injEq, Addr.mk.injEq, and_true] at hA
      obtain ⟨rfl, rfl⟩ := hA
      simp only [Nat.zero_add] at d0 d1 d2 d3 d4
      have hsl : v.v.seen.length ≤ 1000000 := by
        have := (HRT.out v.v (List.mem_map.2 ⟨v, List.mem_of_getElem? hv, rfl⟩)).len
        omega
      have HCI := Lib.hid (CloneI_any v.A v.v.seen.length v.c v.v.seen wo (HSO.out.r5.sees v (List.mem_of_getElem? hv)) hsl)
      have HV := Lib.hid hv
      have HV2 := Lib.hid hv2
      have hki : (k : Int) < (n : Int) := by omega
      have hk0 : (0 : Int) ≤ (k : Int) := by omega
      have hwk : IntKind.i64.wrap ((k : Int) + 1) = (k : Int) + 1 := IntWalk.i64_in _ (by omega)
      have HLT := Lib.hid hlt
      clear hv hv2 hsl hlt hk d0 d1 d2 d4
      go_wp2_with (fail)
      ((with_reducible refine HCI.out.mono ?_); rintro _ w2 ⟨A2, c2, rfl, ho2, hb2⟩)
      have HS2 := Lib.hid ((HSO.out.sw.seesAdd hb2 (Sl.rests ⟨ho2.sl', ho2.fresh⟩)).seesTurn (ψ := SeenAt (fs ++ [(⟨v.v, A2, c2⟩ : EntC)])) fun W h u hu => by
        rcases List.mem_append.1 hu with h1 | h1
        · exact h.1 u h1
        · rw [List.mem_singleton.1 h1]; exact h.2).sw
      have HST := Lib.hid (HS2.out.storedD (i := k) (x := v.cells) (by rw [List.getElem?_map, HV2.out]; rfl) 3 (by omega) (.slice A2 v.v.seen.length c2))
      have HSL := Lib.hid HS2.out.own.sl'
      clear ho2 hb2 HCI d3
      obtain ⟨b2, o2, hA2, hbl2, e0, e1, e2, e3, e4⟩ := ent_at HSL.out HV2.out
      simp only [Option.some.injEq, Addr.mk.injEq, and_true] at hA2
      obtain ⟨rfl, rfl⟩ := hA2
      simp only [Nat.zero_add] at e0 e1 e2 e3 e4
      obtain ⟨g', c', hgv, _, hgl, _, hfr⟩ := HS2.out.own.at_ (i := k) (x := v.cells) (by rw [List.getElem?_map, HV2.out]; rfl)
      simp only [Value.slice.injEq, Option.some.injEq, Addr.mk.injEq, and_true, true_and] at hgv
      obtain ⟨rfl, rfl⟩ := hgv
      go_wp2_with (fail)
      go_roundw
      case rel => 
        refine ⟨k + 1, fs ++ [(⟨v.v, A2, c2⟩ : EntC)], by go_num, HLT.out, by rw [List.length_append, HFL.out]; rfl, ?_, ?_⟩
        · rw [List.take_add_one, vsOf_at HV.out, Option.toList_some, ← HFV.out]
          simp [vsOf]
        · have hd : es.drop k = v :: es.drop (k + 1) := by
            obtain ⟨hi, he⟩ := List.getElem?_eq_some_iff.1 HV.out
            rw [List.drop_eq_getElem_cons hi, he]
          have hl : ((fs ++ es.drop k).map EntC.cells).set k (v.cells.set 3 (.slice A2 v.v.seen.length c2)) = ((fs ++ [(⟨v.v, A2, c2⟩ : EntC)] ++ es.drop (k + 1)).map EntC.cells) := by
            rw [hd, List.map_append, List.map_cons, List.set_append_right _ _ (by rw [List.length_map, HFL.out]; exact Nat.le_refl _), List.length_map, HFL.out, Nat.sub_self]
            simp [EntC.cells]
          have hs := HST.out
          rw [hl] at hs
          exact hs
      case measure => have := HLT.out; simp [Go.RowKit.intOf]; omega
    · obtain rfl : k = n := by omega
      have hki : ¬ ((k : Int) < (k : Int)) := by omega
      clear hlt hk
      have hfv := HFV.out
      rw [List.take_of_length_le (by rw [vsOf_len, HN.out]; exact Nat.le_refl _), HES.out] at hfv
      have HFE := Lib.hid hfv
      have hs := HSO.out
      rw [List.drop_eq_nil_of_le (by rw [HN.out]; exact Nat.le_refl _), List.append_nil] at hs
      have HSE := Lib.hid ((hs.r6.r6.r6.r6.devPack (x := x) HES.out).l3)
      clear hfv hs
      go_wp2_with (fail)
      go_ret
      refine ⟨A1, c1, fs, HFE.out, by rw [HFL.out]; rfl, ?_⟩
      rw [HFL.out]
      exact HSE.out
set_option maxRecDepth 100000 in
set_option maxHeartbeats 8000000 in
theorem Hand_sep {d : DV} (h : Sep w0 w (devR B X x :: diskR B d :: Rs)) (hfew : x.ents.length ≤ 1000) (hrt : ∀ v ∈ x.ents, RightE v) (r : DV × DevV × Int × List EntV) (hr : handD d x = r) :
    Calls Tryz.prog 33 #[.pointer (some ⟨X, 0, none⟩)] w fun e w' => ∃ A c fs, vsOf fs = r.2.2.2 ∧ e = .returned (.tuple #[.slice A fs.length c, .int .i64 r.2.2.1]) ∧ Sep w0 w' (ownR 32 5 (.slice A fs.length c) fs.length (fs.map EntC.cells) :: seesR (SeenAt fs) :: devR B X r.2.1 :: diskR B r.1 :: Rs) := by
  obtain ⟨J, A, c, es, hes, hq⟩ := h.devPart
  obtain ⟨number, ents, loan, j⟩ := x
  unfold handD at hr
  obtain ⟨⟨d2, j2, e2⟩, hy⟩ : ∃ q, syncJ d j = q := ⟨_, rfl⟩
  simp only [hy] at hr
  (try simp only at hes hq hfew hrt)
  have HY := Lib.hid (SyncJ_sep hq.r5.r5 _ hy)
  have HES := Lib.hid hes
  have HFEW := Lib.hid hfew
  have HRT := Lib.hid hrt
  obtain ⟨zX, kX, fX⟩ := hq.loc
  clear h hq hes hy hfew hrt
  go_enter Tryz.func33, Tryz.ntmps33
  go_wp2_with (fail)
  ((with_reducible refine HY.out.mono ?_); rintro _ w2 ⟨rfl, h2⟩)
  (try simp only at h2)
  have HS2 := Lib.hid (Sep.devPack (x := ⟨number, ents, loan, j2⟩) h2.r5.r5.r5 HES.out)
  clear h2 zX kX fX HY
  by_cases he : e2 = 0
  case neg =>
    rw [if_pos he] at hr
    subst hr
    have hb : (e2 == 0) = false := by rw [beq_eq_false_iff_ne]; exact he
    have hn : (e2 != 0) = true := by rw [bne_iff_ne]; exact he
    have HS3 := Lib.hid ((HS2.out.seesNew (φ := SeenAt []) fun _ u hu => by simp at hu).ownNil 32 5)
    clear he
    go_wp2_with (fail)
    go_ret2
    exact ⟨none, 0, [], rfl, rfl, HS3.out⟩
  subst he
  rw [if_neg (fun h => h rfl)] at hr
  subst hr
  have HA := Lib.hid (All_dev HS2.out HFEW.out HRT.out)
  go_wp2_with (fail)
  ((with_reducible refine HA.out.mono ?_); rintro _ w3 ⟨A3, c3, fs, hf, rfl, h3⟩)
  go_wp2_with (fail)
  go_ret2
  exact ⟨A3, c3, fs, hf, rfl, h3⟩
end
end Go.Proofs.YtjncmlglhegnaaaGreatDoor
namespace Go.Proofs.YtjncmlglhegnaaaGreatDoor
def zed8 : List Int := [0, 0, 0, 0, 0, 0, 0, 0]
def loan0 : LoanV := ⟨2, 50, 0, false⟩
def dev0 : DevV := ⟨2, [], loan0, ⟨0, [], 0, false⟩⟩
def sO1 : DV × Option DevV × Int := openD newD 2 loan0
def sW1 : DV × DevV × Int := writeD sO1.1 dev0 4 zed8 [97]
def sS1 : DV × DevV × Int := spendD sW1.1 sW1.2.1 5 zed8 10
def sH1 : DV × DevV × Int × List EntV := handD sS1.1 sS1.2.1
def sW2 : DV × DevV × Int := writeD sH1.1 sH1.2.1 6 zed8 [98]
def sD2 : DV := StartF (crashF sW2.1 [])
def sO2 : DV × Option DevV × Int := openD sD2 2 loan0
def dev2 : DevV := sO2.2.1.getD dev0
def sW3 : DV × DevV × Int := writeD sO2.1 dev2 6 zed8 [99]
def sH3 : DV × DevV × Int × List EntV := handD sW3.1 sW3.2.1
theorem sn1 : sO1.2 = (some dev0, 0) := by kernel_rfl
theorem sn2 : sW1.2.2 = 0 := by kernel_rfl
theorem sn3 : sS1.2.2 = 0 := by kernel_rfl
theorem sn4 : sH1.2.2.1 = 0 := by kernel_rfl
theorem sn5 : sH1.2.2.2.map (·.text) = [[97], [33, 115, 49, 48, 59]] := by kernel_rfl
theorem sn6 : sW2.2.2 = 0 := by kernel_rfl
theorem sn7 : sO2.2 = (some dev2, 0) := by kernel_rfl
theorem sn8 : dev2.ents.length = 2 := by kernel_rfl
theorem sn9 : sW3.2.2 = 0 := by kernel_rfl
theorem sn10 : sH3.2.2.1 = 0 := by kernel_rfl
theorem sn11 : sH3.2.2.2.map (·.text) = [[97], [33, 115, 49, 48, 59], [99]] := by kernel_rfl
end Go.Proofs.YtjncmlglhegnaaaGreatDoor
namespace Go.Proofs.YtjncmlglhegnaaaGreatDoor
open Go.RowKit Go.Sort Go.Lib

set_option maxRecDepth 100000 in
set_option maxHeartbeats 1000000 in
theorem none_any (w : World) :
    Calls Tryz.prog 54 #[] w fun e w' => ∃ A, e = .returned (.slice A 8 8) ∧ Sl w' 1 A 8 (zed8.map intC) ∧ Below w.heap.size w w' := by
  obtain ⟨i1, hj0, hj1, hj2, hj3⟩ := info_parts infoInt
  go_enter Tryz.func54, Tryz.ntmps54
  go_wp2_with (at_make; refine wpList_make_own w rfl (.const (.int .i64 8)) (.const (.int .i64 8)) 30 rfl w.heap.size 3 i1 _ 1 8 Tryz.underlying30 hj0 hj1 hj2 hj3 rfl (by omega) 8 rfl rfl (by omega) (by simp only [maxLen]; omega) (Nat.le_refl _) ?_; intro w1 hown1 hb1 hz1; have HW1 := Lib.hid hown1; have HB1 := Lib.hid hb1)
  go_ret
  exact ⟨_, rfl, Own.sl' HW1.out, HB1.out⟩
end Go.Proofs.YtjncmlglhegnaaaGreatDoor
namespace Go.Proofs.YtjncmlglhegnaaaGreatDoor
open Go.RowKit Go.Sort

theorem devOk_of {x : DevV} (h : (decide (x.ents.length ≤ 1000) && x.ents.all rightB && decide (-9223372036854775808 ≤ x.j.bytes) && decide (x.j.bytes ≤ 4611686018427387904) && decide (x.j.recs.length ≤ 16777216)) = true) : DevOk x := by
  simp only [Bool.and_eq_true, decide_eq_true_eq, List.all_eq_true] at h
  obtain ⟨⟨⟨⟨h1, h2⟩, h3⟩, h4⟩, h5⟩ := h
  exact ⟨h1, fun v hv => rightB_true.1 (h2 v hv), ⟨h3, h4⟩, h5⟩
theorem writeZ {w0 w : World} {Rs : List Res} {B X : Nat} {d : DV} {x : DevV} (h : Sep w0 w (devR B X x :: diskR B d :: Rs)) (hE : Env w0.heap.size w0) (hok : DevOk x) (day : Int) (A : Option Addr) (hse : Sl w 1 A 8 (zed8.map intC)) (text : List UInt8) (ht : text.length ≤ 1099511627776) (r : DV × DevV × Int) (hr : writeD d x day zed8 text = r) :
    Calls Tryz.prog 27 #[.pointer (some ⟨X, 0, none⟩), .int .i64 day, .slice A 8 8, .string ⟨text.toArray⟩] w fun e w' => e = .returned (.int .i64 r.2.2) ∧ Sep w0 w' (devR B X r.2.1 :: diskR B r.1 :: Rs) :=
  writeD_sep h hE hok day A 8 zed8 hse text ht r hr
theorem spendZ {w0 w : World} {Rs : List Res} {B X : Nat} {d : DV} {x : DevV} (h : Sep w0 w (devR B X x :: diskR B d :: Rs)) (hE : Env w0.heap.size w0) (hok : DevOk x) (day : Int) (A : Option Addr) (hse : Sl w 1 A 8 (zed8.map intC)) (n : Int) (hn : -9223372036854775808 ≤ n ∧ n ≤ 9223372036854775807) (r : DV × DevV × Int) (hr : spendD d x day zed8 n = r) :
    Calls Tryz.prog 29 #[.pointer (some ⟨X, 0, none⟩), .int .i64 day, .slice A 8 8, .int .i64 n] w fun e w' => e = .returned (.int .i64 r.2.2) ∧ Sep w0 w' (devR B X r.2.1 :: diskR B r.1 :: Rs) :=
  spendD_sep h hE hok day A 8 zed8 hse n hn r hr
theorem sn1' : openD newD 2 loan0 = (sO1.1, some dev0, 0) := by
  show sO1 = _
  rw [← sn1]
theorem sn7' : openD sD2 2 loan0 = (sO2.1, some dev2, 0) := by
  show sO2 = _
  rw [← sn7]
theorem sn13 : sH3.2.2.2.map (·.no) = [0, 1, 2] := by kernel_rfl
def sX1 : DV × DevV × Int := writeD sH3.1 sH3.2.1 6 zed8 [33, 120]
def sX2 : DV × DevV × Int := spendD sX1.1 sX1.2.1 6 zed8 41
def sX3 : DV × DevV × Int := writeD sX2.1 sX2.2.1 3 zed8 [100]
theorem sx0 : sH3.2.1.loan = ⟨2, 50, 10, false⟩ := by kernel_rfl
theorem sx1 : sX1.2.2 = 2 := by kernel_rfl
theorem sx2 : sX2.2.2 = 6 := by kernel_rfl
theorem sx3 : sX3.2.2 = 17 := by kernel_rfl
theorem so8 : DevOk sX1.2.1 := devOk_of (by kernel_rfl)
theorem so9 : DevOk sX2.2.1 := devOk_of (by kernel_rfl)
theorem so1 : DevOk dev0 := devOk_of (by kernel_rfl)
theorem so2 : DevOk sW1.2.1 := devOk_of (by kernel_rfl)
theorem so3 : DevOk sS1.2.1 := devOk_of (by kernel_rfl)
theorem so4 : DevOk sH1.2.1 := devOk_of (by kernel_rfl)
theorem so5 : DevOk dev2 := devOk_of (by kernel_rfl)
theorem so6 : DevOk sW3.2.1 := devOk_of (by kernel_rfl)
theorem so7 : DevOk sH3.2.1 := devOk_of (by kernel_rfl)
set_option maxRecDepth 100000 in
set_option maxHeartbeats 8000000 in
theorem sane_any (w : World) (hE : Env w.heap.size w) :
    Calls Tryz.prog 8 #[] w fun e w' => e = .returned (.bool true) ∧ Below w.heap.size w w' := by
  have HE := Lib.hid hE
  clear hE
  go_enter Tryz.func8, Tryz.ntmps8
  go_wp2_with (fail)
  ((with_reducible refine (New_sep (Sep.start w)).mono ?_); rintro _ w1 ⟨B, rfl, h1⟩)
  have HS1 := Lib.hid (h1.box (loanX loan0) 24)
  clear h1
  simp only [loanX, loan0] at HS1
  obtain ⟨zL, kL, fL⟩ := HS1.out.loc
  go_wp2_with (fail)
  have HO1 := Lib.hid (OpenDev_sep HS1.out.sw HE.out 2 loan0 (sO1.1, some dev0, 0) sn1')
  simp only [loanX, loan0] at HO1
  ((with_reducible refine HO1.out.mono ?_); rintro _ w2 ⟨X, rfl, h2⟩)
  clear HO1
  have HS2 := Lib.hid h2
  clear h2 HS1 zL kL fL
  go_wp2_with (fail)
  ((with_reducible refine (none_any w2).mono ?_); rintro _ w3 ⟨A3, rfl, hs3, hb3⟩)
  have HS3 := Lib.hid (HS2.out.below hb3)
  have HZ3 := Lib.hid hs3
  clear hs3 hb3 HS2
  go_wp2_with (fail)
  ((with_reducible refine (writeZ HS3.out HE.out so1 4 A3 HZ3.out [97] (by simp) sW1 rfl).mono ?_); rintro _ w4 ⟨rfl, h4⟩)
  rw [sn2]
  have HS4 := Lib.hid h4
  clear h4 HS3 HZ3
  go_wp2_with (fail)
  ((with_reducible refine (none_any w4).mono ?_); rintro _ w5 ⟨A5, rfl, hs5, hb5⟩)
  have HS5 := Lib.hid (HS4.out.below hb5)
  have HZ5 := Lib.hid hs5
  clear hs5 hb5 HS4
  go_wp2_with (fail)
  ((with_reducible refine (spendZ HS5.out HE.out so2 5 A5 HZ5.out 10 (by omega) sS1 rfl).mono ?_); rintro _ w6 ⟨rfl, h6⟩)
  rw [sn3]
  have HS6 := Lib.hid h6
  clear h6 HS5 HZ5
  go_wp2_with (fail)
  ((with_reducible refine (Hand_sep HS6.out so3.few so3.right sH1 rfl).mono ?_); rintro _ w7 ⟨A7, c7, f7, hv7, rfl, h7⟩)
  rw [sn4]
  have HS7 := Lib.hid h7
  clear h7 HS6
  go_wp2_with (fail)
  ((with_reducible refine (none_any w7).mono ?_); rintro _ w8 ⟨A8, rfl, hs8, hb8⟩)
  have HS8 := Lib.hid (HS7.out.below hb8)
  have HZ8 := Lib.hid hs8
  clear hs8 hb8 HS7
  go_wp2_with (fail)
  ((with_reducible refine (writeZ HS8.out.r4.r4 HE.out so4 6 A8 HZ8.out [98] (by simp) sW2 rfl).mono ?_); rintro _ w9 ⟨rfl, h9⟩)
  have HS9 := Lib.hid h9
  clear h9 HS8 HZ8
  rw [sn6]
  go_wp2_with (fail)
  have HCR := Lib.hid (Crash_sep HS9.out.sw [] none 0 (Sl.nil_ w 1 none) (by simp) (crashF sW2.1 []) rfl)
  simp only [List.length_nil] at HCR
  ((with_reducible refine HCR.out.mono ?_); rintro _ w10 ⟨rfl, h10⟩)
  clear HCR
  have HS10 := Lib.hid h10
  clear h10 HS9
  go_wp2_with (fail)
  ((with_reducible refine (Start_sep HS10.out sD2 rfl).mono ?_); rintro _ w11 ⟨rfl, h11⟩)
  have HS11 := Lib.hid h11
  clear h11 HS10
  obtain ⟨zL, kL, fL⟩ := HS11.out.r5.loc
  go_wp2_with (fail)
  have HO2 := Lib.hid (OpenDev_sep HS11.out HE.out 2 loan0 (sO2.1, some dev2, 0) sn7')
  simp only [loanX, loan0] at HO2
  ((with_reducible refine HO2.out.mono ?_); rintro _ w12 ⟨X2, rfl, h12⟩)
  have HS12 := Lib.hid h12
  have H7L : Hid (f7.length = 2) := Lib.hid (by have h := congrArg List.length hv7; rw [vsOf_len] at h; rw [h, ← List.length_map (f := fun x : EntV => x.text), sn5]; rfl)
  have HA2 := Lib.hid (All_dev h12 so5.few so5.right)
  clear h12 HS11 HO2 zL kL fL
  have h7l := H7L.out
  go_wp2_with (fail)
  ((with_reducible refine HA2.out.mono ?_); rintro _ w13 ⟨A13, c13, f13, hv13, rfl, h13⟩)
  have HS13 := Lib.hid h13.drop.drop
  have h13l : f13.length = 2 := by have h := congrArg List.length hv13; rw [vsOf_len, sn8] at h; exact h
  clear h13 HS12 HA2
  go_wp2_with (fail)
  ((with_reducible refine (none_any w13).mono ?_); rintro _ w14 ⟨A14, rfl, hs14, hb14⟩)
  have HS14 := Lib.hid (HS13.out.below hb14)
  have HZ14 := Lib.hid hs14
  clear hs14 hb14 HS13
  go_wp2_with (fail)
  ((with_reducible refine (writeZ HS14.out HE.out so5 6 A14 HZ14.out [99] (by simp) sW3 rfl).mono ?_); rintro _ w15 ⟨rfl, h15⟩)
  rw [sn9]
  have HS15 := Lib.hid h15
  clear h15 HS14 HZ14
  go_wp2_with (fail)
  ((with_reducible refine (Hand_sep HS15.out so6.few so6.right sH3 rfl).mono ?_); rintro _ w16 ⟨A16, c16, f16, hv16, rfl, h16⟩)
  rw [sn10]
  have HS16 := Lib.hid h16
  clear h16 HS15
  have h16l : f16.length = 3 := by have h := congrArg List.length hv16; rw [vsOf_len] at h; rw [h, ← List.length_map (f := fun x : EntV => x.text), sn11]; rfl
  have HW16 := Lib.hid h16l
  go_upto_region 21 with (fail)
  have e5 := sn5
  rw [← hv7] at e5
  obtain ⟨u7, hu7⟩ : ∃ v, f7[1]? = some v := ⟨_, List.getElem?_eq_getElem (by rw [H7L.out]; omega)⟩
  have t7 : u7.v.text = [33, 115, 49, 48, 59] := by have h := congrArg (fun l => l[1]?) e5; simpa [vsOf, hu7] using h
  obtain ⟨b7, o7, rfl, hb7, p0, p1, p2, p3, p4⟩ := ent_at HS16.out.r6.own.sl' hu7
  have e11 := sn11
  have e13 := sn13
  rw [← hv16] at e11 e13
  obtain ⟨u16, hu16⟩ : ∃ v, f16[2]? = some v := ⟨_, List.getElem?_eq_getElem (by rw [HW16.out]; omega)⟩
  have t16 : u16.v.text = [99] := by have h := congrArg (fun l => l[2]?) e11; simpa [vsOf, hu16] using h
  have n16 : u16.v.no = 2 := by have h := congrArg (fun l => l[2]?) e13; simpa [vsOf, hu16] using h
  obtain ⟨b16, o16, rfl, hb16, q0, q1, q2, q3, q4⟩ := ent_at HS16.out.own.sl' hu16
  rw [t7] at p4
  rw [t16] at q4
  rw [n16] at q1
  have HL := Lib.hid (Loan_sep HS16.out.r3)
  rw [sx0] at HL
  simp only [loanX] at HL
  clear e5 e11 e13 t7 t16 n16 h16l h7l h13l
  go_wp2_with (fail)
  ((with_reducible refine HL.out.mono ?_); rintro _ w17 ⟨rfl, h17⟩)
  have HS17 := Lib.hid h17.r4
  clear h17 HL HS16
  go_wp2_with (fail)
  ((with_reducible refine (none_any w17).mono ?_); rintro _ w18 ⟨A18, rfl, hs18, hb18⟩)
  have HS18 := Lib.hid (HS17.out.sw.below hb18)
  have HZ18 := Lib.hid hs18
  clear hs18 hb18 HS17
  go_wp2_with (fail)
  ((with_reducible refine (writeZ HS18.out HE.out so7 6 A18 HZ18.out [33, 120] (by simp) sX1 rfl).mono ?_); rintro _ w19 ⟨rfl, h19⟩)
  rw [sx1]
  have HS19 := Lib.hid h19
  clear h19 HS18 HZ18
  go_wp2_with (fail)
  ((with_reducible refine (none_any w19).mono ?_); rintro _ w20 ⟨A20, rfl, hs20, hb20⟩)
  have HS20 := Lib.hid (HS19.out.below hb20)
  have HZ20 := Lib.hid hs20
  clear hs20 hb20 HS19
  go_wp2_with (fail)
  ((with_reducible refine (spendZ HS20.out HE.out so8 6 A20 HZ20.out 41 (by omega) sX2 rfl).mono ?_); rintro _ w21 ⟨rfl, h21⟩)
  rw [sx2]
  have HS21 := Lib.hid h21
  clear h21 HS20 HZ20
  go_wp2_with (fail)
  ((with_reducible refine (none_any w21).mono ?_); rintro _ w22 ⟨A22, rfl, hs22, hb22⟩)
  have HS22 := Lib.hid (HS21.out.below hb22)
  have HZ22 := Lib.hid hs22
  clear hs22 hb22 HS21
  go_wp2_with (fail)
  ((with_reducible refine (writeZ HS22.out HE.out so9 3 A22 HZ22.out [100] (by simp) sX3 rfl).mono ?_); rintro _ w23 ⟨rfl, h23⟩)
  rw [sx3]
  have HS23 := Lib.hid h23.base
  clear h23 HS22 HZ22
  go_wp2_with (fail)
  go_ret
  exact ⟨rfl, HS23.out⟩
end Go.Proofs.YtjncmlglhegnaaaGreatDoor
namespace Go.Proofs.YtjncmlglhegnaaaGreatDoor
open Go.RowKit Go.Sort Go.Lib

set_option maxRecDepth 100000 in
set_option maxHeartbeats 1000000 in
theorem RReserved_any (w : World) (t : List UInt8) (ht : t.length ≤ 140737488351232) (r : Bool) (hr : resB t = r) :
    Calls Tryz.prog 11 #[.string ⟨t.toArray⟩] w fun e w' => e = .returned (.bool r) ∧ w = w' := by
  have hsz := str_size t
  cases t with
  | nil =>
    subst hr
    clear ht
    go_enter Tryz.func11, Tryz.ntmps11
    go_wp2_with (fail)
    go_ret
    exact ⟨rfl, rfl⟩
  | cons c r0 =>
    have hex : (⟨(c :: r0).toArray⟩ : ByteArray).extract 0 1 = ⟨#[c]⟩ := by rw [str_ext]; rfl
    have hbb : (c == 33) = r := hr
    obtain ⟨m, hm⟩ : ∃ m, (c :: r0).length = m := ⟨_, rfl⟩
    have hm1 : 1 ≤ m := by rw [← hm]; simp
    have hmin : min (1 : Int) (m : Int) = 1 := by omega
    have hpos : (0 : Int) < (m : Int) := by omega
    rw [hm] at hsz
    have h1m : (1 : Int) ≤ (m : Int) := by omega
    generalize (⟨(c :: r0).toArray⟩ : ByteArray) = S at *
    clear ht hr hm hm1
    go_enter Tryz.func11, Tryz.ntmps11
    go_wp2_with (fail)
    go_ret
    exact ⟨by rw [← hbb]; rfl, rfl⟩
set_option maxRecDepth 100000 in
set_option maxHeartbeats 1000000 in
theorem RSpendText_any (w : World) (n : Int) (h0 : -9223372036854775808 ≤ n) (h1 : n ≤ 9223372036854775807) (s : List UInt8) (hs : spendT n = s) :
    Calls Tryz.prog 13 #[.int .i64 n] w fun e w' => e = .returned (.string ⟨s.toArray⟩) ∧ Below w.heap.size w w' := by
  obtain ⟨q, hqn⟩ : ∃ q, encN n = q := ⟨_, rfl⟩
  have hql : q.length ≤ 21 := by
    rw [← hqn]
    unfold encN
    split
    · simp
    · exact encI_len ⟨by omega, by omega⟩
  have hst : [33, 115] ++ q = s := by rw [← hs]; unfold spendT; rw [hqn]
  have HN := Lib.hid (fun W => RNum_any W n h0 h1 q hqn)
  have hz := str_size q
  have z1 : ((⟨#[33, 115]⟩ : ByteArray) ++ ⟨q.toArray⟩) = ⟨s.toArray⟩ := by
    have := str_app [33, 115] q
    have e : (⟨#[33, 115]⟩ : ByteArray) = ⟨([33, 115] : List UInt8).toArray⟩ := rfl
    rw [e, this, hst]
  have i1 : ¬ 9223372036854775807 < 2 + q.length := by omega
  clear hs hst hqn h0 h1
  go_enter Tryz.func13, Tryz.ntmps13
  go_wp2_with (fail)
  ((with_reducible refine (HN.out _).mono ?_); rintro _ w1 ⟨rfl, hb1⟩)
  have HB1 := Lib.hid hb1
  clear hb1
  go_wp2_with (fail)
  go_ret
  exact ⟨rfl, HB1.out⟩
end Go.Proofs.YtjncmlglhegnaaaGreatDoor
