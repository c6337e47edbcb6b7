/- kerbsidelaw49: begins, walked. -/
/- kerbsidelaw49: the World of a device in memory; loan, open, walked. -/
/- kerbsidelaw49: World's written, walked. -/
import Derived.Test.YtjncmlglhegnaaaGreatDoorDevR
import Derived.Test.YtjncmlglhegnaaaGreatDoorSameC
import Derived.Test.YtjncmlglhegnaaaGreatDoorChainM2
import Derived.Test.YtjncmlglhegnaaaGreatDoorSlCut
import Derived.Test.YtjncmlglhegnaaaGreatDoorOrdL
import Derived.Deep.DeepCutAuto
namespace Go.Proofs.YtjncmlglhegnaaaGreatDoor
open Go.RowKit Go.Sort Go.Lib

set_option maxRecDepth 100000 in
set_option maxHeartbeats 4000000 in
theorem begins49_any (w : World) (A A' : Option Addr) (n m c c' : Nat) (a b : List EntC) (ha : ChAt w A n a) (hb : ChAt w A' m b) (hc : n ≤ c) (hn : n ≤ 1099511627776) (hp : vsOf b <+: vsOf a) :
    Calls Tryz.prog 48 #[.slice A n c, .slice A' m c'] w fun e w' => e = .returned (.bool true) ∧ Below w.heap.size w w' := by
  have l1 : a.length = n := by simpa using ha.sl.1
  have l2 : b.length = m := by simpa using hb.sl.1
  have hmn : m ≤ n := by have := hp.length_le; rw [vsOf_len, vsOf_len, l1, l2] at this; exact this
  have HSC := Lib.hid (SameChain_any w A A' m c m c' (a.take m) b (ha.part (Below.refl _ _) (by have h := ha.sl.head hmn; rwa [← List.map_take] at h) (fun x hx => List.mem_of_mem_take hx)) hb (by omega) true (by
    refine decide_eq_true ?_
    have h := List.prefix_iff_eq_take.1 hp
    rw [vsOf_len, l2] at h
    rw [h]
    unfold vsOf
    rw [List.map_take]))
  have hi1 : (m : Int) ≤ (n : Int) := by omega
  have hmin : min (m : Int) (n : Int) = (m : Int) := by omega
  have hmc : (m : Int) ≤ (c : Int) := by omega
  have hm0 : (0 : Int) ≤ (m : Int) := by omega
  clear ha hb hc hn hp l1 l2 hmn
  go_enter Tryz.func48, Tryz.ntmps48
  go_wp2_with (fail)
  ((with_reducible refine (HSC.out).mono ?_); rintro _ w1 ⟨rfl, hb1⟩)
  have HB1 := Lib.hid hb1
  clear hb1
  go_wp2_with (fail)
  go_ret
  exact ⟨rfl, HB1.out⟩
end Go.Proofs.YtjncmlglhegnaaaGreatDoor
namespace Go.Proofs.YtjncmlglhegnaaaGreatDoor
open Go.RowKit Go.Sort Go.Lib

/-- a World, as long as nothing impossible has happened -/
structure WorV where
  d : DV
  x : Option DevV
  number : Int
  units : Int
  handed : List EntV
  durable : List EntV
  last : List EntV
  torn : List EntV
  spent : Int
  ex : List EntC
/-- a list of entries in memory -/
structure LsC where
  A : Option Addr
  c : Nat
  es : List EntC
abbrev LsC.val (l : LsC) : Value := .slice l.A l.es.length l.c
def LsC.at_ (l : LsC) (w : World) : Prop := ChAt w l.A l.es.length l.es
structure WorI where
  B : Nat
  X : Nat
  H : LsC
  D : LsC
  L : LsC
  T : LsC
def devO (B X : Nat) : Option DevV → List Res
  | none => []
  | some x => [devR B X x]
def devP (X : Nat) : Option DevV → Value
  | none => .pointer none
  | some _ => .pointer (some ⟨X, 0, none⟩)
abbrev worX (B : Nat) (px : Value) (number units : Int) (vh vd vl vt : Value) (spent : Int) : Array Value := #[.pointer (some ⟨B, 0, none⟩), px, .int .i64 number, .int .i64 units, vh, vd, vl, vt, .int .i64 spent, .bool false]
def WorI.vs (i : WorI) (v : WorV) : Prop := vsOf i.H.es = v.handed ∧ vsOf i.D.es = v.durable ∧ vsOf i.L.es = v.last ∧ vsOf i.T.es = v.torn
def WorI.sees (i : WorI) (E : List EntC) (w : World) : Prop := (i.H.at_ w ∧ SeenAt E w ∧ i.H.es.length ≤ i.H.c) ∧ i.D.at_ w ∧ i.L.at_ w ∧ i.T.at_ w
def worLs (W : Nat) (v : WorV) (i : WorI) : List Res := boxR W (worX i.B (devP i.X v.x) v.number v.units i.H.val i.D.val i.L.val i.T.val v.spent) :: seesR (i.sees v.ex) :: diskR i.B v.d :: devO i.B i.X v.x
def worR (W : Nat) (v : WorV) : Res := packR (fun i : WorI => i.vs v) (worLs W v)
section
variable {w0 w w' : World} {Rs : List Res} {W : Nat} {v : WorV}
theorem Sep.worPart (h : Sep w0 w (worR W v :: Rs)) : ∃ i : WorI, i.vs v ∧ Sep w0 w (worLs W v i ++ Rs) := Sep.unpack h
theorem Sep.worPack (i : WorI) (hi : i.vs v) (h : Sep w0 w (worLs W v i ++ Rs)) : Sep w0 w (worR W v :: Rs) := Sep.pack (φ := fun i : WorI => i.vs v) (ls := worLs W v) i hi h
/-- a list of one's own, and what its elements point to, is read alone from now on -/
theorem Sep.ownSees {e : TypeId} {A : Option Addr} {n c : Nat} {xs : List (List Value)} {φ : World → Prop} (h : Sep w0 w (ownR e 5 (.slice A n c) n xs :: seesR φ :: Rs)) : Sep w0 w (seesR (fun W => Sl W 5 A n xs ∧ φ W) :: Rs) :=
  h.join fun F1 F2 h1 h2 _ => ⟨fun k hk => hk.elim ((ownR e 5 (.slice A n c) n xs).lt w F1 h1 k) (h2.1 k), fun w'' hz hb => ⟨((ownR e 5 (.slice A n c) n xs).keep w w'' F1 h1 hz fun k hk => hb k (.inl hk)).1.sl', h2.2 w'' hz fun k hk => hb k (.inr hk)⟩⟩
theorem Sep.seesAnd {φ ψ : World → Prop} (h : Sep w0 w (seesR φ :: seesR ψ :: Rs)) : Sep w0 w (seesR (fun W => φ W ∧ ψ W) :: Rs) :=
  h.join fun F1 F2 h1 h2 _ => ⟨fun k hk => hk.elim (h1.1 k) (h2.1 k), fun w'' hz hb => ⟨h1.2 w'' hz fun k hk => hb k (.inl hk), h2.2 w'' hz fun k hk => hb k (.inr hk)⟩⟩
theorem Sep.w1 {a b c d : Res} (h : Sep w0 w (a :: b :: c :: d :: Rs)) : Sep w0 w (d :: c :: a :: b :: Rs) := h.r4.r4.sw
theorem Sep.w2 {a b c d : Res} (h : Sep w0 w (d :: c :: a :: b :: Rs)) : Sep w0 w (a :: b :: c :: d :: Rs) := h.sw.r4.r4
end
/-- a guarded append that is wanted, as one step of a region that draws its order -/
theorem step_append_w {P : Program} {w : World} {ops : Array Oper} {o : Oper} {a : Act} {K : Act → World → Prop} {Q : Exit → Act → World → Prop} {E : Prop} (hw : Region.wanted o (yielded ops a.tmps) = true) (s x : Operand) (t : TypeId)
    (ho : o.op = .call { callee := .builtin .append, args := #[s, x], argTypes := #[t, t] })
    (base : Nat) (e : TypeId) (i : TypeInfo) (z : Value) (size bytes : Nat) (ht : P.underlying t = some (.slice e)) (hi : P.info? e = some i) (hz : i.zero = some z)
    (hsize : i.size = size) (hby : i.bytes = bytes) (hzs : z.cells.size = size) (hsz : 0 < size)
    (v : Value) (n : Nat) (xs : List (List Value)) (hs : a.eval s = v) (hown : Own w base e size v n xs)
    (A : Option Addr) (m c : Nat) (news : List (List Value)) (hx : a.eval x = .slice A m c) (hr : Sl w size A m news) (hl : ∀ x ∈ news, x.length = size) (h1 : ∀ x ∈ news, ∀ u ∈ x, u.oneCell' = true)
    (h63 : n + m ≤ maxLen) (hbytes : (n + m) * bytes ≤ 140737488355328) (hbase : base ≤ w.heap.size)
    (h : ∀ A' c' w', Own w' base e size (.slice A' (n + m) c') (n + m) (xs ++ news) → w.grownBy w' v.ownBlock → ((Value.slice A' (n + m) c').ownBlock = v.ownBlock ∨ (Value.slice A' (n + m) c').ownBlock = some w.heap.size) → K (a.put o.dst (.slice A' (n + m) c')) w') :
    if Region.wanted o (yielded ops a.tmps) = true then Oper.wp P o a w K Q else E := by
  rw [if_pos hw]
  obtain ⟨v', w', hrun, h2, h3, h4⟩ := run_append_sl (P := P) w base t o.type e i z size bytes ht hi hz hsize hby hzs hsz v n xs hown A m c news hr hl h1 h63 hbytes hbase
  obtain ⟨A', c', rfl, _⟩ := h2.sl
  unfold Oper.wp execOp
  simp only [ho, resolve, invoke, builtin, Sem.run_bind, Sem.run_pure, Result.andThen_ok, List.map_toArray, List.map_cons, List.map_nil, hs, hx, hrun]
  exact h A' c' w' h2 h3 h4
theorem own_capE {w : World} {base n c size : Nat} {e : TypeId} {A : Option Addr} {xs : List (List Value)} (h : Own w base e size (.slice A n c) n xs) : n ≤ c ∧ c ≤ maxLen := by
  rcases h.1.2 with ⟨h', h2⟩ | ⟨g', cap, cur, hv, hb, hg, h1, h2, h3, _⟩
  · injection h' with e1 e2 e3
    subst e2 e3
    exact ⟨Nat.le_refl _, Nat.zero_le _⟩
  · injection hv with e1 e2 e3
    subst e3
    exact ⟨by simpa using h1, h2⟩
theorem world_cells {w : World} {n B : Nat} {px vh vd vl vt : Value} {a u s : Int} (h : Loc w n (worX B px a u vh vd vl vt s)) : w.cell? ⟨n, 0, none⟩ = some (.pointer (some ⟨B, 0, none⟩)) ∧ w.cell? ⟨n, 2, none⟩ = some (.int .i64 a) ∧ w.cell? ⟨n, 3, none⟩ = some (.int .i64 u) ∧ w.cell? ⟨n, 5, none⟩ = some vd ∧ w.cell? ⟨n, 6, none⟩ = some vl ∧ w.cell? ⟨n, 7, none⟩ = some vt ∧ w.cell? ⟨n, 9, none⟩ = some (.bool false) := ⟨h.cell 0, h.cell 2, h.cell 3, h.cell 5, h.cell 6, h.cell 7, h.cell 9⟩
theorem results_loan49 {W : World} {n : Nat} {l : LoanV} {tmps : Array Value} (h : Loc W n (loanX l)) (ht : tmps.getD 2 undef = .pointer (some ⟨n, 0, none⟩)) :
    (results Tryz.f44 tmps).run Tryz.prog W = .ok (.agg (loanX l)) W := by
  have ht' : tmps[2]?.getD undef = .pointer (some ⟨n, 0, none⟩) := by simpa using ht
  simp only [results, show Tryz.f44.results = #[.cell 2 24] from rfl]
  have hl := loadVar_loan h
  simp [ht', asAddr, hl]
set_option maxRecDepth 100000 in
set_option maxHeartbeats 4000000 in
theorem wloan_any (w : World) (n B : Nat) (px vh vd vl vt : Value) (a u s : Int) (h : Loc w n (worX B px a u vh vd vl vt s)) :
    Calls Tryz.prog 44 #[.pointer (some ⟨n, 0, none⟩)] w fun e w' => e = .returned (.agg (loanX ⟨a, u, 0, false⟩)) ∧ Below w.heap.size w w' := by
  have HL := Lib.hid h
  have HS0 := Lib.hid ((Sep.start w).box #[.int .i64 0, .int .i64 0, .int .i64 0, .bool false] 24)
  have c0 := world_cells (h.alloc (.cells #[.int .i64 0, .int .i64 0, .int .i64 0, .bool false] 24))
  have HC := Lib.hid (fun W (hb : Below w.heap.size w W) => world_cells (h.below hb))
  clear h
  go_enter Tryz.func44, Tryz.ntmps44
  go_upto_region 1 with (fail)
  refine wpTill.startN 10 (S := fun w' => w'.cell? ⟨n, 2, none⟩ = some (.int .i64 a) ∧ w'.cell? ⟨n, 3, none⟩ = some (.int .i64 u)) (T := fun _ => True) (m := 300) rfl (by kernel_rfl) ?_
  have HQ := Lib.hid HS0.out.drew
  have HSS : Hid (∀ w', Below w.heap.size w w' → w'.cell? ⟨n, 2, none⟩ = some (.int .i64 a) ∧ w'.cell? ⟨n, 3, none⟩ = some (.int .i64 u)) := Lib.hid fun w' hb => ⟨(HC.out w' hb).2.1, (HC.out w' hb).2.2.1⟩
  generalize (w.alloc (.cells #[.int .i64 0, .int .i64 0, .int .i64 0, .bool false] 24)).drew = wz at *
  generalize w.heap.size = g at HQ ⊢
  refine wpTill.take (i := 0) (v := ?_) (by rfl) rfl (by kernel_rfl) (by kernel_rfl) (by kernel_rfl) (by exact fun _ _ _ h => h) (HSS.out _ HQ.out.base) (fun _ => trivial) (Or.inl ⟨by rfl, ?_⟩) ?_
  rotate_left
  · (intro w' hSw; (try dsimp only at hSw); go_simp; (try with_reducible rfl))
  (try simp only [Act.put, List.setIfInBounds_toArray, List.set_cons_zero, List.set_cons_succ, List.getElem_toArray, List.getElem_cons_zero, List.getElem_cons_succ])
  refine wpTill.take (i := 1) (v := ?_) (by rfl) rfl (by kernel_rfl) (by kernel_rfl) (by kernel_rfl) (by exact fun _ _ _ h => h) (HSS.out _ HQ.out.base) (fun _ => trivial) (Or.inl ⟨by rfl, ?_⟩) ?_
  rotate_left
  · (intro w' hSw; (try dsimp only at hSw); go_simp; (try with_reducible rfl))
  (try simp only [Act.put, List.setIfInBounds_toArray, List.set_cons_zero, List.set_cons_succ, List.getElem_toArray, List.getElem_cons_zero, List.getElem_cons_succ])
  refine wpTill.take (i := 2) (v := ?_) (by rfl) rfl (by kernel_rfl) (by kernel_rfl) (by kernel_rfl) (by exact fun _ _ _ h => h) (HSS.out _ HQ.out.base) (fun _ => trivial) (Or.inl ⟨by rfl, ?_⟩) ?_
  rotate_left
  · (intro w' hSw; (try dsimp only at hSw); go_simp; (try with_reducible rfl))
  (try simp only [Act.put, List.setIfInBounds_toArray, List.set_cons_zero, List.set_cons_succ, List.getElem_toArray, List.getElem_cons_zero, List.getElem_cons_succ])
  refine wpTill.take (i := 3) (v := ?_) (by rfl) rfl (by kernel_rfl) (by kernel_rfl) (by kernel_rfl) (by exact fun _ _ _ h => h) (HSS.out _ HQ.out.base) (fun _ => trivial) (Or.inl ⟨by rfl, ?_⟩) ?_
  rotate_left
  · (intro w' hSw; (try dsimp only at hSw); go_simp; (try with_reducible rfl))
  (try simp only [Act.put, List.setIfInBounds_toArray, List.set_cons_zero, List.set_cons_succ, List.getElem_toArray, List.getElem_cons_zero, List.getElem_cons_succ])
  refine wpTill.take (i := 4) (v := ?_) (by rfl) rfl (by kernel_rfl) (by kernel_rfl) (by kernel_rfl) (by exact fun _ _ _ h => h) (HSS.out _ HQ.out.base) (fun _ => trivial) (Or.inl ⟨by rfl, ?_⟩) ?_
  rotate_left
  · (intro w' hSw; (try dsimp only at hSw); go_simp; (try with_reducible rfl))
  (try simp only [Act.put, List.setIfInBounds_toArray, List.set_cons_zero, List.set_cons_succ, List.getElem_toArray, List.getElem_cons_zero, List.getElem_cons_succ])
  refine wpTill.take (i := 5) (v := ?_) (by rfl) rfl (by kernel_rfl) (by kernel_rfl) (by kernel_rfl) (by exact fun _ _ _ h => h) (HSS.out _ HQ.out.base) (fun _ => trivial) (Or.inl ⟨by rfl, ?_⟩) ?_
  rotate_left
  · (intro w' hSw; (try dsimp only at hSw); go_simp; (try with_reducible rfl))
  (try simp only [Act.put, List.setIfInBounds_toArray, List.set_cons_zero, List.set_cons_succ, List.getElem_toArray, List.getElem_cons_zero, List.getElem_cons_succ])
  refine wpTill.take (i := 6) (v := ?_) (by rfl) rfl (by kernel_rfl) (by kernel_rfl) (by kernel_rfl) (by exact fun _ _ _ h => h) (HSS.out _ HQ.out.base) (fun _ => trivial) (Or.inl ⟨by rfl, ?_⟩) ?_
  rotate_left
  · (intro w' hSw; (try dsimp only at hSw); go_simp; (try with_reducible rfl))
  (try simp only [Act.put, List.setIfInBounds_toArray, List.set_cons_zero, List.set_cons_succ, List.getElem_toArray, List.getElem_cons_zero, List.getElem_cons_succ])
  refine wpTill.take (i := 7) (v := ?_) (by rfl) rfl (by kernel_rfl) (by kernel_rfl) (by kernel_rfl) (by exact fun _ _ _ h => h) (HSS.out _ HQ.out.base) (fun _ => trivial) (Or.inl ⟨by rfl, ?_⟩) ?_
  rotate_left
  · (intro w' hSw; (try dsimp only at hSw); go_simp; (try with_reducible rfl))
  (try simp only [Act.put, List.setIfInBounds_toArray, List.set_cons_zero, List.set_cons_succ, List.getElem_toArray, List.getElem_cons_zero, List.getElem_cons_succ])
  refine wpTill.take (i := 8) (v := ?_) (by rfl) rfl (by kernel_rfl) (by kernel_rfl) (by kernel_rfl) (by exact fun _ _ _ h => h) (HSS.out _ HQ.out.base) (fun _ => trivial) (Or.inl ⟨by rfl, ?_⟩) ?_
  rotate_left
  · (intro w' hSw; (try dsimp only at hSw); go_simp; (try with_reducible rfl))
  (try simp only [Act.put, List.setIfInBounds_toArray, List.set_cons_zero, List.set_cons_succ, List.getElem_toArray, List.getElem_cons_zero, List.getElem_cons_succ])
  obtain ⟨zE, kE, fE⟩ := HQ.out.loc
  refine wpTill.step (i := 9) (by kernel_rfl) (by rfl) (fun K' hK => ?_)
  replace hK := Lib.hid hK
  go_simp
  have HQ2 := Lib.hid (HQ.out.setLoan ⟨a, u, 0, false⟩)
  simp only at HQ2
  refine hK.out _ _ (HSS.out _ HQ2.out.base) (fun _ => trivial) ?_
  clear hK K'
  (try simp only [Act.put, List.setIfInBounds_toArray, List.set_cons_zero, List.set_cons_succ, List.getElem_toArray, List.getElem_cons_zero, List.getElem_cons_succ])
  refine wpTill.stop (by kernel_rfl) ?_ _
  go_wp2_with (fail)
  exact bodyPost_ret (results_loan49 HQ2.out.loc rfl) rfl ⟨rfl, HQ2.out.base⟩
section
variable {w0 w w' : World} {Rs : List Res} {W : Nat} {v : WorV}
theorem Sep.noDev {a b c : Res} {B X : Nat} : ∀ {xo : Option DevV}, Sep w0 w (a :: b :: c :: (devO B X xo ++ Rs)) → Sep w0 w (a :: b :: c :: Rs)
  | none, h => h
  | some _, h => h.r4.drop
/-- what open does to a World -/
def openW (v : WorV) : WorV :=
  match openD v.d v.number ⟨v.number, v.units, 0, false⟩ with
  | (d, none, _) => { v with d := d, x := none }
  | (d, some x, _) => { v with d := d, x := some x, durable := x.ents, last := x.ents, torn := [] }
/-- nothing impossible happens in it -/
def OpenOk (v : WorV) : Prop :=
  match openD v.d v.number ⟨v.number, v.units, 0, false⟩ with
  | (_, none, e) => e = 8 ∨ e = 9
  | (_, some x, e) => e = 0 ∧ x.ents <+: v.last ++ v.torn ∧ v.durable <+: x.ents ∧ x.ents.length ≤ 1000 ∧ ∀ u ∈ x.ents, RightE u
def OkW (v : WorV) : Prop := v.last.length ≤ 1000 ∧ v.torn.length ≤ 1000
set_option maxRecDepth 100000 in
set_option maxHeartbeats 16000000 in
theorem wopen_any (h : Sep w0 w (worR W v :: Rs)) (hE : Env w0.heap.size w0) (hok : OkW v) (ho : OpenOk v) :
    Calls Tryz.prog 47 #[.pointer (some ⟨W, 0, none⟩)] w fun e w' => e = .returned (.tuple #[]) ∧ Sep w0 w' (worR W (openW v) :: Rs) := by
  obtain ⟨⟨B, X, LH, LD, LL, LT⟩, ⟨hH, hD, hL, hT⟩, hq⟩ := h.worPart
  simp only [worLs] at hq
  simp only at hH hD hL hT
  unfold OpenOk at ho
  unfold openW
  obtain ⟨⟨d1, xo, er⟩, hop⟩ : ∃ r, openD v.d v.number ⟨v.number, v.units, 0, false⟩ = r := ⟨_, rfl⟩
  rw [hop] at ho ⊢
  have HS := Lib.hid hq
  have HE := Lib.hid hE
  have HHE := Lib.hid hH
  have HDE := Lib.hid hD
  have HLE := Lib.hid hL
  have HTE := Lib.hid hT
  have HO := Lib.hid ho
  have HOP := Lib.hid hop
  have HOK := Lib.hid hok
  clear h hE hH hD hL hT ho hop hok
  go_enter Tryz.func47, Tryz.ntmps47
  have HS1 := Lib.hid HS.out.noDev
  clear HS
  go_upto_region 0 with (fail)
  go_cut [2, 3] (fun s2 s3 wy => s3 = .int .i64 er ∧ ∃ X', s2 = devP X' xo ∧ Sep w0 wy (boxR W (worX B (devP X v.x) v.number v.units LH.val LD.val LL.val LT.val v.spent) :: seesR (WorI.sees ⟨B, X, LH, LD, LL, LT⟩ v.ex) :: diskR B d1 :: (devO B X' xo ++ Rs)))
  case first =>
    refine wpTill.startN 16 (S := fun w' => w'.cell? ⟨W, 0, none⟩ = some (.pointer (some ⟨B, 0, none⟩)) ∧ w'.cell? ⟨W, 2, none⟩ = some (.int .i64 v.number)) (T := fun _ => True) (m := 300) rfl (by kernel_rfl) ?_
    have HQ := Lib.hid HS1.out.drew
    generalize w.drew = wz at *
    have HWC := Lib.hid (world_cells HQ.out.loc)
    refine wpTill.take (i := 0) (v := ?_) (by rfl) rfl (by kernel_rfl) (by kernel_rfl) (by kernel_rfl) (by exact fun _ _ _ h => h) ⟨HWC.out.1, HWC.out.2.1⟩ (fun _ => trivial) (Or.inl ⟨by rfl, ?_⟩) ?_
    rotate_left
    · (intro w' hSw; (try dsimp only at hSw); go_simp; (try with_reducible rfl))
    (try simp only [Act.put, List.setIfInBounds_toArray, List.set_cons_zero, List.set_cons_succ, List.getElem_toArray, List.getElem_cons_zero, List.getElem_cons_succ])
    refine wpTill.take (i := 1) (v := ?_) (by rfl) rfl (by kernel_rfl) (by kernel_rfl) (by kernel_rfl) (by exact fun _ _ _ h => h) ⟨HWC.out.1, HWC.out.2.1⟩ (fun _ => trivial) (Or.inl ⟨by rfl, ?_⟩) ?_
    rotate_left
    · (intro w' hSw; (try dsimp only at hSw); go_simp; (try with_reducible rfl))
    (try simp only [Act.put, List.setIfInBounds_toArray, List.set_cons_zero, List.set_cons_succ, List.getElem_toArray, List.getElem_cons_zero, List.getElem_cons_succ])
    refine wpTill.take (i := 2) (v := ?_) (by rfl) rfl (by kernel_rfl) (by kernel_rfl) (by kernel_rfl) (by exact fun _ _ _ h => h) ⟨HWC.out.1, HWC.out.2.1⟩ (fun _ => trivial) (Or.inl ⟨by rfl, ?_⟩) ?_
    rotate_left
    · (intro w' hSw; (try dsimp only at hSw); go_simp; (try with_reducible rfl))
    (try simp only [Act.put, List.setIfInBounds_toArray, List.set_cons_zero, List.set_cons_succ, List.getElem_toArray, List.getElem_cons_zero, List.getElem_cons_succ])
    refine wpTill.take (i := 3) (v := ?_) (by rfl) rfl (by kernel_rfl) (by kernel_rfl) (by kernel_rfl) (by exact fun _ _ _ h => h) ⟨HWC.out.1, HWC.out.2.1⟩ (fun _ => trivial) (Or.inl ⟨by rfl, ?_⟩) ?_
    rotate_left
    · (intro w' hSw; (try dsimp only at hSw); go_simp; (try with_reducible rfl))
    (try simp only [Act.put, List.setIfInBounds_toArray, List.set_cons_zero, List.set_cons_succ, List.getElem_toArray, List.getElem_cons_zero, List.getElem_cons_succ])
    refine wpTill.take (i := 4) (v := ?_) (by rfl) rfl (by kernel_rfl) (by kernel_rfl) (by kernel_rfl) (by exact fun _ _ _ h => h) ⟨HWC.out.1, HWC.out.2.1⟩ (fun _ => trivial) (Or.inl ⟨by rfl, ?_⟩) ?_
    rotate_left
    · (intro w' hSw; (try dsimp only at hSw); go_simp; (try with_reducible rfl))
    (try simp only [Act.put, List.setIfInBounds_toArray, List.set_cons_zero, List.set_cons_succ, List.getElem_toArray, List.getElem_cons_zero, List.getElem_cons_succ])
    refine wpTill.take (i := 5) (v := ?_) (by rfl) rfl (by kernel_rfl) (by kernel_rfl) (by kernel_rfl) (by exact fun _ _ _ h => h) ⟨HWC.out.1, HWC.out.2.1⟩ (fun _ => trivial) (Or.inl ⟨by rfl, ?_⟩) ?_
    rotate_left
    · (intro w' hSw; (try dsimp only at hSw); go_simp; (try with_reducible rfl))
    (try simp only [Act.put, List.setIfInBounds_toArray, List.set_cons_zero, List.set_cons_succ, List.getElem_toArray, List.getElem_cons_zero, List.getElem_cons_succ])
    refine wpTill.take (i := 6) (v := ?_) (by rfl) rfl (by kernel_rfl) (by kernel_rfl) (by kernel_rfl) (by exact fun _ _ _ h => h) ⟨HWC.out.1, HWC.out.2.1⟩ (fun _ => trivial) (Or.inl ⟨by rfl, ?_⟩) ?_
    rotate_left
    · (intro w' hSw; (try dsimp only at hSw); go_simp; (try with_reducible rfl))
    (try simp only [Act.put, List.setIfInBounds_toArray, List.set_cons_zero, List.set_cons_succ, List.getElem_toArray, List.getElem_cons_zero, List.getElem_cons_succ])
    refine wpTill.take (i := 7) (v := ?_) (by rfl) rfl (by kernel_rfl) (by kernel_rfl) (by kernel_rfl) (by exact fun _ _ _ h => h) ⟨HWC.out.1, HWC.out.2.1⟩ (fun _ => trivial) (Or.inl ⟨by rfl, ?_⟩) ?_
    rotate_left
    · (intro w' hSw; (try dsimp only at hSw); go_simp; (try with_reducible rfl))
    (try simp only [Act.put, List.setIfInBounds_toArray, List.set_cons_zero, List.set_cons_succ, List.getElem_toArray, List.getElem_cons_zero, List.getElem_cons_succ])
    refine wpTill.take (i := 8) (v := ?_) (by rfl) rfl (by kernel_rfl) (by kernel_rfl) (by kernel_rfl) (by exact fun _ _ _ h => h) ⟨HWC.out.1, HWC.out.2.1⟩ (fun _ => trivial) (Or.inl ⟨by rfl, ?_⟩) ?_
    rotate_left
    · (intro w' hSw; (try dsimp only at hSw); go_simp; (try with_reducible rfl))
    (try simp only [Act.put, List.setIfInBounds_toArray, List.set_cons_zero, List.set_cons_succ, List.getElem_toArray, List.getElem_cons_zero, List.getElem_cons_succ])
    have HLO := Lib.hid (wloan_any _ _ _ _ _ _ _ _ _ _ _ HQ.out.loc)
    refine wpTill.step (i := 9) (by kernel_rfl) (by rfl) (fun K' hK => ?_)
    replace hK := Lib.hid hK
    go_simp
    go_at_call 44
    ((with_reducible refine (HLO.out).mono ?_); rintro _ wN ⟨rfl, hbN⟩)
    replace HQ := Lib.hid (HQ.out.below hbN)
    replace HWC := Lib.hid (world_cells HQ.out.loc)
    clear hbN HLO
    refine hK.out _ _ ⟨HWC.out.1, HWC.out.2.1⟩ (fun _ => trivial) ?_
    clear hK K'
    (try simp only [Act.put, List.setIfInBounds_toArray, List.set_cons_zero, List.set_cons_succ, List.getElem_toArray, List.getElem_cons_zero, List.getElem_cons_succ])
    have HOD := Lib.hid (OpenDev_sep HQ.out.r3 HE.out v.number ⟨v.number, v.units, 0, false⟩ _ HOP.out)
    refine wpTill.step (i := 10) (by kernel_rfl) (by rfl) (fun K' hK => ?_)
    replace hK := Lib.hid hK
    go_simp
    go_at_call 17
    cases xo with
    | none =>
      ((with_reducible refine (HOD.out).mono ?_); rintro _ wO ⟨rfl, hO⟩)
      have HX := Lib.hid hO.l3
      have HWC2 := Lib.hid (world_cells HX.out.loc)
      clear hO
      refine hK.out _ _ ⟨HWC2.out.1, HWC2.out.2.1⟩ (fun _ => trivial) ?_
      clear hK K'
      (try simp only [Act.put, List.setIfInBounds_toArray, List.set_cons_zero, List.set_cons_succ, List.getElem_toArray, List.getElem_cons_zero, List.getElem_cons_succ])
      refine wpTill.take (i := 11) (v := ?_) (by rfl) rfl (by kernel_rfl) (by kernel_rfl) (by kernel_rfl) (by exact fun _ _ _ h => h) ⟨HWC2.out.1, HWC2.out.2.1⟩ (fun _ => trivial) (Or.inl ⟨by rfl, ?_⟩) ?_
      rotate_left
      · (intro w' hSw; (try dsimp only at hSw); go_simp; (try with_reducible rfl))
      (try simp only [Act.put, List.setIfInBounds_toArray, List.set_cons_zero, List.set_cons_succ, List.getElem_toArray, List.getElem_cons_zero, List.getElem_cons_succ])
      refine wpTill.take (i := 12) (v := ?_) (by rfl) rfl (by kernel_rfl) (by kernel_rfl) (by kernel_rfl) (by exact fun _ _ _ h => h) ⟨HWC2.out.1, HWC2.out.2.1⟩ (fun _ => trivial) (Or.inl ⟨by rfl, ?_⟩) ?_
      rotate_left
      · (intro w' hSw; (try dsimp only at hSw); go_simp; (try with_reducible rfl))
      (try simp only [Act.put, List.setIfInBounds_toArray, List.set_cons_zero, List.set_cons_succ, List.getElem_toArray, List.getElem_cons_zero, List.getElem_cons_succ])
      refine wpTill.take (i := 13) (v := ?_) (by rfl) rfl (by kernel_rfl) (by kernel_rfl) (by kernel_rfl) (by exact fun _ _ _ h => h) ⟨HWC2.out.1, HWC2.out.2.1⟩ (fun _ => trivial) (Or.inl ⟨by rfl, ?_⟩) ?_
      rotate_left
      · (intro w' hSw; (try dsimp only at hSw); go_simp; (try with_reducible rfl))
      (try simp only [Act.put, List.setIfInBounds_toArray, List.set_cons_zero, List.set_cons_succ, List.getElem_toArray, List.getElem_cons_zero, List.getElem_cons_succ])
      refine wpTill.take (i := 14) (v := ?_) (by rfl) rfl (by kernel_rfl) (by kernel_rfl) (by kernel_rfl) (by exact fun _ _ _ h => h) ⟨HWC2.out.1, HWC2.out.2.1⟩ (fun _ => trivial) (Or.inl ⟨by rfl, ?_⟩) ?_
      rotate_left
      · (intro w' hSw; (try dsimp only at hSw); go_simp; (try with_reducible rfl))
      (try simp only [Act.put, List.setIfInBounds_toArray, List.set_cons_zero, List.set_cons_succ, List.getElem_toArray, List.getElem_cons_zero, List.getElem_cons_succ])
      refine wpTill.take (i := 15) (v := ?_) (by rfl) rfl (by kernel_rfl) (by kernel_rfl) (by kernel_rfl) (by exact fun _ _ _ h => h) ⟨HWC2.out.1, HWC2.out.2.1⟩ (fun _ => trivial) (Or.inl ⟨by rfl, ?_⟩) ?_
      rotate_left
      · (intro w' hSw; (try dsimp only at hSw); go_simp; (try with_reducible rfl))
      (try simp only [Act.put, List.setIfInBounds_toArray, List.set_cons_zero, List.set_cons_succ, List.getElem_toArray, List.getElem_cons_zero, List.getElem_cons_succ])
      refine wpTill.stop (by kernel_rfl) ?_ _
      go_wp2_with (fail)
      go_meet
      exact ⟨rfl, 0, rfl, HX.out⟩
    | some x =>
      ((with_reducible refine (HOD.out).mono ?_); rintro _ wO ⟨X2, rfl, hO⟩)
      have HX := Lib.hid hO.w2
      have HWC2 := Lib.hid (world_cells HX.out.loc)
      clear hO
      refine hK.out _ _ ⟨HWC2.out.1, HWC2.out.2.1⟩ (fun _ => trivial) ?_
      clear hK K'
      (try simp only [Act.put, List.setIfInBounds_toArray, List.set_cons_zero, List.set_cons_succ, List.getElem_toArray, List.getElem_cons_zero, List.getElem_cons_succ])
      refine wpTill.take (i := 11) (v := ?_) (by rfl) rfl (by kernel_rfl) (by kernel_rfl) (by kernel_rfl) (by exact fun _ _ _ h => h) ⟨HWC2.out.1, HWC2.out.2.1⟩ (fun _ => trivial) (Or.inl ⟨by rfl, ?_⟩) ?_
      rotate_left
      · (intro w' hSw; (try dsimp only at hSw); go_simp; (try with_reducible rfl))
      (try simp only [Act.put, List.setIfInBounds_toArray, List.set_cons_zero, List.set_cons_succ, List.getElem_toArray, List.getElem_cons_zero, List.getElem_cons_succ])
      refine wpTill.take (i := 12) (v := ?_) (by rfl) rfl (by kernel_rfl) (by kernel_rfl) (by kernel_rfl) (by exact fun _ _ _ h => h) ⟨HWC2.out.1, HWC2.out.2.1⟩ (fun _ => trivial) (Or.inl ⟨by rfl, ?_⟩) ?_
      rotate_left
      · (intro w' hSw; (try dsimp only at hSw); go_simp; (try with_reducible rfl))
      (try simp only [Act.put, List.setIfInBounds_toArray, List.set_cons_zero, List.set_cons_succ, List.getElem_toArray, List.getElem_cons_zero, List.getElem_cons_succ])
      refine wpTill.take (i := 13) (v := ?_) (by rfl) rfl (by kernel_rfl) (by kernel_rfl) (by kernel_rfl) (by exact fun _ _ _ h => h) ⟨HWC2.out.1, HWC2.out.2.1⟩ (fun _ => trivial) (Or.inl ⟨by rfl, ?_⟩) ?_
      rotate_left
      · (intro w' hSw; (try dsimp only at hSw); go_simp; (try with_reducible rfl))
      (try simp only [Act.put, List.setIfInBounds_toArray, List.set_cons_zero, List.set_cons_succ, List.getElem_toArray, List.getElem_cons_zero, List.getElem_cons_succ])
      refine wpTill.take (i := 14) (v := ?_) (by rfl) rfl (by kernel_rfl) (by kernel_rfl) (by kernel_rfl) (by exact fun _ _ _ h => h) ⟨HWC2.out.1, HWC2.out.2.1⟩ (fun _ => trivial) (Or.inl ⟨by rfl, ?_⟩) ?_
      rotate_left
      · (intro w' hSw; (try dsimp only at hSw); go_simp; (try with_reducible rfl))
      (try simp only [Act.put, List.setIfInBounds_toArray, List.set_cons_zero, List.set_cons_succ, List.getElem_toArray, List.getElem_cons_zero, List.getElem_cons_succ])
      refine wpTill.take (i := 15) (v := ?_) (by rfl) rfl (by kernel_rfl) (by kernel_rfl) (by kernel_rfl) (by exact fun _ _ _ h => h) ⟨HWC2.out.1, HWC2.out.2.1⟩ (fun _ => trivial) (Or.inl ⟨by rfl, ?_⟩) ?_
      rotate_left
      · (intro w' hSw; (try dsimp only at hSw); go_simp; (try with_reducible rfl))
      (try simp only [Act.put, List.setIfInBounds_toArray, List.set_cons_zero, List.set_cons_succ, List.getElem_toArray, List.getElem_cons_zero, List.getElem_cons_succ])
      refine wpTill.stop (by kernel_rfl) ?_ _
      go_wp2_with (fail)
      go_meet
      exact ⟨rfl, X2, rfl, HX.out⟩
  case rest =>
  obtain ⟨rfl, X2, rfl, hq2⟩ := hcut
  have HS2 := Lib.hid hq2
  clear hq2 HS1
  obtain ⟨zW, kW, fW⟩ := HS2.out.loc
  cases xo with
  | none =>
    simp only [devP]
    have HX : Hid (Sep w0 ((wc.setCell ⟨W, 1, none⟩ (.pointer none)).setCell ⟨W, 9, none⟩ (.bool false)) (boxR W (worX B (.pointer none) v.number v.units LH.val LD.val LL.val LT.val v.spent) :: seesR (WorI.sees ⟨B, X, LH, LD, LL, LT⟩ v.ex) :: diskR B d1 :: Rs)) := Lib.hid (by simpa [devO] using (HS2.out.set_ 1 (.pointer none)).set_ 9 (.bool false))
    rcases HO.out with rfl | rfl
    · go_wp2_with (fail)
      refine bodyPost_ret (results_none rfl _ _ _) rfl ?_
      exact ⟨rfl, Sep.worPack ⟨B, X, LH, LD, LL, LT⟩ ⟨HHE.out, HDE.out, HLE.out, HTE.out⟩ HX.out⟩
    · go_wp2_with (fail)
      refine bodyPost_ret (results_none rfl _ _ _) rfl ?_
      exact ⟨rfl, Sep.worPack ⟨B, X, LH, LD, LL, LT⟩ ⟨HHE.out, HDE.out, HLE.out, HTE.out⟩ HX.out⟩
  | some x =>
    simp only [devP]
    obtain ⟨rfl, hpre, hdur, hlen, hrt⟩ := HO.out
    have HX : Hid (Sep w0 ((wc.setCell ⟨W, 1, none⟩ (.pointer none)).setCell ⟨W, 1, none⟩ (.pointer (some ⟨X2, 0, none⟩))) (boxR W (worX B (.pointer (some ⟨X2, 0, none⟩)) v.number v.units LH.val LD.val LL.val LT.val v.spent) :: seesR (WorI.sees ⟨B, X, LH, LD, LL, LT⟩ v.ex) :: diskR B d1 :: devR B X2 x :: Rs)) := Lib.hid (by simpa [devO] using (HS2.out.set_ 1 (.pointer none)).set_ 1 (.pointer (some ⟨X2, 0, none⟩)))
    have HPRE := Lib.hid hpre
    have HDUR := Lib.hid hdur
    have HLEN := Lib.hid hlen
    have HRT := Lib.hid hrt
    have HAL := Lib.hid (All_dev HX.out.w1 hlen hrt)
    clear hpre hdur hlen hrt HO
    go_wp2_with (fail)
    clear zW kW fW
    ((with_reducible refine (HAL.out).mono ?_); rintro _ w4 ⟨A4, c4, fs, hfs, rfl, h4⟩)
    have HCAP := Lib.hid (own_capE h4.own).1
    have HFS := Lib.hid hfs
    have HQ0 : Hid (Sep w0 w4 (boxR W (worX B (.pointer (some ⟨X2, 0, none⟩)) v.number v.units LH.val LD.val LL.val LT.val v.spent) :: seesR (fun Y => WorI.sees ⟨B, X, LH, LD, LL, LT⟩ v.ex Y ∧ ChAt Y A4 fs.length fs) :: diskR B d1 :: devR B X2 x :: Rs)) := Lib.hid ((h4.ownSees.seesTurn (ψ := fun Y => ChAt Y A4 fs.length fs) fun Y hY => ⟨hY.1, hY.2, fun e he => by
      have h := HRT.out e.v (by rw [← hfs]; exact List.mem_map.2 ⟨e, he, rfl⟩)
      have := h.len
      have := h.txt
      exact ⟨by omega, by omega⟩⟩).r5.seesAnd.w1.r3.sw)
    clear h4 hfs HX HAL HS2
    go_upto_region 8 with (fail)
    refine wpTill.startN 33 (S := fun w' => w'.cell? ⟨W, 5, none⟩ = some LD.val ∧ w'.cell? ⟨W, 6, none⟩ = some LL.val ∧ w'.cell? ⟨W, 7, none⟩ = some LT.val ∧ w'.cell? ⟨W, 9, none⟩ = some (.bool false)) (T := fun _ => True) (m := 300) rfl (by kernel_rfl) ?_
    have HQ := Lib.hid HQ0.out.drew
    generalize w4.drew = wz at *
    have HSS : Hid (∀ w' Rs', Sep w0 w' (boxR W (worX B (.pointer (some ⟨X2, 0, none⟩)) v.number v.units LH.val LD.val LL.val LT.val v.spent) :: Rs') → (w'.cell? ⟨W, 5, none⟩ = some LD.val ∧ w'.cell? ⟨W, 6, none⟩ = some LL.val ∧ w'.cell? ⟨W, 7, none⟩ = some LT.val ∧ w'.cell? ⟨W, 9, none⟩ = some (.bool false))) := Lib.hid fun w' Rs' h => (world_cells h.loc).2.2.2
    refine wpTill.take (i := 0) (v := ?_) (by rfl) rfl (by kernel_rfl) (by kernel_rfl) (by kernel_rfl) (by exact fun _ _ _ h => h) (HSS.out _ _ HQ.out) (fun _ => trivial) (Or.inl ⟨by rfl, ?_⟩) ?_
    rotate_left
    · (intro w' hSw; (try dsimp only at hSw); go_simp; (try with_reducible rfl))
    (try simp only [Act.put, List.setIfInBounds_toArray, List.set_cons_zero, List.set_cons_succ, List.getElem_toArray, List.getElem_cons_zero, List.getElem_cons_succ])
    refine wpTill.take (i := 1) (v := ?_) (by rfl) rfl (by kernel_rfl) (by kernel_rfl) (by kernel_rfl) (by exact fun _ _ _ h => h) (HSS.out _ _ HQ.out) (fun _ => trivial) (Or.inl ⟨by rfl, ?_⟩) ?_
    rotate_left
    · (intro w' hSw; (try dsimp only at hSw); go_simp; (try with_reducible rfl))
    (try simp only [Act.put, List.setIfInBounds_toArray, List.set_cons_zero, List.set_cons_succ, List.getElem_toArray, List.getElem_cons_zero, List.getElem_cons_succ])
    refine wpTill.take (i := 2) (v := ?_) (by rfl) rfl (by kernel_rfl) (by kernel_rfl) (by kernel_rfl) (by exact fun _ _ _ h => h) (HSS.out _ _ HQ.out) (fun _ => trivial) (Or.inl ⟨by rfl, ?_⟩) ?_
    rotate_left
    · (intro w' hSw; (try dsimp only at hSw); go_simp; (try with_reducible rfl))
    (try simp only [Act.put, List.setIfInBounds_toArray, List.set_cons_zero, List.set_cons_succ, List.getElem_toArray, List.getElem_cons_zero, List.getElem_cons_succ])
    refine wpTill.take (i := 3) (v := ?_) (by rfl) rfl (by kernel_rfl) (by kernel_rfl) (by kernel_rfl) (by exact fun _ _ _ h => h) (HSS.out _ _ HQ.out) (fun _ => trivial) (Or.inl ⟨by rfl, ?_⟩) ?_
    rotate_left
    · (intro w' hSw; (try dsimp only at hSw); go_simp; (try with_reducible rfl))
    (try simp only [Act.put, List.setIfInBounds_toArray, List.set_cons_zero, List.set_cons_succ, List.getElem_toArray, List.getElem_cons_zero, List.getElem_cons_succ])
    refine wpTill.take (i := 4) (v := ?_) (by rfl) rfl (by kernel_rfl) (by kernel_rfl) (by kernel_rfl) (by exact fun _ _ _ h => h) (HSS.out _ _ HQ.out) (fun _ => trivial) (Or.inl ⟨by rfl, ?_⟩) ?_
    rotate_left
    · (intro w' hSw; (try dsimp only at hSw); go_simp; (try with_reducible rfl))
    (try simp only [Act.put, List.setIfInBounds_toArray, List.set_cons_zero, List.set_cons_succ, List.getElem_toArray, List.getElem_cons_zero, List.getElem_cons_succ])
    refine wpTill.take (i := 5) (v := ?_) (by rfl) rfl (by kernel_rfl) (by kernel_rfl) (by kernel_rfl) (by exact fun _ _ _ h => h) (HSS.out _ _ HQ.out) (fun _ => trivial) (Or.inl ⟨by rfl, ?_⟩) ?_
    rotate_left
    · (intro w' hSw; (try dsimp only at hSw); go_simp; (try with_reducible rfl))
    (try simp only [Act.put, List.setIfInBounds_toArray, List.set_cons_zero, List.set_cons_succ, List.getElem_toArray, List.getElem_cons_zero, List.getElem_cons_succ])
    refine wpTill.take (i := 7) (v := ?_) (by rfl) rfl (by kernel_rfl) (by kernel_rfl) (by kernel_rfl) (by exact fun _ _ _ h => h) (HSS.out _ _ HQ.out) (fun _ => trivial) (Or.inl ⟨by rfl, ?_⟩) ?_
    rotate_left
    · (intro w' hSw; (try dsimp only at hSw); go_simp; (try with_reducible rfl))
    (try simp only [Act.put, List.setIfInBounds_toArray, List.set_cons_zero, List.set_cons_succ, List.getElem_toArray, List.getElem_cons_zero, List.getElem_cons_succ])
    refine wpTill.take (i := 8) (v := ?_) (by rfl) rfl (by kernel_rfl) (by kernel_rfl) (by kernel_rfl) (by exact fun _ _ _ h => h) (HSS.out _ _ HQ.out) (fun _ => trivial) (Or.inl ⟨by rfl, ?_⟩) ?_
    rotate_left
    · (intro w' hSw; (try dsimp only at hSw); go_simp; (try with_reducible rfl))
    (try simp only [Act.put, List.setIfInBounds_toArray, List.set_cons_zero, List.set_cons_succ, List.getElem_toArray, List.getElem_cons_zero, List.getElem_cons_succ])
    refine wpTill.take (i := 9) (v := ?_) (by rfl) rfl (by kernel_rfl) (by kernel_rfl) (by kernel_rfl) (by exact fun _ _ _ h => h) (HSS.out _ _ HQ.out) (fun _ => trivial) (Or.inl ⟨by rfl, ?_⟩) ?_
    rotate_left
    · (intro w' hSw; (try dsimp only at hSw); go_simp; (try with_reducible rfl))
    (try simp only [Act.put, List.setIfInBounds_toArray, List.set_cons_zero, List.set_cons_succ, List.getElem_toArray, List.getElem_cons_zero, List.getElem_cons_succ])
    refine wpTill.take (i := 10) (v := ?_) (by rfl) rfl (by kernel_rfl) (by kernel_rfl) (by kernel_rfl) (by exact fun _ _ _ h => h) (HSS.out _ _ HQ.out) (fun _ => trivial) (Or.inl ⟨by rfl, ?_⟩) ?_
    rotate_left
    · (intro w' hSw; (try dsimp only at hSw); go_simp; (try with_reducible rfl))
    (try simp only [Act.put, List.setIfInBounds_toArray, List.set_cons_zero, List.set_cons_succ, List.getElem_toArray, List.getElem_cons_zero, List.getElem_cons_succ])
    refine wpTill.take (i := 12) (v := ?_) (by rfl) rfl (by kernel_rfl) (by kernel_rfl) (by kernel_rfl) (by exact fun _ _ _ h => h) (HSS.out _ _ HQ.out) (fun _ => trivial) (Or.inl ⟨by rfl, ?_⟩) ?_
    rotate_left
    · (intro w' hSw; (try dsimp only at hSw); go_simp; (try with_reducible rfl))
    (try simp only [Act.put, List.setIfInBounds_toArray, List.set_cons_zero, List.set_cons_succ, List.getElem_toArray, List.getElem_cons_zero, List.getElem_cons_succ])
    refine wpTill.take (i := 13) (v := ?_) (by rfl) rfl (by kernel_rfl) (by kernel_rfl) (by kernel_rfl) (by exact fun _ _ _ h => h) (HSS.out _ _ HQ.out) (fun _ => trivial) (Or.inl ⟨by rfl, ?_⟩) ?_
    rotate_left
    · (intro w' hSw; (try dsimp only at hSw); go_simp; (try with_reducible rfl))
    (try simp only [Act.put, List.setIfInBounds_toArray, List.set_cons_zero, List.set_cons_succ, List.getElem_toArray, List.getElem_cons_zero, List.getElem_cons_succ])
    refine wpTill.take (i := 14) (v := ?_) (by rfl) rfl (by kernel_rfl) (by kernel_rfl) (by kernel_rfl) (by exact fun _ _ _ h => h) (HSS.out _ _ HQ.out) (fun _ => trivial) (Or.inl ⟨by rfl, ?_⟩) ?_
    rotate_left
    · (intro w' hSw; (try dsimp only at hSw); go_simp; (try with_reducible rfl))
    (try simp only [Act.put, List.setIfInBounds_toArray, List.set_cons_zero, List.set_cons_succ, List.getElem_toArray, List.getElem_cons_zero, List.getElem_cons_succ])
    refine wpTill.take (i := 15) (v := ?_) (by rfl) rfl (by kernel_rfl) (by kernel_rfl) (by kernel_rfl) (by exact fun _ _ _ h => h) (HSS.out _ _ HQ.out) (fun _ => trivial) (Or.inl ⟨by rfl, ?_⟩) ?_
    rotate_left
    · (intro w' hSw; (try dsimp only at hSw); go_simp; (try with_reducible rfl))
    (try simp only [Act.put, List.setIfInBounds_toArray, List.set_cons_zero, List.set_cons_succ, List.getElem_toArray, List.getElem_cons_zero, List.getElem_cons_succ])
    refine wpTill.take (i := 17) (v := ?_) (by rfl) rfl (by kernel_rfl) (by kernel_rfl) (by kernel_rfl) (by exact fun _ _ _ h => h) (HSS.out _ _ HQ.out) (fun _ => trivial) (Or.inl ⟨by rfl, ?_⟩) ?_
    rotate_left
    · (intro w' hSw; (try dsimp only at hSw); go_simp; (try with_reducible rfl))
    (try simp only [Act.put, List.setIfInBounds_toArray, List.set_cons_zero, List.set_cons_succ, List.getElem_toArray, List.getElem_cons_zero, List.getElem_cons_succ])
    obtain ⟨i0, hi0, hz0, hz1, hz2⟩ := info_parts infoEnt
    have HLL2 : Hid (LL.es.length ≤ 1000) := Lib.hid (by rw [← vsOf_len, HLE.out]; exact HOK.out.1)
    have HLT2 : Hid (LT.es.length ≤ 1000) := Lib.hid (by rw [← vsOf_len, HTE.out]; exact HOK.out.2)
    refine wpTill.step (i := 6) (by kernel_rfl) (by rfl) (fun K' hK => ?_)
    replace hK := Lib.hid hK
    go_simp
    replace HQ := Lib.hid ((HQ.out.ownNew (below_alloc _ (.cells #[] 32)) (Own.empty (e := 32) (size := 5) (w := wz) (by simp) (Nat.le_refl _))).sw)
    refine hK.out _ _ (HSS.out _ _ HQ.out) (fun _ => trivial) ?_
    clear hK K'
    (try simp only [Act.put, List.setIfInBounds_toArray, List.set_cons_zero, List.set_cons_succ, List.getElem_toArray, List.getElem_cons_zero, List.getElem_cons_succ])
    generalize wz.alloc (.cells #[] 32) = wE at *
    generalize wz.heap.size = gE at *
    refine wpTill.step (i := 11) (by kernel_rfl) (by rfl) (fun K' hK => ?_)
    replace hK := Lib.hid hK
    (refine step_append_w (by first | rfl | simp [go_sem]) (.tmp 56) (.tmp 60) _ (by rfl) w0.heap.size 32 i0 _ 5 64 Tryz.underlying22 hi0 hz0 hz1 hz2 rfl (by omega) (.slice (some ⟨gE, 0, none⟩) 0 0) 0 [] (by rfl) HQ.out.sw.own LL.A LL.es.length LL.c (LL.es.map EntC.cells) (by rfl) HQ.out.r3.sees.1.2.2.1.sl (ents_len _) (ents_one _) (by have := HLL2.out; simp only [maxLen]; omega) (by have := HLL2.out; omega) HQ.out.base.size ?_)
    intro A5 c5 w5 hown5 hg5 hat5
    replace HQ := Lib.hid (HQ.out.sw.grown hown5 hg5 hat5).sw
    rw [Nat.zero_add, List.nil_append] at HQ
    rw [Nat.zero_add]
    clear hown5 hg5 hat5
    refine hK.out _ _ (HSS.out _ _ HQ.out) (fun _ => trivial) ?_
    clear hK K'
    (try simp only [Act.put, List.setIfInBounds_toArray, List.set_cons_zero, List.set_cons_succ, List.getElem_toArray, List.getElem_cons_zero, List.getElem_cons_succ])
    refine wpTill.step (i := 16) (by kernel_rfl) (by rfl) (fun K' hK => ?_)
    replace hK := Lib.hid hK
    (refine step_append_w (by first | rfl | simp [go_sem]) (.tmp 61) (.tmp 65) _ (by rfl) w0.heap.size 32 i0 _ 5 64 Tryz.underlying22 hi0 hz0 hz1 hz2 rfl (by omega) (.slice A5 LL.es.length c5) LL.es.length (LL.es.map EntC.cells) (by rfl) HQ.out.sw.own LT.A LT.es.length LT.c (LT.es.map EntC.cells) (by rfl) HQ.out.r3.sees.1.2.2.2.sl (ents_len _) (ents_one _) (by have := HLL2.out; have := HLT2.out; simp only [maxLen]; omega) (by have := HLL2.out; have := HLT2.out; omega) HQ.out.base.size ?_)
    intro A6 c6 w6 hown6 hg6 hat6
    replace HQ := Lib.hid (HQ.out.sw.grown hown6 hg6 hat6).sw
    rw [← List.map_append] at HQ
    clear hown6 hg6 hat6
    refine hK.out _ _ (HSS.out _ _ HQ.out) (fun _ => trivial) ?_
    clear hK K'
    (try simp only [Act.put, List.setIfInBounds_toArray, List.set_cons_zero, List.set_cons_succ, List.getElem_toArray, List.getElem_cons_zero, List.getElem_cons_succ])
    have hCH : ChAt w6 A6 (LL.es.length + LT.es.length) (LL.es ++ LT.es) := ⟨HQ.out.sw.own.sl', fun e he => by
      rcases List.mem_append.1 he with h | h
      · exact HQ.out.r3.sees.1.2.2.1.at_ e h
      · exact HQ.out.r3.sees.1.2.2.2.at_ e h, fun e he => by
      rcases List.mem_append.1 he with h | h
      · exact HQ.out.r3.sees.1.2.2.1.len e h
      · exact HQ.out.r3.sees.1.2.2.2.len e h⟩
    have HB1 := Lib.hid (begins49_any w6 A6 A4 (LL.es.length + LT.es.length) fs.length c6 c4 (LL.es ++ LT.es) fs hCH HQ.out.r3.sees.2 (own_capE HQ.out.sw.own).1 (by have := HLL2.out; have := HLT2.out; omega) (by
      have e : vsOf (LL.es ++ LT.es) = v.last ++ v.torn := by rw [← HLE.out, ← HTE.out]; unfold vsOf; rw [List.map_append]
      rw [e, HFS.out]; exact HPRE.out))
    clear hCH
    refine wpTill.step (i := 18) (by kernel_rfl) (by rfl) (fun K' hK => ?_)
    replace hK := Lib.hid hK
    go_simp
    go_at_call 48
    ((with_reducible refine (HB1.out).mono ?_); rintro _ w7 ⟨rfl, hb7⟩)
    replace HQ := Lib.hid (HQ.out.below hb7)
    clear hb7 HB1
    refine hK.out _ _ (HSS.out _ _ HQ.out) (fun _ => trivial) ?_
    clear hK K'
    (try simp only [Act.put, List.setIfInBounds_toArray, List.set_cons_zero, List.set_cons_succ, List.getElem_toArray, List.getElem_cons_zero, List.getElem_cons_succ])
    refine wpTill.take (i := 19) (v := ?_) (by rfl) rfl (by kernel_rfl) (by kernel_rfl) (by kernel_rfl) (by exact fun _ _ _ h => h) (HSS.out _ _ HQ.out) (fun _ => trivial) (Or.inl ⟨by rfl, ?_⟩) ?_
    rotate_left
    · (intro w' hSw; (try dsimp only at hSw); go_simp; (try with_reducible rfl))
    (try simp only [Act.put, List.setIfInBounds_toArray, List.set_cons_zero, List.set_cons_succ, List.getElem_toArray, List.getElem_cons_zero, List.getElem_cons_succ])
    refine wpTill.take (i := 20) (v := ?_) (by rfl) rfl (by kernel_rfl) (by kernel_rfl) (by kernel_rfl) (by exact fun _ _ _ h => h) (HSS.out _ _ HQ.out) (fun _ => trivial) (Or.inl ⟨by rfl, ?_⟩) ?_
    rotate_left
    · (intro w' hSw; (try dsimp only at hSw); go_simp; (try with_reducible rfl))
    (try simp only [Act.put, List.setIfInBounds_toArray, List.set_cons_zero, List.set_cons_succ, List.getElem_toArray, List.getElem_cons_zero, List.getElem_cons_succ])
    refine wpTill.take (i := 21) (v := ?_) (by rfl) rfl (by kernel_rfl) (by kernel_rfl) (by kernel_rfl) (by exact fun _ _ _ h => h) (HSS.out _ _ HQ.out) (fun _ => trivial) (Or.inl ⟨by rfl, ?_⟩) ?_
    rotate_left
    · (intro w' hSw; (try dsimp only at hSw); go_simp; (try with_reducible rfl))
    (try simp only [Act.put, List.setIfInBounds_toArray, List.set_cons_zero, List.set_cons_succ, List.getElem_toArray, List.getElem_cons_zero, List.getElem_cons_succ])
    refine wpTill.take (i := 22) (v := ?_) (by rfl) rfl (by kernel_rfl) (by kernel_rfl) (by kernel_rfl) (by exact fun _ _ _ h => h) (HSS.out _ _ HQ.out) (fun _ => trivial) (Or.inl ⟨by rfl, ?_⟩) ?_
    rotate_left
    · (intro w' hSw; (try dsimp only at hSw); go_simp; (try with_reducible rfl))
    (try simp only [Act.put, List.setIfInBounds_toArray, List.set_cons_zero, List.set_cons_succ, List.getElem_toArray, List.getElem_cons_zero, List.getElem_cons_succ])
    refine wpTill.take (i := 23) (v := ?_) (by rfl) rfl (by kernel_rfl) (by kernel_rfl) (by kernel_rfl) (by exact fun _ _ _ h => h) (HSS.out _ _ HQ.out) (fun _ => trivial) (Or.inl ⟨by rfl, ?_⟩) ?_
    rotate_left
    · (intro w' hSw; (try dsimp only at hSw); go_simp; (try with_reducible rfl))
    (try simp only [Act.put, List.setIfInBounds_toArray, List.set_cons_zero, List.set_cons_succ, List.getElem_toArray, List.getElem_cons_zero, List.getElem_cons_succ])
    refine wpTill.take (i := 24) (v := ?_) (by rfl) rfl (by kernel_rfl) (by kernel_rfl) (by kernel_rfl) (by exact fun _ _ _ h => h) (HSS.out _ _ HQ.out) (fun _ => trivial) (Or.inl ⟨by rfl, ?_⟩) ?_
    rotate_left
    · (intro w' hSw; (try dsimp only at hSw); go_simp; (try with_reducible rfl))
    (try simp only [Act.put, List.setIfInBounds_toArray, List.set_cons_zero, List.set_cons_succ, List.getElem_toArray, List.getElem_cons_zero, List.getElem_cons_succ])
    refine wpTill.take (i := 25) (v := ?_) (by rfl) rfl (by kernel_rfl) (by kernel_rfl) (by kernel_rfl) (by exact fun _ _ _ h => h) (HSS.out _ _ HQ.out) (fun _ => trivial) (Or.inl ⟨by rfl, ?_⟩) ?_
    rotate_left
    · (intro w' hSw; (try dsimp only at hSw); go_simp; (try with_reducible rfl))
    (try simp only [Act.put, List.setIfInBounds_toArray, List.set_cons_zero, List.set_cons_succ, List.getElem_toArray, List.getElem_cons_zero, List.getElem_cons_succ])
    refine wpTill.take (i := 26) (v := ?_) (by rfl) rfl (by kernel_rfl) (by kernel_rfl) (by kernel_rfl) (by exact fun _ _ _ h => h) (HSS.out _ _ HQ.out) (fun _ => trivial) (Or.inl ⟨by rfl, ?_⟩) ?_
    rotate_left
    · (intro w' hSw; (try dsimp only at hSw); go_simp; (try with_reducible rfl))
    (try simp only [Act.put, List.setIfInBounds_toArray, List.set_cons_zero, List.set_cons_succ, List.getElem_toArray, List.getElem_cons_zero, List.getElem_cons_succ])
    have HB2 := Lib.hid (begins49_any w7 A4 LD.A fs.length LD.es.length c4 LD.c fs LD.es HQ.out.r3.sees.2 HQ.out.r3.sees.1.2.1 HCAP.out (by rw [← vsOf_len, HFS.out]; have := HLEN.out; omega) (by rw [HDE.out, HFS.out]; exact HDUR.out))
    refine wpTill.step (i := 27) (by kernel_rfl) (by rfl) (fun K' hK => ?_)
    replace hK := Lib.hid hK
    go_simp
    go_at_call 48
    ((with_reducible refine (HB2.out).mono ?_); rintro _ w8 ⟨rfl, hb8⟩)
    replace HQ := Lib.hid (HQ.out.below hb8)
    clear hb8 HB2
    refine hK.out _ _ (HSS.out _ _ HQ.out) (fun _ => trivial) ?_
    clear hK K'
    (try simp only [Act.put, List.setIfInBounds_toArray, List.set_cons_zero, List.set_cons_succ, List.getElem_toArray, List.getElem_cons_zero, List.getElem_cons_succ])
    refine wpTill.take (i := 28) (v := ?_) (by rfl) rfl (by kernel_rfl) (by kernel_rfl) (by kernel_rfl) (by exact fun _ _ _ h => h) (HSS.out _ _ HQ.out) (fun _ => trivial) (Or.inl ⟨by rfl, ?_⟩) ?_
    rotate_left
    · (intro w' hSw; (try dsimp only at hSw); go_simp; (try with_reducible rfl))
    (try simp only [Act.put, List.setIfInBounds_toArray, List.set_cons_zero, List.set_cons_succ, List.getElem_toArray, List.getElem_cons_zero, List.getElem_cons_succ])
    refine wpTill.take (i := 29) (v := ?_) (by rfl) rfl (by kernel_rfl) (by kernel_rfl) (by kernel_rfl) (by exact fun _ _ _ h => h) (HSS.out _ _ HQ.out) (fun _ => trivial) (Or.inl ⟨by rfl, ?_⟩) ?_
    rotate_left
    · (intro w' hSw; (try dsimp only at hSw); go_simp; (try with_reducible rfl))
    (try simp only [Act.put, List.setIfInBounds_toArray, List.set_cons_zero, List.set_cons_succ, List.getElem_toArray, List.getElem_cons_zero, List.getElem_cons_succ])
    refine wpTill.take (i := 30) (v := ?_) (by rfl) rfl (by kernel_rfl) (by kernel_rfl) (by kernel_rfl) (by exact fun _ _ _ h => h) (HSS.out _ _ HQ.out) (fun _ => trivial) (Or.inl ⟨by rfl, ?_⟩) ?_
    rotate_left
    · (intro w' hSw; (try dsimp only at hSw); go_simp; (try with_reducible rfl))
    (try simp only [Act.put, List.setIfInBounds_toArray, List.set_cons_zero, List.set_cons_succ, List.getElem_toArray, List.getElem_cons_zero, List.getElem_cons_succ])
    refine wpTill.take (i := 31) (v := ?_) (by rfl) rfl (by kernel_rfl) (by kernel_rfl) (by kernel_rfl) (by exact fun _ _ _ h => h) (HSS.out _ _ HQ.out) (fun _ => trivial) (Or.inl ⟨by rfl, ?_⟩) ?_
    rotate_left
    · (intro w' hSw; (try dsimp only at hSw); go_simp; (try with_reducible rfl))
    (try simp only [Act.put, List.setIfInBounds_toArray, List.set_cons_zero, List.set_cons_succ, List.getElem_toArray, List.getElem_cons_zero, List.getElem_cons_succ])
    obtain ⟨zW, kW, fW⟩ := HQ.out.loc
    refine wpTill.step (i := 32) (by kernel_rfl) (by rfl) (fun K' hK => ?_)
    replace hK := Lib.hid hK
    go_simp
    have HQ2 : Hid (Sep w0 (w8.setCell ⟨W, 9, none⟩ (.bool false)) (boxR W (worX B (.pointer (some ⟨X2, 0, none⟩)) v.number v.units LH.val LD.val LL.val LT.val v.spent) :: seesR (fun Y => WorI.sees ⟨B, X, LH, LD, LL, LT⟩ v.ex Y ∧ ChAt Y A4 fs.length fs) :: diskR B d1 :: devR B X2 x :: Rs)) := Lib.hid (by
      have h := HQ.out.sw.drop.set_ 9 (.bool false)
      simpa using h)
    refine hK.out _ _ (HSS.out _ _ HQ2.out) (fun _ => trivial) ?_
    clear hK K'
    (try simp only [Act.put, List.setIfInBounds_toArray, List.set_cons_zero, List.set_cons_succ, List.getElem_toArray, List.getElem_cons_zero, List.getElem_cons_succ])
    refine wpTill.stop (by kernel_rfl) ?_ _
    clear zW kW fW
    obtain ⟨zW, kW, fW⟩ := HQ2.out.loc
    have HQ3 : Hid (Sep w0 ((((w8.setCell ⟨W, 9, none⟩ (.bool false)).setCell ⟨W, 5, none⟩ (.slice A4 fs.length c4)).setCell ⟨W, 6, none⟩ (.slice A4 fs.length c4)).setCell ⟨W, 7, none⟩ (.slice none 0 0)) (boxR W (worX B (.pointer (some ⟨X2, 0, none⟩)) v.number v.units LH.val (.slice A4 fs.length c4) (.slice A4 fs.length c4) (.slice none 0 0) v.spent) :: seesR (WorI.sees ⟨B, X2, LH, ⟨A4, c4, fs⟩, ⟨A4, c4, fs⟩, ⟨none, 0, []⟩⟩ v.ex) :: diskR B d1 :: devR B X2 x :: Rs)) := Lib.hid (by
      have h := ((HQ2.out.set_ 5 (.slice A4 fs.length c4)).set_ 6 (.slice A4 fs.length c4)).set_ 7 (.slice none 0 0)
      have h2 := (h.sw.seesTurn (ψ := WorI.sees ⟨B, X2, LH, ⟨A4, c4, fs⟩, ⟨A4, c4, fs⟩, ⟨none, 0, []⟩⟩ v.ex) fun Y hY => ⟨hY.1.1, hY.2, hY.2, ⟨Sl.nil_ _ _ _, fun e he => by simp at he, fun e he => by simp at he⟩⟩).sw
      simpa using h2)
    go_wp2_with (fail)
    go_end0
    exact ⟨rfl, Sep.worPack ⟨B, X2, LH, ⟨A4, c4, fs⟩, ⟨A4, c4, fs⟩, ⟨none, 0, []⟩⟩ ⟨HHE.out, HFS.out, HFS.out, rfl⟩ HQ3.out⟩
end
end Go.Proofs.YtjncmlglhegnaaaGreatDoor
namespace Go.Proofs.YtjncmlglhegnaaaGreatDoor
open Go.RowKit Go.Sort Go.Lib

/-- what is being written, if the call that wrote it has failed -/
def tornF (last all : List EntV) (q : EntV × Int) (e : Int) (torn : List EntV) : List EntV := if all.length = last.length ∧ (e = 8 ∨ e = 9) ∧ q.2 = 0 then [q.1] else torn
def writtenW (v : WorV) (x : DevV) (e day : Int) (text : List UInt8) (s : Bool) : WorV :=
  { v with torn := tornF v.last x.ents (nextF x.ents v.number day zed8 text) e v.torn, last := x.ents, durable := if e = 0 ∧ s = true then x.ents else v.durable }
structure WrittenOk (v : WorV) (x : DevV) : Prop where
  pre : v.last <+: x.ents
  len : x.ents.length ≤ v.last.length + 1
  few : x.ents.length ≤ 1000
  right : ∀ u ∈ x.ents, RightE u
section
variable {w0 w w' : World} {Rs : List Res} {W : Nat} {v : WorV}
set_option maxRecDepth 100000 in
set_option maxHeartbeats 32000000 in
theorem written_any (h : Sep w0 w (worR W v :: Rs)) (x : DevV) (hx : v.x = some x) (ho : WrittenOk v x) (e day : Int) (text : List UInt8) (ht : text.length ≤ 140737488351232) (s : Bool) :
    Calls Tryz.prog 88 #[.pointer (some ⟨W, 0, none⟩), .int .i64 e, .int .i64 day, .string ⟨text.toArray⟩, .bool s] w fun r w' => r = .returned (.tuple #[]) ∧ Sep w0 w' (worR W (writtenW v x e day text s) :: Rs) := by
  obtain ⟨⟨B, X, LH, LD, LL, LT⟩, ⟨hH, hD, hL, hT⟩, hq⟩ := h.worPart
  simp only [worLs] at hq
  simp only at hH hD hL hT
  obtain ⟨d, xo, number, units, handed, durable, last, torn, spent, ex⟩ := v
  simp only at hx hq hH hD hL hT
  subst hx
  obtain ⟨hpre, hlen, hfew, hrt⟩ := ho
  simp only at hpre hlen
  obtain ⟨⟨NV, er⟩, hnx⟩ : ∃ q, nextF x.ents number day zed8 text = q := ⟨_, rfl⟩
  have HS : Hid (Sep w0 w (boxR W (worX B (.pointer (some ⟨X, 0, none⟩)) number units LH.val LD.val LL.val LT.val spent) :: seesR (WorI.sees ⟨B, X, LH, LD, LL, LT⟩ ex) :: diskR B d :: devR B X x :: Rs)) := Lib.hid hq
  unfold writtenW
  simp only
  rw [hnx]
  have HHE := Lib.hid hH
  have HDE := Lib.hid hD
  have HLE := Lib.hid hL
  have HTE := Lib.hid hT
  have HPRE := Lib.hid hpre
  have HLEN := Lib.hid hlen
  have HTX := Lib.hid ht
  have HRT := Lib.hid hrt
  have HAL := Lib.hid (All_dev HS.out.w1 hfew hrt)
  have HFW := Lib.hid hfew
  have HNX0 := Lib.hid hnx
  clear h hH hD hL hT hpre hlen hfew hrt ht hq hnx
  obtain ⟨zW, kW, fW⟩ := HS.out.loc
  go_enter Tryz.func88, Tryz.ntmps88
  go_wp2_with (fail)
  clear zW kW fW
  ((with_reducible refine (HAL.out).mono ?_); rintro _ w4 ⟨A4, c4, fs, hfs, rfl, h4⟩)
  have HCAP := Lib.hid (own_capE h4.own).1
  have HFS := Lib.hid hfs
  have HQ0 : Hid (Sep w0 w4 (boxR W (worX B (.pointer (some ⟨X, 0, none⟩)) number units LH.val LD.val LL.val LT.val spent) :: seesR (fun Y => WorI.sees ⟨B, X, LH, LD, LL, LT⟩ ex Y ∧ ChAt Y A4 fs.length fs) :: diskR B d :: devR B X x :: Rs)) := Lib.hid ((h4.ownSees.seesTurn (ψ := fun Y => ChAt Y A4 fs.length fs) fun Y hY => ⟨hY.1, hY.2, fun e he => by
      have h := HRT.out e.v (by rw [← hfs]; exact List.mem_map.2 ⟨e, he, rfl⟩)
      have := h.len
      have := h.txt
      exact ⟨by omega, by omega⟩⟩).r5.seesAnd.w1.r3.sw)
  have HFL : Hid (fs.length ≤ 1000) := Lib.hid (by rw [← vsOf_len, hfs]; exact HFW.out)
  have HNE : Hid (nextF (vsOf fs) number day zed8 text = (NV, er)) := Lib.hid (by rw [hfs]; exact HNX0.out)
  clear h4 hfs HS HAL
  obtain ⟨tb, htb⟩ : ∃ tb : Bool, decide (fs.length = LL.es.length ∧ (e = 8 ∨ e = 9)) = tb := ⟨_, rfl⟩
  have HTB := Lib.hid htb
  clear htb
  go_upto_region 1 with (fail)
  go_cut [33] (fun s33 wy => s33 = .bool tb ∧ wy = w4)
  case first =>
    obtain ⟨zW, kW, fW⟩ := HQ0.out.loc
    by_cases h1 : fs.length = LL.es.length
    · have h1i : ((fs.length : Int) == (LL.es.length : Int)) = true := by rw [h1]; simp
      have h1n : (fs.length == LL.es.length) = true := by rw [h1]; simp
      by_cases h8 : e = 8
      · subst h8
        have htt : tb = true := by rw [← HTB.out]; exact decide_eq_true ⟨h1, .inl rfl⟩
        subst htt
        clear h1
        go_wp2_with (fail)
        go_meet
        exact ⟨rfl, rfl⟩
      · have h8b : (e == 8) = false := beq_eq_false_iff_ne.2 h8
        have htt : tb = (e == 9) := by
          rw [← HTB.out, Bool.eq_iff_iff, decide_eq_true_iff, beq_iff_eq]
          exact ⟨fun h => h.2.elim (fun h' => absurd h' h8) id, fun h => ⟨h1, .inr h⟩⟩
        subst htt
        clear h1 h8
        go_wp2_with (fail)
        go_meet
        exact ⟨rfl, rfl⟩
    · have h1i : ((fs.length : Int) == (LL.es.length : Int)) = false := by rw [beq_eq_false_iff_ne]; omega
      have h1n : (fs.length == LL.es.length) = false := by rw [beq_eq_false_iff_ne]; exact h1
      have htt : tb = false := by rw [← HTB.out]; exact decide_eq_false fun h => h1 h.1
      subst htt
      clear h1
      go_wp2_with (fail)
      go_meet
      exact ⟨rfl, rfl⟩
  case rest =>
  obtain ⟨rfl, rfl⟩ := hcut
  go_upto_if 33 with (fail)
  go_cut [] (fun wy => ∃ LT2 : LsC, vsOf LT2.es = tornF last x.ents (NV, er) e torn ∧ Sep w0 wy (boxR W (worX B (.pointer (some ⟨X, 0, none⟩)) number units LH.val LD.val LL.val LT2.val spent) :: seesR (fun Y => WorI.sees ⟨B, X, LH, LD, LL, LT2⟩ ex Y ∧ ChAt Y A4 fs.length fs) :: diskR B d :: devR B X x :: Rs))
  case first =>
    cases tb
    case false =>
      go_wp2_with (fail)
      go_meet
      refine ⟨LT, ?_, HQ0.out⟩
      have h := HTB.out
      rw [decide_eq_false_iff_not] at h
      unfold tornF
      rw [if_neg (fun h' => h ⟨?_, h'.2.1⟩), HTE.out]
      have h1 := h'.1
      rw [← HFS.out, vsOf_len, ← HLE.out, vsOf_len] at h1
      exact h1
    have htr : fs.length = LL.es.length ∧ (e = 8 ∨ e = 9) := of_decide_eq_true HTB.out
    have HTR := Lib.hid htr
    clear htr
    go_upto_region 2 with (fail)
    go_cut [11, 12] (fun s11 s12 wy => ∃ (g : Nat) (u : EntC), s11 = .pointer (some ⟨g, 0, none⟩) ∧ s12 = .int .i64 er ∧ u.v = NV ∧ Sep w0 wy (boxR g u.cells.toArray :: boxR W (worX B (.pointer (some ⟨X, 0, none⟩)) number units LH.val LD.val LL.val LT.val spent) :: seesR (fun Y => (WorI.sees ⟨B, X, LH, LD, LL, LT⟩ ex Y ∧ ChAt Y A4 fs.length fs) ∧ EntAt Y u) :: diskR B d :: devR B X x :: Rs))
    case first =>
      refine wpTill.startN 15 (S := fun w' => w'.cell? ⟨W, 2, none⟩ = some (.int .i64 number)) (T := fun _ => True) (m := 300) rfl (by kernel_rfl) ?_
      have HQ := Lib.hid HQ0.out.drew
      generalize wc.drew = wz at *
  -- BEGIN R2
      refine wpTill.take (i := 0) (v := ?_) (by rfl) rfl (by kernel_rfl) (by kernel_rfl) (by kernel_rfl) (by exact fun _ _ _ h => h) (world_cells HQ.out.loc).2.1 (fun _ => trivial) (Or.inl ⟨by rfl, ?_⟩) ?_
      rotate_left
      · (intro w' hSw; (try dsimp only at hSw); go_simp; (try with_reducible rfl))
      (try simp only [Act.put, List.setIfInBounds_toArray, List.set_cons_zero, List.set_cons_succ, List.getElem_toArray, List.getElem_cons_zero, List.getElem_cons_succ])
      refine wpTill.take (i := 1) (v := ?_) (by rfl) rfl (by kernel_rfl) (by kernel_rfl) (by kernel_rfl) (by exact fun _ _ _ h => h) (world_cells HQ.out.loc).2.1 (fun _ => trivial) (Or.inl ⟨by rfl, ?_⟩) ?_
      rotate_left
      · (intro w' hSw; (try dsimp only at hSw); go_simp; (try with_reducible rfl))
      (try simp only [Act.put, List.setIfInBounds_toArray, List.set_cons_zero, List.set_cons_succ, List.getElem_toArray, List.getElem_cons_zero, List.getElem_cons_succ])
      refine wpTill.take (i := 2) (v := ?_) (by rfl) rfl (by kernel_rfl) (by kernel_rfl) (by kernel_rfl) (by exact fun _ _ _ h => h) (world_cells HQ.out.loc).2.1 (fun _ => trivial) (Or.inl ⟨by rfl, ?_⟩) ?_
      rotate_left
      · (intro w' hSw; (try dsimp only at hSw); go_simp; (try with_reducible rfl))
      (try simp only [Act.put, List.setIfInBounds_toArray, List.set_cons_zero, List.set_cons_succ, List.getElem_toArray, List.getElem_cons_zero, List.getElem_cons_succ])
      refine wpTill.take (i := 3) (v := ?_) (by rfl) rfl (by kernel_rfl) (by kernel_rfl) (by kernel_rfl) (by exact fun _ _ _ h => h) (world_cells HQ.out.loc).2.1 (fun _ => trivial) (Or.inl ⟨by rfl, ?_⟩) ?_
      rotate_left
      · (intro w' hSw; (try dsimp only at hSw); go_simp; (try with_reducible rfl))
      (try simp only [Act.put, List.setIfInBounds_toArray, List.set_cons_zero, List.set_cons_succ, List.getElem_toArray, List.getElem_cons_zero, List.getElem_cons_succ])
      refine wpTill.take (i := 4) (v := ?_) (by rfl) rfl (by kernel_rfl) (by kernel_rfl) (by kernel_rfl) (by exact fun _ _ _ h => h) (world_cells HQ.out.loc).2.1 (fun _ => trivial) (Or.inl ⟨by rfl, ?_⟩) ?_
      rotate_left
      · (intro w' hSw; (try dsimp only at hSw); go_simp; (try with_reducible rfl))
      (try simp only [Act.put, List.setIfInBounds_toArray, List.set_cons_zero, List.set_cons_succ, List.getElem_toArray, List.getElem_cons_zero, List.getElem_cons_succ])
      refine wpTill.take (i := 5) (v := ?_) (by rfl) rfl (by kernel_rfl) (by kernel_rfl) (by kernel_rfl) (by exact fun _ _ _ h => h) (world_cells HQ.out.loc).2.1 (fun _ => trivial) (Or.inl ⟨by rfl, ?_⟩) ?_
      rotate_left
      · (intro w' hSw; (try dsimp only at hSw); go_simp; (try with_reducible rfl))
      (try simp only [Act.put, List.setIfInBounds_toArray, List.set_cons_zero, List.set_cons_succ, List.getElem_toArray, List.getElem_cons_zero, List.getElem_cons_succ])
      refine wpTill.take (i := 7) (v := ?_) (by rfl) rfl (by kernel_rfl) (by kernel_rfl) (by kernel_rfl) (by exact fun _ _ _ h => h) (world_cells HQ.out.loc).2.1 (fun _ => trivial) (Or.inl ⟨by rfl, ?_⟩) ?_
      rotate_left
      · (intro w' hSw; (try dsimp only at hSw); go_simp; (try with_reducible rfl))
      (try simp only [Act.put, List.setIfInBounds_toArray, List.set_cons_zero, List.set_cons_succ, List.getElem_toArray, List.getElem_cons_zero, List.getElem_cons_succ])
      refine wpTill.step2 (i := 6) (j := 12) (by kernel_rfl) (by rfl) (by rfl) (fun K' hK => ?_) (fun K' hK => ?_)
      rotate_left
      · skip
        replace hK := Lib.hid hK
        go_simp
        replace HQ := Lib.hid (HQ.out.box #[.int .i64 0, .int .i64 0, .int .i64 0, .slice none 0 0, .string ⟨#[]⟩] 32)
        refine hK.out _ _ (world_cells HQ.out.sw.loc).2.1 (fun _ => trivial) ?_
        clear hK K'
        (try simp only [Act.put, List.setIfInBounds_toArray, List.set_cons_zero, List.set_cons_succ, List.getElem_toArray, List.getElem_cons_zero, List.getElem_cons_succ])
        generalize wz.alloc (.cells #[.int .i64 0, .int .i64 0, .int .i64 0, .slice none 0 0, .string ⟨#[]⟩] 32) = wX at *
        generalize wz.heap.size = gX at *
        refine wpTill.step (i := 6) (by kernel_rfl) (by rfl) (fun K' hK => ?_)
        replace hK := Lib.hid hK
        go_simp
        go_at_call 54
        ((with_reducible refine (none_any _).mono ?_); rintro _ wN ⟨AZ, rfl, hz, hbN⟩)
        replace HQ := Lib.hid (HQ.out.below hbN)
        have HZ := Lib.hid hz
        clear hz hbN
        refine hK.out _ _ (world_cells HQ.out.sw.loc).2.1 (fun _ => trivial) ?_
        clear hK K'
        (try simp only [Act.put, List.setIfInBounds_toArray, List.set_cons_zero, List.set_cons_succ, List.getElem_toArray, List.getElem_cons_zero, List.getElem_cons_succ])
        have HNX := Lib.hid (Next_any wN A4 fs.length c4 fs HQ.out.r3.sees.2 HFL.out number day AZ 8 8 zed8 HZ.out text HTX.out _ HNE.out)
        refine wpTill.step (i := 8) (by kernel_rfl) (by rfl) (fun K' hK => ?_)
        replace hK := Lib.hid hK
        go_simp
        go_at_call 126
        ((with_reducible refine (HNX.out).mono ?_); rintro _ wM ⟨⟨⟨xd, xn, xy, xs, xt⟩, xA, xc⟩, hxv, rfl, hxf, hbN⟩)
        simp only at hxf hxv ⊢
        simp only [EntC.cells]
        have HXV := Lib.hid hxv
        replace HQ := Lib.hid ((HQ.out.r3.seesAdd hbN (Sl.rests hxf)).l3)
        clear hxv hxf hbN HNX HZ
        refine hK.out _ _ (world_cells HQ.out.sw.loc).2.1 (fun _ => trivial) ?_
        clear hK K'
        (try simp only [Act.put, List.setIfInBounds_toArray, List.set_cons_zero, List.set_cons_succ, List.getElem_toArray, List.getElem_cons_zero, List.getElem_cons_succ])
        refine wpTill.take (i := 9) (v := ?_) (by rfl) rfl (by kernel_rfl) (by kernel_rfl) (by kernel_rfl) (by exact fun _ _ _ h => h) (world_cells HQ.out.sw.loc).2.1 (fun _ => trivial) (Or.inl ⟨by rfl, ?_⟩) ?_
        rotate_left
        · (intro w' hSw; (try dsimp only at hSw); go_simp; (try with_reducible rfl))
        (try simp only [Act.put, List.setIfInBounds_toArray, List.set_cons_zero, List.set_cons_succ, List.getElem_toArray, List.getElem_cons_zero, List.getElem_cons_succ])
        refine wpTill.take (i := 10) (v := ?_) (by rfl) rfl (by kernel_rfl) (by kernel_rfl) (by kernel_rfl) (by exact fun _ _ _ h => h) (world_cells HQ.out.sw.loc).2.1 (fun _ => trivial) (Or.inl ⟨by rfl, ?_⟩) ?_
        rotate_left
        · (intro w' hSw; (try dsimp only at hSw); go_simp; (try with_reducible rfl))
        (try simp only [Act.put, List.setIfInBounds_toArray, List.set_cons_zero, List.set_cons_succ, List.getElem_toArray, List.getElem_cons_zero, List.getElem_cons_succ])
        refine wpTill.take (i := 11) (v := ?_) (by rfl) rfl (by kernel_rfl) (by kernel_rfl) (by kernel_rfl) (by exact fun _ _ _ h => h) (world_cells HQ.out.sw.loc).2.1 (fun _ => trivial) (Or.inl ⟨by rfl, ?_⟩) ?_
        rotate_left
        · (intro w' hSw; (try dsimp only at hSw); go_simp; (try with_reducible rfl))
        (try simp only [Act.put, List.setIfInBounds_toArray, List.set_cons_zero, List.set_cons_succ, List.getElem_toArray, List.getElem_cons_zero, List.getElem_cons_succ])
        obtain ⟨zE, kE, fE⟩ := HQ.out.loc
        refine wpTill.step (i := 13) (by kernel_rfl) (by rfl) (fun K' hK => ?_)
        replace hK := Lib.hid hK
        go_simp
        have HQ2 := Lib.hid (HQ.out.setEntD ⟨⟨xd, xn, xy, xs, xt⟩, xA, xc⟩)
        simp only [EntC.cells] at HQ2
        refine hK.out _ _ (world_cells HQ2.out.sw.loc).2.1 (fun _ => trivial) ?_
        clear hK K'
        (try simp only [Act.put, List.setIfInBounds_toArray, List.set_cons_zero, List.set_cons_succ, List.getElem_toArray, List.getElem_cons_zero, List.getElem_cons_succ])
        refine wpTill.take (i := 14) (v := ?_) (by rfl) rfl (by kernel_rfl) (by kernel_rfl) (by kernel_rfl) (by exact fun _ _ _ h => h) (world_cells HQ2.out.sw.loc).2.1 (fun _ => trivial) (Or.inl ⟨by rfl, ?_⟩) ?_
        rotate_left
        · (intro w' hSw; (try dsimp only at hSw); go_simp; (try with_reducible rfl))
        (try simp only [Act.put, List.setIfInBounds_toArray, List.set_cons_zero, List.set_cons_succ, List.getElem_toArray, List.getElem_cons_zero, List.getElem_cons_succ])
        refine wpTill.stop (by kernel_rfl) ?_ _
        go_wp2_with (fail)
        go_meet
        exact ⟨_, ⟨⟨xd, xn, xy, xs, xt⟩, xA, xc⟩, rfl, rfl, HXV.out, HQ2.out⟩
      replace hK := Lib.hid hK
      go_simp
      go_at_call 54
      ((with_reducible refine (none_any _).mono ?_); rintro _ wN ⟨AZ, rfl, hz, hbN⟩)
      replace HQ := Lib.hid (HQ.out.below hbN)
      have HZ := Lib.hid hz
      clear hz hbN
      refine hK.out _ _ (world_cells HQ.out.loc).2.1 (fun _ => trivial) ?_
      clear hK K'
      (try simp only [Act.put, List.setIfInBounds_toArray, List.set_cons_zero, List.set_cons_succ, List.getElem_toArray, List.getElem_cons_zero, List.getElem_cons_succ])
      refine wpTill.step2 (i := 8) (j := 12) (by kernel_rfl) (by rfl) (by rfl) (fun K' hK => ?_) (fun K' hK => ?_)
      rotate_left
      · skip
        replace hK := Lib.hid hK
        go_simp
        replace HQ := Lib.hid (HQ.out.box #[.int .i64 0, .int .i64 0, .int .i64 0, .slice none 0 0, .string ⟨#[]⟩] 32)
        replace HZ := Lib.hid (Sl.alloc HZ.out (.cells #[.int .i64 0, .int .i64 0, .int .i64 0, .slice none 0 0, .string ⟨#[]⟩] 32))
        refine hK.out _ _ (world_cells HQ.out.sw.loc).2.1 (fun _ => trivial) ?_
        clear hK K'
        (try simp only [Act.put, List.setIfInBounds_toArray, List.set_cons_zero, List.set_cons_succ, List.getElem_toArray, List.getElem_cons_zero, List.getElem_cons_succ])
        generalize wN.alloc (.cells #[.int .i64 0, .int .i64 0, .int .i64 0, .slice none 0 0, .string ⟨#[]⟩] 32) = wX at *
        generalize wN.heap.size = gX at *
        have HNX := Lib.hid (Next_any wX A4 fs.length c4 fs HQ.out.r3.sees.2 HFL.out number day AZ 8 8 zed8 HZ.out text HTX.out _ HNE.out)
        refine wpTill.step (i := 8) (by kernel_rfl) (by rfl) (fun K' hK => ?_)
        replace hK := Lib.hid hK
        go_simp
        go_at_call 126
        ((with_reducible refine (HNX.out).mono ?_); rintro _ wM ⟨⟨⟨xd, xn, xy, xs, xt⟩, xA, xc⟩, hxv, rfl, hxf, hbN⟩)
        simp only at hxf hxv ⊢
        simp only [EntC.cells]
        have HXV := Lib.hid hxv
        replace HQ := Lib.hid ((HQ.out.r3.seesAdd hbN (Sl.rests hxf)).l3)
        clear hxv hxf hbN HNX HZ
        refine hK.out _ _ (world_cells HQ.out.sw.loc).2.1 (fun _ => trivial) ?_
        clear hK K'
        (try simp only [Act.put, List.setIfInBounds_toArray, List.set_cons_zero, List.set_cons_succ, List.getElem_toArray, List.getElem_cons_zero, List.getElem_cons_succ])
        refine wpTill.take (i := 9) (v := ?_) (by rfl) rfl (by kernel_rfl) (by kernel_rfl) (by kernel_rfl) (by exact fun _ _ _ h => h) (world_cells HQ.out.sw.loc).2.1 (fun _ => trivial) (Or.inl ⟨by rfl, ?_⟩) ?_
        rotate_left
        · (intro w' hSw; (try dsimp only at hSw); go_simp; (try with_reducible rfl))
        (try simp only [Act.put, List.setIfInBounds_toArray, List.set_cons_zero, List.set_cons_succ, List.getElem_toArray, List.getElem_cons_zero, List.getElem_cons_succ])
        refine wpTill.take (i := 10) (v := ?_) (by rfl) rfl (by kernel_rfl) (by kernel_rfl) (by kernel_rfl) (by exact fun _ _ _ h => h) (world_cells HQ.out.sw.loc).2.1 (fun _ => trivial) (Or.inl ⟨by rfl, ?_⟩) ?_
        rotate_left
        · (intro w' hSw; (try dsimp only at hSw); go_simp; (try with_reducible rfl))
        (try simp only [Act.put, List.setIfInBounds_toArray, List.set_cons_zero, List.set_cons_succ, List.getElem_toArray, List.getElem_cons_zero, List.getElem_cons_succ])
        refine wpTill.take (i := 11) (v := ?_) (by rfl) rfl (by kernel_rfl) (by kernel_rfl) (by kernel_rfl) (by exact fun _ _ _ h => h) (world_cells HQ.out.sw.loc).2.1 (fun _ => trivial) (Or.inl ⟨by rfl, ?_⟩) ?_
        rotate_left
        · (intro w' hSw; (try dsimp only at hSw); go_simp; (try with_reducible rfl))
        (try simp only [Act.put, List.setIfInBounds_toArray, List.set_cons_zero, List.set_cons_succ, List.getElem_toArray, List.getElem_cons_zero, List.getElem_cons_succ])
        obtain ⟨zE, kE, fE⟩ := HQ.out.loc
        refine wpTill.step (i := 13) (by kernel_rfl) (by rfl) (fun K' hK => ?_)
        replace hK := Lib.hid hK
        go_simp
        have HQ2 := Lib.hid (HQ.out.setEntD ⟨⟨xd, xn, xy, xs, xt⟩, xA, xc⟩)
        simp only [EntC.cells] at HQ2
        refine hK.out _ _ (world_cells HQ2.out.sw.loc).2.1 (fun _ => trivial) ?_
        clear hK K'
        (try simp only [Act.put, List.setIfInBounds_toArray, List.set_cons_zero, List.set_cons_succ, List.getElem_toArray, List.getElem_cons_zero, List.getElem_cons_succ])
        refine wpTill.take (i := 14) (v := ?_) (by rfl) rfl (by kernel_rfl) (by kernel_rfl) (by kernel_rfl) (by exact fun _ _ _ h => h) (world_cells HQ2.out.sw.loc).2.1 (fun _ => trivial) (Or.inl ⟨by rfl, ?_⟩) ?_
        rotate_left
        · (intro w' hSw; (try dsimp only at hSw); go_simp; (try with_reducible rfl))
        (try simp only [Act.put, List.setIfInBounds_toArray, List.set_cons_zero, List.set_cons_succ, List.getElem_toArray, List.getElem_cons_zero, List.getElem_cons_succ])
        refine wpTill.stop (by kernel_rfl) ?_ _
        go_wp2_with (fail)
        go_meet
        exact ⟨_, ⟨⟨xd, xn, xy, xs, xt⟩, xA, xc⟩, rfl, rfl, HXV.out, HQ2.out⟩
      replace hK := Lib.hid hK
      have HNX := Lib.hid (Next_any wN A4 fs.length c4 fs HQ.out.sw.sees.2 HFL.out number day AZ 8 8 zed8 HZ.out text HTX.out _ HNE.out)
      go_simp
      go_at_call 126
      ((with_reducible refine (HNX.out).mono ?_); rintro _ wM ⟨⟨⟨xd, xn, xy, xs, xt⟩, xA, xc⟩, hxv, rfl, hxf, hbN⟩)
      simp only at hxf hxv ⊢
      simp only [EntC.cells]
      have HXV := Lib.hid hxv
      replace HQ := Lib.hid ((HQ.out.sw.seesAdd hbN (Sl.rests hxf)).sw)
      clear hxv hxf hbN HNX HZ
      refine hK.out _ _ (world_cells HQ.out.loc).2.1 (fun _ => trivial) ?_
      clear hK K'
      (try simp only [Act.put, List.setIfInBounds_toArray, List.set_cons_zero, List.set_cons_succ, List.getElem_toArray, List.getElem_cons_zero, List.getElem_cons_succ])
      refine wpTill.take (i := 9) (v := ?_) (by rfl) rfl (by kernel_rfl) (by kernel_rfl) (by kernel_rfl) (by exact fun _ _ _ h => h) (world_cells HQ.out.loc).2.1 (fun _ => trivial) (Or.inl ⟨by rfl, ?_⟩) ?_
      rotate_left
      · (intro w' hSw; (try dsimp only at hSw); go_simp; (try with_reducible rfl))
      (try simp only [Act.put, List.setIfInBounds_toArray, List.set_cons_zero, List.set_cons_succ, List.getElem_toArray, List.getElem_cons_zero, List.getElem_cons_succ])
      refine wpTill.take (i := 10) (v := ?_) (by rfl) rfl (by kernel_rfl) (by kernel_rfl) (by kernel_rfl) (by exact fun _ _ _ h => h) (world_cells HQ.out.loc).2.1 (fun _ => trivial) (Or.inl ⟨by rfl, ?_⟩) ?_
      rotate_left
      · (intro w' hSw; (try dsimp only at hSw); go_simp; (try with_reducible rfl))
      (try simp only [Act.put, List.setIfInBounds_toArray, List.set_cons_zero, List.set_cons_succ, List.getElem_toArray, List.getElem_cons_zero, List.getElem_cons_succ])
      refine wpTill.take (i := 11) (v := ?_) (by rfl) rfl (by kernel_rfl) (by kernel_rfl) (by kernel_rfl) (by exact fun _ _ _ h => h) (world_cells HQ.out.loc).2.1 (fun _ => trivial) (Or.inl ⟨by rfl, ?_⟩) ?_
      rotate_left
      · (intro w' hSw; (try dsimp only at hSw); go_simp; (try with_reducible rfl))
      (try simp only [Act.put, List.setIfInBounds_toArray, List.set_cons_zero, List.set_cons_succ, List.getElem_toArray, List.getElem_cons_zero, List.getElem_cons_succ])
      refine wpTill.step (i := 12) (by kernel_rfl) (by rfl) (fun K' hK => ?_)
      replace hK := Lib.hid hK
      go_simp
      replace HQ := Lib.hid (HQ.out.box #[.int .i64 0, .int .i64 0, .int .i64 0, .slice none 0 0, .string ⟨#[]⟩] 32)
      refine hK.out _ _ (world_cells HQ.out.sw.loc).2.1 (fun _ => trivial) ?_
      clear hK K'
      (try simp only [Act.put, List.setIfInBounds_toArray, List.set_cons_zero, List.set_cons_succ, List.getElem_toArray, List.getElem_cons_zero, List.getElem_cons_succ])
      generalize wM.alloc (.cells #[.int .i64 0, .int .i64 0, .int .i64 0, .slice none 0 0, .string ⟨#[]⟩] 32) = wX at *
      generalize wM.heap.size = gX at *
      obtain ⟨zE, kE, fE⟩ := HQ.out.loc
      refine wpTill.step (i := 13) (by kernel_rfl) (by rfl) (fun K' hK => ?_)
      replace hK := Lib.hid hK
      go_simp
      have HQ2 := Lib.hid (HQ.out.setEntD ⟨⟨xd, xn, xy, xs, xt⟩, xA, xc⟩)
      simp only [EntC.cells] at HQ2
      refine hK.out _ _ (world_cells HQ2.out.sw.loc).2.1 (fun _ => trivial) ?_
      clear hK K'
      (try simp only [Act.put, List.setIfInBounds_toArray, List.set_cons_zero, List.set_cons_succ, List.getElem_toArray, List.getElem_cons_zero, List.getElem_cons_succ])
      refine wpTill.take (i := 14) (v := ?_) (by rfl) rfl (by kernel_rfl) (by kernel_rfl) (by kernel_rfl) (by exact fun _ _ _ h => h) (world_cells HQ2.out.sw.loc).2.1 (fun _ => trivial) (Or.inl ⟨by rfl, ?_⟩) ?_
      rotate_left
      · (intro w' hSw; (try dsimp only at hSw); go_simp; (try with_reducible rfl))
      (try simp only [Act.put, List.setIfInBounds_toArray, List.set_cons_zero, List.set_cons_succ, List.getElem_toArray, List.getElem_cons_zero, List.getElem_cons_succ])
      refine wpTill.stop (by kernel_rfl) ?_ _
      go_wp2_with (fail)
      go_meet
      exact ⟨_, ⟨⟨xd, xn, xy, xs, xt⟩, xA, xc⟩, rfl, rfl, HXV.out, HQ2.out⟩
  -- END R2
    case rest =>
    obtain ⟨g, ⟨⟨xd, xn, xy, xs, xt⟩, xA, xc⟩, rfl, rfl, hu, hX⟩ := hcut
    simp only [EntC.cells] at hX
    have HU := Lib.hid hu
    have HX := Lib.hid hX
    clear hu hX
    by_cases her : er = 0
    · subst her
      have hri := nextF_right HNX0.out
      have HRI := Lib.hid hri
      clear hri
      have HY : Hid (Sep w0 ((wc.alloc (.cells #[.int .i64 xd, .int .i64 xn, .int .i64 xy, .slice xA xs.length xc, .string ⟨xt.toArray⟩] 32)).setCell ⟨W, 7, none⟩ (.slice (some ⟨wc.heap.size, 0, none⟩) 1 1)) (boxR W (worX B (.pointer (some ⟨X, 0, none⟩)) number units LH.val LD.val LL.val (.slice (some ⟨wc.heap.size, 0, none⟩) 1 1) spent) :: seesR (fun Y => WorI.sees ⟨B, X, LH, LD, LL, ⟨some ⟨wc.heap.size, 0, none⟩, 1, [⟨⟨xd, xn, xy, xs, xt⟩, xA, xc⟩]⟩⟩ ex Y ∧ ChAt Y A4 fs.length fs) :: diskR B d :: devR B X x :: Rs)) := Lib.hid (by
        have h0 := HX.out.drop.sw.seesAdd (below_alloc wc (.cells #[.int .i64 xd, .int .i64 xn, .int .i64 xy, .slice xA xs.length xc, .string ⟨xt.toArray⟩] 32)) (Sl.rests (w := wc) ⟨Sl.new_ wc 32 [.int .i64 xd, .int .i64 xn, .int .i64 xy, .slice xA xs.length xc, .string ⟨xt.toArray⟩], fun ad e => by injection e with e; rw [← e]; exact Nat.le_refl _⟩)
        have h1 := h0.seesTurn (ψ := fun Y => WorI.sees ⟨B, X, LH, LD, LL, ⟨some ⟨wc.heap.size, 0, none⟩, 1, [⟨⟨xd, xn, xy, xs, xt⟩, xA, xc⟩]⟩⟩ ex Y ∧ ChAt Y A4 fs.length fs) fun Y hY => ⟨⟨hY.1.1.1.1, hY.1.1.1.2.1, hY.1.1.1.2.2.1, ⟨hY.2, fun e he => by rw [List.mem_singleton.1 he]; exact hY.1.2, fun e he => by
          rw [List.mem_singleton.1 he]
          have h := HRI.out
          rw [← HU.out] at h
          have := h.len
          have := h.txt
          simp only at *
          exact ⟨by omega, by omega⟩⟩⟩, hY.1.1.2⟩
        have h2 := h1.sw.set_ 7 (.slice (some ⟨wc.heap.size, 0, none⟩) 1 1)
        simpa using h2)
      obtain ⟨zE, kE, fE⟩ := HX.out.loc
      obtain ⟨zW, kW, fW⟩ := HX.out.sw.loc
      go_wp2_with (fail)
      go_meet
      have hy := HY.out
      rw [World.setCell_alloc_past _ _ _ _ HX.out.sw.loc.lt] at hy
      refine ⟨⟨some ⟨wc.heap.size, 0, none⟩, 1, [⟨⟨xd, xn, xy, xs, xt⟩, xA, xc⟩]⟩, ?_, hy⟩
      unfold tornF
      rw [if_pos ⟨by rw [← HFS.out, vsOf_len, ← HLE.out, vsOf_len]; exact HTR.out.1, HTR.out.2, rfl⟩, ← HU.out]
      rfl
    · have heb : (er == 0) = false := beq_eq_false_iff_ne.2 her
      go_wp2_with (fail)
      go_meet
      refine ⟨LT, ?_, (HX.out.drop.sw.seesTurn fun Y hY => hY.1).sw⟩
      unfold tornF
      rw [if_neg (fun h' => her h'.2.2), HTE.out]
  case rest =>
  obtain ⟨LT2, hT2, hq2⟩ := hcut
  have HQ2 := Lib.hid hq2
  have HT2 := Lib.hid hT2
  clear hq2 hT2 HQ0
  obtain ⟨zW, kW, fW⟩ := HQ2.out.loc
  have HBG := Lib.hid (begins49_any wc A4 LL.A fs.length LL.es.length c4 LL.c fs LL.es HQ2.out.sw.sees.2 HQ2.out.sw.sees.1.2.2.1 HCAP.out (by have := HFL.out; omega) (by rw [HFS.out, HLE.out]; exact HPRE.out))
  have hls : ¬ ((LL.es.length : Int) + 1 < (fs.length : Int)) := by have h := HLEN.out; rw [← HFS.out, ← HLE.out, vsOf_len, vsOf_len] at h; omega
  have hlsd : decide ((LL.es.length : Int) + 1 < (fs.length : Int)) = false := decide_eq_false hls
  have hw1 : IntKind.i64.wrap ((LL.es.length : Int) + 1) = (LL.es.length : Int) + 1 := IntWalk.i64_in _ (by
    have h := HPRE.out.length_le
    rw [← HFS.out, ← HLE.out, vsOf_len, vsOf_len] at h
    have := HFL.out
    omega)
  go_wp2_with (fail)
  ((with_reducible refine (HBG.out).mono ?_); rintro _ w6 ⟨rfl, hb6⟩)
  have HQ3 := Lib.hid (HQ2.out.below hb6)
  clear zW kW fW hb6 HBG HQ2
  obtain ⟨zW, kW, fW⟩ := HQ3.out.loc
  have HQ4 : Hid (Sep w0 ((w6.setCell ⟨W, 9, none⟩ (.bool false)).setCell ⟨W, 6, none⟩ (.slice A4 fs.length c4)) (boxR W (worX B (.pointer (some ⟨X, 0, none⟩)) number units LH.val LD.val (.slice A4 fs.length c4) LT2.val spent) :: seesR (fun Y => WorI.sees ⟨B, X, LH, LD, LL, LT2⟩ ex Y ∧ ChAt Y A4 fs.length fs) :: diskR B d :: devR B X x :: Rs)) := Lib.hid (by
    have h := (HQ3.out.set_ 9 (.bool false)).set_ 6 (.slice A4 fs.length c4)
    simpa using h)
  by_cases he : e = 0
  · subst he
    cases s
    · go_wp2_with (fail)
      go_end0
      exact ⟨rfl, Sep.worPack ⟨B, X, LH, LD, ⟨A4, c4, fs⟩, LT2⟩ ⟨HHE.out, HDE.out, HFS.out, HT2.out⟩ (HQ4.out.sw.seesTurn fun Y hY => ⟨hY.1.1, hY.1.2.1, hY.2, hY.1.2.2.2⟩).sw⟩
    · have HQ5 : Hid (Sep w0 (((w6.setCell ⟨W, 9, none⟩ (.bool false)).setCell ⟨W, 6, none⟩ (.slice A4 fs.length c4)).setCell ⟨W, 5, none⟩ (.slice A4 fs.length c4)) (boxR W (worX B (.pointer (some ⟨X, 0, none⟩)) number units LH.val (.slice A4 fs.length c4) (.slice A4 fs.length c4) LT2.val spent) :: seesR (fun Y => WorI.sees ⟨B, X, LH, LD, LL, LT2⟩ ex Y ∧ ChAt Y A4 fs.length fs) :: diskR B d :: devR B X x :: Rs)) := Lib.hid (by
        have h := HQ4.out.set_ 5 (.slice A4 fs.length c4)
        simpa using h)
      go_wp2_with (fail)
      go_end0
      exact ⟨rfl, Sep.worPack ⟨B, X, LH, ⟨A4, c4, fs⟩, ⟨A4, c4, fs⟩, LT2⟩ ⟨HHE.out, HFS.out, HFS.out, HT2.out⟩ (HQ5.out.sw.seesTurn fun Y hY => ⟨hY.1.1, hY.2, hY.2, hY.1.2.2.2⟩).sw⟩
  · have heb : (e == 0) = false := beq_eq_false_iff_ne.2 he
    go_wp2_with (fail)
    go_end0
    exact ⟨rfl, Sep.worPack ⟨B, X, LH, LD, ⟨A4, c4, fs⟩, LT2⟩ ⟨HHE.out, HDE.out, HFS.out, HT2.out⟩ (HQ4.out.sw.seesTurn fun Y hY => ⟨hY.1.1, hY.1.2.1, hY.2, hY.1.2.2.2⟩).sw⟩
end
end Go.Proofs.YtjncmlglhegnaaaGreatDoor
