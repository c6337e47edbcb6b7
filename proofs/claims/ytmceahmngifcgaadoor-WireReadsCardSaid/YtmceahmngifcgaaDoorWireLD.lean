/- kerbsidelaw01: WirePrefix, walked (written by wip/gen_wireld.py). -/
import Derived.Test.YtmceahmngifcgaaDoorWireLB
import Derived.Deep.DeepCutAuto
namespace Go.Proofs.YtmceahmngifcgaaDoor
open Go.RowKit Go.Sort Go.Lib

theorem Sl.one5' (w : World) (e : TypeId) (v : ValC) : Sl (w.alloc (.cells #[.int .i64 v.k, .int .i64 v.n, .string ⟨v.s.toArray⟩, .slice v.A v.L.length v.c, .slice v.A' v.T.length v.c'] e)) 5 (some ⟨w.heap.size, 0, none⟩) 1 ([v].map ValC.cells) := Sl.new_ w e v.cells
theorem wv_ok {v : ValC} (h : v.ok) (hf : v.few) : (wvOf v).ok := by
  have hn := numberF_rng h.n
  unfold wvOf
  rcases kindF_rng v.k with hk | hk | hk | hk | hk <;> rw [hk]
  · rw [if_pos rfl]; exact hn
  · rw [if_neg (by decide), if_pos rfl]; exact h.n
  · rw [if_neg (by decide), if_neg (by decide), if_pos rfl]; show ((v.s.length : Nat) : Int) ≤ _; have := hf.2.2.1; omega
  · rw [if_neg (by decide), if_neg (by decide), if_neg (by decide), if_pos rfl]; exact ⟨by have := hf.1; omega, h.L⟩
  · rw [if_neg (by decide), if_neg (by decide), if_neg (by decide), if_neg (by decide)]; exact ⟨by have := hf.2.1; omega, fun s hs => by have := hf.2.2.2 s hs; omega⟩
theorem wv_len {v : ValC} (h : v.ok) (hf : v.few) : (wvOf v).enc.length ≤ 1000000 := by
  have hn := numberF_rng h.n
  have h1 := itoa_length (n := (v.L.length : Int)) (by omega) (by have := hf.1; omega)
  have h2 := itoa_length (n := (v.T.length : Int)) (by omega) (by have := hf.2.1; omega)
  have h3 := flat_le encI 21 v.L fun x hx => encI_len (h.L x hx)
  have h4 := flat_le encT 422 v.T fun x hx => by
    have := hf.2.2.2 x hx
    have := encT_len (s := x) (by omega)
    omega
  have h5 := hf.1
  have h6 := hf.2.1
  have h7 := hf.2.2.1
  unfold wvOf
  rcases kindF_rng v.k with hk | hk | hk | hk | hk <;> rw [hk]
  · rw [if_pos rfl]
    have := encI_len (n := numberF v.n) ⟨by omega, hn.2⟩
    show (encN (numberF v.n)).length ≤ _
    unfold encN
    split
    · simp
    · omega
  · rw [if_neg (by decide), if_pos rfl]
    have := encI_len h.n
    show (encI v.n).length ≤ _
    omega
  · rw [if_neg (by decide), if_neg (by decide), if_pos rfl]
    have := encT_len (s := v.s) (by omega)
    show (encT v.s).length ≤ _
    omega
  · rw [if_neg (by decide), if_neg (by decide), if_neg (by decide), if_pos rfl]
    show (encIs v.L).length ≤ _
    unfold encIs
    simp only [List.length_append, List.length_cons, List.length_nil]
    omega
  · rw [if_neg (by decide), if_neg (by decide), if_neg (by decide), if_neg (by decide)]
    show (encTs v.T).length ≤ _
    unfold encTs
    simp only [List.length_append, List.length_cons, List.length_nil]
    omega
theorem boxes_of {w W : World} {x y : Nat} {v u : ValC} (hX : Loc W x #[.int .i64 v.k, .int .i64 v.n, .string ⟨v.s.toArray⟩, .slice v.A v.L.length v.c, .slice v.A' v.T.length v.c']) (hY : Loc W y #[.int .i64 u.k, .int .i64 u.n, .string ⟨u.s.toArray⟩, .slice u.A u.L.length u.c, .slice u.A' u.T.length u.c']) (hb : Below w.heap.size w W) : ∀ w', Below W.heap.size W w' →
    (w'.cell? ⟨x, 0, none⟩ = some (.int .i64 v.k) ∧ w'.cell? ⟨x, 1, none⟩ = some (.int .i64 v.n) ∧ w'.cell? ⟨x, 2, none⟩ = some (.string ⟨v.s.toArray⟩) ∧ w'.cell? ⟨x, 3, none⟩ = some (.slice v.A v.L.length v.c) ∧ w'.cell? ⟨x, 4, none⟩ = some (.slice v.A' v.T.length v.c') ∧ w'.cell? ⟨y, 0, none⟩ = some (.int .i64 u.k) ∧ w'.cell? ⟨y, 1, none⟩ = some (.int .i64 u.n) ∧ w'.cell? ⟨y, 2, none⟩ = some (.string ⟨u.s.toArray⟩) ∧ w'.cell? ⟨y, 3, none⟩ = some (.slice u.A u.L.length u.c) ∧ w'.cell? ⟨y, 4, none⟩ = some (.slice u.A' u.T.length u.c') ∧ Below w.heap.size w w') := fun w' h => by
  have h1 := hX.below h
  have h2 := hY.below h
  exact ⟨h1.cell 0, h1.cell 1, h1.cell 2, h1.cell 3, h1.cell 4, h2.cell 0, h2.cell 1, h2.cell 2, h2.cell 3, h2.cell 4, hb.trans (h.mono hb.size)⟩
set_option maxRecDepth 100000 in
set_option maxHeartbeats 32000000 in
theorem prefix_any (w : World) (hE : Env w.heap.size w) (v u : ValC) (hv : v.ok) (hu : u.ok) (hav : ValAt w v) (hau : ValAt w u) :
    Calls Tryd.prog 5 #[.agg #[.int .i64 v.k, .int .i64 v.n, .string ⟨v.s.toArray⟩, .slice v.A v.L.length v.c, .slice v.A' v.T.length v.c'], .agg #[.int .i64 u.k, .int .i64 u.n, .string ⟨u.s.toArray⟩, .slice u.A u.L.length u.c, .slice u.A' u.T.length u.c']] w fun e w' => e = .returned (.bool true) ∧ Below w.heap.size w w' := by
  have HS := Lib.hid (fun W (hb : Below w.heap.size w W) => small_any W (hE.below hb) hb.size)
  have HE := Lib.hid (fun W (hb : Below w.heap.size w W) => hE.below hb)
  have HAV := Lib.hid (fun W (hb : Below w.heap.size w W) => hav.below hb)
  have HAU := Lib.hid (fun W (hb : Below w.heap.size w W) => hau.below hb)
  have HFV := Lib.hid (fun W (hb : Below w.heap.size w W) => few_any (W.alloc (.cells #[.int .i64 v.k, .int .i64 v.n, .string ⟨v.s.toArray⟩, .slice v.A v.L.length v.c, .slice v.A' v.T.length v.c'] 25)) (some ⟨W.heap.size, 0, none⟩) 1 1 [v] (Sl.one5' W _ v) (fun x hx => by simp only [List.mem_singleton] at hx; subst hx; exact hav.below (hb.alloc hb.size _)))
  have HFU := Lib.hid (fun W (hb : Below w.heap.size w W) => few_any (W.alloc (.cells #[.int .i64 u.k, .int .i64 u.n, .string ⟨u.s.toArray⟩, .slice u.A u.L.length u.c, .slice u.A' u.T.length u.c'] 25)) (some ⟨W.heap.size, 0, none⟩) 1 1 [u] (Sl.one5' W _ u) (fun x hx => by simp only [List.mem_singleton] at hx; subst hx; exact hau.below (hb.alloc hb.size _)))
  have HKV := Lib.hid (fun W => kind_any W v.k v.n ⟨v.s.toArray⟩ (.slice v.A v.L.length v.c) (.slice v.A' v.T.length v.c') hv.k _ rfl)
  have HKU := Lib.hid (fun W => kind_any W u.k u.n ⟨u.s.toArray⟩ (.slice u.A u.L.length u.c) (.slice u.A' u.T.length u.c') hu.k _ rfl)
  have HOV := Lib.hid hv
  have HOU := Lib.hid hu
  have HB := Lib.hid (Below.refl w.heap.size w)
  obtain ⟨kv, hkv⟩ : ∃ k, kindF v.k = k := ⟨_, rfl⟩
  obtain ⟨ku, hku⟩ : ∃ k, kindF u.k = k := ⟨_, rfl⟩
  rw [hkv] at HKV
  rw [hku] at HKU
  have HQV := Lib.hid hkv
  have HQU := Lib.hid hku
  clear hE hv hu hav hau hkv hku
  go_enter Tryd.func5, Tryd.ntmps5
  go_wp2_with (fail)
  ((with_reducible refine (HS.out _ ((HB.out.alloc (Nat.le_refl _) _).alloc (by simp) _)).mono ?_); rintro _ w1 ⟨rfl, hb1⟩)
  obtain ⟨hX, hY, hbT⟩ := locs2 hb1
  have X := Lib.hid hX
  have Y := Lib.hid hY
  clear hX hY
  replace HB := Lib.hid (HB.out.trans (hbT.mono HB.out.size))
  clear hbT hb1 
  go_upto_region 2 with (fail)
  go_cut [26] (fun s26 wx => ∃ k : Bool, s26 = .bool k ∧ Below w1.heap.size w1 wx ∧ (k = false → v.few ∧ u.few ∧ kindF v.k = kindF u.k))
  case first =>
    have HSS := Lib.hid (boxes_of X.out Y.out HB.out)
    clear X Y
    refine wpTill.startN 17 (S := fun w' => w'.cell? ⟨w.heap.size, 0, none⟩ = some (.int .i64 v.k) ∧ w'.cell? ⟨w.heap.size, 1, none⟩ = some (.int .i64 v.n) ∧ w'.cell? ⟨w.heap.size, 2, none⟩ = some (.string ⟨v.s.toArray⟩) ∧ w'.cell? ⟨w.heap.size, 3, none⟩ = some (.slice v.A v.L.length v.c) ∧ w'.cell? ⟨w.heap.size, 4, none⟩ = some (.slice v.A' v.T.length v.c') ∧ w'.cell? ⟨(w.heap.size + 1), 0, none⟩ = some (.int .i64 u.k) ∧ w'.cell? ⟨(w.heap.size + 1), 1, none⟩ = some (.int .i64 u.n) ∧ w'.cell? ⟨(w.heap.size + 1), 2, none⟩ = some (.string ⟨u.s.toArray⟩) ∧ w'.cell? ⟨(w.heap.size + 1), 3, none⟩ = some (.slice u.A u.L.length u.c) ∧ w'.cell? ⟨(w.heap.size + 1), 4, none⟩ = some (.slice u.A' u.T.length u.c') ∧ Below w.heap.size w w') (T := fun _ => True) (m := 99) rfl (by kernel_rfl) ?_
    have HS0 := Lib.hid (HSS.out w1.drew (Below.refl _ _).drew)
    have HB0 := Lib.hid (HS0.out.2.2.2.2.2.2.2.2.2.2)
    refine wpTill.take (i := 0) (v := ?_) (by rfl) rfl (by kernel_rfl) (by kernel_rfl) (by kernel_rfl) (by exact fun _ _ _ h => h) HS0.out (fun _ => trivial) (Or.inl ⟨by rfl, ?_⟩) ?_
    rotate_left
    · (intro w' hSw; (try dsimp only at hSw); go_simp; (try with_reducible rfl))
    (try simp only [Act.put, List.setIfInBounds_toArray, List.set_cons_zero, List.set_cons_succ, List.getElem_toArray, List.getElem_cons_zero, List.getElem_cons_succ])
    refine wpTill.step (i := 1) (by kernel_rfl) (by rfl) (fun K' hK => ?_)
    replace hK := Lib.hid hK
    go_simp
    have HL2 := Lib.hid ((Sl.one5' w1 25 v).drew)
    have HW2 := Lib.hid ((((Below.refl w1.heap.size w1).alloc (Nat.le_refl _) (.cells #[.int .i64 v.k, .int .i64 v.n, .string ⟨v.s.toArray⟩, .slice v.A v.L.length v.c, .slice v.A' v.T.length v.c'] 25)).drew))
    generalize (w1.alloc (.cells #[.int .i64 v.k, .int .i64 v.n, .string ⟨v.s.toArray⟩, .slice v.A v.L.length v.c, .slice v.A' v.T.length v.c'] 25)).drew = W2 at *
    have HS2 := Lib.hid (HSS.out W2 HW2.out)
    have HBW2 := Lib.hid (HB.out.trans (HW2.out.mono HB.out.size))
    refine hK.out _ _ HS2.out (fun _ => trivial) ?_
    clear hK K'
    (try simp only [Act.put, List.setIfInBounds_toArray, List.set_cons_zero, List.set_cons_succ, List.getElem_toArray, List.getElem_cons_zero, List.getElem_cons_succ])
    refine wpTill.step (i := 2) (by kernel_rfl) (by rfl) (fun K' hK => ?_)
    replace hK := Lib.hid hK
    go_simp
    go_at_call 10
    ((with_reducible refine (few_any W2 (some ⟨w1.heap.size, 0, none⟩) 1 1 [v] HL2.out (fun x hx => by simp only [List.mem_singleton] at hx; subst hx; exact HAV.out W2 HBW2.out)).mono ?_); rintro _ w3 ⟨k1, rfl, hk1, hb3⟩)
    have HW3 := Lib.hid (HW2.out.trans (hb3.mono HW2.out.size))
    have HS3 := Lib.hid (HSS.out w3 HW3.out)
    have HBW3 := Lib.hid (HB.out.trans (HW3.out.mono HB.out.size))
    have HK1 := Lib.hid hk1
    clear hb3 hk1
    refine hK.out _ _ HS3.out (fun _ => trivial) ?_
    clear hK K'
    (try simp only [Act.put, List.setIfInBounds_toArray, List.set_cons_zero, List.set_cons_succ, List.getElem_toArray, List.getElem_cons_zero, List.getElem_cons_succ])
    cases k1
    · skip
      refine wpTill.take (i := 3) (v := ?_) (by rfl) rfl (by kernel_rfl) (by kernel_rfl) (by kernel_rfl) (by exact fun _ _ _ h => h) HS3.out (fun _ => trivial) (Or.inl ⟨by rfl, ?_⟩) ?_
      rotate_left
      · (intro w' hSw; (try dsimp only at hSw); go_simp; (try with_reducible rfl))
      (try simp only [Act.put, List.setIfInBounds_toArray, List.set_cons_zero, List.set_cons_succ, List.getElem_toArray, List.getElem_cons_zero, List.getElem_cons_succ])
      refine wpTill.take (i := 4) (v := ?_) (by rfl) rfl (by kernel_rfl) (by kernel_rfl) (by kernel_rfl) (by exact fun _ _ _ h => h) HS3.out (fun _ => trivial) (Or.inl ⟨by rfl, ?_⟩) ?_
      rotate_left
      · (intro w' hSw; (try dsimp only at hSw); go_simp; (try with_reducible rfl))
      (try simp only [Act.put, List.setIfInBounds_toArray, List.set_cons_zero, List.set_cons_succ, List.getElem_toArray, List.getElem_cons_zero, List.getElem_cons_succ])
      refine wpTill.take (i := 5) (v := undef) (by rfl) rfl (by kernel_rfl) (by kernel_rfl) (by kernel_rfl) (by exact fun _ _ _ h => h) HS3.out (fun _ => trivial) (Or.inr ⟨by rfl, rfl⟩) ?_
      (try simp only [Act.put, List.setIfInBounds_toArray, List.set_cons_zero, List.set_cons_succ, List.getElem_toArray, List.getElem_cons_zero, List.getElem_cons_succ])
      refine wpTill.take (i := 6) (v := undef) (by rfl) rfl (by kernel_rfl) (by kernel_rfl) (by kernel_rfl) (by exact fun _ _ _ h => h) HS3.out (fun _ => trivial) (Or.inr ⟨by rfl, rfl⟩) ?_
      (try simp only [Act.put, List.setIfInBounds_toArray, List.set_cons_zero, List.set_cons_succ, List.getElem_toArray, List.getElem_cons_zero, List.getElem_cons_succ])
      refine wpTill.take (i := 7) (v := undef) (by rfl) rfl (by kernel_rfl) (by kernel_rfl) (by kernel_rfl) (by exact fun _ _ _ h => h) HS3.out (fun _ => trivial) (Or.inr ⟨by rfl, rfl⟩) ?_
      (try simp only [Act.put, List.setIfInBounds_toArray, List.set_cons_zero, List.set_cons_succ, List.getElem_toArray, List.getElem_cons_zero, List.getElem_cons_succ])
      refine wpTill.take (i := 8) (v := undef) (by rfl) rfl (by kernel_rfl) (by kernel_rfl) (by kernel_rfl) (by exact fun _ _ _ h => h) HS3.out (fun _ => trivial) (Or.inr ⟨by rfl, rfl⟩) ?_
      (try simp only [Act.put, List.setIfInBounds_toArray, List.set_cons_zero, List.set_cons_succ, List.getElem_toArray, List.getElem_cons_zero, List.getElem_cons_succ])
      refine wpTill.take (i := 9) (v := ?_) (by rfl) rfl (by kernel_rfl) (by kernel_rfl) (by kernel_rfl) (by exact fun _ _ _ h => h) HS3.out (fun _ => trivial) (Or.inl ⟨by rfl, ?_⟩) ?_
      rotate_left
      · (intro w' hSw; (try dsimp only at hSw); go_simp; (try with_reducible rfl))
      (try simp only [Act.put, List.setIfInBounds_toArray, List.set_cons_zero, List.set_cons_succ, List.getElem_toArray, List.getElem_cons_zero, List.getElem_cons_succ])
      refine wpTill.take (i := 10) (v := ?_) (by rfl) rfl (by kernel_rfl) (by kernel_rfl) (by kernel_rfl) (by exact fun _ _ _ h => h) HS3.out (fun _ => trivial) (Or.inl ⟨by rfl, ?_⟩) ?_
      rotate_left
      · (intro w' hSw; (try dsimp only at hSw); go_simp; (try with_reducible rfl))
      (try simp only [Act.put, List.setIfInBounds_toArray, List.set_cons_zero, List.set_cons_succ, List.getElem_toArray, List.getElem_cons_zero, List.getElem_cons_succ])
      refine wpTill.take (i := 11) (v := undef) (by rfl) rfl (by kernel_rfl) (by kernel_rfl) (by kernel_rfl) (by exact fun _ _ _ h => h) HS3.out (fun _ => trivial) (Or.inr ⟨by rfl, rfl⟩) ?_
      (try simp only [Act.put, List.setIfInBounds_toArray, List.set_cons_zero, List.set_cons_succ, List.getElem_toArray, List.getElem_cons_zero, List.getElem_cons_succ])
      refine wpTill.take (i := 12) (v := undef) (by rfl) rfl (by kernel_rfl) (by kernel_rfl) (by kernel_rfl) (by exact fun _ _ _ h => h) HS3.out (fun _ => trivial) (Or.inr ⟨by rfl, rfl⟩) ?_
      (try simp only [Act.put, List.setIfInBounds_toArray, List.set_cons_zero, List.set_cons_succ, List.getElem_toArray, List.getElem_cons_zero, List.getElem_cons_succ])
      refine wpTill.take (i := 13) (v := undef) (by rfl) rfl (by kernel_rfl) (by kernel_rfl) (by kernel_rfl) (by exact fun _ _ _ h => h) HS3.out (fun _ => trivial) (Or.inr ⟨by rfl, rfl⟩) ?_
      (try simp only [Act.put, List.setIfInBounds_toArray, List.set_cons_zero, List.set_cons_succ, List.getElem_toArray, List.getElem_cons_zero, List.getElem_cons_succ])
      refine wpTill.take (i := 14) (v := undef) (by rfl) rfl (by kernel_rfl) (by kernel_rfl) (by kernel_rfl) (by exact fun _ _ _ h => h) HS3.out (fun _ => trivial) (Or.inr ⟨by rfl, rfl⟩) ?_
      (try simp only [Act.put, List.setIfInBounds_toArray, List.set_cons_zero, List.set_cons_succ, List.getElem_toArray, List.getElem_cons_zero, List.getElem_cons_succ])
      refine wpTill.take (i := 15) (v := undef) (by rfl) rfl (by kernel_rfl) (by kernel_rfl) (by kernel_rfl) (by exact fun _ _ _ h => h) HS3.out (fun _ => trivial) (Or.inr ⟨by rfl, rfl⟩) ?_
      (try simp only [Act.put, List.setIfInBounds_toArray, List.set_cons_zero, List.set_cons_succ, List.getElem_toArray, List.getElem_cons_zero, List.getElem_cons_succ])
      refine wpTill.take (i := 16) (v := ?_) (by rfl) rfl (by kernel_rfl) (by kernel_rfl) (by kernel_rfl) (by exact fun _ _ _ h => h) HS3.out (fun _ => trivial) (Or.inl ⟨by rfl, ?_⟩) ?_
      rotate_left
      · (intro w' hSw; (try dsimp only at hSw); go_simp; (try with_reducible rfl))
      (try simp only [Act.put, List.setIfInBounds_toArray, List.set_cons_zero, List.set_cons_succ, List.getElem_toArray, List.getElem_cons_zero, List.getElem_cons_succ])
      refine wpTill.stop (by kernel_rfl) ?_ _
      go_wp2_with (fail)
      go_meet
      exact ⟨true, rfl, HW3.out, fun h => by cases h⟩
    · skip
      refine wpTill.take (i := 3) (v := ?_) (by rfl) rfl (by kernel_rfl) (by kernel_rfl) (by kernel_rfl) (by exact fun _ _ _ h => h) HS3.out (fun _ => trivial) (Or.inl ⟨by rfl, ?_⟩) ?_
      rotate_left
      · (intro w' hSw; (try dsimp only at hSw); go_simp; (try with_reducible rfl))
      (try simp only [Act.put, List.setIfInBounds_toArray, List.set_cons_zero, List.set_cons_succ, List.getElem_toArray, List.getElem_cons_zero, List.getElem_cons_succ])
      refine wpTill.take (i := 4) (v := ?_) (by rfl) rfl (by kernel_rfl) (by kernel_rfl) (by kernel_rfl) (by exact fun _ _ _ h => h) HS3.out (fun _ => trivial) (Or.inl ⟨by rfl, ?_⟩) ?_
      rotate_left
      · (intro w' hSw; (try dsimp only at hSw); go_simp; (try with_reducible rfl))
      (try simp only [Act.put, List.setIfInBounds_toArray, List.set_cons_zero, List.set_cons_succ, List.getElem_toArray, List.getElem_cons_zero, List.getElem_cons_succ])
      refine wpTill.take (i := 5) (v := ?_) (by rfl) rfl (by kernel_rfl) (by kernel_rfl) (by kernel_rfl) (by exact fun _ _ _ h => h) HS3.out (fun _ => trivial) (Or.inl ⟨by rfl, ?_⟩) ?_
      rotate_left
      · (intro w' hSw; (try dsimp only at hSw); go_simp; (try with_reducible rfl))
      (try simp only [Act.put, List.setIfInBounds_toArray, List.set_cons_zero, List.set_cons_succ, List.getElem_toArray, List.getElem_cons_zero, List.getElem_cons_succ])
      refine wpTill.step (i := 6) (by kernel_rfl) (by rfl) (fun K' hK => ?_)
      replace hK := Lib.hid hK
      go_simp
      have HL4 := Lib.hid (Sl.one5' w3 25 u)
      have HW4 := Lib.hid (HW3.out.alloc HW3.out.size (.cells #[.int .i64 u.k, .int .i64 u.n, .string ⟨u.s.toArray⟩, .slice u.A u.L.length u.c, .slice u.A' u.T.length u.c'] 25))
      generalize w3.alloc (.cells #[.int .i64 u.k, .int .i64 u.n, .string ⟨u.s.toArray⟩, .slice u.A u.L.length u.c, .slice u.A' u.T.length u.c'] 25) = W4 at *
      have HS4 := Lib.hid (HSS.out W4 HW4.out)
      have HBW4 := Lib.hid (HB.out.trans (HW4.out.mono HB.out.size))
      refine hK.out _ _ HS4.out (fun _ => trivial) ?_
      clear hK K'
      (try simp only [Act.put, List.setIfInBounds_toArray, List.set_cons_zero, List.set_cons_succ, List.getElem_toArray, List.getElem_cons_zero, List.getElem_cons_succ])
      refine wpTill.step (i := 7) (by kernel_rfl) (by rfl) (fun K' hK => ?_)
      replace hK := Lib.hid hK
      go_simp
      go_at_call 10
      ((with_reducible refine (few_any W4 (some ⟨w3.heap.size, 0, none⟩) 1 1 [u] HL4.out (fun x hx => by simp only [List.mem_singleton] at hx; subst hx; exact HAU.out W4 HBW4.out)).mono ?_); rintro _ w5 ⟨k2, rfl, hk2, hb5⟩)
      have HW5 := Lib.hid (HW4.out.trans (hb5.mono HW4.out.size))
      have HS5 := Lib.hid (HSS.out w5 HW5.out)
      have HBW5 := Lib.hid (HB.out.trans (HW5.out.mono HB.out.size))
      have HK2 := Lib.hid hk2
      clear hb5 hk2
      refine hK.out _ _ HS5.out (fun _ => trivial) ?_
      clear hK K'
      (try simp only [Act.put, List.setIfInBounds_toArray, List.set_cons_zero, List.set_cons_succ, List.getElem_toArray, List.getElem_cons_zero, List.getElem_cons_succ])
      cases k2
      · skip
        refine wpTill.take (i := 8) (v := ?_) (by rfl) rfl (by kernel_rfl) (by kernel_rfl) (by kernel_rfl) (by exact fun _ _ _ h => h) HS5.out (fun _ => trivial) (Or.inl ⟨by rfl, ?_⟩) ?_
        rotate_left
        · (intro w' hSw; (try dsimp only at hSw); go_simp; (try with_reducible rfl))
        (try simp only [Act.put, List.setIfInBounds_toArray, List.set_cons_zero, List.set_cons_succ, List.getElem_toArray, List.getElem_cons_zero, List.getElem_cons_succ])
        refine wpTill.take (i := 9) (v := ?_) (by rfl) rfl (by kernel_rfl) (by kernel_rfl) (by kernel_rfl) (by exact fun _ _ _ h => h) HS5.out (fun _ => trivial) (Or.inl ⟨by rfl, ?_⟩) ?_
        rotate_left
        · (intro w' hSw; (try dsimp only at hSw); go_simp; (try with_reducible rfl))
        (try simp only [Act.put, List.setIfInBounds_toArray, List.set_cons_zero, List.set_cons_succ, List.getElem_toArray, List.getElem_cons_zero, List.getElem_cons_succ])
        refine wpTill.take (i := 10) (v := ?_) (by rfl) rfl (by kernel_rfl) (by kernel_rfl) (by kernel_rfl) (by exact fun _ _ _ h => h) HS5.out (fun _ => trivial) (Or.inl ⟨by rfl, ?_⟩) ?_
        rotate_left
        · (intro w' hSw; (try dsimp only at hSw); go_simp; (try with_reducible rfl))
        (try simp only [Act.put, List.setIfInBounds_toArray, List.set_cons_zero, List.set_cons_succ, List.getElem_toArray, List.getElem_cons_zero, List.getElem_cons_succ])
        refine wpTill.take (i := 11) (v := undef) (by rfl) rfl (by kernel_rfl) (by kernel_rfl) (by kernel_rfl) (by exact fun _ _ _ h => h) HS5.out (fun _ => trivial) (Or.inr ⟨by rfl, rfl⟩) ?_
        (try simp only [Act.put, List.setIfInBounds_toArray, List.set_cons_zero, List.set_cons_succ, List.getElem_toArray, List.getElem_cons_zero, List.getElem_cons_succ])
        refine wpTill.take (i := 12) (v := undef) (by rfl) rfl (by kernel_rfl) (by kernel_rfl) (by kernel_rfl) (by exact fun _ _ _ h => h) HS5.out (fun _ => trivial) (Or.inr ⟨by rfl, rfl⟩) ?_
        (try simp only [Act.put, List.setIfInBounds_toArray, List.set_cons_zero, List.set_cons_succ, List.getElem_toArray, List.getElem_cons_zero, List.getElem_cons_succ])
        refine wpTill.take (i := 13) (v := undef) (by rfl) rfl (by kernel_rfl) (by kernel_rfl) (by kernel_rfl) (by exact fun _ _ _ h => h) HS5.out (fun _ => trivial) (Or.inr ⟨by rfl, rfl⟩) ?_
        (try simp only [Act.put, List.setIfInBounds_toArray, List.set_cons_zero, List.set_cons_succ, List.getElem_toArray, List.getElem_cons_zero, List.getElem_cons_succ])
        refine wpTill.take (i := 14) (v := undef) (by rfl) rfl (by kernel_rfl) (by kernel_rfl) (by kernel_rfl) (by exact fun _ _ _ h => h) HS5.out (fun _ => trivial) (Or.inr ⟨by rfl, rfl⟩) ?_
        (try simp only [Act.put, List.setIfInBounds_toArray, List.set_cons_zero, List.set_cons_succ, List.getElem_toArray, List.getElem_cons_zero, List.getElem_cons_succ])
        refine wpTill.take (i := 15) (v := undef) (by rfl) rfl (by kernel_rfl) (by kernel_rfl) (by kernel_rfl) (by exact fun _ _ _ h => h) HS5.out (fun _ => trivial) (Or.inr ⟨by rfl, rfl⟩) ?_
        (try simp only [Act.put, List.setIfInBounds_toArray, List.set_cons_zero, List.set_cons_succ, List.getElem_toArray, List.getElem_cons_zero, List.getElem_cons_succ])
        refine wpTill.take (i := 16) (v := ?_) (by rfl) rfl (by kernel_rfl) (by kernel_rfl) (by kernel_rfl) (by exact fun _ _ _ h => h) HS5.out (fun _ => trivial) (Or.inl ⟨by rfl, ?_⟩) ?_
        rotate_left
        · (intro w' hSw; (try dsimp only at hSw); go_simp; (try with_reducible rfl))
        (try simp only [Act.put, List.setIfInBounds_toArray, List.set_cons_zero, List.set_cons_succ, List.getElem_toArray, List.getElem_cons_zero, List.getElem_cons_succ])
        refine wpTill.stop (by kernel_rfl) ?_ _
        go_wp2_with (fail)
        go_meet
        exact ⟨true, rfl, HW5.out, fun h => by cases h⟩
      · skip
        refine wpTill.take (i := 8) (v := ?_) (by rfl) rfl (by kernel_rfl) (by kernel_rfl) (by kernel_rfl) (by exact fun _ _ _ h => h) HS5.out (fun _ => trivial) (Or.inl ⟨by rfl, ?_⟩) ?_
        rotate_left
        · (intro w' hSw; (try dsimp only at hSw); go_simp; (try with_reducible rfl))
        (try simp only [Act.put, List.setIfInBounds_toArray, List.set_cons_zero, List.set_cons_succ, List.getElem_toArray, List.getElem_cons_zero, List.getElem_cons_succ])
        refine wpTill.take (i := 9) (v := ?_) (by rfl) rfl (by kernel_rfl) (by kernel_rfl) (by kernel_rfl) (by exact fun _ _ _ h => h) HS5.out (fun _ => trivial) (Or.inl ⟨by rfl, ?_⟩) ?_
        rotate_left
        · (intro w' hSw; (try dsimp only at hSw); go_simp; (try with_reducible rfl))
        (try simp only [Act.put, List.setIfInBounds_toArray, List.set_cons_zero, List.set_cons_succ, List.getElem_toArray, List.getElem_cons_zero, List.getElem_cons_succ])
        refine wpTill.take (i := 10) (v := ?_) (by rfl) rfl (by kernel_rfl) (by kernel_rfl) (by kernel_rfl) (by exact fun _ _ _ h => h) HS5.out (fun _ => trivial) (Or.inl ⟨by rfl, ?_⟩) ?_
        rotate_left
        · (intro w' hSw; (try dsimp only at hSw); go_simp; (try with_reducible rfl))
        (try simp only [Act.put, List.setIfInBounds_toArray, List.set_cons_zero, List.set_cons_succ, List.getElem_toArray, List.getElem_cons_zero, List.getElem_cons_succ])
        refine wpTill.take (i := 11) (v := ?_) (by rfl) rfl (by kernel_rfl) (by kernel_rfl) (by kernel_rfl) (by exact fun _ _ _ h => h) HS5.out (fun _ => trivial) (Or.inl ⟨by rfl, ?_⟩) ?_
        rotate_left
        · (intro w' hSw; (try dsimp only at hSw); go_simp; (try with_reducible rfl))
        (try simp only [Act.put, List.setIfInBounds_toArray, List.set_cons_zero, List.set_cons_succ, List.getElem_toArray, List.getElem_cons_zero, List.getElem_cons_succ])
        refine wpTill.take (i := 13) (v := ?_) (by rfl) rfl (by kernel_rfl) (by kernel_rfl) (by kernel_rfl) (by exact fun _ _ _ h => h) HS5.out (fun _ => trivial) (Or.inl ⟨by rfl, ?_⟩) ?_
        rotate_left
        · (intro w' hSw; (try dsimp only at hSw); go_simp; (try with_reducible rfl))
        (try simp only [Act.put, List.setIfInBounds_toArray, List.set_cons_zero, List.set_cons_succ, List.getElem_toArray, List.getElem_cons_zero, List.getElem_cons_succ])
        refine wpTill.step (i := 12) (by kernel_rfl) (by rfl) (fun K' hK => ?_)
        replace hK := Lib.hid hK
        go_simp
        go_at_call 22
        ((with_reducible refine (HKV.out w5).mono ?_); rintro _ w6 ⟨rfl, hb6⟩)
        have HW6 := Lib.hid (HW5.out.trans (hb6.mono HW5.out.size))
        have HS6 := Lib.hid (HSS.out w6 HW6.out)
        clear hb6
        refine hK.out _ _ HS6.out (fun _ => trivial) ?_
        clear hK K'
        (try simp only [Act.put, List.setIfInBounds_toArray, List.set_cons_zero, List.set_cons_succ, List.getElem_toArray, List.getElem_cons_zero, List.getElem_cons_succ])
        refine wpTill.step (i := 14) (by kernel_rfl) (by rfl) (fun K' hK => ?_)
        replace hK := Lib.hid hK
        go_simp
        go_at_call 22
        ((with_reducible refine (HKU.out w6).mono ?_); rintro _ w7 ⟨rfl, hb7⟩)
        have HW7 := Lib.hid (HW6.out.trans (hb7.mono HW6.out.size))
        have HS7 := Lib.hid (HSS.out w7 HW7.out)
        clear hb7
        refine hK.out _ _ HS7.out (fun _ => trivial) ?_
        clear hK K'
        (try simp only [Act.put, List.setIfInBounds_toArray, List.set_cons_zero, List.set_cons_succ, List.getElem_toArray, List.getElem_cons_zero, List.getElem_cons_succ])
        refine wpTill.take (i := 15) (v := ?_) (by rfl) rfl (by kernel_rfl) (by kernel_rfl) (by kernel_rfl) (by exact fun _ _ _ h => h) HS7.out (fun _ => trivial) (Or.inl ⟨by rfl, ?_⟩) ?_
        rotate_left
        · (intro w' hSw; (try dsimp only at hSw); go_simp; (try with_reducible rfl))
        (try simp only [Act.put, List.setIfInBounds_toArray, List.set_cons_zero, List.set_cons_succ, List.getElem_toArray, List.getElem_cons_zero, List.getElem_cons_succ])
        refine wpTill.take (i := 16) (v := ?_) (by rfl) rfl (by kernel_rfl) (by kernel_rfl) (by kernel_rfl) (by exact fun _ _ _ h => h) HS7.out (fun _ => trivial) (Or.inl ⟨by rfl, ?_⟩) ?_
        rotate_left
        · (intro w' hSw; (try dsimp only at hSw); go_simp; (try with_reducible rfl))
        (try simp only [Act.put, List.setIfInBounds_toArray, List.set_cons_zero, List.set_cons_succ, List.getElem_toArray, List.getElem_cons_zero, List.getElem_cons_succ])
        refine wpTill.stop (by kernel_rfl) ?_ _
        go_wp2_with (fail)
        go_meet
        exact ⟨_, rfl, HW7.out, fun h => ⟨((HK1.out) trivial).2 v (by simp), ((HK2.out) trivial).2 u (by simp), by rw [HQV.out, HQU.out]; simpa using h⟩⟩
  case rest =>
    obtain ⟨k, rfl, hb, hk⟩ := hcut
    have HBC := Lib.hid (HB.out.trans (hb.mono HB.out.size))
    have X2 := Lib.hid (X.out.below hb)
    have Y2 := Lib.hid (Y.out.below hb)
    have HK := Lib.hid hk
    clear hb hk X Y
    cases k
    · obtain ⟨hfv, hfu, hkk⟩ := HK.out rfl
      have hlv := wv_len HOV.out hfv
      have hlu := wv_len HOU.out hfu
      have hov := wv_ok HOV.out hfv
      have hou := wv_ok HOU.out hfu
      have hkd : (wvOf v).kind = (wvOf u).kind := by have h1 := wvOf_kind v; have h2 := wvOf_kind u; omega
      obtain ⟨s, hs⟩ : ∃ s, (wvOf v).enc = s := ⟨_, rfl⟩
      obtain ⟨t, ht⟩ : ∃ t, (wvOf u).enc = t := ⟨_, rfl⟩
      have HWV := Lib.hid (fun W (hb : Below w.heap.size w W) => write_any W (HE.out W hb) hb.size v HOV.out (HAV.out W hb) hfv s hs)
      have HWU := Lib.hid (fun W (hb : Below w.heap.size w W) => write_any W (HE.out W hb) hb.size u HOU.out (HAU.out W hb) hfu t ht)
      have hpre : s.length ≤ t.length → t.take s.length = s → (wvOf v) = (wvOf u) := fun h1 h2 => (enc_prefix hov hou hkd (t := t.drop s.length) (by rw [hs, ht]; conv => lhs; rw [← List.take_append_drop s.length t, h2])).1
      rw [hs] at hlv
      rw [ht] at hlu
      have HPRE := Lib.hid hpre
      have HSS := Lib.hid hs
      have HTT := Lib.hid ht
      have HOU2 := Lib.hid hou
      have HFU := Lib.hid hfu
      have hszs := str_size s
      have hszt := str_size t
      clear hfv hfu hkk hov hou hkd hs ht hpre HK
      obtain ⟨zX2, kX2, fX2⟩ := X2.out
      go_wp2_with (fail)
      ((with_reducible refine (HWV.out _ HBC.out).mono ?_); rintro _ w2 ⟨rfl, hb2⟩)
      have HBD := Lib.hid (HBC.out.trans (hb2.mono HBC.out.size))
      have Y3 := Lib.hid (Y2.out.below hb2)
      clear hb2 zX2 kX2 fX2
      obtain ⟨zY3, kY3, fY3⟩ := Y3.out
      go_wp2_with (fail)
      ((with_reducible refine (HWU.out _ HBD.out).mono ?_); rintro _ w3 ⟨rfl, hb3⟩)
      have HBE := Lib.hid (HBD.out.trans (hb3.mono HBD.out.size))
      have Y4 := Lib.hid (Y3.out.below hb3)
      clear hb3 zY3 kY3 fY3
      by_cases hlt : (t.length : Int) < (s.length : Int)
      · go_wp2_with (fail)
        go_ret
        exact ⟨rfl, HBE.out⟩
      have hle : (s.length : Int) ≤ (t.length : Int) := by omega
      have hmin : min (s.length : Int) (t.length : Int) = (s.length : Int) := by omega
      have hs0 : (0 : Int) ≤ (s.length : Int) := by omega
      have hex := str_ext t 0 s.length
      rw [List.drop_zero] at hex
      by_cases heq : t.take s.length = s
      · have hvu := HPRE.out (by omega) heq
        have hst : s = t := by rw [← HSS.out, ← HTT.out, hvu]
        have HVU := Lib.hid hvu
        subst hst
        have HO := Lib.hid (fun W => Open_any W s)
        rw [heq] at hex
        have HBB := Lib.hid HBE.out.size
        clear heq hvu hlt
        go_wp2_with (fail)
        ((with_reducible refine (HO.out _).mono ?_); rintro _ w4 ⟨rfl, h4, hb4⟩)
        have HBF := Lib.hid (HBE.out.trans (hb4.mono HBE.out.size))
        have Y5 := Lib.hid (Y4.out.below hb4)
        have HQ := Lib.hid (equal_any h4 (HE.out _ HBF.out) HBB.out (ok_of rfl) (by show s.length ≤ _; omega) u HOU.out HFU.out (fun W hb => HAU.out W (HBF.out.trans hb)))
        clear hb4 h4
        obtain ⟨zY5, kY5, fY5⟩ := Y5.out
        go_wp2_with (fail)
        ((with_reducible refine (HQ.out).mono ?_); rintro _ w5 ⟨⟨k, rfl, hk⟩, h5, g5⟩)
        have hkt : k = true := hk.2 (by
          have h := readF_read HOU2.out []
          rw [List.append_nil, HTT.out] at h
          rw [h])
        subst hkt
        have HBG := Lib.hid (HBF.out.trans (below_row HBB.out HBF.out.size g5))
        clear hk h5 g5
        go_wp2_with (fail)
        go_ret
        exact ⟨rfl, HBG.out⟩
      · have hne : (t.take s.length == s) = false := beq_eq_false_iff_ne.2 heq
        have hne2 : (t.take s.length != s) = true := bne_iff_ne.2 heq
        clear hlt heq
        generalize t.take s.length = ts at *
        go_wp2_with (fail)
        go_ret
        exact ⟨rfl, HBE.out⟩
    · go_wp2_with (fail)
      go_ret
      exact ⟨rfl, HBC.out⟩
end Go.Proofs.YtmceahmngifcgaaDoor
