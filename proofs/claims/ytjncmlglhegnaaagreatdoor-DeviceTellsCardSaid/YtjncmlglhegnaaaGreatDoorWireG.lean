/- wire: the reference's Back, walked. -/
import Derived.Test.YtjncmlglhegnaaaGreatDoorWireW
namespace Go.Proofs.YtjncmlglhegnaaaGreatDoor
open Go.RowKit Go.Sort Go.Lib

def BackPost (w : World) (r : Int × Bool) (e : Ending) (w' : World) : Prop := e = .returned (.tuple #[.int .i64 r.1, .bool r.2]) ∧ Below w.heap.size w w'
theorem back_none {s : List UInt8} {f : Nat} (hf : (if signed s = true then 1 else 0) = f) (h : backGo (s.drop f) f 0 = none) : backF s = (0, false) := by
  unfold backF
  split at hf <;> rename_i hs
  · subst hf; simp only [hs, if_true, h]
  · subst hf; rw [List.drop_zero] at h; simp only [hs, if_false, h, Bool.false_eq_true]
theorem back_some {s : List UInt8} {f : Nat} {v : Int} (hf : (if signed s = true then 1 else 0) = f) (h : backGo (s.drop f) f 0 = some v) : backF s = (if f = 1 then v else IntKind.i64.wrap (-v), decide (itoa (if f = 1 then v else IntKind.i64.wrap (-v)) = s)) := by
  unfold backF
  split at hf <;> rename_i hs
  · subst hf; simp only [hs, if_true, h]
  · subst hf; rw [List.drop_zero] at h; simp only [hs, if_false, h, Bool.false_eq_true, Nat.zero_ne_one]
theorem drop_at {s : List UInt8} {k : Nat} {c : UInt8} (h : s[k]? = some c) : s.drop k = c :: s.drop (k + 1) := by
  obtain ⟨h1, h2⟩ := List.getElem?_eq_some_iff.1 h
  rw [← h2, List.drop_eq_getElem_cons h1]
theorem backGo_step {s : List UInt8} {k : Nat} {c : UInt8} {v : Int} {o : Option Int} (hc : s[k]? = some c) (h : backGo (s.drop k) k v = o) :
    (if (48 ≤ c.toNat ∧ c.toNat ≤ 57) ∧ k ≤ 20 then backGo (s.drop (k + 1)) (k + 1) (IntKind.i64.wrap (IntKind.i64.wrap (10 * v) - ((c.toNat : Int) - 48))) else none) = o := by
  rw [drop_at hc] at h
  exact h
theorem back_end (v : Int) (s : List UInt8) : Ending.returned (.tuple #[.int .i64 v, .bool (encI v == s ++ [59])]) = .returned (.tuple #[.int .i64 v, .bool (decide (Lib.itoa v = s))]) := by
  have : (encI v == s ++ [59]) = decide (Lib.itoa v = s) := by
    rw [Bool.eq_iff_iff]
    unfold encI
    simp
  rw [this]
set_option maxRecDepth 100000 in
set_option maxHeartbeats 2000000 in
theorem Back_any (w : World) (s : List UInt8) (h1 : s.length ≤ 140737488351232) (r : Int × Bool) (hr : backF s = r) :
    Calls Tryz.prog 234 #[.string ⟨s.toArray⟩] w (BackPost w r) := by
  subst hr
  obtain ⟨f, hf⟩ : ∃ f : Nat, (if signed s = true then 1 else 0) = f := ⟨_, rfl⟩
  have hf01 : f = 0 ∨ f = 1 := by rw [← hf]; split <;> simp
  have hfl : f ≤ s.length := by
    rw [← hf]
    split
    · rename_i hs
      cases s with
      | nil => simp [signed] at hs
      | cons c t => simp
    · exact Nat.zero_le _
  have hsz := str_size s
  have HN := Lib.hid (fun h => back_none (s := s) hf h)
  have HS := Lib.hid (fun v h => back_some (s := s) (v := v) hf h)
  have HF := Lib.hid hfl
  have HL := Lib.hid h1
  have hl2 : (s.length : Int) ≤ 140737488351232 := by omega
  have hcase : (s = [] ∧ f = 0) ∨ (0 < s.length ∧ (∃ hk, (⟨s.toArray⟩ : ByteArray)[0]'hk = 45) ∧ f = 1) ∨ (0 < s.length ∧ (∃ c : UInt8, c ≠ 45 ∧ ∃ hk, (⟨s.toArray⟩ : ByteArray)[0]'hk = c) ∧ f = 0) := by
    rw [← hf]
    cases s with
    | nil => exact .inl ⟨rfl, rfl⟩
    | cons c t =>
      have hk : 0 < (⟨(c :: t).toArray⟩ : ByteArray).size := by rw [str_size]; simp
      have hc := str_at (s := c :: t) (k := 0) rfl hk
      by_cases h : c = 45
      · subst h
        exact .inr (.inl ⟨by simp, ⟨hk, hc⟩, by simp [signed]⟩)
      · have h2 : ¬ c.toNat = 45 := fun e => h (UInt8.toNat_inj.1 e)
        exact .inr (.inr ⟨by simp, ⟨c, h, hk, hc⟩, by simp [signed, h2]⟩)
  have HFF := Lib.hid hf
  clear hf hf01 hfl h1
  rcases hcase with ⟨rfl, rfl⟩ | ⟨hp, ⟨hk, hc⟩, rfl⟩ | ⟨hp, ⟨c, hc1, hk, hc⟩, rfl⟩
  · have hbk := HS.out 0 rfl
    have HB := Lib.hid hbk
    have HC := Lib.hid (RInt_any w 0 (by omega) (by omega) _ rfl)
    have z1 : (⟨#[]⟩ : ByteArray) ++ (⟨#[59]⟩ : ByteArray) = ⟨([] ++ [(59 : UInt8)]).toArray⟩ := str_app [] [59]
    rw [List.nil_append] at z1
    clear hbk hsz hl2 HN HS HF HL HFF
    go_enter Tryz.func234, Tryz.ntmps234
    go_wp2_with (fail)
    go_loop [5, 6] (fun nv iv => nv = .int .i64 0 ∧ iv = .int .i64 0) (fun _ _ => 0)
    case atStart => exact ⟨rfl, rfl⟩
    case round =>
      obtain ⟨rfl, rfl⟩ := hrel
      go_wp2_with ((with_reducible refine (HC.out).mono ?_); rintro _ w1 ⟨rfl, hb1⟩; have HB1 := Lib.hid hb1; clear hb1)
      go_ret2
      refine ⟨?_, HB1.out⟩
      rw [HB.out]
      have e : IntKind.i64.wrap (-0) = 0 := by decide
      rw [if_neg (by decide), e]
      exact back_end 0 []
  · go_enter Tryz.func234, Tryz.ntmps234
    go_wp2_with (fail)
    go_loop [5, 6] (fun nv iv => ∃ (k : Nat) (v : Int), k ≤ s.length ∧ nv = .int .i64 v ∧ iv = .int .i64 (k : Int) ∧ backGo (s.drop k) k v = backGo (s.drop 1) 1 0 ∧ -9223372036854775808 ≤ v ∧ v ≤ 9223372036854775807) (fun _ i => s.length - (Go.RowKit.intOf i).toNat)
    case atStart => exact ⟨1, 0, HF.out, rfl, rfl, rfl, by omega, by omega⟩
    case round =>
      obtain ⟨k, v, hk1, rfl, rfl, hgo, hv0, hv1⟩ := hrel
      have HGO := Lib.hid hgo
      clear hgo
      by_cases hlt : k < s.length
      · obtain ⟨c2, hc2⟩ : ∃ c, s[k]? = some c := ⟨_, List.getElem?_eq_getElem hlt⟩
        obtain ⟨hq, hix⟩ : ∃ hq : k < (⟨s.toArray⟩ : ByteArray).size, (⟨s.toArray⟩ : ByteArray)[k]'hq = c2 := ⟨by rw [str_size]; exact hlt, str_at hc2 _⟩
        have HST := Lib.hid (backGo_step hc2 HGO.out)
        have hki : (k : Int) < (s.length : Int) := by omega
        have hkn : (0 : Int) ≤ (k : Int) := by omega
        obtain ⟨x, hx⟩ : ∃ x : Int, (c2.toNat : Int) = x := ⟨_, rfl⟩
        have hx0 : 0 ≤ x := by omega
        have hx1 : x ≤ 255 := by have := c2.toNat_lt; omega
        have HX := Lib.hid hx
        have HLT := Lib.hid hlt
        clear hc2 hlt hk1
        by_cases hd : (48 ≤ c2.toNat ∧ c2.toNat ≤ 57) ∧ k ≤ 20
        · have HD := Lib.hid hd
          have hn : backGo (s.drop (k + 1)) (k + 1) (IntKind.i64.wrap (IntKind.i64.wrap (10 * v) - (x - 48))) = backGo (s.drop 1) 1 0 := by
            have h := HST.out
            rw [if_pos HD.out, HX.out] at h
            exact h
          have HN2 := Lib.hid hn
          have hd1 : 48 ≤ x := by omega
          have hd2 : x ≤ 57 := by omega
          have hd3 : (k : Int) ≤ 20 := by omega
          have hr1 := wrap_rng (IntKind.i64.wrap (10 * v) - (x - 48))
          have HR1 := Lib.hid hr1
          have hu : IntKind.u8.wrap (x - 48) = x - 48 := by rw [IntKind.wrap_u8]; omega
          clear hd hn hr1 hv0 hv1
          go_wp2_with (fail)
          go_round
          case rel => exact ⟨k + 1, _, by have := HLT.out; omega, rfl, by go_num, by have h := HN2.out; rw [IntWalk.i64_left, IntWalk.i64_left] at h; exact h, by have h := HR1.out.1; rw [IntWalk.i64_left, IntWalk.i64_left] at h; exact h, by have h := HR1.out.2; rw [IntWalk.i64_left, IntWalk.i64_left] at h; exact h⟩
          case measure => have := HLT.out; simp [Go.RowKit.intOf]; omega
        · have hn := HN.out (by have h := HST.out; rw [if_neg hd] at h; exact h.symm)
          rw [hn]
          clear hn
          have hd' : x < 48 ∨ (48 ≤ x ∧ 57 < x) ∨ (48 ≤ x ∧ x ≤ 57 ∧ 20 < (k : Int)) := by omega
          clear hd hv0 hv1
          rcases hd' with hd | ⟨hd, hd2⟩ | ⟨hd, hd2, hd3⟩
          all_goals
            go_wp2_with (fail)
            go_ret2
            exact ⟨rfl, Below.refl _ _⟩
      · obtain rfl : k = s.length := by omega
        have hbk := HS.out v (by have h := HGO.out; rw [List.drop_length] at h; exact h.symm)
        have hy0 := hv0
        have hy1 := hv1
        have HC := Lib.hid (RInt_any w v hy0 hy1 _ rfl)
        have HLL := Lib.hid (itoa_length hy0 hy1)
        have hki : (s.length : Int) ≤ (s.length : Int) := Int.le_refl _
        have HB := Lib.hid hbk
        have hsz2 := str_size s
        have z1 : (⟨s.toArray⟩ : ByteArray) ++ (⟨#[59]⟩ : ByteArray) = ⟨(s ++ [59]).toArray⟩ := str_app s [59]
        have b1 : s.length + 1 ≤ 9223372036854775807 := by omega
        clear hbk hv0 hv1 hk1 hy0 hy1
        go_wp2_with ((with_reducible refine (HC.out).mono ?_); rintro _ w1 ⟨rfl, hb1⟩; have HB1 := Lib.hid hb1; clear hb1)
        go_ret2
        refine ⟨?_, HB1.out⟩
        rw [HB.out]
        exact back_end v s
  · have hc2 : ((c.toNat : Int) == 45) = false := beq_eq_false_iff_ne.2 (fun e => hc1 (UInt8.toNat_inj.1 (by simpa using (show c.toNat = 45 by omega))))
    clear hc1
    go_enter Tryz.func234, Tryz.ntmps234
    go_wp2_with (fail)
    go_loop [5, 6] (fun nv iv => ∃ (k : Nat) (v : Int), k ≤ s.length ∧ nv = .int .i64 v ∧ iv = .int .i64 (k : Int) ∧ backGo (s.drop k) k v = backGo (s.drop 0) 0 0 ∧ -9223372036854775808 ≤ v ∧ v ≤ 9223372036854775807) (fun _ i => s.length - (Go.RowKit.intOf i).toNat)
    case atStart => exact ⟨0, 0, HF.out, rfl, rfl, rfl, by omega, by omega⟩
    case round =>
      obtain ⟨k, v, hk1, rfl, rfl, hgo, hv0, hv1⟩ := hrel
      have HGO := Lib.hid hgo
      clear hgo
      by_cases hlt : k < s.length
      · obtain ⟨c2, hc2⟩ : ∃ c, s[k]? = some c := ⟨_, List.getElem?_eq_getElem hlt⟩
        obtain ⟨hq, hix⟩ : ∃ hq : k < (⟨s.toArray⟩ : ByteArray).size, (⟨s.toArray⟩ : ByteArray)[k]'hq = c2 := ⟨by rw [str_size]; exact hlt, str_at hc2 _⟩
        have HST := Lib.hid (backGo_step hc2 HGO.out)
        have hki : (k : Int) < (s.length : Int) := by omega
        have hkn : (0 : Int) ≤ (k : Int) := by omega
        obtain ⟨x, hx⟩ : ∃ x : Int, (c2.toNat : Int) = x := ⟨_, rfl⟩
        have hx0 : 0 ≤ x := by omega
        have hx1 : x ≤ 255 := by have := c2.toNat_lt; omega
        have HX := Lib.hid hx
        have HLT := Lib.hid hlt
        clear hc2 hlt hk1
        by_cases hd : (48 ≤ c2.toNat ∧ c2.toNat ≤ 57) ∧ k ≤ 20
        · have HD := Lib.hid hd
          have hn : backGo (s.drop (k + 1)) (k + 1) (IntKind.i64.wrap (IntKind.i64.wrap (10 * v) - (x - 48))) = backGo (s.drop 0) 0 0 := by
            have h := HST.out
            rw [if_pos HD.out, HX.out] at h
            exact h
          have HN2 := Lib.hid hn
          have hd1 : 48 ≤ x := by omega
          have hd2 : x ≤ 57 := by omega
          have hd3 : (k : Int) ≤ 20 := by omega
          have hr1 := wrap_rng (IntKind.i64.wrap (10 * v) - (x - 48))
          have HR1 := Lib.hid hr1
          have hu : IntKind.u8.wrap (x - 48) = x - 48 := by rw [IntKind.wrap_u8]; omega
          clear hd hn hr1 hv0 hv1
          go_wp2_with (fail)
          go_round
          case rel => exact ⟨k + 1, _, by have := HLT.out; omega, rfl, by go_num, by have h := HN2.out; rw [IntWalk.i64_left, IntWalk.i64_left] at h; exact h, by have h := HR1.out.1; rw [IntWalk.i64_left, IntWalk.i64_left] at h; exact h, by have h := HR1.out.2; rw [IntWalk.i64_left, IntWalk.i64_left] at h; exact h⟩
          case measure => have := HLT.out; simp [Go.RowKit.intOf]; omega
        · have hn := HN.out (by have h := HST.out; rw [if_neg hd] at h; exact h.symm)
          rw [hn]
          clear hn
          have hd' : x < 48 ∨ (48 ≤ x ∧ 57 < x) ∨ (48 ≤ x ∧ x ≤ 57 ∧ 20 < (k : Int)) := by omega
          clear hd hv0 hv1
          rcases hd' with hd | ⟨hd, hd2⟩ | ⟨hd, hd2, hd3⟩
          all_goals
            go_wp2_with (fail)
            go_ret2
            exact ⟨rfl, Below.refl _ _⟩
      · obtain rfl : k = s.length := by omega
        have hbk := HS.out v (by have h := HGO.out; rw [List.drop_length] at h; exact h.symm)
        obtain ⟨y, hyv⟩ : ∃ y, IntKind.i64.wrap (-v) = y := ⟨_, rfl⟩
        have hyr := wrap_rng (-v)
        rw [hyv] at hyr hbk
        have hy0 := hyr.1
        have hy1 := hyr.2
        clear hyr
        have HC := Lib.hid (RInt_any w y hy0 hy1 _ rfl)
        have HLL := Lib.hid (itoa_length hy0 hy1)
        have hki : (s.length : Int) ≤ (s.length : Int) := Int.le_refl _
        have HB := Lib.hid hbk
        have hsz2 := str_size s
        have z1 : (⟨s.toArray⟩ : ByteArray) ++ (⟨#[59]⟩ : ByteArray) = ⟨(s ++ [59]).toArray⟩ := str_app s [59]
        have b1 : s.length + 1 ≤ 9223372036854775807 := by omega
        clear hbk hv0 hv1 hk1 hy0 hy1
        go_wp2_with ((with_reducible refine (HC.out).mono ?_); rintro _ w1 ⟨rfl, hb1⟩; have HB1 := Lib.hid hb1; clear hb1)
        go_ret2
        refine ⟨?_, HB1.out⟩
        rw [HB.out]
        exact back_end y s
end Go.Proofs.YtjncmlglhegnaaaGreatDoor
