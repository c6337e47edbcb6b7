/- wire: Left, Rest, walked. -/
/- wire: the reference's reader in memory; Open, Left, Done, Tail, fail, close, walked. -/
/- wire: the reference reader's Left, Tail, walked. -/
/- wire: the reference's digits, Int, Num, Text, walked. -/
/- wire: the reference's Int, Num, Text, Back, walked. -/
/- wire: the reference's Back, walked. -/
/- wire: the reference's close, ahead, number, Num, Int, walked. -/
/- wire: the reference reader's number, Num, Int, Text, walked. -/
import Derived.Test.YtniiahmpdkgplaaGreatDoorWireA
import Derived.Test.YtniiahmpdkgplaaGreatDoorWireC
import Derived.IntWalk
namespace Go.Proofs.YtniiahmpdkgplaaGreatDoor
open Go.RowKit

end Go.Proofs.YtniiahmpdkgplaaGreatDoor
namespace Go.Proofs.YtniiahmpdkgplaaGreatDoor
open Go.RowKit

set_option maxRecDepth 100000 in
set_option maxHeartbeats 1000000 in
theorem Rfail_any {w : World} {b : Nat} {r : RdV} (h : RdAt w b r) :
    Calls Tryz.prog 77 #[.pointer (some ⟨b, 0, none⟩)] w fun e w' => e = .returned (.int .i64 0) ∧ RdAt w' b .fail ∧ w.grownBy w' (some b) := by
  have H2 := Lib.hid (h.set2 [] true)
  have G2 := Lib.hid (grown_set2 w b 0 1 (.string ⟨#[]⟩) (.bool true))
  obtain ⟨z, k, f⟩ := h
  go_enter Tryz.func77, Tryz.ntmps77
  go_wp2_with (fail)
  go_ret
  exact ⟨rfl, H2.out, G2.out⟩
set_option maxRecDepth 100000 in
set_option maxHeartbeats 1000000 in
theorem ROpen_any (w : World) (s : List UInt8) :
    Calls Tryz.prog 57 #[.string ⟨s.toArray⟩] w fun e w' => e = .returned (.pointer (some ⟨w.heap.size, 0, none⟩)) ∧ RdAt w' w.heap.size ⟨s, false⟩ ∧ Below w.heap.size w w' := by
  go_enter Tryz.func57, Tryz.ntmps57
  go_wp2_with (fail)
  go_ret
  exact ⟨rfl, Loc.new_ _ _ _, below_alloc w _⟩
end Go.Proofs.YtniiahmpdkgplaaGreatDoor
namespace Go.Proofs.YtniiahmpdkgplaaGreatDoor
open Go.RowKit

set_option maxRecDepth 100000 in
set_option maxHeartbeats 1000000 in
theorem RLeft_any {w : World} {b : Nat} {r : RdV} (h : RdAt w b r) (n : Int) (hn : (r.rest.length : Int) = n) :
    Calls Tryz.prog 58 #[.pointer (some ⟨b, 0, none⟩)] w fun e w' => e = .returned (.int .i64 n) ∧ w = w' := by
  subst hn
  obtain ⟨z, k, f⟩ := h
  go_enter Tryz.func58, Tryz.ntmps58
  go_wp2_with (fail)
  go_ret
  exact ⟨rfl, rfl⟩
end Go.Proofs.YtniiahmpdkgplaaGreatDoor
namespace Go.Proofs.YtniiahmpdkgplaaGreatDoor
open Go.RowKit Go.Sort Go.Lib

theorem one_convert (w : World) (c : Nat) (hc : c < 256) :
    Sem.run Tryz.prog (convert 96 9 (.slice (some ⟨w.heap.size, 0, none⟩) 1 1)) (w.alloc (.cells #[.int .u8 (c : Int)] 5)) = .ok (.string ⟨#[UInt8.ofNat c]⟩) (w.alloc (.cells #[.int .u8 (c : Int)] 5)) := by
  have := run_convert_bytes_arg (P := Tryz.prog) (w.alloc (.cells #[.int .u8 (c : Int)] 5)) 96 5 Tryz.underlying96 Tryz.underlying5 w.heap.size 0 1 1 [(c : Int)] rfl (fun i hi => by
    match i, hi with
    | 0, _ => exact World.cell?_alloc_at _ _ _ _ rfl) 9 Tryz.underlying9
  rw [this]
  simp [strOfNums]
theorem dec_len {k : Nat} (h : k ≤ 9223372036854775808) : (Lib.decDigits k).length ≤ 19 := by
  rw [decDigits_length]
  exact nDigits_le 18 k (by omega)
set_option maxRecDepth 100000 in
set_option maxHeartbeats 2000000 in
theorem digits_any (k : Nat) : ∀ (w : World), k ≤ 9223372036854775808 → ∀ (n : Int), -(k : Int) = n → ∀ l, Lib.decDigits k = l →
    Calls Tryz.prog 81 #[.int .i64 n] w fun e w' => e = .returned (.string ⟨l.toArray⟩) ∧ Below w.heap.size w w' := by
  induction k using Nat.strongRecOn with
  | _ k ih =>
    intro w hk n hn l hl
    obtain ⟨d, hd⟩ : ∃ d, k % 10 = d := ⟨_, rfl⟩
    obtain ⟨q, hq⟩ : ∃ q, k / 10 = q := ⟨_, rfl⟩
    have hd10 : d < 10 := by omega
    have hm : (-(k : Int)).tmod 10 = -(d : Int) := by rw [Int.neg_tmod, Int.tmod_eq_emod_of_nonneg (by omega)]; omega
    have ht : (-(k : Int)).tdiv 10 = -(q : Int) := by rw [Int.neg_tdiv, Int.tdiv_eq_ediv_of_nonneg (by omega)]; omega
    have hcv := one_convert w (48 + d) (by omega)
    have h1 : -9223372036854775808 ≤ -(k : Int) := by omega
    have h2 : -(k : Int) ≤ 0 := by omega
    have hcw : ((48 + d : Nat) : Int) = 48 - (-(d : Int)) := by omega
    rw [hcw] at hcv
    rw [hn] at hm ht h1 h2
    obtain ⟨m, hme⟩ : ∃ m, -(d : Int) = m := ⟨_, rfl⟩
    have hm0 : -9 ≤ m := by omega
    have hm1 : m ≤ 0 := by omega
    obtain ⟨c, hch⟩ : ∃ c, UInt8.ofNat (48 + d) = c := ⟨_, rfl⟩
    rw [hme] at hm hcv
    rw [hch] at hcv
    by_cases hs : k < 10
    · have hn10 : -10 < n := by omega
      have he : l = [c] := by rw [← hl, ← hch, Lib.decDigits, dif_pos hs]; congr 2; omega
      subst he
      clear hn hd hq hcw ht hk hs hme ih hch hl
      go_enter Tryz.func81, Tryz.ntmps81
      go_wp2_with (fail)
      go_ret
      exact ⟨rfl, below_alloc w _⟩
    · have hn10 : n ≤ -10 := by omega
      obtain ⟨l0, hl0⟩ : ∃ l0, Lib.decDigits q = l0 := ⟨_, rfl⟩
      have he : l = l0 ++ [c] := by rw [← hl, ← hch, Lib.decDigits, dif_neg hs, hq, hl0, hd]
      subst he
      obtain ⟨p, hp⟩ : ∃ p : Int, -(q : Int) = p := ⟨_, rfl⟩
      rw [hp] at ht
      have HIH := Lib.hid (ih q (by omega) (w.alloc (.cells #[.int .u8 (48 - m)] 5)) (by omega) p hp l0 hl0)
      have hlen := dec_len (k := q) (by omega)
      rw [hl0] at hlen
      have z1 : (⟨l0.toArray⟩ : ByteArray).size = l0.length := by simp [ByteArray.size]
      have z2 : (⟨l0.toArray⟩ : ByteArray) ++ (⟨#[c]⟩ : ByteArray) = ⟨(l0 ++ [c]).toArray⟩ := str_app l0 [c]
      have hp0 : -922337203685477581 ≤ p := by omega
      have hp1 : p ≤ 0 := by omega
      have b1 : l0.length + 1 ≤ 9223372036854775807 := by omega
      have hdv : n / 10 = p ∨ True := .inr trivial
      clear hn hd hq hcw hk hs hme ih hch hl hl0 hp hdv
      go_enter Tryz.func81, Tryz.ntmps81
      go_wp2_with ((with_reducible refine (HIH.out).mono ?_); rintro _ w1 ⟨rfl, hb1⟩; have HB1 := Lib.hid (below_of_calls _ hb1); clear hb1)
      go_ret
      exact ⟨rfl, HB1.out⟩
end Go.Proofs.YtniiahmpdkgplaaGreatDoor
namespace Go.Proofs.YtniiahmpdkgplaaGreatDoor
open Go.RowKit Go.Sort Go.Lib

set_option maxRecDepth 100000 in
set_option maxHeartbeats 2000000 in
theorem RInt_any (w : World) (n : Int) (h0 : -9223372036854775808 ≤ n) (h1 : n ≤ 9223372036854775807) (s : List UInt8) (hs : encI n = s) :
    Calls Tryz.prog 82 #[.int .i64 n] w fun e w' => e = .returned (.string ⟨s.toArray⟩) ∧ Below w.heap.size w w' := by
  subst hs
  by_cases hn : n < 0
  · obtain ⟨l, hl⟩ : ∃ l, Lib.decDigits n.natAbs = l := ⟨_, rfl⟩
    have HC := Lib.hid (digits_any n.natAbs w (by omega) n (by omega) l hl)
    have hlen := dec_len (k := n.natAbs) (by omega)
    rw [hl] at hlen
    have he : encI n = [45] ++ l ++ [59] := by unfold encI Lib.itoa; rw [if_pos hn, hl]; simp
    rw [he]
    have z1 : (⟨l.toArray⟩ : ByteArray).size = l.length := by simp [ByteArray.size]
    have z2 : (⟨#[45]⟩ : ByteArray) ++ (⟨l.toArray⟩ : ByteArray) = ⟨([45] ++ l).toArray⟩ := str_app [45] l
    have z3 : (⟨([45] ++ l).toArray⟩ : ByteArray).size = 1 + l.length := by simp [ByteArray.size]; omega
    have z4 : (⟨([45] ++ l).toArray⟩ : ByteArray) ++ (⟨#[59]⟩ : ByteArray) = ⟨([45] ++ l ++ [59]).toArray⟩ := str_app ([45] ++ l) [59]
    generalize [45] ++ l ++ [59] = r2 at *
    generalize [45] ++ l = r1 at *
    have b1 : 1 + l.length ≤ 9223372036854775807 := by omega
    have b2 : 1 + l.length + 1 ≤ 9223372036854775807 := by omega
    clear he hl h0 h1
    go_enter Tryz.func82, Tryz.ntmps82
    go_wp2_with ((with_reducible refine (HC.out).mono ?_); rintro _ w1 ⟨rfl, hb1⟩; have HB1 := Lib.hid hb1; clear hb1)
    go_ret
    exact ⟨rfl, HB1.out⟩
  · obtain ⟨l, hl⟩ : ∃ l, Lib.decDigits n.toNat = l := ⟨_, rfl⟩
    obtain ⟨m, hm⟩ : ∃ m : Int, -n = m := ⟨_, rfl⟩
    have HC := Lib.hid (digits_any n.toNat w (by omega) m (by omega) l hl)
    have hlen := dec_len (k := n.toNat) (by omega)
    rw [hl] at hlen
    have he : encI n = l ++ [59] := by unfold encI Lib.itoa; rw [if_neg hn, hl]
    rw [he]
    have z1 : (⟨l.toArray⟩ : ByteArray).size = l.length := by simp [ByteArray.size]
    have z4 : (⟨l.toArray⟩ : ByteArray) ++ (⟨#[59]⟩ : ByteArray) = ⟨(l ++ [59]).toArray⟩ := str_app l [59]
    generalize l ++ [59] = r2 at *
    have b1 : l.length + 1 ≤ 9223372036854775807 := by omega
    have hn' : 0 ≤ n := by omega
    have hw : IntKind.i64.wrap (-n) = m := by rw [hm]; exact IntWalk.i64_in _ (by omega)
    clear he hl h0 hn
    go_enter Tryz.func82, Tryz.ntmps82
    go_wp2_with ((with_reducible refine (HC.out).mono ?_); rintro _ w1 ⟨rfl, hb1⟩; have HB1 := Lib.hid hb1; clear hb1)
    go_ret
    exact ⟨rfl, HB1.out⟩
set_option maxRecDepth 100000 in
set_option maxHeartbeats 1000000 in
theorem RNum_any (w : World) (n : Int) (h0 : -9223372036854775808 ≤ n) (h1 : n ≤ 9223372036854775807) (s : List UInt8) (hs : encN n = s) :
    Calls Tryz.prog 64 #[.int .i64 n] w fun e w' => e = .returned (.string ⟨s.toArray⟩) ∧ Below w.heap.size w w' := by
  unfold encN at hs
  by_cases hn : n < 0
  · rw [if_pos hn] at hs
    subst hs
    clear h0 h1
    go_enter Tryz.func64, Tryz.ntmps64
    go_wp2_with (fail)
    go_ret
    exact ⟨rfl, Below.refl _ _⟩
  · rw [if_neg hn] at hs
    have HC := Lib.hid (RInt_any w n h0 h1 s hs)
    have hn' : 0 ≤ n := by omega
    clear hs h0 h1 hn
    go_enter Tryz.func64, Tryz.ntmps64
    go_wp2_with ((with_reducible refine (HC.out).mono ?_); rintro _ w1 ⟨rfl, hb1⟩; have HB1 := Lib.hid hb1; clear hb1)
    go_ret
    exact ⟨rfl, HB1.out⟩
/-- digits of a length -/
theorem dlen_any (w : World) (k : Nat) (hk : k ≤ 9223372036854775807) (m : Int) (hm : -(k : Int) = m) (l : List UInt8) (hl : Lib.itoa (k : Int) = l) :
    Calls Tryz.prog 81 #[.int .i64 m] w fun e w' => e = .returned (.string ⟨l.toArray⟩) ∧ Below w.heap.size w w' :=
  digits_any k w (by omega) m hm l (by rw [← hl]; unfold Lib.itoa; rw [if_neg (by omega)]; simp)
set_option maxRecDepth 100000 in
set_option maxHeartbeats 1000000 in
theorem RText_any (w : World) (s : List UInt8) (h1 : s.length ≤ 140737488351232) (r : List UInt8) (hr : encT s = r) :
    Calls Tryz.prog 63 #[.string ⟨s.toArray⟩] w fun e w' => e = .returned (.string ⟨r.toArray⟩) ∧ Below w.heap.size w w' := by
  obtain ⟨m, hm⟩ : ∃ m : Int, -(s.length : Int) = m := ⟨_, rfl⟩
  have HC := Lib.hid (dlen_any w s.length (by omega) m hm _ rfl)
  have hl : (Lib.itoa (s.length : Int)).length ≤ 20 := itoa_length (by omega) (by omega)
  have e4 : Lib.itoa (s.length : Int) ++ [58] ++ s ++ [44] = r := by rw [← hr]; unfold encT; simp
  have hsz : (⟨s.toArray⟩ : ByteArray).size = s.length := by simp [ByteArray.size]
  generalize Lib.itoa (s.length : Int) = l at *
  have z1 : (⟨l.toArray⟩ : ByteArray).size = l.length := by simp [ByteArray.size]
  have z2 : (⟨l.toArray⟩ : ByteArray) ++ (⟨#[58]⟩ : ByteArray) = ⟨(l ++ [58]).toArray⟩ := str_app l [58]
  have z3 : (⟨(l ++ [58]).toArray⟩ : ByteArray).size = l.length + 1 := by simp [ByteArray.size]
  have z4 : (⟨(l ++ [58]).toArray⟩ : ByteArray) ++ (⟨s.toArray⟩ : ByteArray) = ⟨(l ++ [58] ++ s).toArray⟩ := str_app (l ++ [58]) s
  have z5 : (⟨(l ++ [58] ++ s).toArray⟩ : ByteArray).size = l.length + 1 + s.length := by simp [ByteArray.size]; omega
  have z6 : (⟨(l ++ [58] ++ s).toArray⟩ : ByteArray) ++ (⟨#[44]⟩ : ByteArray) = ⟨(l ++ [58] ++ s ++ [44]).toArray⟩ := str_app (l ++ [58] ++ s) [44]
  rw [e4] at z6
  generalize l ++ [58] ++ s = r2 at *
  generalize l ++ [58] = r1 at *
  have b1 : l.length + 1 ≤ 9223372036854775807 := by omega
  have b2 : l.length + 1 + s.length ≤ 9223372036854775807 := by omega
  have b3 : l.length + 1 + s.length + 1 ≤ 9223372036854775807 := by omega
  have hw : IntKind.i64.wrap (-(s.length : Int)) = m := by rw [hm]; exact IntWalk.i64_in _ (by omega)
  clear hr e4 hm
  go_enter Tryz.func63, Tryz.ntmps63
  go_wp2_with ((with_reducible refine (HC.out).mono ?_); rintro _ w1 ⟨rfl, hb1⟩; have HB1 := Lib.hid hb1; clear hb1)
  go_ret
  exact ⟨rfl, HB1.out⟩
end Go.Proofs.YtniiahmpdkgplaaGreatDoor
namespace Go.Proofs.YtniiahmpdkgplaaGreatDoor
open Go.RowKit Go.Sort Go.Lib

def BackPost (w : World) (r : Int × Bool) (e : Ending) (w' : World) : Prop := e = .returned (.tuple #[.int .i64 r.1, .bool r.2]) ∧ Below w.heap.size w w'
theorem back_none {s : List UInt8} {f : Nat} (hf : (if signed s = true then 1 else 0) = f) (h : backGo (s.drop f) f 0 = none) : backF s = (0, false) := by
  unfold backF
  split at hf <;> rename_i hs
  · subst hf; simp only [hs, if_true, h]
  · subst hf; rw [List.drop_zero] at h; simp only [hs, if_false, h, Bool.false_eq_true]
theorem back_some {s : List UInt8} {f : Nat} {v : Int} (hf : (if signed s = true then 1 else 0) = f) (h : backGo (s.drop f) f 0 = some v) : backF s = (if f = 1 then v else IntKind.i64.wrap (-v), decide (itoa (if f = 1 then v else IntKind.i64.wrap (-v)) = s)) := by
  unfold backF
  split at hf <;> rename_i hs
  · subst hf; simp only [hs, if_true, h]
  · subst hf; rw [List.drop_zero] at h; simp only [hs, if_false, h, Bool.false_eq_true, Nat.zero_ne_one]
theorem drop_at {s : List UInt8} {k : Nat} {c : UInt8} (h : s[k]? = some c) : s.drop k = c :: s.drop (k + 1) := by
  obtain ⟨h1, h2⟩ := List.getElem?_eq_some_iff.1 h
  rw [← h2, List.drop_eq_getElem_cons h1]
theorem backGo_step {s : List UInt8} {k : Nat} {c : UInt8} {v : Int} {o : Option Int} (hc : s[k]? = some c) (h : backGo (s.drop k) k v = o) :
    (if (48 ≤ c.toNat ∧ c.toNat ≤ 57) ∧ k ≤ 20 then backGo (s.drop (k + 1)) (k + 1) (IntKind.i64.wrap (IntKind.i64.wrap (10 * v) - ((c.toNat : Int) - 48))) else none) = o := by
  rw [drop_at hc] at h
  exact h
theorem back_end (v : Int) (s : List UInt8) : Ending.returned (.tuple #[.int .i64 v, .bool (encI v == s ++ [59])]) = .returned (.tuple #[.int .i64 v, .bool (decide (Lib.itoa v = s))]) := by
  have : (encI v == s ++ [59]) = decide (Lib.itoa v = s) := by
    rw [Bool.eq_iff_iff]
    unfold encI
    simp
  rw [this]
set_option maxRecDepth 100000 in
set_option maxHeartbeats 2000000 in
theorem Back_any (w : World) (s : List UInt8) (h1 : s.length ≤ 140737488351232) (r : Int × Bool) (hr : backF s = r) :
    Calls Tryz.prog 94 #[.string ⟨s.toArray⟩] w (BackPost w r) := by
  subst hr
  obtain ⟨f, hf⟩ : ∃ f : Nat, (if signed s = true then 1 else 0) = f := ⟨_, rfl⟩
  have hf01 : f = 0 ∨ f = 1 := by rw [← hf]; split <;> simp
  have hfl : f ≤ s.length := by
    rw [← hf]
    split
    · rename_i hs
      cases s with
      | nil => simp [signed] at hs
      | cons c t => simp
    · exact Nat.zero_le _
  have hsz := str_size s
  have HN := Lib.hid (fun h => back_none (s := s) hf h)
  have HS := Lib.hid (fun v h => back_some (s := s) (v := v) hf h)
  have HF := Lib.hid hfl
  have HL := Lib.hid h1
  have hl2 : (s.length : Int) ≤ 140737488351232 := by omega
  have hcase : (s = [] ∧ f = 0) ∨ (0 < s.length ∧ (∃ hk, (⟨s.toArray⟩ : ByteArray)[0]'hk = 45) ∧ f = 1) ∨ (0 < s.length ∧ (∃ c : UInt8, c ≠ 45 ∧ ∃ hk, (⟨s.toArray⟩ : ByteArray)[0]'hk = c) ∧ f = 0) := by
    rw [← hf]
    cases s with
    | nil => exact .inl ⟨rfl, rfl⟩
    | cons c t =>
      have hk : 0 < (⟨(c :: t).toArray⟩ : ByteArray).size := by rw [str_size]; simp
      have hc := str_at (s := c :: t) (k := 0) rfl hk
      by_cases h : c = 45
      · subst h
        exact .inr (.inl ⟨by simp, ⟨hk, hc⟩, by simp [signed]⟩)
      · have h2 : ¬ c.toNat = 45 := fun e => h (UInt8.toNat_inj.1 e)
        exact .inr (.inr ⟨by simp, ⟨c, h, hk, hc⟩, by simp [signed, h2]⟩)
  have HFF := Lib.hid hf
  clear hf hf01 hfl h1
  rcases hcase with ⟨rfl, rfl⟩ | ⟨hp, ⟨hk, hc⟩, rfl⟩ | ⟨hp, ⟨c, hc1, hk, hc⟩, rfl⟩
  · have hbk := HS.out 0 rfl
    have HB := Lib.hid hbk
    have HC := Lib.hid (RInt_any w 0 (by omega) (by omega) _ rfl)
    have z1 : (⟨#[]⟩ : ByteArray) ++ (⟨#[59]⟩ : ByteArray) = ⟨([] ++ [(59 : UInt8)]).toArray⟩ := str_app [] [59]
    rw [List.nil_append] at z1
    clear hbk hsz hl2 HN HS HF HL HFF
    go_enter Tryz.func94, Tryz.ntmps94
    go_wp2_with (fail)
    go_loop [5, 6] (fun nv iv => nv = .int .i64 0 ∧ iv = .int .i64 0) (fun _ _ => 0)
    case atStart => exact ⟨rfl, rfl⟩
    case round =>
      obtain ⟨rfl, rfl⟩ := hrel
      go_wp2_with ((with_reducible refine (HC.out).mono ?_); rintro _ w1 ⟨rfl, hb1⟩; have HB1 := Lib.hid hb1; clear hb1)
      go_ret2
      refine ⟨?_, HB1.out⟩
      rw [HB.out]
      have e : IntKind.i64.wrap (-0) = 0 := by decide
      rw [if_neg (by decide), e]
      exact back_end 0 []
  · go_enter Tryz.func94, Tryz.ntmps94
    go_wp2_with (fail)
    go_loop [5, 6] (fun nv iv => ∃ (k : Nat) (v : Int), k ≤ s.length ∧ nv = .int .i64 v ∧ iv = .int .i64 (k : Int) ∧ backGo (s.drop k) k v = backGo (s.drop 1) 1 0 ∧ -9223372036854775808 ≤ v ∧ v ≤ 9223372036854775807) (fun _ i => s.length - (Go.RowKit.intOf i).toNat)
    case atStart => exact ⟨1, 0, HF.out, rfl, rfl, rfl, by omega, by omega⟩
    case round =>
      obtain ⟨k, v, hk1, rfl, rfl, hgo, hv0, hv1⟩ := hrel
      have HGO := Lib.hid hgo
      clear hgo
      by_cases hlt : k < s.length
      · obtain ⟨c2, hc2⟩ : ∃ c, s[k]? = some c := ⟨_, List.getElem?_eq_getElem hlt⟩
        obtain ⟨hq, hix⟩ : ∃ hq : k < (⟨s.toArray⟩ : ByteArray).size, (⟨s.toArray⟩ : ByteArray)[k]'hq = c2 := ⟨by rw [str_size]; exact hlt, str_at hc2 _⟩
        have HST := Lib.hid (backGo_step hc2 HGO.out)
        have hki : (k : Int) < (s.length : Int) := by omega
        have hkn : (0 : Int) ≤ (k : Int) := by omega
        obtain ⟨x, hx⟩ : ∃ x : Int, (c2.toNat : Int) = x := ⟨_, rfl⟩
        have hx0 : 0 ≤ x := by omega
        have hx1 : x ≤ 255 := by have := c2.toNat_lt; omega
        have HX := Lib.hid hx
        have HLT := Lib.hid hlt
        clear hc2 hlt hk1
        by_cases hd : (48 ≤ c2.toNat ∧ c2.toNat ≤ 57) ∧ k ≤ 20
        · have HD := Lib.hid hd
          have hn : backGo (s.drop (k + 1)) (k + 1) (IntKind.i64.wrap (IntKind.i64.wrap (10 * v) - (x - 48))) = backGo (s.drop 1) 1 0 := by
            have h := HST.out
            rw [if_pos HD.out, HX.out] at h
            exact h
          have HN2 := Lib.hid hn
          have hd1 : 48 ≤ x := by omega
          have hd2 : x ≤ 57 := by omega
          have hd3 : (k : Int) ≤ 20 := by omega
          have hr1 := wrap_rng (IntKind.i64.wrap (10 * v) - (x - 48))
          have HR1 := Lib.hid hr1
          have hu : IntKind.u8.wrap (x - 48) = x - 48 := by rw [IntKind.wrap_u8]; omega
          clear hd hn hr1 hv0 hv1
          go_wp2_with (fail)
          go_round
          case rel => exact ⟨k + 1, _, by have := HLT.out; omega, rfl, by go_num, by have h := HN2.out; rw [IntWalk.i64_left, IntWalk.i64_left] at h; exact h, by have h := HR1.out.1; rw [IntWalk.i64_left, IntWalk.i64_left] at h; exact h, by have h := HR1.out.2; rw [IntWalk.i64_left, IntWalk.i64_left] at h; exact h⟩
          case measure => have := HLT.out; simp [Go.RowKit.intOf]; omega
        · have hn := HN.out (by have h := HST.out; rw [if_neg hd] at h; exact h.symm)
          rw [hn]
          clear hn
          have hd' : x < 48 ∨ (48 ≤ x ∧ 57 < x) ∨ (48 ≤ x ∧ x ≤ 57 ∧ 20 < (k : Int)) := by omega
          clear hd hv0 hv1
          rcases hd' with hd | ⟨hd, hd2⟩ | ⟨hd, hd2, hd3⟩
          all_goals
            go_wp2_with (fail)
            go_ret2
            exact ⟨rfl, Below.refl _ _⟩
      · obtain rfl : k = s.length := by omega
        have hbk := HS.out v (by have h := HGO.out; rw [List.drop_length] at h; exact h.symm)
        have hy0 := hv0
        have hy1 := hv1
        have HC := Lib.hid (RInt_any w v hy0 hy1 _ rfl)
        have HLL := Lib.hid (itoa_length hy0 hy1)
        have hki : (s.length : Int) ≤ (s.length : Int) := Int.le_refl _
        have HB := Lib.hid hbk
        have hsz2 := str_size s
        have z1 : (⟨s.toArray⟩ : ByteArray) ++ (⟨#[59]⟩ : ByteArray) = ⟨(s ++ [59]).toArray⟩ := str_app s [59]
        have b1 : s.length + 1 ≤ 9223372036854775807 := by omega
        clear hbk hv0 hv1 hk1 hy0 hy1
        go_wp2_with ((with_reducible refine (HC.out).mono ?_); rintro _ w1 ⟨rfl, hb1⟩; have HB1 := Lib.hid hb1; clear hb1)
        go_ret2
        refine ⟨?_, HB1.out⟩
        rw [HB.out]
        exact back_end v s
  · have hc2 : ((c.toNat : Int) == 45) = false := beq_eq_false_iff_ne.2 (fun e => hc1 (UInt8.toNat_inj.1 (by simpa using (show c.toNat = 45 by omega))))
    clear hc1
    go_enter Tryz.func94, Tryz.ntmps94
    go_wp2_with (fail)
    go_loop [5, 6] (fun nv iv => ∃ (k : Nat) (v : Int), k ≤ s.length ∧ nv = .int .i64 v ∧ iv = .int .i64 (k : Int) ∧ backGo (s.drop k) k v = backGo (s.drop 0) 0 0 ∧ -9223372036854775808 ≤ v ∧ v ≤ 9223372036854775807) (fun _ i => s.length - (Go.RowKit.intOf i).toNat)
    case atStart => exact ⟨0, 0, HF.out, rfl, rfl, rfl, by omega, by omega⟩
    case round =>
      obtain ⟨k, v, hk1, rfl, rfl, hgo, hv0, hv1⟩ := hrel
      have HGO := Lib.hid hgo
      clear hgo
      by_cases hlt : k < s.length
      · obtain ⟨c2, hc2⟩ : ∃ c, s[k]? = some c := ⟨_, List.getElem?_eq_getElem hlt⟩
        obtain ⟨hq, hix⟩ : ∃ hq : k < (⟨s.toArray⟩ : ByteArray).size, (⟨s.toArray⟩ : ByteArray)[k]'hq = c2 := ⟨by rw [str_size]; exact hlt, str_at hc2 _⟩
        have HST := Lib.hid (backGo_step hc2 HGO.out)
        have hki : (k : Int) < (s.length : Int) := by omega
        have hkn : (0 : Int) ≤ (k : Int) := by omega
        obtain ⟨x, hx⟩ : ∃ x : Int, (c2.toNat : Int) = x := ⟨_, rfl⟩
        have hx0 : 0 ≤ x := by omega
        have hx1 : x ≤ 255 := by have := c2.toNat_lt; omega
        have HX := Lib.hid hx
        have HLT := Lib.hid hlt
        clear hc2 hlt hk1
        by_cases hd : (48 ≤ c2.toNat ∧ c2.toNat ≤ 57) ∧ k ≤ 20
        · have HD := Lib.hid hd
          have hn : backGo (s.drop (k + 1)) (k + 1) (IntKind.i64.wrap (IntKind.i64.wrap (10 * v) - (x - 48))) = backGo (s.drop 0) 0 0 := by
            have h := HST.out
            rw [if_pos HD.out, HX.out] at h
            exact h
          have HN2 := Lib.hid hn
          have hd1 : 48 ≤ x := by omega
          have hd2 : x ≤ 57 := by omega
          have hd3 : (k : Int) ≤ 20 := by omega
          have hr1 := wrap_rng (IntKind.i64.wrap (10 * v) - (x - 48))
          have HR1 := Lib.hid hr1
          have hu : IntKind.u8.wrap (x - 48) = x - 48 := by rw [IntKind.wrap_u8]; omega
          clear hd hn hr1 hv0 hv1
          go_wp2_with (fail)
          go_round
          case rel => exact ⟨k + 1, _, by have := HLT.out; omega, rfl, by go_num, by have h := HN2.out; rw [IntWalk.i64_left, IntWalk.i64_left] at h; exact h, by have h := HR1.out.1; rw [IntWalk.i64_left, IntWalk.i64_left] at h; exact h, by have h := HR1.out.2; rw [IntWalk.i64_left, IntWalk.i64_left] at h; exact h⟩
          case measure => have := HLT.out; simp [Go.RowKit.intOf]; omega
        · have hn := HN.out (by have h := HST.out; rw [if_neg hd] at h; exact h.symm)
          rw [hn]
          clear hn
          have hd' : x < 48 ∨ (48 ≤ x ∧ 57 < x) ∨ (48 ≤ x ∧ x ≤ 57 ∧ 20 < (k : Int)) := by omega
          clear hd hv0 hv1
          rcases hd' with hd | ⟨hd, hd2⟩ | ⟨hd, hd2, hd3⟩
          all_goals
            go_wp2_with (fail)
            go_ret2
            exact ⟨rfl, Below.refl _ _⟩
      · obtain rfl : k = s.length := by omega
        have hbk := HS.out v (by have h := HGO.out; rw [List.drop_length] at h; exact h.symm)
        obtain ⟨y, hyv⟩ : ∃ y, IntKind.i64.wrap (-v) = y := ⟨_, rfl⟩
        have hyr := wrap_rng (-v)
        rw [hyv] at hyr hbk
        have hy0 := hyr.1
        have hy1 := hyr.2
        clear hyr
        have HC := Lib.hid (RInt_any w y hy0 hy1 _ rfl)
        have HLL := Lib.hid (itoa_length hy0 hy1)
        have hki : (s.length : Int) ≤ (s.length : Int) := Int.le_refl _
        have HB := Lib.hid hbk
        have hsz2 := str_size s
        have z1 : (⟨s.toArray⟩ : ByteArray) ++ (⟨#[59]⟩ : ByteArray) = ⟨(s ++ [59]).toArray⟩ := str_app s [59]
        have b1 : s.length + 1 ≤ 9223372036854775807 := by omega
        clear hbk hv0 hv1 hk1 hy0 hy1
        go_wp2_with ((with_reducible refine (HC.out).mono ?_); rintro _ w1 ⟨rfl, hb1⟩; have HB1 := Lib.hid hb1; clear hb1)
        go_ret2
        refine ⟨?_, HB1.out⟩
        rw [HB.out]
        exact back_end y s
end Go.Proofs.YtniiahmpdkgplaaGreatDoor
namespace Go.Proofs.YtniiahmpdkgplaaGreatDoor
open Go.RowKit Go.Sort Go.Lib

set_option maxRecDepth 100000 in
set_option maxHeartbeats 1000000 in
theorem Rclose_any {w : World} {b : Nat} {r : RdV} (h : RdAt w b r) (e : UInt8) (r' : RdV) (hr : closeF e r = r') (hl : r.rest.length ≤ 140737488351232) (k : Bool) (hk : closeB e r = k) :
    Calls Tryz.prog 78 #[.pointer (some ⟨b, 0, none⟩), .int .u8 e.toNat] w (RdPost w b (.bool k) r') := by
  obtain ⟨l, x⟩ := r
  have HF := Lib.hid (Rfail_any h)
  have H := Lib.hid h
  obtain ⟨z, f1, f2⟩ := h
  cases l with
  | nil =>
    have hk' : k = false := by rw [← hk]; rfl
    have hr' : r' = .fail := by rw [← hr]; rfl
    subst hk' hr'
    clear hk hr
    go_enter Tryz.func78, Tryz.ntmps78
    go_wp2_with ((with_reducible refine (HF.out).mono ?_); rintro _ w1 ⟨rfl, h1, g1⟩; have H1 := Lib.hid h1; have G1 := Lib.hid g1; clear h1 g1)
    go_ret
    exact ⟨rfl, H1.out, G1.out⟩
  | cons c t =>
    have hsz := str_size (c :: t)
    obtain ⟨hq, hix⟩ : ∃ hq : 0 < (⟨(c :: t).toArray⟩ : ByteArray).size, (⟨(c :: t).toArray⟩ : ByteArray)[0]'hq = c := ⟨by rw [hsz]; simp, rfl⟩
    have hex := str_ext (c :: t) 1 (c :: t).length
    rw [List.take_length] at hex
    simp only [List.drop_succ_cons, List.drop_zero, List.length_cons] at hex hsz hl
    have hp : 0 < (c :: t).length := by simp
    by_cases hc : c = e
    · subst hc
      have hk' : k = true := by rw [← hk]; simp [closeB]
      have hr' : r' = ⟨t, x⟩ := by rw [← hr]; simp [closeF]
      subst hk' hr'
      have H2 := Lib.hid (H.out.set1 t)
      have G2 := Lib.hid (grownBy_setCell w ⟨b, 0, none⟩ (.string ⟨t.toArray⟩))
      clear hk hr
      go_enter Tryz.func78, Tryz.ntmps78
      go_wp2_with (fail)
      go_ret
      exact ⟨rfl, H2.out, G2.out⟩
    · have hk' : k = false := by rw [← hk]; simp [closeB, hc]
      have hr' : r' = .fail := by rw [← hr]; simp [closeF, hc]
      subst hk' hr'
      have hne : ((c.toNat : Int) != (e.toNat : Int)) = true := bne_iff_ne.2 (fun h => hc (UInt8.toNat_inj.1 (by omega)))
      clear hk hr hc
      go_enter Tryz.func78, Tryz.ntmps78
      go_wp2_with ((with_reducible refine (HF.out).mono ?_); rintro _ w1 ⟨rfl, h1, g1⟩; have H1 := Lib.hid h1; have G1 := Lib.hid g1; clear h1 g1)
      go_ret
      exact ⟨rfl, H1.out, G1.out⟩
theorem upTo_lt {e : UInt8} : ∀ {m : Nat} {l : List UInt8} {k : Nat}, k < upTo e m l → k < m ∧ ∃ c, l[k]? = some c ∧ c ≠ e
  | 0, _, k, h => by simp [upTo] at h
  | m + 1, [], k, h => by simp [upTo] at h
  | m + 1, c :: l, k, h => by
    simp only [upTo] at h
    split at h
    · simp at h
    · rename_i hc
      cases k with
      | zero => exact ⟨by omega, c, rfl, hc⟩
      | succ k =>
        obtain ⟨h1, c2, h2, h3⟩ := upTo_lt (k := k) (by omega : k < upTo e m l)
        exact ⟨by omega, c2, by simpa using h2, h3⟩
theorem upTo_end {e : UInt8} : ∀ (m : Nat) (l : List UInt8), upTo e m l = l.length ∨ (upTo e m l = m ∧ m < l.length ∧ l[m]? ≠ some e) ∨ (upTo e m l < l.length ∧ upTo e m l ≤ m ∧ l[upTo e m l]? = some e)
  | 0, [] => by simp [upTo]
  | 0, c :: l => by
    by_cases hc : c = e
    · simp [upTo, hc]
    · simp [upTo, hc]
  | m + 1, [] => by simp [upTo]
  | m + 1, c :: l => by
    simp only [upTo]
    split
    · rename_i hc
      simp [hc]
    · rename_i hc
      have := upTo_end (e := e) m l
      simp only [List.length_cons, List.getElem?_cons_succ]
      rcases this with h | ⟨h1, h2, h3⟩ | ⟨h1, h2, h3⟩
      · exact .inl (by omega)
      · exact .inr (.inl ⟨by omega, by omega, h3⟩)
      · exact .inr (.inr ⟨by omega, by omega, h3⟩)
set_option maxRecDepth 100000 in
set_option maxHeartbeats 2000000 in
theorem Rahead_any {w : World} {b : Nat} {r : RdV} (h : RdAt w b r) (e : UInt8) (hl : r.rest.length ≤ 140737488351232) (x : Int × RdV) (hx : aheadF e r = x) :
    Calls Tryz.prog 88 #[.pointer (some ⟨b, 0, none⟩), .int .u8 e.toNat] w (RdPost w b (.int .i64 x.1) x.2) := by
  obtain ⟨l, bd⟩ := r
  obtain ⟨u, hu⟩ : ∃ u, upTo e 21 l = u := ⟨_, rfl⟩
  have HF := Lib.hid (Rfail_any h)
  have H := Lib.hid h
  have HLT := Lib.hid (fun k (h : k < u) => upTo_lt (e := e) (m := 21) (l := l) (k := k) (by rw [hu]; exact h))
  have hend := upTo_end (e := e) 21 l
  rw [hu] at hend
  have hul : u ≤ l.length := by omega
  have hu21 : u ≤ 21 := by
    by_cases hu0 : 0 < u
    · have := (HLT.out (u - 1) (by omega)).1; omega
    · omega
  have hval : aheadF e ⟨l, bd⟩ = if l[u]? = some e then if (backF (l.take u)).2 = true then ((backF (l.take u)).1, ⟨l.drop (u + 1), bd⟩) else (0, .fail) else (0, .fail) := by
    unfold aheadF
    rw [hu]
  have HVAL := Lib.hid (hval.symm.trans hx)
  simp only at hl
  have hsz := str_size l
  have hl2 : (l.length : Int) ≤ 140737488351232 := by omega
  obtain ⟨z, f1, f2⟩ := h
  have HUL := Lib.hid hul
  have HU21 := Lib.hid hu21
  have HEND := Lib.hid hend
  clear hval hx hu hend hul hu21
  go_enter Tryz.func88, Tryz.ntmps88
  go_wp2_with (fail)
  go_loop [5] (fun nv => ∃ k : Nat, k ≤ u ∧ nv = .int .i64 (k : Int)) (fun n => u - (Go.RowKit.intOf n).toNat)
  case atStart => exact ⟨0, Nat.zero_le _, rfl⟩
  case round =>
    obtain ⟨k, hk, rfl⟩ := hrel
    by_cases hlt : k < u
    · obtain ⟨hk21, c, hc, hce⟩ := HLT.out k hlt
      have hkl : k < l.length := by have := HUL.out; omega
      obtain ⟨hq, hix⟩ : ∃ hq : k < (⟨l.toArray⟩ : ByteArray).size, (⟨l.toArray⟩ : ByteArray)[k]'hq = c := ⟨by rw [hsz]; exact hkl, str_at hc _⟩
      have hki : (k : Int) < (l.length : Int) := by omega
      have hkj : (k : Int) < 21 := by omega
      have hkn : (0 : Int) ≤ (k : Int) := by omega
      have hne : ((c.toNat : Int) != (e.toNat : Int)) = true := bne_iff_ne.2 (fun h => hce (UInt8.toNat_inj.1 (by omega)))
      have HLT2 := Lib.hid hlt
      clear hk hlt hk21 hc hce hkl
      go_wp2_with (fail)
      go_round
      case rel => exact ⟨k + 1, HLT2.out, by go_num⟩
      case measure => have := HLT2.out; simp [Go.RowKit.intOf]; omega
    · obtain rfl : k = u := by omega
      have hkn : (0 : Int) ≤ (k : Int) := by omega
      have hk21 := HU21.out
      have hkj : (k : Int) ≤ 21 := by omega
      rcases HEND.out with h | ⟨h1, h2, h3⟩ | ⟨h1, h2, h3⟩
      · subst h
        have hno : ¬ (l[l.length]? = some e) := by simp
        obtain rfl : x = (0, RdV.fail) := by rw [← HVAL.out, if_neg hno]
        have hki : (l.length : Int) ≤ (l.length : Int) := Int.le_refl _
        clear hlt hno hk hk21
        go_wp2_with ((with_reducible refine (HF.out).mono ?_); rintro _ w1 ⟨rfl, h1, g1⟩; have H1 := Lib.hid h1; have G1 := Lib.hid g1; clear h1 g1)
        go_ret
        exact ⟨rfl, H1.out, G1.out⟩
      · subst h1
        obtain ⟨c, hc⟩ : ∃ c, l[21]? = some c := ⟨_, List.getElem?_eq_getElem h2⟩
        rw [hc] at h3
        have hno : ¬ (l[21]? = some e) := by rw [hc]; exact h3
        obtain rfl : x = (0, RdV.fail) := by rw [← HVAL.out, if_neg hno]
        obtain ⟨hq, hix⟩ : ∃ hq : 21 < (⟨l.toArray⟩ : ByteArray).size, (⟨l.toArray⟩ : ByteArray)[21]'hq = c := ⟨by rw [hsz]; exact h2, str_at hc _⟩
        have hki : (21 : Int) < (l.length : Int) := by omega
        have hne : ((c.toNat : Int) != (e.toNat : Int)) = true := bne_iff_ne.2 (fun h => h3 (by rw [UInt8.toNat_inj.1 (show c.toNat = e.toNat by omega)]))
        clear hlt hno hk hk21 h3 hc h2 hkj hkn
        go_wp2_with ((with_reducible refine (HF.out).mono ?_); rintro _ w1 ⟨rfl, h1, g1⟩; have H1 := Lib.hid h1; have G1 := Lib.hid g1; clear h1 g1)
        go_ret
        exact ⟨rfl, H1.out, G1.out⟩
      · have hx := HVAL.out
        rw [if_pos h3] at hx
        obtain ⟨hq, hix⟩ : ∃ hq : k < (⟨l.toArray⟩ : ByteArray).size, (⟨l.toArray⟩ : ByteArray)[k]'hq = e := ⟨by rw [hsz]; exact h1, str_at h3 _⟩
        have hki : (k : Int) < (l.length : Int) := by omega
        have hex := str_ext l 0 k
        rw [List.drop_zero] at hex
        have hex2 := str_ext l (k + 1) l.length
        rw [List.take_length] at hex2
        obtain ⟨v, hv⟩ : ∃ v, backF (l.take k) = v := ⟨_, rfl⟩
        rw [hv] at hx
        have HB := Lib.hid (fun W => Back_any W (l.take k) (by rw [List.length_take]; omega) v hv)
        have H2 := Lib.hid (fun W (hb : Below w.heap.size w W) => And.intro (H.out.below hb) (And.intro ((H.out.below hb).set1 (l.drop (k + 1))) (And.intro (Rfail_any (H.out.below hb)) ((grown_row b hb).trans (grownBy_setCell W ⟨b, 0, none⟩ (.string ⟨(l.drop (k + 1)).toArray⟩))))))
        obtain ⟨vi, vb⟩ := v
        clear hlt hk hk21 h3 h1 hv
        generalize l.take k = tk at *
        generalize l.drop (k + 1) = dk at *
        cases vb
        · rw [if_neg (by simp)] at hx
          subst hx
          by_cases h21 : k = 21
          · subst h21
            clear hkj
            go_wp2_with (first | ((with_reducible refine (HB.out _).mono ?_); rintro _ w1 ⟨rfl, hb1⟩; obtain ⟨h1, h2, hf, g2⟩ := H2.out w1 hb1; have K2 := Lib.hid hf; have G2 := Lib.hid (grown_row b hb1); obtain ⟨z, f1, f2⟩ := h1; clear h2 g2 hb1 hf) | ((with_reducible refine (K2.out).mono ?_); rintro _ w3 ⟨rfl, h1, g1⟩; have H1 := Lib.hid h1; have G1 := Lib.hid (G2.out.trans g1); clear h1 g1))
            go_ret
            exact ⟨rfl, H1.out, G1.out⟩
          · have hkj2 : (k : Int) < 21 := by omega
            clear hkj h21
            go_wp2_with (first | ((with_reducible refine (HB.out _).mono ?_); rintro _ w1 ⟨rfl, hb1⟩; obtain ⟨h1, h2, hf, g2⟩ := H2.out w1 hb1; have K2 := Lib.hid hf; have G2 := Lib.hid (grown_row b hb1); obtain ⟨z, f1, f2⟩ := h1; clear h2 g2 hb1 hf) | ((with_reducible refine (K2.out).mono ?_); rintro _ w3 ⟨rfl, h1, g1⟩; have H1 := Lib.hid h1; have G1 := Lib.hid (G2.out.trans g1); clear h1 g1))
            go_ret
            exact ⟨rfl, H1.out, G1.out⟩
        · rw [if_pos rfl] at hx
          subst hx
          by_cases h21 : k = 21
          · subst h21
            clear hkj
            go_wp2_with ((with_reducible refine (HB.out _).mono ?_); rintro _ w1 ⟨rfl, hb1⟩; obtain ⟨h1, h2, _, g2⟩ := H2.out w1 hb1; have K2 := Lib.hid h2; have G2 := Lib.hid g2; obtain ⟨z, f1, f2⟩ := h1; clear h2 g2 hb1)
            go_ret
            exact ⟨rfl, K2.out, G2.out⟩
          · have hkj2 : (k : Int) < 21 := by omega
            clear hkj h21
            go_wp2_with ((with_reducible refine (HB.out _).mono ?_); rintro _ w1 ⟨rfl, hb1⟩; obtain ⟨h1, h2, _, g2⟩ := H2.out w1 hb1; have K2 := Lib.hid h2; have G2 := Lib.hid g2; obtain ⟨z, f1, f2⟩ := h1; clear h2 g2 hb1)
            go_ret
            exact ⟨rfl, K2.out, G2.out⟩
end Go.Proofs.YtniiahmpdkgplaaGreatDoor
namespace Go.Proofs.YtniiahmpdkgplaaGreatDoor
open Go.RowKit Go.Sort Go.Lib

set_option maxRecDepth 100000 in
set_option maxHeartbeats 1000000 in
theorem Rnumber_any {w : World} {b : Nat} {r : RdV} (h : RdAt w b r) (e : UInt8) (hl : r.rest.length ≤ 140737488351232) (x : Int × RdV) (hx : numF e 0 r = x) :
    Calls Tryz.prog 76 #[.pointer (some ⟨b, 0, none⟩), .int .u8 e.toNat] w (RdPost w b (.int .i64 x.1) x.2) := by
  rw [numF_zero, ← aheadF_eq] at hx
  obtain ⟨y, hy⟩ : ∃ y, aheadF e r = y := ⟨_, rfl⟩
  have HA := Lib.hid (Rahead_any h e hl y hy)
  rw [hy] at hx
  obtain ⟨v, r1⟩ := y
  clear hy hl
  by_cases hv : v < 0
  · simp only [hv, if_true] at hx
    subst hx
    go_enter Tryz.func76, Tryz.ntmps76
    go_wp2_with (first | ((with_reducible refine (HA.out).mono ?_); rintro _ w1 ⟨rfl, h1, g1⟩; have H1 := Lib.hid (Rfail_any h1); have G1 := Lib.hid g1; clear h1 g1) | ((with_reducible refine (H1.out).mono ?_); rintro _ w3 ⟨rfl, h1, g1⟩; have K1 := Lib.hid h1; have G3 := Lib.hid (G1.out.trans g1); clear h1 g1))
    go_ret
    exact ⟨rfl, K1.out, G3.out⟩
  · simp only [hv, if_false] at hx
    subst hx
    have hv' : 0 ≤ v := by omega
    clear hv
    go_enter Tryz.func76, Tryz.ntmps76
    go_wp2_with ((with_reducible refine (HA.out).mono ?_); rintro _ w1 ⟨rfl, h1, g1⟩; have H1 := Lib.hid h1; have G1 := Lib.hid g1; clear h1 g1)
    go_ret
    exact ⟨rfl, H1.out, G1.out⟩
set_option maxRecDepth 100000 in
set_option maxHeartbeats 1000000 in
theorem RNumM_any {w : World} {b : Nat} {r : RdV} (h : RdAt w b r) (hl : r.rest.length ≤ 140737488351232) (x : Int × RdV) (hx : natF r = x) :
    Calls Tryz.prog 60 #[.pointer (some ⟨b, 0, none⟩)] w (RdPost w b (.int .i64 x.1) x.2) := by
  have HA : Hid (Calls Tryz.prog 76 #[.pointer (some ⟨b, 0, none⟩), .int .u8 59] w (RdPost w b (.int .i64 x.1) x.2)) := Lib.hid (Rnumber_any h 59 hl x hx)
  clear hx hl h
  go_enter Tryz.func60, Tryz.ntmps60
  go_wp2_with ((with_reducible refine (HA.out).mono ?_); rintro _ w1 ⟨rfl, h1, g1⟩; have H1 := Lib.hid h1; have G1 := Lib.hid g1; clear h1 g1)
  go_ret
  exact ⟨rfl, H1.out, G1.out⟩
theorem Rclose44 {w : World} {b : Nat} {r : RdV} (h : RdAt w b r) (r' : RdV) (hr : closeF 44 r = r') (hl : r.rest.length ≤ 140737488351232) (k : Bool) (hk : closeB 44 r = k) :
    Calls Tryz.prog 78 #[.pointer (some ⟨b, 0, none⟩), .int .u8 44] w (RdPost w b (.bool k) r') := Rclose_any h 44 r' hr hl k hk
theorem Rclose93 {w : World} {b : Nat} {r : RdV} (h : RdAt w b r) (r' : RdV) (hr : closeF 93 r = r') (hl : r.rest.length ≤ 140737488351232) (k : Bool) (hk : closeB 93 r = k) :
    Calls Tryz.prog 78 #[.pointer (some ⟨b, 0, none⟩), .int .u8 93] w (RdPost w b (.bool k) r') := Rclose_any h 93 r' hr hl k hk
set_option maxRecDepth 100000 in
set_option maxHeartbeats 2000000 in
theorem RText_M {w : World} {b : Nat} {r : RdV} (h : RdAt w b r) (hok : r.ok) (hl : r.rest.length ≤ 140737488351232) (x : List UInt8 × RdV) (hx : textF r = x) :
    Calls Tryz.prog 59 #[.pointer (some ⟨b, 0, none⟩)] w (RdPost w b (.string ⟨x.1.toArray⟩) x.2) := by
  obtain ⟨n, r1, hn⟩ : ∃ n r1, numF 58 0 r = (n, r1) := ⟨_, _, rfl⟩
  have HA : Hid (Calls Tryz.prog 76 #[.pointer (some ⟨b, 0, none⟩), .int .u8 58] w (RdPost w b (.int .i64 n) r1)) := Lib.hid (Rnumber_any h 58 hl _ hn)
  have hk := (numF_keeps (e := 58) (least := 0) hok).2
  rw [hn] at hk
  simp only at hk
  have hw := textF_ways hn x hx hok
  obtain ⟨l, bd⟩ := r1
  simp only at hw hk
  have hl2 : l.length ≤ 140737488351232 := by omega
  clear hn hx hok hl h hk
  have hsz := str_size l
  rcases hw with ⟨h1, rfl, rfl⟩ | ⟨k, rfl, rfl, ⟨h1, rfl⟩ | ⟨h1, h2, h3, rfl⟩ | ⟨h1, h2, h3, rfl⟩⟩
  · obtain ⟨rfl, rfl⟩ : l = [] ∧ bd = true := by injection h1; exact ⟨‹_›, ‹_›⟩
    clear h1
    go_enter Tryz.func59, Tryz.ntmps59
    go_wp2_with (first | ((with_reducible refine (HA.out).mono ?_); rintro _ w1 ⟨rfl, h1, g1⟩; have H1 := Lib.hid (Rfail_any h1); have G1 := Lib.hid g1; obtain ⟨z, f1, f2⟩ := h1; clear g1) | ((with_reducible refine (H1.out).mono ?_); rintro _ w3 ⟨rfl, h1, g1⟩; have K1 := Lib.hid h1; have G3 := Lib.hid (G1.out.trans g1); clear h1 g1))
    go_ret
    exact ⟨rfl, K1.out, G3.out⟩
  · have hki : (l.length : Int) < (k : Int) := by omega
    clear h1
    go_enter Tryz.func59, Tryz.ntmps59
    go_wp2_with (first | ((with_reducible refine (HA.out).mono ?_); rintro _ w1 ⟨rfl, h1, g1⟩; have H1 := Lib.hid (Rfail_any h1); have G1 := Lib.hid g1; obtain ⟨z, f1, f2⟩ := h1; clear g1) | ((with_reducible refine (H1.out).mono ?_); rintro _ w3 ⟨rfl, h1, g1⟩; have K1 := Lib.hid h1; have G3 := Lib.hid (G1.out.trans g1); clear h1 g1))
    go_ret
    exact ⟨rfl, K1.out, G3.out⟩
  · have hki : (k : Int) ≤ (l.length : Int) := by omega
    by_cases hke : k = l.length
    · subst hke
      clear h1 h2 h3 hki
      go_enter Tryz.func59, Tryz.ntmps59
      go_wp2_with (first | ((with_reducible refine (HA.out).mono ?_); rintro _ w1 ⟨rfl, h1, g1⟩; have H1 := Lib.hid (Rfail_any h1); have G1 := Lib.hid g1; obtain ⟨z, f1, f2⟩ := h1; clear g1) | ((with_reducible refine (H1.out).mono ?_); rintro _ w3 ⟨rfl, h1, g1⟩; have K1 := Lib.hid h1; have G3 := Lib.hid (G1.out.trans g1); clear h1 g1))
      go_ret
      exact ⟨rfl, K1.out, G3.out⟩
    · have hki : (k : Int) < (l.length : Int) := by omega
      have hkn : (0 : Int) ≤ (k : Int) := by omega
      have hex := str_ext l 0 k
      rw [List.drop_zero] at hex
      have hex2 := str_ext l k l.length
      rw [List.take_length] at hex2
      have hld : (l.drop k).length ≤ 140737488351232 := by rw [List.length_drop]; omega
      generalize hdk : l.drop k = dk at *
      have H2 := Lib.hid (fun W (h : RdAt W b ⟨l, false⟩) => And.intro (Rclose44 (h.set1 dk) _ rfl hld false h3) (grownBy_setCell W ⟨b, 0, none⟩ (.string ⟨dk.toArray⟩)))
      rw [h2] at H2
      generalize l.take k = tk at *
      clear h1 h2 h3 hld hdk hke
      go_enter Tryz.func59, Tryz.ntmps59
      go_wp2_with (first | ((with_reducible refine (HA.out).mono ?_); rintro _ w1 ⟨rfl, h1, g1⟩; obtain ⟨h2, g2⟩ := H2.out w1 h1; have K1 := Lib.hid h2; have G1 := Lib.hid (g1.trans g2); obtain ⟨z, f1, f2⟩ := h1; clear g1 g2 h2) | ((with_reducible refine (K1.out).mono ?_); rintro _ w3 ⟨rfl, h1, g1⟩; have K3 := Lib.hid h1; have G3 := Lib.hid (G1.out.trans g1); clear h1 g1))
      go_ret
      exact ⟨rfl, K3.out, G3.out⟩
  · have hki : (k : Int) < (l.length : Int) := by omega
    have hkn : (0 : Int) ≤ (k : Int) := by omega
    have hex := str_ext l 0 k
    rw [List.drop_zero] at hex
    have hex2 := str_ext l k l.length
    rw [List.take_length] at hex2
    have hld : (l.drop k).length ≤ 140737488351232 := by rw [List.length_drop]; omega
    generalize hdk : l.drop k = dk at *
    have H2 := Lib.hid (fun W (h : RdAt W b ⟨l, false⟩) => And.intro (Rclose44 (h.set1 dk) _ rfl hld true h3) (grownBy_setCell W ⟨b, 0, none⟩ (.string ⟨dk.toArray⟩)))
    generalize closeF 44 ⟨dk, false⟩ = r3 at *
    generalize l.take k = tk at *
    clear h1 h2 h3 hld hdk
    go_enter Tryz.func59, Tryz.ntmps59
    go_wp2_with (first | ((with_reducible refine (HA.out).mono ?_); rintro _ w1 ⟨rfl, h1, g1⟩; obtain ⟨h2, g2⟩ := H2.out w1 h1; have K1 := Lib.hid h2; have G1 := Lib.hid (g1.trans g2); obtain ⟨z, f1, f2⟩ := h1; clear g1 g2 h2) | ((with_reducible refine (K1.out).mono ?_); rintro _ w3 ⟨rfl, h1, g1⟩; have K3 := Lib.hid h1; have G3 := Lib.hid (G1.out.trans g1); clear h1 g1))
    go_ret
    exact ⟨rfl, K3.out, G3.out⟩
end Go.Proofs.YtniiahmpdkgplaaGreatDoor
