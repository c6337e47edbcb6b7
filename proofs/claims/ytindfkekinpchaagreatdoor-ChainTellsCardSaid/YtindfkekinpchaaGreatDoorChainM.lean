/- chain: the reference's Few, the laws' seen and entry, walked. -/
import Derived.Test.YtindfkekinpchaaGreatDoorChainK
namespace Go.Proofs.YtindfkekinpchaaGreatDoor
open Go.RowKit Go.Sort Go.Lib

/-- what Few leaves -/
def FewPost (w : World) (l : List EntC) (most : Nat) (e : Ending) (w' : World) : Prop := ∃ k : Bool, e = .returned (.bool k) ∧ (k = true → (∀ x ∈ l, plainB x.v = true) ∧ (l.length ≤ most ∨ (400 < l.length ∧ l.length ≤ 420))) ∧ Below w.heap.size w w'
theorem FewPost.no {w w' : World} {l : List EntC} {most : Nat} (h : Below w.heap.size w w') : FewPost w l most (.returned (.bool false)) w' := ⟨false, rfl, (fun h => by cases h), h⟩
set_option maxRecDepth 100000 in
set_option maxHeartbeats 4000000 in
theorem Few_any (w : World) (A : Option Addr) (n c : Nat) (l : List EntC) (hs : Sl w 5 A n (l.map EntC.cells)) (most : Nat) (hm : most ≤ 400) :
    Calls Tryz.prog 5 #[.slice A n c, .int .i64 (most : Int)] w (FewPost w l most) := by
  have hll : l.length = n := by simpa using hs.1
  have HS := Lib.hid hs
  have HL := Lib.hid hll
  have HM := Lib.hid hm
  clear hs hll hm
  go_enter Tryz.func5, Tryz.ntmps5
  go_wp2_with (fail)
  go_loopw [5] (fun iv wr => ∃ k : Nat, k ≤ n ∧ k ≤ 421 ∧ iv = .int .i64 (k : Int) ∧ Below w.heap.size w wr ∧ ∀ v ∈ l.take k, plainB v.v = true) (fun i _ => n - (Go.RowKit.intOf i).toNat)
  case atStart => exact ⟨0, Nat.zero_le _, by omega, rfl, Below.refl _ _, by simp⟩
  case round =>
    obtain ⟨k, hk, hk2, rfl, hb, hf⟩ := hrel
    obtain ⟨wo, rfl⟩ : ∃ wo : World, wo = wr := ⟨_, rfl⟩
    have HB := Lib.hid hb
    have HF := Lib.hid hf
    clear hb hf
    by_cases hlt : k < n
    · have hki : (k : Int) < (n : Int) := by omega
      have hk0 : (0 : Int) ≤ (k : Int) := by omega
      have HLT := Lib.hid hlt
      by_cases h4 : k ≤ 420
      · obtain ⟨x, hx⟩ : ∃ v, l[k]? = some v := ⟨_, List.getElem?_eq_getElem (by rw [HL.out]; exact hlt)⟩
        obtain ⟨b, o, rfl, hbl, c0, c1, c2, c3, c4⟩ := ent_at (HS.out.below HB.out) hx
        obtain ⟨q, hq⟩ : ∃ q, plainB x.v = q := ⟨_, rfl⟩
        have HC := Lib.hid (Plain_any wo x q hq)
        simp only [EntC.cells] at HC
        have h4i : (k : Int) ≤ 420 := by omega
        have hwk : IntKind.i64.wrap ((k : Int) + 1) = (k : Int) + 1 := IntWalk.i64_in _ (by omega)
        have H4 := Lib.hid h4
        have HX := Lib.hid hx
        have HQ := Lib.hid hq
        clear hx hq hlt hk hk2 h4
        cases q
        · go_wp2_with ((with_reducible refine (HC.out).mono ?_); rintro _ w9 ⟨rfl, hb9⟩)
          go_ret
          exact FewPost.no (HB.out.trans (hb9.mono HB.out.size))
        · go_wp2_with ((with_reducible refine (HC.out).mono ?_); rintro _ w9 ⟨rfl, hb9⟩)
          go_roundw
          case rel => exact ⟨k + 1, HLT.out, by have := H4.out; omega, by go_num, HB.out.trans (hb9.mono HB.out.size), fun v hv => by
            rw [take_succ' HX.out] at hv
            rcases List.mem_append.1 hv with hv | hv
            · exact HF.out v hv
            · simp only [List.mem_singleton] at hv; subst hv; exact HQ.out⟩
          case measure => have := HLT.out; simp [Go.RowKit.intOf]; omega
      · have h5 : ¬ ((k : Int) ≤ 420) := by omega
        have h5d : decide ((k : Int) ≤ 420) = false := decide_eq_false h5
        have h6 : ¬ ((n : Int) ≤ (most : Int)) := by have := HM.out; omega
        have h6d : decide ((n : Int) ≤ (most : Int)) = false := decide_eq_false h6
        have h7 : 400 < (n : Int) := by omega
        have h8 : ¬ ((n : Int) ≤ 420) := by omega
        have h8d : decide ((n : Int) ≤ 420) = false := decide_eq_false h8
        clear hlt hk hk2 h4
        go_wp2_with (fail)
        go_ret
        exact ⟨_, rfl, (fun h => by simp at h), HB.out⟩
    · obtain rfl : k = n := by omega
      have hki : (k : Int) ≤ (k : Int) := Int.le_refl _
      have HALL : Hid (∀ x ∈ l, plainB x.v = true) := Lib.hid (by
        have h := HF.out
        rw [List.take_of_length_le (by rw [HL.out]; exact Nat.le_refl _)] at h
        exact h)
      by_cases h1 : k ≤ most
      · have HK : Hid (k ≤ most) := Lib.hid h1
        have h1i : (k : Int) ≤ (most : Int) := by omega
        clear hlt hk hk2 h1
        go_wp2_with (fail)
        go_ret
        exact ⟨true, rfl, fun _ => ⟨HALL.out, .inl (by rw [HL.out]; exact HK.out)⟩, HB.out⟩
      · have h1i : ¬ ((k : Int) ≤ (most : Int)) := by omega
        have h1d : decide ((k : Int) ≤ (most : Int)) = false := decide_eq_false h1i
        by_cases h2 : 400 < k
        · by_cases h3 : k ≤ 420
          · have HK : Hid (400 < k ∧ k ≤ 420) := Lib.hid ⟨h2, h3⟩
            have h2i : 400 < (k : Int) := by omega
            have h3i : (k : Int) ≤ 420 := by omega
            clear hlt hk hk2 h1 h2 h3
            go_wp2_with (fail)
            go_ret
            exact ⟨true, rfl, fun _ => ⟨HALL.out, .inr (by rw [HL.out]; exact HK.out)⟩, HB.out⟩
          · have h2i : 400 < (k : Int) := by omega
            have h3i : ¬ ((k : Int) ≤ 420) := by omega
            have h3d : decide ((k : Int) ≤ 420) = false := decide_eq_false h3i
            clear hlt hk hk2 h1 h2 h3
            go_wp2_with (fail)
            go_ret
            exact ⟨_, rfl, (fun h => by simp at h), HB.out⟩
        · have h2i : ¬ (400 < (k : Int)) := by omega
          have h2d : decide (400 < (k : Int)) = false := decide_eq_false h2i
          clear hlt hk hk2 h1 h2
          go_wp2_with (fail)
          go_ret
          exact ⟨_, rfl, (fun h => by simp at h), HB.out⟩
end Go.Proofs.YtindfkekinpchaaGreatDoor
