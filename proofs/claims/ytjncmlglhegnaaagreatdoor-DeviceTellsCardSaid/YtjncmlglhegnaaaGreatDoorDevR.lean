/- kerbsidelaw49: acts in memory; kerbsideref49's Few, fine, walked. -/
import Derived.Test.YtjncmlglhegnaaaGreatDoorDevO
namespace Go.Proofs.YtjncmlglhegnaaaGreatDoor
open Go.RowKit Go.Sort Go.Lib

/-- an act, as it came in -/
structure ActE where
  kind : Int
  day : Int
  n : Int
  s : List UInt8
  keep : List Int
  A : Option Addr
  c : Nat
def ActE.cells (a : ActE) : List Value := [.int .i64 a.kind, .int .i64 a.day, .int .i64 a.n, .string ⟨a.s.toArray⟩, .slice a.A a.keep.length a.c]
def ActE.ok (a : ActE) : Prop := i64In a.kind ∧ i64In a.day ∧ i64In a.n
def ActE.few (a : ActE) : Prop := (a.s.length ≤ 100 ∨ 2990 ≤ a.s.length ∧ a.s.length ≤ 3010) ∧ a.keep.length ≤ 40
def ActsAtE (w : World) (l : List ActE) : Prop := ∀ a ∈ l, Sl w 1 a.A a.keep.length (a.keep.map fun k => [.int .i64 k])
def FewActs (l : List ActE) : Prop := (∀ a ∈ l, a.few) ∧ l.length ≤ 25
theorem act_at {w : World} {A : Option Addr} {n k : Nat} {l : List ActE} {a : ActE} (h : Sl w 5 A n (l.map ActE.cells)) (hx : l[k]? = some a) : ∃ b o, A = some ⟨b, o, none⟩ ∧ b < w.heap.size ∧
    w.cell? ⟨b, o + k * 5, none⟩ = some (.int .i64 a.kind) ∧ w.cell? ⟨b, o + k * 5 + 1, none⟩ = some (.int .i64 a.day) ∧ w.cell? ⟨b, o + k * 5 + 2, none⟩ = some (.int .i64 a.n) ∧ w.cell? ⟨b, o + k * 5 + 3, none⟩ = some (.string ⟨a.s.toArray⟩) ∧ w.cell? ⟨b, o + k * 5 + 4, none⟩ = some (.slice a.A a.keep.length a.c) := by
  obtain ⟨b, o, hA, hb, hc⟩ := h.2 k a.cells (by rw [List.getElem?_map, hx]; rfl)
  exact ⟨b, o, hA, hb, hc 0 _ rfl, hc 1 _ rfl, hc 2 _ rfl, hc 3 _ rfl, hc 4 _ rfl⟩
def FewD (l : List ActE) (w : World) (e : Ending) (w' : World) : Prop := ∃ r : Bool, e = .returned (.bool r) ∧ (r = true → FewActs l) ∧ w = w'
set_option maxRecDepth 100000 in
set_option maxHeartbeats 4000000 in
theorem Few49_any (w : World) (A : Option Addr) (n c : Nat) (l : List ActE) (hs : Sl w 5 A n (l.map ActE.cells)) :
    Calls Tryz.prog 14 #[.slice A n c] w (FewD l w) := by
  have hll : l.length = n := by simpa using hs.1
  have HS := Lib.hid hs
  have HL := Lib.hid hll
  clear hs hll
  go_enter Tryz.func14, Tryz.ntmps14
  go_wp2_with (fail)
  go_loop [3] (fun i => ∃ k : Nat, k ≤ n ∧ k ≤ 26 ∧ i = .int .i64 k ∧ ∀ a ∈ l.take k, a.few) (fun i => n - (Go.RowKit.intOf i).toNat)
  case atStart => exact ⟨0, Nat.zero_le _, by omega, rfl, by simp⟩
  case round =>
    obtain ⟨k, hk, hk2, rfl, hf⟩ := hrel
    have HF := Lib.hid hf
    clear hf
    by_cases hlt : k < n
    · have hki : (k : Int) < (n : Int) := by omega
      by_cases h26 : k ≤ 25
      · obtain ⟨a, ha⟩ : ∃ a, l[k]? = some a := ⟨_, List.getElem?_eq_getElem (by rw [HL.out]; exact hlt)⟩
        obtain ⟨b, o, rfl, hbl, d0, d1, d2, d3, d4⟩ := act_at HS.out ha
        have hsl := strLen a.s
        have h25 : (k : Int) ≤ 25 := by omega
        have hk0 : (0 : Int) ≤ (k : Int) := by omega
        have hwk : IntKind.i64.wrap ((k : Int) + 1) = (k : Int) + 1 := IntWalk.i64_in _ (by omega)
        have HA := Lib.hid ha
        have HK := Lib.hid h26
        have HLT := Lib.hid hlt
        have hyes : a.few → ∀ x ∈ l.take (k + 1), x.few := fun h x hx => by
          rw [List.take_add_one, HA.out] at hx
          simp only [List.mem_append, Option.toList_some, List.mem_singleton] at hx
          rcases hx with hx | rfl
          · exact HF.out x hx
          · exact h
        have HY := Lib.hid hyes
        clear hyes ha d0 d1 d2 hk hk2 h26 hlt
        by_cases h2 : 40 < (a.keep.length : Int)
        · by_cases h1 : 100 < (a.s.length : Int)
          · by_cases h3 : (a.s.length : Int) < 2990
            · go_wp2_with (fail)
              go_ret
              exact ⟨false, rfl, fun h => by (first | cases h | simp at h), rfl⟩
            · by_cases h4 : 3010 < (a.s.length : Int)
              · go_wp2_with (fail)
                go_ret
                exact ⟨false, rfl, fun h => by (first | cases h | simp at h), rfl⟩
              · go_wp2_with (fail)
                go_ret
                exact ⟨false, rfl, fun h => by (first | cases h | simp at h), rfl⟩
          · go_wp2_with (fail)
            go_ret
            exact ⟨false, rfl, fun h => by (first | cases h | simp at h), rfl⟩
        by_cases h1 : 100 < (a.s.length : Int)
        · by_cases h3 : (a.s.length : Int) < 2990
          · go_wp2_with (fail)
            go_ret
            exact ⟨false, rfl, fun h => by (first | cases h | simp at h), rfl⟩
          · by_cases h4 : 3010 < (a.s.length : Int)
            · go_wp2_with (fail)
              go_ret
              exact ⟨false, rfl, fun h => by (first | cases h | simp at h), rfl⟩
            · have HFW : Hid a.few := ⟨.inr ⟨by omega, by omega⟩, by omega⟩
              go_wp2_with (fail)
              go_round
              case rel => exact ⟨k + 1, HLT.out, by have := HK.out; omega, by go_num, HY.out HFW.out⟩
              case measure => have := HLT.out; simp [Go.RowKit.intOf]; omega
        · have HFW : Hid a.few := ⟨.inl (by omega), by omega⟩
          go_wp2_with (fail)
          go_round
          case rel => exact ⟨k + 1, HLT.out, by have := HK.out; omega, by go_num, HY.out HFW.out⟩
          case measure => have := HLT.out; simp [Go.RowKit.intOf]; omega
      · have h25 : ¬ (k : Int) ≤ 25 := by omega
        have h25d : decide ((k : Int) ≤ 25) = false := decide_eq_false h25
        have hn25 : ¬ (n : Int) ≤ 25 := by omega
        have hn25d : decide ((n : Int) ≤ 25) = false := decide_eq_false hn25
        clear hk hk2 h26 hlt
        go_wp2_with (fail)
        go_ret
        exact ⟨false, by rw [← hn25d]; rfl, (fun h => by cases h), rfl⟩
    · obtain rfl : k = n := by omega
      have hki : (k : Int) ≤ (k : Int) := Int.le_refl _
      have HK := Lib.hid hk2
      clear hk hk2 hlt
      go_wp2_with (fail)
      go_ret
      refine ⟨decide ((k : Int) ≤ 25), rfl, fun h => ⟨fun a ha => ?_, by have := of_decide_eq_true h; have := HL.out; omega⟩, rfl⟩
      exact HF.out a (by rw [List.take_of_length_le (by rw [HL.out]; exact Nat.le_refl _)]; exact ha)
end Go.Proofs.YtjncmlglhegnaaaGreatDoor
