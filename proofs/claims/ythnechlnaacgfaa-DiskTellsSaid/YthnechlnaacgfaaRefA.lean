/- kerbsideref02: get, Size, Read, pending, walked. -/
import Derived.Test.YthnechlnaacgfaaRefM
namespace Go.Proofs.Ythnechlnaacgfaa
open Go.RowKit

def fileAgg (f : Int) (x : FileV) : Value := .agg #[.int .i64 f, strV x.now, strV x.last]
theorem getA_drop {f : Int} {fs : List (Int × FileV)} {k : Nat} {p : Int × FileV} (hp : fs[k]? = some p) : getA f (fs.drop k) = if f = p.1 then some p.2 else getA f (fs.drop (k + 1)) := by
  obtain ⟨hlt, rfl⟩ := List.getElem?_eq_some_iff.1 hp
  rw [List.drop_eq_getElem_cons hlt]
  rfl
section
variable {w w' : World} {F G : Nat → Prop} {B : Nat} {r : DV} {FA : Option Addr} {cf : Nat} {Q : Option Addr} {cq : Nat} {K : Option Addr} {ck : Nat}
theorem loadVar_file {W : World} {n : Nat} {f : Int} {x : FileV} (h : Loc W n #[.int .i64 f, .string ⟨x.now.toArray⟩, .string ⟨x.last.toArray⟩]) :
    (loadVar 65 ⟨n, 0, none⟩).run Try.prog W = .ok (.agg #[.int .i64 f, strV x.now, strV x.last]) W := by
  have c0 := h.cell 0
  have c1 := h.cell 1
  have c2 := h.cell 2
  simp at c0 c1 c2
  unfold strV
  simp [go_sem, c0, c1, c2]
theorem results_get {W : World} {n : Nat} {f : Int} {x : FileV} {tmps : Array Value} (h : Loc W n #[.int .i64 f, .string ⟨x.now.toArray⟩, .string ⟨x.last.toArray⟩]) (ht : tmps.getD 4 undef = .pointer (some ⟨n, 0, none⟩)) :
    (results Try.f39 tmps).run Try.prog W = .ok (.agg #[.int .i64 f, strV x.now, strV x.last]) W := by
  have ht' : tmps[4]?.getD undef = .pointer (some ⟨n, 0, none⟩) := by simpa using ht
  simp only [results, show Try.f39.results = #[.cell 4 65] from rfl]
  simp [ht', asAddr, loadVar_file h]
set_option maxHeartbeats 1000000 in
theorem get_ref (h : RefAt w F B r FA cf Q cq K ck) (hn : r.files.length ≤ 16) (f : Int) (x : FileV) (hx : r.file f = x) :
    Calls Try.prog 39 #[.pointer (some ⟨B, 0, none⟩), .int .i64 f] w fun e w' => e = .returned (.agg #[.int .i64 f, .string ⟨x.now.toArray⟩, .string ⟨x.last.toArray⟩]) ∧ Below w.heap.size w w' := by
  unfold DV.file at hx
  obtain ⟨n, hnn⟩ : ∃ n, r.files.length = n := ⟨_, rfl⟩
  have hfl := h.files
  have hlo := h.loc
  rw [hnn] at hn hfl hlo
  have HS := Lib.hid hfl
  have LB := Lib.hid hlo
  have HL := Lib.hid hnn
  have HX := Lib.hid hx
  obtain ⟨fs, hfs⟩ : ∃ fs, r.files = fs := ⟨_, rfl⟩
  rw [hfs] at HS HL HX
  clear h hfl hlo hnn hx
  go_enter Try.func39, Try.ntmps39
  go_wp2_with (fail)
  go_loopw [5] (fun i wr => ∃ k : Nat, k ≤ n ∧ i = .int .i64 (k : Int) ∧ Below w.heap.size w wr ∧ Loc wr w.heap.size #[.int .i64 0, .string ⟨#[]⟩, .string ⟨#[]⟩] ∧ getA f fs = getA f (fs.drop k)) (fun i _ => n - (intOf i).toNat)
  case atStart => exact ⟨0, Nat.zero_le _, rfl, below_alloc w _, Loc.new_ w _ _, by simp⟩
  case round =>
    obtain ⟨k, hk, rfl, hb, hl, hg⟩ := hrel
    obtain ⟨wo, rfl⟩ : ∃ wo : World, wo = wr := ⟨_, rfl⟩
    have HB := Lib.hid hb
    have HLO := Lib.hid hl
    have HG := Lib.hid hg
    obtain ⟨zL, kL, fL⟩ := hl
    obtain ⟨zB, kB, fB⟩ := LB.out.below hb
    clear hb hg
    by_cases hlt : k < n
    · obtain ⟨p, hp⟩ : ∃ p, fs[k]? = some p := ⟨_, List.getElem?_eq_getElem (by rw [HL.out]; exact hlt)⟩
      obtain ⟨b, o, rfl, hbl, hcell⟩ := (HS.out.below HB.out).2 k (fileCells p) (by rw [List.getElem?_map, hp]; rfl)
      have c0 := hcell 0 _ rfl
      have c1 := hcell 1 _ rfl
      have c2 := hcell 2 _ rfl
      rw [Nat.add_zero] at c0
      unfold strV at c1 c2
      have hki : (k : Int) < (n : Int) := by omega
      have hk0 : (0 : Int) ≤ (k : Int) := Int.natCast_nonneg _
      have hgd := getA_drop (f := f) hp
      have HLT := Lib.hid hlt
      clear hcell hp hlt
      by_cases heq : f = p.1
      · have heqb : (p.1 == f) = true := by simpa using heq.symm
        rw [if_pos heq] at hgd
        have HGD := Lib.hid hgd
        have hpf := heq.symm
        clear hgd heq
        go_wp2_with (fail)
        have hxx := HX.out
        rw [HG.out, HGD.out] at hxx
        subst hxx
        (try simp only [Exit.inBlock, Exit.then])
        have hL := ((HLO.out.set_ 0 (.int .i64 f)).set_ 1 (.string ⟨p.2.now.toArray⟩)).set_ 2 (.string ⟨p.2.last.toArray⟩)
        exact bodyPost_ret (results_get (x := p.2) (by simpa using hL) rfl) rfl ⟨rfl, ((HB.out.setCell (p := ⟨w.heap.size, 0, none⟩) (Nat.le_refl _) _).setCell (p := ⟨w.heap.size, 1, none⟩) (Nat.le_refl _) _).setCell (p := ⟨w.heap.size, 2, none⟩) (Nat.le_refl _) _⟩
      · have heqb : (p.1 == f) = false := by simpa using fun e => heq e.symm
        rw [if_neg heq] at hgd
        have HGD := Lib.hid hgd
        clear hgd heq
        go_wp2_with (fail)
        go_roundw
        case rel => exact ⟨k + 1, HLT.out, by go_num, HB.out, HLO.out, HG.out.trans HGD.out⟩
        case measure => have := HLT.out; simp [intOf]; omega
    · obtain rfl : k = n := by omega
      have hki : (k : Int) ≤ (k : Int) := Int.le_refl _
      go_wp2_with (fail)
      have hxx := HX.out
      rw [HG.out, List.drop_of_length_le (by rw [HL.out]; exact Nat.le_refl _)] at hxx
      subst hxx
      (try simp only [Exit.inBlock, Exit.then])
      have hL := ((HLO.out.set_ 0 (.int .i64 f)).set_ 1 (.string ⟨#[]⟩)).set_ 2 (.string ⟨#[]⟩)
      exact bodyPost_ret (results_get (x := noFile) (by simpa [noFile] using hL) rfl) rfl ⟨rfl, ((HB.out.setCell (p := ⟨w.heap.size, 0, none⟩) (Nat.le_refl _) _).setCell (p := ⟨w.heap.size, 1, none⟩) (Nat.le_refl _) _).setCell (p := ⟨w.heap.size, 2, none⟩) (Nat.le_refl _) _⟩
theorem part_now (f : Int) (a b : Value) (w : World) : (Instr.field 65 (.agg #[.int .i64 f, a, b]) 1).run Try.prog w = .ok a w := by
  simp [Instr.field, part, asAgg, go_sem]
set_option maxHeartbeats 1000000 in
theorem Size_ref (h : RefAt w F B r FA cf Q cq K ck) (hn : r.files.length ≤ 16) (f : Int) (x : Int) (hx : x = (r.file f).now.length) :
    Calls Try.prog 17 #[.pointer (some ⟨B, 0, none⟩), .int .i64 f] w fun e w' => e = .returned (.int .i64 x) ∧ Below w.heap.size w w' := by
  have hs := strV_len (r.file f).now
  have hpn := fun w => part_now f (.string ⟨(r.file f).now.toArray⟩) (.string ⟨(r.file f).last.toArray⟩) w
  subst hx
  have HG := Lib.hid (get_ref h hn f _ rfl)
  clear h
  go_enter Try.func17, Try.ntmps17
  go_wp2_with ((with_reducible refine (HG.out).mono ?_); rintro e w1 ⟨rfl, hb⟩; have HB := Lib.hid hb; clear hb)
  go_ret
  exact ⟨rfl, HB.out⟩
theorem mem_take_succ {α : Type} {l : List α} {k : Nat} {p : α} (hp : l[k]? = some p) (x : α) : x ∈ l.take (k + 1) ↔ x ∈ l.take k ∨ x = p := by
  rw [List.take_add_one, hp]
  simp
set_option maxHeartbeats 1000000 in
theorem pending_ref (h : RefAt w F B r FA cf Q cq K ck) (hn : r.queue.length ≤ 4194320) (f s : Int) (x : Bool) (hx : decide ((f, s) ∈ r.queue) = x) :
    Calls Try.prog 62 #[.pointer (some ⟨B, 0, none⟩), .int .i64 f, .int .i64 s] w fun e w' => e = .returned (.bool x) ∧ w' = w := by
  obtain ⟨n, hnn⟩ : ∃ n, r.queue.length = n := ⟨_, rfl⟩
  have hfl := h.queue.sl'
  have hlo := h.loc
  rw [hnn] at hn hfl hlo
  obtain ⟨q, hq⟩ : ∃ q, r.queue = q := ⟨_, rfl⟩
  rw [hq] at hfl hnn hx
  have HS := Lib.hid hfl
  have HL := Lib.hid hnn
  have HX := Lib.hid hx
  obtain ⟨zB, kB, fB⟩ := hlo
  clear h hfl hnn hx
  go_enter Try.func62, Try.ntmps62
  go_wp2_with (fail)
  go_loopw [7] (fun i wr => ∃ k : Nat, k ≤ n ∧ i = .int .i64 (k : Int) ∧ wr = w ∧ (f, s) ∉ q.take k) (fun i _ => n - (intOf i).toNat)
  case atStart => exact ⟨0, Nat.zero_le _, rfl, rfl, by simp⟩
  case round =>
    obtain ⟨k, hk, rfl, rfl, hg⟩ := hrel
    have HG := Lib.hid hg
    clear hg
    by_cases hlt : k < n
    · obtain ⟨p, hp⟩ : ∃ p, q[k]? = some p := ⟨_, List.getElem?_eq_getElem (by rw [HL.out]; exact hlt)⟩
      obtain ⟨b, o, rfl, hbl, hcell⟩ := HS.out.2 k (secCells p) (by rw [List.getElem?_map, hp]; rfl)
      have c0 := hcell 0 _ rfl
      have c1 := hcell 1 _ rfl
      rw [Nat.add_zero] at c0
      have hki : (k : Int) < (n : Int) := by omega
      have hk0 : (0 : Int) ≤ (k : Int) := Int.natCast_nonneg _
      have HLT := Lib.hid hlt
      have HP := Lib.hid hp
      obtain ⟨p1, p2⟩ := p
      simp only at c0 c1
      clear hcell hp hlt
      by_cases he1 : p1 = f
      · by_cases he2 : p2 = s
        · subst he1 he2
          go_wp2_with (fail)
          go_ret
          refine ⟨ret_bool ?_, rfl⟩
          rw [← HX.out]
          exact (decide_eq_true (List.mem_of_getElem? HP.out)).symm
        · subst he1
          have h2 : (p2 == s) = false := by simpa using he2
          have hnx : Hid ((p1, s) ∉ q.take (k + 1)) := by
            refine Lib.hid ?_
            rw [mem_take_succ HP.out]
            rintro (h | h)
            · exact HG.out h
            · exact he2 (by injection h with _ h; exact h.symm)
          clear he2
          go_wp2_with (fail)
          go_roundw
          case rel => exact ⟨k + 1, HLT.out, by go_num, trivial, hnx.out⟩
          case measure => have := HLT.out; simp [intOf]; omega
      · have h1 : (p1 == f) = false := by simpa using he1
        have hnx : Hid ((f, s) ∉ q.take (k + 1)) := by
          refine Lib.hid ?_
          rw [mem_take_succ HP.out]
          rintro (h | h)
          · exact HG.out h
          · exact he1 (by injection h with h _; exact h.symm)
        clear he1
        go_wp2_with (fail)
        go_roundw
        case rel => exact ⟨k + 1, HLT.out, by go_num, trivial, hnx.out⟩
        case measure => have := HLT.out; simp [intOf]; omega
    · obtain rfl : k = n := by omega
      have hki : (k : Int) ≤ (k : Int) := Int.le_refl _
      go_wp2_with (fail)
      go_ret
      refine ⟨ret_bool ?_, rfl⟩
      rw [← HX.out]
      have := HG.out
      rw [List.take_of_length_le (by rw [HL.out]; exact Nat.le_refl _)] at this
      exact (decide_eq_false this).symm
end
end Go.Proofs.Ythnechlnaacgfaa
