/- disk: Size, Read, New. -/
import Derived.Test.YtniiahmpdkgplaaGreatDoorDiskN
namespace Go.Proofs.YtniiahmpdkgplaaGreatDoor
open Go.RowKit

theorem zeroFile (w : World) : (zeroValue 78).run Tryz.prog w = .ok (fileV noFile) w := by
  have : (Tryz.prog.info? 78).map (·.zero) = some (some (fileV noFile)) := by kernel_rfl
  cases h : Tryz.prog.info? 78 with
  | none => simp [h] at this
  | some i =>
    rw [h] at this
    simp only [Option.map_some, Option.some.injEq] at this
    simp [zeroValue, typeInfo, h, this, go_sem]
theorem extract_list (l : List UInt8) (i j : Nat) : ByteArray.extract ⟨l.toArray⟩ i j = ⟨((l.drop i).take (j - i)).toArray⟩ := by
  apply ByteArray.ext
  simp [ByteArray.data_extract, List.extract_eq_take_drop]
theorem extract_empty (i j : Nat) : ByteArray.extract ByteArray.empty i j = ByteArray.mk #[] := by
  apply ByteArray.ext
  simp [ByteArray.data_extract]
theorem field_now (a b : Value) (w : World) : (Instr.field 78 (.agg #[a, b]) 0).run Tryz.prog w = .ok a w := by
  simp [Instr.field, part, asAgg, go_sem]
section
variable {w : World} {F : Nat → Prop} {B : Nat} {d : DV} {mf ms : Nat} {Q : Option Addr} {cq : Nat} {K : Option Addr} {ck : Nat}
theorem DiskAt.look (h : DiskAt w F B d mf ms Q cq K ck) (f : Int) : (Instr.lookup 56 (.map (some mf)) (.int .i64 f) false).run Tryz.prog w = .ok (fileV (d.file f)) w := by
  have := run_lookupA (P := Tryz.prog) (keyW_int Tryz.underlying3) Tryz.underlying56 (zeroFile w) h.files f
  rw [this, DV.file]
  cases getA f d.files <;> rfl
set_option maxRecDepth 100000 in
set_option maxHeartbeats 400000 in
theorem Size_any (h : DiskAt w F B d mf ms Q cq K ck) (f : Int) (r : Int) (hr : r = (d.file f).now.length) :
    Calls Tryz.prog 27 #[.pointer (some ⟨B, 0, none⟩), .int .i64 f] w fun e w' => e = .returned (.int .i64 r) ∧ w = w' := by
  have hl := h.look f
  unfold fileV strV at hl
  have hs := strV_len (d.file f).now
  subst hr
  obtain ⟨zB, kB, fB⟩ := h.loc
  clear h
  have hfe := fun w => field_now (.string ⟨(d.file f).now.toArray⟩) (.string ⟨(d.file f).last.toArray⟩) w
  go_enter Tryz.func27, Tryz.ntmps27
  go_wp2_with (fail)
  go_ret
  exact ⟨rfl, rfl⟩
set_option maxRecDepth 100000 in
set_option maxHeartbeats 1000000 in
theorem Read_any (h : DiskAt w F B d mf ms Q cq K ck) (f at_ n : Int) (r : List UInt8 × Int) (hr : ReadF d f at_ n = r) :
    Calls Tryz.prog 26 #[.pointer (some ⟨B, 0, none⟩), .int .i64 f, .int .i64 at_, .int .i64 n] w fun e w' => e = .returned (.tuple #[strV r.1, .int .i64 r.2]) ∧ w = w' := by
  have hl := h.look f
  unfold fileV strV at hl
  have hs := strV_len (d.file f).now
  have H := Lib.hid h
  obtain ⟨zB, kB, fB⟩ := h.loc
  clear h
  have hfe := fun w => field_now (.string ⟨(d.file f).now.toArray⟩) (.string ⟨(d.file f).last.toArray⟩) w
  have hm' := may_any H.out f _ rfl
  subst hr
  unfold ReadF
  by_cases hm : mayF d f = 0
  · rw [if_neg (by simp [hm])]
    rw [hm] at hm'
    have HM := Lib.hid hm'
    clear hm hm'
    by_cases ha : at_ < 0
    · rw [if_pos (Or.inl ha)]
      unfold strV
      go_enter Tryz.func26, Tryz.ntmps26
      go_wp2_with ((with_reducible refine (HM.out).mono ?_); rintro _ _ ⟨rfl, rfl⟩)
      go_ret2
      exact ⟨rfl, rfl⟩
    · by_cases ha2 : n < 0
      · rw [if_pos (Or.inr ha2)]
        unfold strV
        go_enter Tryz.func26, Tryz.ntmps26
        go_wp2_with ((with_reducible refine (HM.out).mono ?_); rintro _ _ ⟨rfl, rfl⟩)
        go_ret2
        exact ⟨rfl, rfl⟩
      · rw [if_neg (by omega)]
        have ha1 : 0 ≤ at_ := by omega
        have ha2 : 0 ≤ n := by omega
        unfold strV
        go_enter Tryz.func26, Tryz.ntmps26
        go_wp2_with ((with_reducible refine (HM.out).mono ?_); rintro _ _ ⟨rfl, rfl⟩)
        all_goals go_ret2
        all_goals refine ⟨congrArg (fun q => Ending.returned (.tuple #[.string q, .int .i64 0])) ?_, rfl⟩
        · rw [List.drop_of_length_le (by omega), List.take_nil]
          first | exact extract_empty _ _ | rfl
        · rw [List.drop_of_length_le (by omega), List.take_nil]
          first | exact extract_empty _ _ | rfl
        · rw [extract_list, extract_list, List.drop_zero, Nat.sub_zero, List.take_of_length_le (i := n.toNat) (by simp; omega), List.take_of_length_le (by simp), List.take_of_length_le (by simp)]
        · rw [extract_list, extract_list, List.drop_zero, Nat.sub_zero, List.take_of_length_le (i := (d.file f).now.length - at_.toNat) (by simp)]
  · rw [if_pos hm]
    have h1 : (mayF d f == 0) = false := by simpa using hm
    have h2 : (mayF d f != 0) = true := by simpa using hm
    have HM := Lib.hid hm'
    clear hm hm'
    unfold strV
    generalize mayF d f = m at *
    go_enter Tryz.func26, Tryz.ntmps26
    go_wp2_with ((with_reducible refine (HM.out).mono ?_); rintro _ _ ⟨rfl, rfl⟩)
    go_ret2
    exact ⟨rfl, rfl⟩
end
end Go.Proofs.YtniiahmpdkgplaaGreatDoor
