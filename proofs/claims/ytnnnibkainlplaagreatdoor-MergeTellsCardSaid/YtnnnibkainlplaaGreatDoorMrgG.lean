/- kerbsidelaw47: small, walked (written by wip/gen_small47.py). -/
import Derived.Test.YtnnnibkainlplaaGreatDoorMrgG0
import Derived.Test.YtnnnibkainlplaaGreatDoorMrgK
import Derived.Deep.RegionHeld3
namespace Go.Proofs.YtnnnibkainlplaaGreatDoor
open Go.RowKit Go.Sort Go.Lib

theorem own_ents (W : World) (l : List EntC) (hl : l.length ≤ 1000) : Own (W.alloc (.cells (l.map EntC.cells).flatten.toArray 37)) W.heap.size 37 5 (.slice (some ⟨W.heap.size, 0, none⟩) l.length l.length) l.length (l.map EntC.cells) := by
  have hf : ∀ m : List EntC, (m.map EntC.cells).flatten.length = m.length * 5 := fun m => by
    induction m with
    | nil => rfl
    | cons x r ih => simp only [List.map_cons, List.flatten_cons, List.length_append, ih, List.length_cons]; simp [EntC.cells]; omega
  have h := World.ownsRow_lit (base := W.heap.size) (e := 37) (size := 5) W (l.map EntC.cells).flatten.toArray l.length (Nat.le_refl _) (by simp only [maxLen]; omega) (by simp only [List.size_toArray]; exact hf l)
  exact ⟨by simpa using h, ents_len l, by simp⟩
theorem chAt_ents (W : World) (l : List EntC) (hl : l.length ≤ 1000) (h : ∀ x ∈ l, EntAt W x ∧ x.v.seen.length ≤ 1099511627776 ∧ x.v.text.length ≤ 140737488351232) : ChAt (W.alloc (.cells (l.map EntC.cells).flatten.toArray 37)) (some ⟨W.heap.size, 0, none⟩) l.length l :=
  ⟨(own_ents W l hl).sl', fun x hx => Sl.alloc (h x hx).1 _, fun x hx => (h x hx).2⟩
theorem sl_ints (W : World) (l : List Int) (hl : l.length ≤ 1000) : Sl (W.alloc (.cells (l.map fun n : Int => Value.int .i64 n).toArray 3)) 1 (some ⟨W.heap.size, 0, none⟩) l.length (l.map intC) := by
  have hf : ∀ m : List Int, (m.map intC).flatten = m.map fun n : Int => Value.int .i64 n := fun m => by
    induction m with
    | nil => rfl
    | cons x r ih => simp only [List.map_cons, List.flatten_cons, ih]; rfl
  have h := World.ownsRow_lit (base := W.heap.size) (e := 3) (size := 1) W (l.map fun n : Int => Value.int .i64 n).toArray l.length (Nat.le_refl _) (by simp only [maxLen]; omega) (by simp)
  have ho : Own (W.alloc (.cells (l.map fun n : Int => Value.int .i64 n).toArray 3)) W.heap.size 3 1 (.slice (some ⟨W.heap.size, 0, none⟩) l.length l.length) l.length (l.map intC) := ⟨by rw [hf]; simpa using h, by simp [intC], by simp⟩
  exact ho.sl'
theorem sl_refs (W : World) (l : List (Nat × Nat)) (hl : l.length ≤ 1000) : Sl (W.alloc (.cells (l.map refC).flatten.toArray 40)) 2 (some ⟨W.heap.size, 0, none⟩) l.length (l.map refC) := by
  have hf : ∀ m : List (Nat × Nat), (m.map refC).flatten.length = m.length * 2 := fun m => by
    induction m with
    | nil => rfl
    | cons x r ih => simp only [List.map_cons, List.flatten_cons, List.length_append, ih, List.length_cons]; simp [refC]; omega
  have h := World.ownsRow_lit (base := W.heap.size) (e := 40) (size := 2) W (l.map refC).flatten.toArray l.length (Nat.le_refl _) (by simp only [maxLen]; omega) (by simp only [List.size_toArray]; exact hf l)
  have ho : Own (W.alloc (.cells (l.map refC).flatten.toArray 40)) W.heap.size 40 2 (.slice (some ⟨W.heap.size, 0, none⟩) l.length l.length) l.length (l.map refC) := ⟨by simpa using h, fun x hx => by obtain ⟨p, _, rfl⟩ := List.mem_map.1 hx; rfl, by simp⟩
  exact ho.sl'
theorem entry47_at (w : World) (d no day seen : Int) (h0 : 0 ≤ d) (h7 : d ≤ 7) :
    Calls Tryz.prog 21 #[.int .i64 d, .int .i64 no, .int .i64 day, .int .i64 seen] w fun e w' => ∃ x : EntC, e = .returned (.agg x.cells.toArray) ∧ x.v = exE d no day seen ∧ EntAt w' x ∧ Below w.heap.size w w' := by
  obtain ⟨k, rfl⟩ : ∃ k : Nat, d = (k : Int) := ⟨d.toNat, by omega⟩
  exact entry47_any w k (by omega) no day seen
theorem exE_len {d no day seen : Int} {x : EntC} (h : x.v = exE d no day seen) : x.v.seen.length ≤ 1099511627776 ∧ x.v.text.length ≤ 140737488351232 := by rw [h]; simp [exE]

set_option maxRecDepth 100000 in
set_option maxHeartbeats 16000000 in
theorem small47_any {B0 : Nat} (w : World) (hE : Env B0 w) (hB0 : B0 ≤ w.heap.size) :
    Calls Tryz.prog 4 #[] w fun e w' => e = .returned (.bool true) ∧ Below w.heap.size w w' := by
  have HE := Lib.hid (fun W (hb : Below w.heap.size w W) => hE.below (hb.mono hB0))
  have HB0 := Lib.hid hB0
  have HS0 := Lib.hid (Sep.start w)
  clear hE hB0
  go_enter Tryz.func4, Tryz.ntmps4
  go_upto_region 1 with (fail)
  go_upto_region 2 with ((with_reducible refine (entry47_at _ 0 0 5 0 (by omega) (by omega)).mono ?_); rintro e wa1 ⟨x1, rfl, hv1, ha1, hb1⟩; have HV1 := Lib.hid hv1; clear hv1; simp only [EntC.cells])
  have HS1 := Lib.hid ((HS0.out.below hb1).box #[.int .i64 x1.v.dev, .int .i64 x1.v.no, .int .i64 x1.v.day, .slice x1.A x1.v.seen.length x1.c, .string ⟨x1.v.text.toArray⟩] 37)
  have HA1 : Hid (EntAt (wa1.alloc (.cells #[.int .i64 x1.v.dev, .int .i64 x1.v.no, .int .i64 x1.v.day, .slice x1.A x1.v.seen.length x1.c, .string ⟨x1.v.text.toArray⟩] 37)) x1) := Lib.hid (Sl.alloc ha1 _)
  clear HS0 ha1 hb1
  generalize hWW : wa1.alloc (.cells #[.int .i64 x1.v.dev, .int .i64 x1.v.no, .int .i64 x1.v.day, .slice x1.A x1.v.seen.length x1.c, .string ⟨x1.v.text.toArray⟩] 37) = W1 at *
  clear hWW
  generalize wa1.heap.size = b1 at *
  clear wa1
  go_upto_region 3 with ((with_reducible refine (entry47_at _ 0 1 5 0 (by omega) (by omega)).mono ?_); rintro e wa2 ⟨x2, rfl, hv2, ha2, hb2⟩; have HV2 := Lib.hid hv2; clear hv2; simp only [EntC.cells])
  have HS2 := Lib.hid ((HS1.out.below hb2).box #[.int .i64 x2.v.dev, .int .i64 x2.v.no, .int .i64 x2.v.day, .slice x2.A x2.v.seen.length x2.c, .string ⟨x2.v.text.toArray⟩] 37)
  replace HA1 : Hid (EntAt (wa2.alloc (.cells #[.int .i64 x2.v.dev, .int .i64 x2.v.no, .int .i64 x2.v.day, .slice x2.A x2.v.seen.length x2.c, .string ⟨x2.v.text.toArray⟩] 37)) x1) := Lib.hid (Sl.alloc (Sl.below HA1.out hb2) _)
  have HA2 : Hid (EntAt (wa2.alloc (.cells #[.int .i64 x2.v.dev, .int .i64 x2.v.no, .int .i64 x2.v.day, .slice x2.A x2.v.seen.length x2.c, .string ⟨x2.v.text.toArray⟩] 37)) x2) := Lib.hid (Sl.alloc ha2 _)
  clear HS1 ha2 hb2
  generalize hWW : wa2.alloc (.cells #[.int .i64 x2.v.dev, .int .i64 x2.v.no, .int .i64 x2.v.day, .slice x2.A x2.v.seen.length x2.c, .string ⟨x2.v.text.toArray⟩] 37) = W2 at *
  clear hWW
  generalize wa2.heap.size = b2 at *
  clear wa2
  go_upto_region 4 with ((with_reducible refine (entry47_at _ 1 0 4 0 (by omega) (by omega)).mono ?_); rintro e wa3 ⟨x3, rfl, hv3, ha3, hb3⟩; have HV3 := Lib.hid hv3; clear hv3; simp only [EntC.cells])
  have HS3 := Lib.hid ((HS2.out.below hb3).box #[.int .i64 x3.v.dev, .int .i64 x3.v.no, .int .i64 x3.v.day, .slice x3.A x3.v.seen.length x3.c, .string ⟨x3.v.text.toArray⟩] 37)
  replace HA1 : Hid (EntAt (wa3.alloc (.cells #[.int .i64 x3.v.dev, .int .i64 x3.v.no, .int .i64 x3.v.day, .slice x3.A x3.v.seen.length x3.c, .string ⟨x3.v.text.toArray⟩] 37)) x1) := Lib.hid (Sl.alloc (Sl.below HA1.out hb3) _)
  replace HA2 : Hid (EntAt (wa3.alloc (.cells #[.int .i64 x3.v.dev, .int .i64 x3.v.no, .int .i64 x3.v.day, .slice x3.A x3.v.seen.length x3.c, .string ⟨x3.v.text.toArray⟩] 37)) x2) := Lib.hid (Sl.alloc (Sl.below HA2.out hb3) _)
  have HA3 : Hid (EntAt (wa3.alloc (.cells #[.int .i64 x3.v.dev, .int .i64 x3.v.no, .int .i64 x3.v.day, .slice x3.A x3.v.seen.length x3.c, .string ⟨x3.v.text.toArray⟩] 37)) x3) := Lib.hid (Sl.alloc ha3 _)
  clear HS2 ha3 hb3
  generalize hWW : wa3.alloc (.cells #[.int .i64 x3.v.dev, .int .i64 x3.v.no, .int .i64 x3.v.day, .slice x3.A x3.v.seen.length x3.c, .string ⟨x3.v.text.toArray⟩] 37) = W3 at *
  clear hWW
  generalize wa3.heap.size = b3 at *
  clear wa3
  go_upto_region 5 with ((with_reducible refine (entry47_at _ 1 1 4 1 (by omega) (by omega)).mono ?_); rintro e wa4 ⟨x4, rfl, hv4, ha4, hb4⟩; have HV4 := Lib.hid hv4; clear hv4; simp only [EntC.cells])
  have HS4 := Lib.hid ((HS3.out.below hb4).box #[.int .i64 x4.v.dev, .int .i64 x4.v.no, .int .i64 x4.v.day, .slice x4.A x4.v.seen.length x4.c, .string ⟨x4.v.text.toArray⟩] 37)
  replace HA1 : Hid (EntAt (wa4.alloc (.cells #[.int .i64 x4.v.dev, .int .i64 x4.v.no, .int .i64 x4.v.day, .slice x4.A x4.v.seen.length x4.c, .string ⟨x4.v.text.toArray⟩] 37)) x1) := Lib.hid (Sl.alloc (Sl.below HA1.out hb4) _)
  replace HA2 : Hid (EntAt (wa4.alloc (.cells #[.int .i64 x4.v.dev, .int .i64 x4.v.no, .int .i64 x4.v.day, .slice x4.A x4.v.seen.length x4.c, .string ⟨x4.v.text.toArray⟩] 37)) x2) := Lib.hid (Sl.alloc (Sl.below HA2.out hb4) _)
  replace HA3 : Hid (EntAt (wa4.alloc (.cells #[.int .i64 x4.v.dev, .int .i64 x4.v.no, .int .i64 x4.v.day, .slice x4.A x4.v.seen.length x4.c, .string ⟨x4.v.text.toArray⟩] 37)) x3) := Lib.hid (Sl.alloc (Sl.below HA3.out hb4) _)
  have HA4 : Hid (EntAt (wa4.alloc (.cells #[.int .i64 x4.v.dev, .int .i64 x4.v.no, .int .i64 x4.v.day, .slice x4.A x4.v.seen.length x4.c, .string ⟨x4.v.text.toArray⟩] 37)) x4) := Lib.hid (Sl.alloc ha4 _)
  clear HS3 ha4 hb4
  generalize hWW : wa4.alloc (.cells #[.int .i64 x4.v.dev, .int .i64 x4.v.no, .int .i64 x4.v.day, .slice x4.A x4.v.seen.length x4.c, .string ⟨x4.v.text.toArray⟩] 37) = W4 at *
  clear hWW
  generalize wa4.heap.size = b4 at *
  clear wa4
  obtain ⟨zb4, kb4, fb4⟩ := HS4.out.loc
  obtain ⟨zb3, kb3, fb3⟩ := HS4.out.drop.loc
  obtain ⟨zb2, kb2, fb2⟩ := HS4.out.drop.drop.loc
  obtain ⟨zb1, kb1, fb1⟩ := HS4.out.drop.drop.drop.loc
  go_upto_region 6 with (fail)
  clear zb1 kb1 fb1 zb2 kb2 fb2 zb3 kb3 fb3 zb4 kb4 fb4
  have HC5 : Hid (ChAt (W4.alloc (.cells #[.int .i64 x4.v.dev, .int .i64 x4.v.no, .int .i64 x4.v.day, .slice x4.A x4.v.seen.length x4.c, .string ⟨x4.v.text.toArray⟩, .int .i64 x2.v.dev, .int .i64 x2.v.no, .int .i64 x2.v.day, .slice x2.A x2.v.seen.length x2.c, .string ⟨x2.v.text.toArray⟩, .int .i64 x1.v.dev, .int .i64 x1.v.no, .int .i64 x1.v.day, .slice x1.A x1.v.seen.length x1.c, .string ⟨x1.v.text.toArray⟩, .int .i64 x3.v.dev, .int .i64 x3.v.no, .int .i64 x3.v.day, .slice x3.A x3.v.seen.length x3.c, .string ⟨x3.v.text.toArray⟩, .int .i64 x1.v.dev, .int .i64 x1.v.no, .int .i64 x1.v.day, .slice x1.A x1.v.seen.length x1.c, .string ⟨x1.v.text.toArray⟩] 37)) (some ⟨W4.heap.size, 0, none⟩) 5 ([x4, x2, x1, x3, x1] : List EntC)) := Lib.hid (chAt_ents W4 ([x4, x2, x1, x3, x1] : List EntC) (by simp) (by simp only [List.mem_cons, List.not_mem_nil, or_false]; rintro x h; rcases h with rfl | rfl | rfl | rfl | rfl <;> first | exact ⟨HA1.out, exE_len HV1.out⟩ | exact ⟨HA2.out, exE_len HV2.out⟩ | exact ⟨HA3.out, exE_len HV3.out⟩ | exact ⟨HA4.out, exE_len HV4.out⟩))
  have HS5 := Lib.hid (HS4.out.alloc (.cells #[.int .i64 x4.v.dev, .int .i64 x4.v.no, .int .i64 x4.v.day, .slice x4.A x4.v.seen.length x4.c, .string ⟨x4.v.text.toArray⟩, .int .i64 x2.v.dev, .int .i64 x2.v.no, .int .i64 x2.v.day, .slice x2.A x2.v.seen.length x2.c, .string ⟨x2.v.text.toArray⟩, .int .i64 x1.v.dev, .int .i64 x1.v.no, .int .i64 x1.v.day, .slice x1.A x1.v.seen.length x1.c, .string ⟨x1.v.text.toArray⟩, .int .i64 x3.v.dev, .int .i64 x3.v.no, .int .i64 x3.v.day, .slice x3.A x3.v.seen.length x3.c, .string ⟨x3.v.text.toArray⟩, .int .i64 x1.v.dev, .int .i64 x1.v.no, .int .i64 x1.v.day, .slice x1.A x1.v.seen.length x1.c, .string ⟨x1.v.text.toArray⟩] 37))
  replace HA1 : Hid (EntAt (W4.alloc (.cells #[.int .i64 x4.v.dev, .int .i64 x4.v.no, .int .i64 x4.v.day, .slice x4.A x4.v.seen.length x4.c, .string ⟨x4.v.text.toArray⟩, .int .i64 x2.v.dev, .int .i64 x2.v.no, .int .i64 x2.v.day, .slice x2.A x2.v.seen.length x2.c, .string ⟨x2.v.text.toArray⟩, .int .i64 x1.v.dev, .int .i64 x1.v.no, .int .i64 x1.v.day, .slice x1.A x1.v.seen.length x1.c, .string ⟨x1.v.text.toArray⟩, .int .i64 x3.v.dev, .int .i64 x3.v.no, .int .i64 x3.v.day, .slice x3.A x3.v.seen.length x3.c, .string ⟨x3.v.text.toArray⟩, .int .i64 x1.v.dev, .int .i64 x1.v.no, .int .i64 x1.v.day, .slice x1.A x1.v.seen.length x1.c, .string ⟨x1.v.text.toArray⟩] 37)) x1) := Lib.hid (Sl.alloc HA1.out _)
  replace HA2 : Hid (EntAt (W4.alloc (.cells #[.int .i64 x4.v.dev, .int .i64 x4.v.no, .int .i64 x4.v.day, .slice x4.A x4.v.seen.length x4.c, .string ⟨x4.v.text.toArray⟩, .int .i64 x2.v.dev, .int .i64 x2.v.no, .int .i64 x2.v.day, .slice x2.A x2.v.seen.length x2.c, .string ⟨x2.v.text.toArray⟩, .int .i64 x1.v.dev, .int .i64 x1.v.no, .int .i64 x1.v.day, .slice x1.A x1.v.seen.length x1.c, .string ⟨x1.v.text.toArray⟩, .int .i64 x3.v.dev, .int .i64 x3.v.no, .int .i64 x3.v.day, .slice x3.A x3.v.seen.length x3.c, .string ⟨x3.v.text.toArray⟩, .int .i64 x1.v.dev, .int .i64 x1.v.no, .int .i64 x1.v.day, .slice x1.A x1.v.seen.length x1.c, .string ⟨x1.v.text.toArray⟩] 37)) x2) := Lib.hid (Sl.alloc HA2.out _)
  replace HA3 : Hid (EntAt (W4.alloc (.cells #[.int .i64 x4.v.dev, .int .i64 x4.v.no, .int .i64 x4.v.day, .slice x4.A x4.v.seen.length x4.c, .string ⟨x4.v.text.toArray⟩, .int .i64 x2.v.dev, .int .i64 x2.v.no, .int .i64 x2.v.day, .slice x2.A x2.v.seen.length x2.c, .string ⟨x2.v.text.toArray⟩, .int .i64 x1.v.dev, .int .i64 x1.v.no, .int .i64 x1.v.day, .slice x1.A x1.v.seen.length x1.c, .string ⟨x1.v.text.toArray⟩, .int .i64 x3.v.dev, .int .i64 x3.v.no, .int .i64 x3.v.day, .slice x3.A x3.v.seen.length x3.c, .string ⟨x3.v.text.toArray⟩, .int .i64 x1.v.dev, .int .i64 x1.v.no, .int .i64 x1.v.day, .slice x1.A x1.v.seen.length x1.c, .string ⟨x1.v.text.toArray⟩] 37)) x3) := Lib.hid (Sl.alloc HA3.out _)
  replace HA4 : Hid (EntAt (W4.alloc (.cells #[.int .i64 x4.v.dev, .int .i64 x4.v.no, .int .i64 x4.v.day, .slice x4.A x4.v.seen.length x4.c, .string ⟨x4.v.text.toArray⟩, .int .i64 x2.v.dev, .int .i64 x2.v.no, .int .i64 x2.v.day, .slice x2.A x2.v.seen.length x2.c, .string ⟨x2.v.text.toArray⟩, .int .i64 x1.v.dev, .int .i64 x1.v.no, .int .i64 x1.v.day, .slice x1.A x1.v.seen.length x1.c, .string ⟨x1.v.text.toArray⟩, .int .i64 x3.v.dev, .int .i64 x3.v.no, .int .i64 x3.v.day, .slice x3.A x3.v.seen.length x3.c, .string ⟨x3.v.text.toArray⟩, .int .i64 x1.v.dev, .int .i64 x1.v.no, .int .i64 x1.v.day, .slice x1.A x1.v.seen.length x1.c, .string ⟨x1.v.text.toArray⟩] 37)) x4) := Lib.hid (Sl.alloc HA4.out _)
  clear HS4
  generalize hWW : W4.alloc (.cells #[.int .i64 x4.v.dev, .int .i64 x4.v.no, .int .i64 x4.v.day, .slice x4.A x4.v.seen.length x4.c, .string ⟨x4.v.text.toArray⟩, .int .i64 x2.v.dev, .int .i64 x2.v.no, .int .i64 x2.v.day, .slice x2.A x2.v.seen.length x2.c, .string ⟨x2.v.text.toArray⟩, .int .i64 x1.v.dev, .int .i64 x1.v.no, .int .i64 x1.v.day, .slice x1.A x1.v.seen.length x1.c, .string ⟨x1.v.text.toArray⟩, .int .i64 x3.v.dev, .int .i64 x3.v.no, .int .i64 x3.v.day, .slice x3.A x3.v.seen.length x3.c, .string ⟨x3.v.text.toArray⟩, .int .i64 x1.v.dev, .int .i64 x1.v.no, .int .i64 x1.v.day, .slice x1.A x1.v.seen.length x1.c, .string ⟨x1.v.text.toArray⟩] 37) = W5 at *
  clear hWW
  generalize W4.heap.size = c5 at *
  clear W4
  obtain ⟨zb4, kb4, fb4⟩ := HS5.out.loc
  obtain ⟨zb3, kb3, fb3⟩ := HS5.out.drop.loc
  obtain ⟨zb2, kb2, fb2⟩ := HS5.out.drop.drop.loc
  obtain ⟨zb1, kb1, fb1⟩ := HS5.out.drop.drop.drop.loc
  go_upto_region 7 with (fail)
  clear zb1 kb1 fb1 zb2 kb2 fb2 zb3 kb3 fb3 zb4 kb4 fb4
  have HC6 : Hid (ChAt (W5.alloc (.cells #[.int .i64 x2.v.dev, .int .i64 x2.v.no, .int .i64 x2.v.day, .slice x2.A x2.v.seen.length x2.c, .string ⟨x2.v.text.toArray⟩, .int .i64 x3.v.dev, .int .i64 x3.v.no, .int .i64 x3.v.day, .slice x3.A x3.v.seen.length x3.c, .string ⟨x3.v.text.toArray⟩, .int .i64 x4.v.dev, .int .i64 x4.v.no, .int .i64 x4.v.day, .slice x4.A x4.v.seen.length x4.c, .string ⟨x4.v.text.toArray⟩] 37)) (some ⟨W5.heap.size, 0, none⟩) 3 ([x2, x3, x4] : List EntC)) := Lib.hid (chAt_ents W5 ([x2, x3, x4] : List EntC) (by simp) (by simp only [List.mem_cons, List.not_mem_nil, or_false]; rintro x h; rcases h with rfl | rfl | rfl <;> first | exact ⟨HA1.out, exE_len HV1.out⟩ | exact ⟨HA2.out, exE_len HV2.out⟩ | exact ⟨HA3.out, exE_len HV3.out⟩ | exact ⟨HA4.out, exE_len HV4.out⟩))
  have HS6 := Lib.hid (HS5.out.alloc (.cells #[.int .i64 x2.v.dev, .int .i64 x2.v.no, .int .i64 x2.v.day, .slice x2.A x2.v.seen.length x2.c, .string ⟨x2.v.text.toArray⟩, .int .i64 x3.v.dev, .int .i64 x3.v.no, .int .i64 x3.v.day, .slice x3.A x3.v.seen.length x3.c, .string ⟨x3.v.text.toArray⟩, .int .i64 x4.v.dev, .int .i64 x4.v.no, .int .i64 x4.v.day, .slice x4.A x4.v.seen.length x4.c, .string ⟨x4.v.text.toArray⟩] 37))
  replace HC5 := Lib.hid (HC5.out.below (below_alloc W5 (.cells #[.int .i64 x2.v.dev, .int .i64 x2.v.no, .int .i64 x2.v.day, .slice x2.A x2.v.seen.length x2.c, .string ⟨x2.v.text.toArray⟩, .int .i64 x3.v.dev, .int .i64 x3.v.no, .int .i64 x3.v.day, .slice x3.A x3.v.seen.length x3.c, .string ⟨x3.v.text.toArray⟩, .int .i64 x4.v.dev, .int .i64 x4.v.no, .int .i64 x4.v.day, .slice x4.A x4.v.seen.length x4.c, .string ⟨x4.v.text.toArray⟩] 37)))
  replace HA1 : Hid (EntAt (W5.alloc (.cells #[.int .i64 x2.v.dev, .int .i64 x2.v.no, .int .i64 x2.v.day, .slice x2.A x2.v.seen.length x2.c, .string ⟨x2.v.text.toArray⟩, .int .i64 x3.v.dev, .int .i64 x3.v.no, .int .i64 x3.v.day, .slice x3.A x3.v.seen.length x3.c, .string ⟨x3.v.text.toArray⟩, .int .i64 x4.v.dev, .int .i64 x4.v.no, .int .i64 x4.v.day, .slice x4.A x4.v.seen.length x4.c, .string ⟨x4.v.text.toArray⟩] 37)) x1) := Lib.hid (Sl.alloc HA1.out _)
  replace HA2 : Hid (EntAt (W5.alloc (.cells #[.int .i64 x2.v.dev, .int .i64 x2.v.no, .int .i64 x2.v.day, .slice x2.A x2.v.seen.length x2.c, .string ⟨x2.v.text.toArray⟩, .int .i64 x3.v.dev, .int .i64 x3.v.no, .int .i64 x3.v.day, .slice x3.A x3.v.seen.length x3.c, .string ⟨x3.v.text.toArray⟩, .int .i64 x4.v.dev, .int .i64 x4.v.no, .int .i64 x4.v.day, .slice x4.A x4.v.seen.length x4.c, .string ⟨x4.v.text.toArray⟩] 37)) x2) := Lib.hid (Sl.alloc HA2.out _)
  replace HA3 : Hid (EntAt (W5.alloc (.cells #[.int .i64 x2.v.dev, .int .i64 x2.v.no, .int .i64 x2.v.day, .slice x2.A x2.v.seen.length x2.c, .string ⟨x2.v.text.toArray⟩, .int .i64 x3.v.dev, .int .i64 x3.v.no, .int .i64 x3.v.day, .slice x3.A x3.v.seen.length x3.c, .string ⟨x3.v.text.toArray⟩, .int .i64 x4.v.dev, .int .i64 x4.v.no, .int .i64 x4.v.day, .slice x4.A x4.v.seen.length x4.c, .string ⟨x4.v.text.toArray⟩] 37)) x3) := Lib.hid (Sl.alloc HA3.out _)
  replace HA4 : Hid (EntAt (W5.alloc (.cells #[.int .i64 x2.v.dev, .int .i64 x2.v.no, .int .i64 x2.v.day, .slice x2.A x2.v.seen.length x2.c, .string ⟨x2.v.text.toArray⟩, .int .i64 x3.v.dev, .int .i64 x3.v.no, .int .i64 x3.v.day, .slice x3.A x3.v.seen.length x3.c, .string ⟨x3.v.text.toArray⟩, .int .i64 x4.v.dev, .int .i64 x4.v.no, .int .i64 x4.v.day, .slice x4.A x4.v.seen.length x4.c, .string ⟨x4.v.text.toArray⟩] 37)) x4) := Lib.hid (Sl.alloc HA4.out _)
  clear HS5
  generalize hWW : W5.alloc (.cells #[.int .i64 x2.v.dev, .int .i64 x2.v.no, .int .i64 x2.v.day, .slice x2.A x2.v.seen.length x2.c, .string ⟨x2.v.text.toArray⟩, .int .i64 x3.v.dev, .int .i64 x3.v.no, .int .i64 x3.v.day, .slice x3.A x3.v.seen.length x3.c, .string ⟨x3.v.text.toArray⟩, .int .i64 x4.v.dev, .int .i64 x4.v.no, .int .i64 x4.v.day, .slice x4.A x4.v.seen.length x4.c, .string ⟨x4.v.text.toArray⟩] 37) = W6 at *
  clear hWW
  generalize W5.heap.size = c6 at *
  clear W5
  have HSS : Hid (∀ w', Below W6.heap.size W6 w' → (w'.cell? ⟨b1, 0, none⟩ = some (.int .i64 x1.v.dev) ∧ w'.cell? ⟨b1, 1, none⟩ = some (.int .i64 x1.v.no) ∧ w'.cell? ⟨b1, 2, none⟩ = some (.int .i64 x1.v.day) ∧ w'.cell? ⟨b1, 3, none⟩ = some (.slice x1.A x1.v.seen.length x1.c) ∧ w'.cell? ⟨b1, 4, none⟩ = some (.string ⟨x1.v.text.toArray⟩) ∧ w'.cell? ⟨b2, 0, none⟩ = some (.int .i64 x2.v.dev) ∧ w'.cell? ⟨b2, 1, none⟩ = some (.int .i64 x2.v.no) ∧ w'.cell? ⟨b2, 2, none⟩ = some (.int .i64 x2.v.day) ∧ w'.cell? ⟨b2, 3, none⟩ = some (.slice x2.A x2.v.seen.length x2.c) ∧ w'.cell? ⟨b2, 4, none⟩ = some (.string ⟨x2.v.text.toArray⟩) ∧ w'.cell? ⟨b3, 0, none⟩ = some (.int .i64 x3.v.dev) ∧ w'.cell? ⟨b3, 1, none⟩ = some (.int .i64 x3.v.no) ∧ w'.cell? ⟨b3, 2, none⟩ = some (.int .i64 x3.v.day) ∧ w'.cell? ⟨b3, 3, none⟩ = some (.slice x3.A x3.v.seen.length x3.c) ∧ w'.cell? ⟨b3, 4, none⟩ = some (.string ⟨x3.v.text.toArray⟩) ∧ w'.cell? ⟨b4, 0, none⟩ = some (.int .i64 x4.v.dev) ∧ w'.cell? ⟨b4, 1, none⟩ = some (.int .i64 x4.v.no) ∧ w'.cell? ⟨b4, 2, none⟩ = some (.int .i64 x4.v.day) ∧ w'.cell? ⟨b4, 3, none⟩ = some (.slice x4.A x4.v.seen.length x4.c) ∧ w'.cell? ⟨b4, 4, none⟩ = some (.string ⟨x4.v.text.toArray⟩) ∧ Below W6.heap.size W6 w')) := Lib.hid (fun w' hb => by
    have l4 := (HS6.out.loc).below hb
    have l3 := (HS6.out.drop.loc).below hb
    have l2 := (HS6.out.drop.drop.loc).below hb
    have l1 := (HS6.out.drop.drop.drop.loc).below hb
    exact ⟨l1.cell 0, l1.cell 1, l1.cell 2, l1.cell 3, l1.cell 4, l2.cell 0, l2.cell 1, l2.cell 2, l2.cell 3, l2.cell 4, l3.cell 0, l3.cell 1, l3.cell 2, l3.cell 3, l3.cell 4, l4.cell 0, l4.cell 1, l4.cell 2, l4.cell 3, l4.cell 4, hb⟩)
  have hB7 := Below.refl W6.heap.size W6
  go_region_held3 (fun w' => w'.cell? ⟨b1, 0, none⟩ = some (.int .i64 x1.v.dev) ∧ w'.cell? ⟨b1, 1, none⟩ = some (.int .i64 x1.v.no) ∧ w'.cell? ⟨b1, 2, none⟩ = some (.int .i64 x1.v.day) ∧ w'.cell? ⟨b1, 3, none⟩ = some (.slice x1.A x1.v.seen.length x1.c) ∧ w'.cell? ⟨b1, 4, none⟩ = some (.string ⟨x1.v.text.toArray⟩) ∧ w'.cell? ⟨b2, 0, none⟩ = some (.int .i64 x2.v.dev) ∧ w'.cell? ⟨b2, 1, none⟩ = some (.int .i64 x2.v.no) ∧ w'.cell? ⟨b2, 2, none⟩ = some (.int .i64 x2.v.day) ∧ w'.cell? ⟨b2, 3, none⟩ = some (.slice x2.A x2.v.seen.length x2.c) ∧ w'.cell? ⟨b2, 4, none⟩ = some (.string ⟨x2.v.text.toArray⟩) ∧ w'.cell? ⟨b3, 0, none⟩ = some (.int .i64 x3.v.dev) ∧ w'.cell? ⟨b3, 1, none⟩ = some (.int .i64 x3.v.no) ∧ w'.cell? ⟨b3, 2, none⟩ = some (.int .i64 x3.v.day) ∧ w'.cell? ⟨b3, 3, none⟩ = some (.slice x3.A x3.v.seen.length x3.c) ∧ w'.cell? ⟨b3, 4, none⟩ = some (.string ⟨x3.v.text.toArray⟩) ∧ w'.cell? ⟨b4, 0, none⟩ = some (.int .i64 x4.v.dev) ∧ w'.cell? ⟨b4, 1, none⟩ = some (.int .i64 x4.v.no) ∧ w'.cell? ⟨b4, 2, none⟩ = some (.int .i64 x4.v.day) ∧ w'.cell? ⟨b4, 3, none⟩ = some (.slice x4.A x4.v.seen.length x4.c) ∧ w'.cell? ⟨b4, 4, none⟩ = some (.string ⟨x4.v.text.toArray⟩) ∧ Below W6.heap.size W6 w')
    (first | exact HSS.out _ hB7 | (refine HSS.out _ ?_; repeat (first | exact hB7 | exact Below.refl _ _ | refine Below.drew ?_ | refine Below.alloc ?_ (by first | exact Nat.le_refl _ | exact hB7.size | (simp <;> omega)) _ | refine Below.setCell ?_ (by first | exact Nat.le_refl _ | exact hB7.size | (simp <;> omega)) _)))
    ((go_at_call 21
      ((with_reducible refine (entry47_at _ 0 0 9 0 (by omega) (by omega)).mono ?_)
       rintro e w3 ⟨x5, rfl, hv5, ha5, hbF⟩
       have hB7 : Below W6.heap.size W6 w3 := by go_split_ands; exact Below.trans (by assumption) (hbF.mono (Below.size (by assumption)))
       have HV5 := Lib.hid hv5; clear hv5; simp only [EntC.cells])))
  have HB7 : Hid (Below W6.heap.size W6 w3) := Lib.hid (by first | assumption | exact hB7)
  have HC7 : Hid (ChAt (w3.alloc (.cells #[.int .i64 x1.v.dev, .int .i64 x1.v.no, .int .i64 x1.v.day, .slice x1.A x1.v.seen.length x1.c, .string ⟨x1.v.text.toArray⟩, .int .i64 x2.v.dev, .int .i64 x2.v.no, .int .i64 x2.v.day, .slice x2.A x2.v.seen.length x2.c, .string ⟨x2.v.text.toArray⟩, .int .i64 x3.v.dev, .int .i64 x3.v.no, .int .i64 x3.v.day, .slice x3.A x3.v.seen.length x3.c, .string ⟨x3.v.text.toArray⟩, .int .i64 x4.v.dev, .int .i64 x4.v.no, .int .i64 x4.v.day, .slice x4.A x4.v.seen.length x4.c, .string ⟨x4.v.text.toArray⟩, .int .i64 x5.v.dev, .int .i64 x5.v.no, .int .i64 x5.v.day, .slice x5.A x5.v.seen.length x5.c, .string ⟨x5.v.text.toArray⟩] 37)) (some ⟨w3.heap.size, 0, none⟩) 5 ([x1, x2, x3, x4, x5] : List EntC)) := Lib.hid (chAt_ents w3 ([x1, x2, x3, x4, x5] : List EntC) (by simp) (by simp only [List.mem_cons, List.not_mem_nil, or_false]; rintro x h; rcases h with rfl | rfl | rfl | rfl | rfl <;> first | exact ⟨Sl.below HA1.out HB7.out, exE_len HV1.out⟩ | exact ⟨Sl.below HA2.out HB7.out, exE_len HV2.out⟩ | exact ⟨Sl.below HA3.out HB7.out, exE_len HV3.out⟩ | exact ⟨Sl.below HA4.out HB7.out, exE_len HV4.out⟩ | exact ⟨ha5, exE_len HV5.out⟩))
  have HBA : Hid (Below W6.heap.size W6 (w3.alloc (.cells #[.int .i64 x1.v.dev, .int .i64 x1.v.no, .int .i64 x1.v.day, .slice x1.A x1.v.seen.length x1.c, .string ⟨x1.v.text.toArray⟩, .int .i64 x2.v.dev, .int .i64 x2.v.no, .int .i64 x2.v.day, .slice x2.A x2.v.seen.length x2.c, .string ⟨x2.v.text.toArray⟩, .int .i64 x3.v.dev, .int .i64 x3.v.no, .int .i64 x3.v.day, .slice x3.A x3.v.seen.length x3.c, .string ⟨x3.v.text.toArray⟩, .int .i64 x4.v.dev, .int .i64 x4.v.no, .int .i64 x4.v.day, .slice x4.A x4.v.seen.length x4.c, .string ⟨x4.v.text.toArray⟩, .int .i64 x5.v.dev, .int .i64 x5.v.no, .int .i64 x5.v.day, .slice x5.A x5.v.seen.length x5.c, .string ⟨x5.v.text.toArray⟩] 37))) := Lib.hid (HB7.out.alloc HB7.out.size _)
  replace HC5 := Lib.hid (HC5.out.below HBA.out)
  replace HC6 := Lib.hid (HC6.out.below HBA.out)
  replace HS6 := Lib.hid (HS6.out.below HBA.out)
  replace HA1 : Hid (EntAt (w3.alloc (.cells #[.int .i64 x1.v.dev, .int .i64 x1.v.no, .int .i64 x1.v.day, .slice x1.A x1.v.seen.length x1.c, .string ⟨x1.v.text.toArray⟩, .int .i64 x2.v.dev, .int .i64 x2.v.no, .int .i64 x2.v.day, .slice x2.A x2.v.seen.length x2.c, .string ⟨x2.v.text.toArray⟩, .int .i64 x3.v.dev, .int .i64 x3.v.no, .int .i64 x3.v.day, .slice x3.A x3.v.seen.length x3.c, .string ⟨x3.v.text.toArray⟩, .int .i64 x4.v.dev, .int .i64 x4.v.no, .int .i64 x4.v.day, .slice x4.A x4.v.seen.length x4.c, .string ⟨x4.v.text.toArray⟩, .int .i64 x5.v.dev, .int .i64 x5.v.no, .int .i64 x5.v.day, .slice x5.A x5.v.seen.length x5.c, .string ⟨x5.v.text.toArray⟩] 37)) x1) := Lib.hid (Sl.below HA1.out HBA.out)
  replace HA2 : Hid (EntAt (w3.alloc (.cells #[.int .i64 x1.v.dev, .int .i64 x1.v.no, .int .i64 x1.v.day, .slice x1.A x1.v.seen.length x1.c, .string ⟨x1.v.text.toArray⟩, .int .i64 x2.v.dev, .int .i64 x2.v.no, .int .i64 x2.v.day, .slice x2.A x2.v.seen.length x2.c, .string ⟨x2.v.text.toArray⟩, .int .i64 x3.v.dev, .int .i64 x3.v.no, .int .i64 x3.v.day, .slice x3.A x3.v.seen.length x3.c, .string ⟨x3.v.text.toArray⟩, .int .i64 x4.v.dev, .int .i64 x4.v.no, .int .i64 x4.v.day, .slice x4.A x4.v.seen.length x4.c, .string ⟨x4.v.text.toArray⟩, .int .i64 x5.v.dev, .int .i64 x5.v.no, .int .i64 x5.v.day, .slice x5.A x5.v.seen.length x5.c, .string ⟨x5.v.text.toArray⟩] 37)) x2) := Lib.hid (Sl.below HA2.out HBA.out)
  replace HA3 : Hid (EntAt (w3.alloc (.cells #[.int .i64 x1.v.dev, .int .i64 x1.v.no, .int .i64 x1.v.day, .slice x1.A x1.v.seen.length x1.c, .string ⟨x1.v.text.toArray⟩, .int .i64 x2.v.dev, .int .i64 x2.v.no, .int .i64 x2.v.day, .slice x2.A x2.v.seen.length x2.c, .string ⟨x2.v.text.toArray⟩, .int .i64 x3.v.dev, .int .i64 x3.v.no, .int .i64 x3.v.day, .slice x3.A x3.v.seen.length x3.c, .string ⟨x3.v.text.toArray⟩, .int .i64 x4.v.dev, .int .i64 x4.v.no, .int .i64 x4.v.day, .slice x4.A x4.v.seen.length x4.c, .string ⟨x4.v.text.toArray⟩, .int .i64 x5.v.dev, .int .i64 x5.v.no, .int .i64 x5.v.day, .slice x5.A x5.v.seen.length x5.c, .string ⟨x5.v.text.toArray⟩] 37)) x3) := Lib.hid (Sl.below HA3.out HBA.out)
  replace HA4 : Hid (EntAt (w3.alloc (.cells #[.int .i64 x1.v.dev, .int .i64 x1.v.no, .int .i64 x1.v.day, .slice x1.A x1.v.seen.length x1.c, .string ⟨x1.v.text.toArray⟩, .int .i64 x2.v.dev, .int .i64 x2.v.no, .int .i64 x2.v.day, .slice x2.A x2.v.seen.length x2.c, .string ⟨x2.v.text.toArray⟩, .int .i64 x3.v.dev, .int .i64 x3.v.no, .int .i64 x3.v.day, .slice x3.A x3.v.seen.length x3.c, .string ⟨x3.v.text.toArray⟩, .int .i64 x4.v.dev, .int .i64 x4.v.no, .int .i64 x4.v.day, .slice x4.A x4.v.seen.length x4.c, .string ⟨x4.v.text.toArray⟩, .int .i64 x5.v.dev, .int .i64 x5.v.no, .int .i64 x5.v.day, .slice x5.A x5.v.seen.length x5.c, .string ⟨x5.v.text.toArray⟩] 37)) x4) := Lib.hid (Sl.below HA4.out HBA.out)
  replace HA5 : Hid (EntAt (w3.alloc (.cells #[.int .i64 x1.v.dev, .int .i64 x1.v.no, .int .i64 x1.v.day, .slice x1.A x1.v.seen.length x1.c, .string ⟨x1.v.text.toArray⟩, .int .i64 x2.v.dev, .int .i64 x2.v.no, .int .i64 x2.v.day, .slice x2.A x2.v.seen.length x2.c, .string ⟨x2.v.text.toArray⟩, .int .i64 x3.v.dev, .int .i64 x3.v.no, .int .i64 x3.v.day, .slice x3.A x3.v.seen.length x3.c, .string ⟨x3.v.text.toArray⟩, .int .i64 x4.v.dev, .int .i64 x4.v.no, .int .i64 x4.v.day, .slice x4.A x4.v.seen.length x4.c, .string ⟨x4.v.text.toArray⟩, .int .i64 x5.v.dev, .int .i64 x5.v.no, .int .i64 x5.v.day, .slice x5.A x5.v.seen.length x5.c, .string ⟨x5.v.text.toArray⟩] 37)) x5) := Lib.hid (Sl.alloc ha5 _)
  clear HSS HBA HB7 ha5
  try clear hB7
  try clear hbF
  generalize hWW : (w3.alloc (.cells #[.int .i64 x1.v.dev, .int .i64 x1.v.no, .int .i64 x1.v.day, .slice x1.A x1.v.seen.length x1.c, .string ⟨x1.v.text.toArray⟩, .int .i64 x2.v.dev, .int .i64 x2.v.no, .int .i64 x2.v.day, .slice x2.A x2.v.seen.length x2.c, .string ⟨x2.v.text.toArray⟩, .int .i64 x3.v.dev, .int .i64 x3.v.no, .int .i64 x3.v.day, .slice x3.A x3.v.seen.length x3.c, .string ⟨x3.v.text.toArray⟩, .int .i64 x4.v.dev, .int .i64 x4.v.no, .int .i64 x4.v.day, .slice x4.A x4.v.seen.length x4.c, .string ⟨x4.v.text.toArray⟩, .int .i64 x5.v.dev, .int .i64 x5.v.no, .int .i64 x5.v.day, .slice x5.A x5.v.seen.length x5.c, .string ⟨x5.v.text.toArray⟩] 37)) = W7 at *
  clear hWW
  generalize w3.heap.size = c7 at *
  have HX5 : Hid (vsOf ([x4, x2, x1, x3, x1] : List EntC) = [xD, xB, xA, xC, xA]) := Lib.hid (by simp only [vsOf, List.map_cons, List.map_nil, HV1.out, HV2.out, HV3.out, HV4.out, HV5.out]; rfl)
  have HX6 : Hid (vsOf ([x2, x3, x4] : List EntC) = [xB, xC, xD]) := Lib.hid (by simp only [vsOf, List.map_cons, List.map_nil, HV1.out, HV2.out, HV3.out, HV4.out, HV5.out]; rfl)
  have HX7 : Hid (vsOf ([x1, x2, x3, x4, x5] : List EntC) = [xA, xB, xC, xD, xE]) := Lib.hid (by simp only [vsOf, List.map_cons, List.map_nil, HV1.out, HV2.out, HV3.out, HV4.out, HV5.out]; rfl)
  have HO5 := Lib.hid (Heads_any W7 (HE.out _ HS6.out.base) (Nat.le_trans HB0.out HS6.out.base.size) (some ⟨c5, 0, none⟩) 5 5 ([x4, x2, x1, x3, x1] : List EntC) HC5.out (by omega))
  rw [HX5.out, o5] at HO5
  go_upto_region 9 with ((with_reducible refine HO5.out.mono ?_); rintro e w8 ⟨g8, rfl, hg8, hb8⟩)
  have HG8 : Hid (Sl w8 1 (some ⟨g8, 0, none⟩) 8 (([2, 2, 0, 0, 0, 0, 0, 0] : List Int).map intC)) := Lib.hid hg8.sl'
  replace HC5 := Lib.hid (HC5.out.below hb8)
  replace HC6 := Lib.hid (HC6.out.below hb8)
  replace HC7 := Lib.hid (HC7.out.below hb8)
  replace HS6 := Lib.hid (HS6.out.below hb8)
  replace HA1 : Hid (EntAt w8 x1) := Lib.hid (Sl.below HA1.out hb8)
  replace HA2 : Hid (EntAt w8 x2) := Lib.hid (Sl.below HA2.out hb8)
  replace HA3 : Hid (EntAt w8 x3) := Lib.hid (Sl.below HA3.out hb8)
  replace HA4 : Hid (EntAt w8 x4) := Lib.hid (Sl.below HA4.out hb8)
  clear HA5 hg8 hb8 HO5
  have HX3142 : Hid (vsOf ([x3, x1, x4, x2] : List EntC) = [xC, xA, xD, xB]) := Lib.hid (by simp only [vsOf, List.map_cons, List.map_nil, HV1.out, HV2.out, HV3.out, HV4.out]; rfl)
  have HX1234 : Hid (vsOf ([x1, x2, x3, x4] : List EntC) = [xA, xB, xC, xD]) := Lib.hid (by simp only [vsOf, List.map_cons, List.map_nil, HV1.out, HV2.out, HV3.out, HV4.out]; rfl)
  have HX3 : Hid (vsOf ([x3] : List EntC) = [xC]) := Lib.hid (by simp only [vsOf, List.map_cons, List.map_nil, HV1.out, HV2.out, HV3.out, HV4.out]; rfl)
  have HX12 : Hid (vsOf ([x1, x2] : List EntC) = [xA, xB]) := Lib.hid (by simp only [vsOf, List.map_cons, List.map_nil, HV1.out, HV2.out, HV3.out, HV4.out]; rfl)
  have HX34 : Hid (vsOf ([x3, x4] : List EntC) = [xC, xD]) := Lib.hid (by simp only [vsOf, List.map_cons, List.map_nil, HV1.out, HV2.out, HV3.out, HV4.out]; rfl)
  refine wpTill.startN 37 (S := fun w' => w'.cell? ⟨b1, 0, none⟩ = some (.int .i64 x1.v.dev) ∧ w'.cell? ⟨b1, 1, none⟩ = some (.int .i64 x1.v.no) ∧ w'.cell? ⟨b1, 2, none⟩ = some (.int .i64 x1.v.day) ∧ w'.cell? ⟨b1, 3, none⟩ = some (.slice x1.A x1.v.seen.length x1.c) ∧ w'.cell? ⟨b1, 4, none⟩ = some (.string ⟨x1.v.text.toArray⟩) ∧ w'.cell? ⟨b2, 0, none⟩ = some (.int .i64 x2.v.dev) ∧ w'.cell? ⟨b2, 1, none⟩ = some (.int .i64 x2.v.no) ∧ w'.cell? ⟨b2, 2, none⟩ = some (.int .i64 x2.v.day) ∧ w'.cell? ⟨b2, 3, none⟩ = some (.slice x2.A x2.v.seen.length x2.c) ∧ w'.cell? ⟨b2, 4, none⟩ = some (.string ⟨x2.v.text.toArray⟩) ∧ w'.cell? ⟨b3, 0, none⟩ = some (.int .i64 x3.v.dev) ∧ w'.cell? ⟨b3, 1, none⟩ = some (.int .i64 x3.v.no) ∧ w'.cell? ⟨b3, 2, none⟩ = some (.int .i64 x3.v.day) ∧ w'.cell? ⟨b3, 3, none⟩ = some (.slice x3.A x3.v.seen.length x3.c) ∧ w'.cell? ⟨b3, 4, none⟩ = some (.string ⟨x3.v.text.toArray⟩) ∧ w'.cell? ⟨b4, 0, none⟩ = some (.int .i64 x4.v.dev) ∧ w'.cell? ⟨b4, 1, none⟩ = some (.int .i64 x4.v.no) ∧ w'.cell? ⟨b4, 2, none⟩ = some (.int .i64 x4.v.day) ∧ w'.cell? ⟨b4, 3, none⟩ = some (.slice x4.A x4.v.seen.length x4.c) ∧ w'.cell? ⟨b4, 4, none⟩ = some (.string ⟨x4.v.text.toArray⟩) ∧ Below w8.drew.heap.size w8.drew w') (T := fun _ => True) (m := 300) rfl (by kernel_rfl) ?_
  replace HC5 := Lib.hid (HC5.out.below (Below.refl _ _).drew)
  replace HC6 := Lib.hid (HC6.out.below (Below.refl _ _).drew)
  replace HC7 := Lib.hid (HC7.out.below (Below.refl _ _).drew)
  replace HS6 := Lib.hid HS6.out.drew
  replace HG8 := Lib.hid HG8.out.drew
  replace HA1 : Hid (EntAt w8.drew x1) := Lib.hid (Sl.drew HA1.out)
  replace HA2 : Hid (EntAt w8.drew x2) := Lib.hid (Sl.drew HA2.out)
  replace HA3 : Hid (EntAt w8.drew x3) := Lib.hid (Sl.drew HA3.out)
  replace HA4 : Hid (EntAt w8.drew x4) := Lib.hid (Sl.drew HA4.out)
  generalize w8.drew = wr9 at *
  clear w8
  have HSS : Hid (∀ w', Below wr9.heap.size wr9 w' → (w'.cell? ⟨b1, 0, none⟩ = some (.int .i64 x1.v.dev) ∧ w'.cell? ⟨b1, 1, none⟩ = some (.int .i64 x1.v.no) ∧ w'.cell? ⟨b1, 2, none⟩ = some (.int .i64 x1.v.day) ∧ w'.cell? ⟨b1, 3, none⟩ = some (.slice x1.A x1.v.seen.length x1.c) ∧ w'.cell? ⟨b1, 4, none⟩ = some (.string ⟨x1.v.text.toArray⟩) ∧ w'.cell? ⟨b2, 0, none⟩ = some (.int .i64 x2.v.dev) ∧ w'.cell? ⟨b2, 1, none⟩ = some (.int .i64 x2.v.no) ∧ w'.cell? ⟨b2, 2, none⟩ = some (.int .i64 x2.v.day) ∧ w'.cell? ⟨b2, 3, none⟩ = some (.slice x2.A x2.v.seen.length x2.c) ∧ w'.cell? ⟨b2, 4, none⟩ = some (.string ⟨x2.v.text.toArray⟩) ∧ w'.cell? ⟨b3, 0, none⟩ = some (.int .i64 x3.v.dev) ∧ w'.cell? ⟨b3, 1, none⟩ = some (.int .i64 x3.v.no) ∧ w'.cell? ⟨b3, 2, none⟩ = some (.int .i64 x3.v.day) ∧ w'.cell? ⟨b3, 3, none⟩ = some (.slice x3.A x3.v.seen.length x3.c) ∧ w'.cell? ⟨b3, 4, none⟩ = some (.string ⟨x3.v.text.toArray⟩) ∧ w'.cell? ⟨b4, 0, none⟩ = some (.int .i64 x4.v.dev) ∧ w'.cell? ⟨b4, 1, none⟩ = some (.int .i64 x4.v.no) ∧ w'.cell? ⟨b4, 2, none⟩ = some (.int .i64 x4.v.day) ∧ w'.cell? ⟨b4, 3, none⟩ = some (.slice x4.A x4.v.seen.length x4.c) ∧ w'.cell? ⟨b4, 4, none⟩ = some (.string ⟨x4.v.text.toArray⟩) ∧ Below wr9.heap.size wr9 w')) := Lib.hid (fun w' hb => by
    have l4 := (HS6.out.loc).below hb
    have l3 := (HS6.out.drop.loc).below hb
    have l2 := (HS6.out.drop.drop.loc).below hb
    have l1 := (HS6.out.drop.drop.drop.loc).below hb
    exact ⟨l1.cell 0, l1.cell 1, l1.cell 2, l1.cell 3, l1.cell 4, l2.cell 0, l2.cell 1, l2.cell 2, l2.cell 3, l2.cell 4, l3.cell 0, l3.cell 1, l3.cell 2, l3.cell 3, l3.cell 4, l4.cell 0, l4.cell 1, l4.cell 2, l4.cell 3, l4.cell 4, hb⟩)
  have HB := Lib.hid (Below.refl wr9.heap.size wr9)
  have HEB : Hid (∀ W, Below wr9.heap.size wr9 W → Env B0 W ∧ B0 ≤ W.heap.size) := Lib.hid (fun W hb => ⟨HE.out W (HS6.out.base.trans (hb.mono HS6.out.base.size)), Nat.le_trans HB0.out (Nat.le_trans HS6.out.base.size hb.size)⟩)
  have HM1 : Hid (∀ W, Below wr9.heap.size wr9 W → EntAt W x1 ∧ x1.v.seen.length ≤ 1099511627776 ∧ x1.v.text.length ≤ 140737488351232) := Lib.hid (fun W hb => ⟨Sl.below HA1.out hb, exE_len HV1.out⟩)
  have HM2 : Hid (∀ W, Below wr9.heap.size wr9 W → EntAt W x2 ∧ x2.v.seen.length ≤ 1099511627776 ∧ x2.v.text.length ≤ 140737488351232) := Lib.hid (fun W hb => ⟨Sl.below HA2.out hb, exE_len HV2.out⟩)
  have HM3 : Hid (∀ W, Below wr9.heap.size wr9 W → EntAt W x3 ∧ x3.v.seen.length ≤ 1099511627776 ∧ x3.v.text.length ≤ 140737488351232) := Lib.hid (fun W hb => ⟨Sl.below HA3.out hb, exE_len HV3.out⟩)
  have HM4 : Hid (∀ W, Below wr9.heap.size wr9 W → EntAt W x4 ∧ x4.v.seen.length ≤ 1099511627776 ∧ x4.v.text.length ≤ 140737488351232) := Lib.hid (fun W hb => ⟨Sl.below HA4.out hb, exE_len HV4.out⟩)
  have HQ5 : Hid (∀ W, Below wr9.heap.size wr9 W → Calls Tryz.prog 14 #[.slice (some ⟨c5, 0, none⟩) 5 5] W (GivesE W [xC, xA, xD, xB])) := Lib.hid (fun W hb => by
    have h := Order_any W (HEB.out _ hb).1 (HEB.out _ hb).2 (some ⟨c5, 0, none⟩) 5 5 ([x4, x2, x1, x3, x1] : List EntC) (HC5.out.below hb) (by omega)
    rw [HX5.out, o5] at h
    exact h)
  have HF5 : Hid (∀ W, Below wr9.heap.size wr9 W → Calls Tryz.prog 10 #[.slice (some ⟨c5, 0, none⟩) 5 5] W (GivesI W ([] : List Int))) := Lib.hid (fun W hb => Forks_any W (HEB.out _ hb).1 (HEB.out _ hb).2 (some ⟨c5, 0, none⟩) 5 5 ([x4, x2, x1, x3, x1] : List EntC) (HC5.out.below hb) (by omega) ([] : List Int) (by rw [HX5.out]; exact f5))
  have HN5 : Hid (∀ W, Below wr9.heap.size wr9 W → Calls Tryz.prog 19 #[.slice (some ⟨c5, 0, none⟩) 5 5] W fun e w' => ∃ A' c', e = .returned (.slice A' ([] : List (Nat × Nat)).length c') ∧ Sl w' 2 A' ([] : List (Nat × Nat)).length (([] : List (Nat × Nat)).map refC) ∧ Below W.heap.size W w') := Lib.hid (fun W hb => Missing_any W (HEB.out _ hb).1 (HEB.out _ hb).2 (some ⟨c5, 0, none⟩) 5 5 ([x4, x2, x1, x3, x1] : List EntC) (HC5.out.below hb) (by omega) [] (by rw [HX5.out]; exact m5))
  have HJ56 : Hid (∀ W, Below wr9.heap.size wr9 W → Calls Tryz.prog 7 #[.slice (some ⟨c5, 0, none⟩) 5 5, .slice (some ⟨c6, 0, none⟩) 3 3] W (GivesE W [xA, xB, xC, xD])) := Lib.hid (fun W hb => by
    have h := Join_any W (HEB.out _ hb).1 (HEB.out _ hb).2 (some ⟨c5, 0, none⟩) (some ⟨c6, 0, none⟩) 5 3 5 3 ([x4, x2, x1, x3, x1] : List EntC) ([x2, x3, x4] : List EntC) (HC5.out.below hb) (HC6.out.below hb) (by omega) (by omega)
    rw [HX5.out, HX6.out, j56] at h
    exact h)
  refine wpTill.take (i := 0) (v := ?_) (by rfl) rfl (by kernel_rfl) (by kernel_rfl) (by kernel_rfl) (by exact fun _ _ _ h => h) (HSS.out _ HB.out) (fun _ => trivial) (Or.inl ⟨by rfl, ?_⟩) ?_
  rotate_left
  · (intro w' hSw; (try dsimp only at hSw); go_simp; (try with_reducible rfl))
  (try simp only [Act.put, List.setIfInBounds_toArray, List.set_cons_zero, List.set_cons_succ, List.getElem_toArray, List.getElem_cons_zero, List.getElem_cons_succ])
  refine wpTill.take (i := 2) (v := ?_) (by rfl) rfl (by kernel_rfl) (by kernel_rfl) (by kernel_rfl) (by exact fun _ _ _ h => h) (HSS.out _ HB.out) (fun _ => trivial) (Or.inl ⟨by rfl, ?_⟩) ?_
  rotate_left
  · (intro w' hSw; (try dsimp only at hSw); go_simp; (try with_reducible rfl))
  (try simp only [Act.put, List.setIfInBounds_toArray, List.set_cons_zero, List.set_cons_succ, List.getElem_toArray, List.getElem_cons_zero, List.getElem_cons_succ])
  refine wpTill.take (i := 3) (v := ?_) (by rfl) rfl (by kernel_rfl) (by kernel_rfl) (by kernel_rfl) (by exact fun _ _ _ h => h) (HSS.out _ HB.out) (fun _ => trivial) (Or.inl ⟨by rfl, ?_⟩) ?_
  rotate_left
  · (intro w' hSw; (try dsimp only at hSw); go_simp; (try with_reducible rfl))
  (try simp only [Act.put, List.setIfInBounds_toArray, List.set_cons_zero, List.set_cons_succ, List.getElem_toArray, List.getElem_cons_zero, List.getElem_cons_succ])
  refine wpTill.take (i := 4) (v := ?_) (by rfl) rfl (by kernel_rfl) (by kernel_rfl) (by kernel_rfl) (by exact fun _ _ _ h => h) (HSS.out _ HB.out) (fun _ => trivial) (Or.inl ⟨by rfl, ?_⟩) ?_
  rotate_left
  · (intro w' hSw; (try dsimp only at hSw); go_simp; (try with_reducible rfl))
  (try simp only [Act.put, List.setIfInBounds_toArray, List.set_cons_zero, List.set_cons_succ, List.getElem_toArray, List.getElem_cons_zero, List.getElem_cons_succ])
  refine wpTill.take (i := 5) (v := ?_) (by rfl) rfl (by kernel_rfl) (by kernel_rfl) (by kernel_rfl) (by exact fun _ _ _ h => h) (HSS.out _ HB.out) (fun _ => trivial) (Or.inl ⟨by rfl, ?_⟩) ?_
  rotate_left
  · (intro w' hSw; (try dsimp only at hSw); go_simp; (try with_reducible rfl))
  (try simp only [Act.put, List.setIfInBounds_toArray, List.set_cons_zero, List.set_cons_succ, List.getElem_toArray, List.getElem_cons_zero, List.getElem_cons_succ])
  refine wpTill.two (i := 1) (j := 6) (fun x y w' => (∃ A c l, x = .slice A 4 c ∧ ChAt w' A 4 l ∧ vsOf l = [xC, xA, xD, xB]) ∧ (∃ g, y = .slice (some ⟨g, 0, none⟩) 4 4 ∧ ChAt w' (some ⟨g, 0, none⟩) 4 ([x3, x1, x4, x2] : List EntC)) ∧ Below wr9.heap.size wr9 w') (by kernel_rfl) (by kernel_rfl) (by kernel_rfl) (by rfl) (by rfl) (by rfl) ?hi1 ?hj1 ?hr1
  case hi1 =>
    intro K1 K2 hK1 hK2
    replace hK1 := Lib.hid hK1
    replace hK2 := Lib.hid hK2
    go_simp
    go_at_call 14
    ((with_reducible refine (HQ5.out wr9 HB.out).mono ?_); rintro _ w5 ⟨A, c, l, rfl, hch, hvl, hb⟩)
    have HB5 := Lib.hid (HB.out.trans (hb.mono HB.out.size))
    refine hK1.out _ _ (HSS.out _ HB5.out) (fun _ => trivial) ?_
    (try simp only [Act.put, List.setIfInBounds_toArray, List.set_cons_zero, List.set_cons_succ, List.getElem_toArray, List.getElem_cons_zero, List.getElem_cons_succ])
    go_simp
    refine hK2.out _ _ (HSS.out _ (HB5.out.alloc HB5.out.size _)) (fun _ => trivial) ⟨.slice A 4 c, .slice (some ⟨w5.heap.size, 0, none⟩) 4 4, by first | rfl | (simp only [Act.put, List.setIfInBounds_toArray, List.set_cons_zero, List.set_cons_succ]), ⟨A, c, l, rfl, hch.below (below_alloc _ _), hvl⟩, ⟨w5.heap.size, rfl, (chAt_ents w5 ([x3, x1, x4, x2] : List EntC) (by simp) (by simp only [List.mem_cons, List.not_mem_nil, or_false]; rintro x h; rcases h with rfl | rfl | rfl | rfl <;> first | exact HM1.out _ HB5.out | exact HM2.out _ HB5.out | exact HM3.out _ HB5.out | exact HM4.out _ HB5.out))⟩, HB5.out.alloc HB5.out.size _⟩
  case hj1 =>
    intro K1 K2 hK1 hK2
    replace hK1 := Lib.hid hK1
    replace hK2 := Lib.hid hK2
    go_simp
    refine hK1.out _ _ (HSS.out _ (HB.out.alloc HB.out.size _)) (fun _ => trivial) ?_
    (try simp only [Act.put, List.setIfInBounds_toArray, List.set_cons_zero, List.set_cons_succ, List.getElem_toArray, List.getElem_cons_zero, List.getElem_cons_succ])
    go_simp
    have HBL := Lib.hid (fun o => HB.out.alloc HB.out.size o)
    go_at_call 14
    ((with_reducible refine (HQ5.out _ (HBL.out _)).mono ?_); rintro _ w5 ⟨A, c, l, rfl, hch, hvl, hb⟩)
    have HB5 := Lib.hid ((HBL.out _).trans (hb.mono (HBL.out _).size))
    refine hK2.out _ _ (HSS.out _ HB5.out) (fun _ => trivial) ⟨.slice A 4 c, .slice (some ⟨wr9.heap.size, 0, none⟩) 4 4, by first | rfl | (simp only [Act.put, List.setIfInBounds_toArray, List.set_cons_zero, List.set_cons_succ]), ⟨A, c, l, rfl, hch, hvl⟩, ⟨wr9.heap.size, rfl, (chAt_ents wr9 ([x3, x1, x4, x2] : List EntC) (by simp) (by simp only [List.mem_cons, List.not_mem_nil, or_false]; rintro x h; rcases h with rfl | rfl | rfl | rfl <;> first | exact HM1.out _ HB.out | exact HM2.out _ HB.out | exact HM3.out _ HB.out | exact HM4.out _ HB.out)).below hb⟩, HB5.out⟩
  case hr1 =>
  intro x y vwr9_1 hS _ hR
  clear hS
  obtain ⟨⟨A1, k1, m1, rfl, hch, hvl⟩, ⟨g1, rfl, hll⟩, hb⟩ := hR
  have HCH := Lib.hid hch
  have HVL := Lib.hid hvl
  have HLL := Lib.hid hll
  replace HB := Lib.hid hb
  clear hch hvl hll hb
  (try simp only [Act.put, List.setIfInBounds_toArray, List.set_cons_zero, List.set_cons_succ, List.getElem_toArray, List.getElem_cons_zero, List.getElem_cons_succ])
  refine wpTill.step (i := 7) (by kernel_rfl) (by rfl) (fun K' hK => ?_)
  replace hK := Lib.hid hK
  go_simp
  go_at_call 6
  ((with_reducible refine (SameChain_any vwr9_1 A1 (some ⟨g1, 0, none⟩) 4 k1 4 4 m1 ([x3, x1, x4, x2] : List EntC) HCH.out HLL.out (by omega) true (by rw [HVL.out, HX3142.out]; decide)).mono ?_); rintro _ vwr9_2 ⟨rfl, hb⟩)
  replace HB := Lib.hid (HB.out.trans (hb.mono HB.out.size))
  clear hb
  refine hK.out _ _ (HSS.out _ HB.out) (fun _ => trivial) ?_
  clear hK K'
  (try simp only [Act.put, List.setIfInBounds_toArray, List.set_cons_zero, List.set_cons_succ, List.getElem_toArray, List.getElem_cons_zero, List.getElem_cons_succ])
  refine wpTill.take (i := 8) (v := ?_) (by rfl) rfl (by kernel_rfl) (by kernel_rfl) (by kernel_rfl) (by exact fun _ _ _ h => h) (HSS.out _ HB.out) (fun _ => trivial) (Or.inl ⟨by rfl, ?_⟩) ?_
  rotate_left
  · (intro w' hSw; (try dsimp only at hSw); go_simp; (try with_reducible rfl))
  (try simp only [Act.put, List.setIfInBounds_toArray, List.set_cons_zero, List.set_cons_succ, List.getElem_toArray, List.getElem_cons_zero, List.getElem_cons_succ])
  refine wpTill.take (i := 9) (v := ?_) (by rfl) rfl (by kernel_rfl) (by kernel_rfl) (by kernel_rfl) (by exact fun _ _ _ h => h) (HSS.out _ HB.out) (fun _ => trivial) (Or.inl ⟨by rfl, ?_⟩) ?_
  rotate_left
  · (intro w' hSw; (try dsimp only at hSw); go_simp; (try with_reducible rfl))
  (try simp only [Act.put, List.setIfInBounds_toArray, List.set_cons_zero, List.set_cons_succ, List.getElem_toArray, List.getElem_cons_zero, List.getElem_cons_succ])
  refine wpTill.step (i := 10) (by kernel_rfl) (by rfl) (fun K' hK => ?_)
  replace hK := Lib.hid hK
  go_simp
  go_at_call 10
  ((with_reducible refine (HF5.out vwr9_2 HB.out).mono ?_); rintro _ vwr9_3 ⟨A, c, rfl, _, hb⟩)
  replace HB := Lib.hid (HB.out.trans (hb.mono HB.out.size))
  clear hb
  refine hK.out _ _ (HSS.out _ HB.out) (fun _ => trivial) ?_
  clear hK K'
  (try simp only [Act.put, List.setIfInBounds_toArray, List.set_cons_zero, List.set_cons_succ, List.getElem_toArray, List.getElem_cons_zero, List.getElem_cons_succ])
  refine wpTill.take (i := 11) (v := ?_) (by rfl) rfl (by kernel_rfl) (by kernel_rfl) (by kernel_rfl) (by exact fun _ _ _ h => h) (HSS.out _ HB.out) (fun _ => trivial) (Or.inl ⟨by rfl, ?_⟩) ?_
  rotate_left
  · (intro w' hSw; (try dsimp only at hSw); go_simp; (try with_reducible rfl))
  (try simp only [Act.put, List.setIfInBounds_toArray, List.set_cons_zero, List.set_cons_succ, List.getElem_toArray, List.getElem_cons_zero, List.getElem_cons_succ])
  refine wpTill.take (i := 12) (v := ?_) (by rfl) rfl (by kernel_rfl) (by kernel_rfl) (by kernel_rfl) (by exact fun _ _ _ h => h) (HSS.out _ HB.out) (fun _ => trivial) (Or.inl ⟨by rfl, ?_⟩) ?_
  rotate_left
  · (intro w' hSw; (try dsimp only at hSw); go_simp; (try with_reducible rfl))
  (try simp only [Act.put, List.setIfInBounds_toArray, List.set_cons_zero, List.set_cons_succ, List.getElem_toArray, List.getElem_cons_zero, List.getElem_cons_succ])
  refine wpTill.take (i := 13) (v := ?_) (by rfl) rfl (by kernel_rfl) (by kernel_rfl) (by kernel_rfl) (by exact fun _ _ _ h => h) (HSS.out _ HB.out) (fun _ => trivial) (Or.inl ⟨by rfl, ?_⟩) ?_
  rotate_left
  · (intro w' hSw; (try dsimp only at hSw); go_simp; (try with_reducible rfl))
  (try simp only [Act.put, List.setIfInBounds_toArray, List.set_cons_zero, List.set_cons_succ, List.getElem_toArray, List.getElem_cons_zero, List.getElem_cons_succ])
  refine wpTill.take (i := 14) (v := ?_) (by rfl) rfl (by kernel_rfl) (by kernel_rfl) (by kernel_rfl) (by exact fun _ _ _ h => h) (HSS.out _ HB.out) (fun _ => trivial) (Or.inl ⟨by rfl, ?_⟩) ?_
  rotate_left
  · (intro w' hSw; (try dsimp only at hSw); go_simp; (try with_reducible rfl))
  (try simp only [Act.put, List.setIfInBounds_toArray, List.set_cons_zero, List.set_cons_succ, List.getElem_toArray, List.getElem_cons_zero, List.getElem_cons_succ])
  refine wpTill.take (i := 15) (v := ?_) (by rfl) rfl (by kernel_rfl) (by kernel_rfl) (by kernel_rfl) (by exact fun _ _ _ h => h) (HSS.out _ HB.out) (fun _ => trivial) (Or.inl ⟨by rfl, ?_⟩) ?_
  rotate_left
  · (intro w' hSw; (try dsimp only at hSw); go_simp; (try with_reducible rfl))
  (try simp only [Act.put, List.setIfInBounds_toArray, List.set_cons_zero, List.set_cons_succ, List.getElem_toArray, List.getElem_cons_zero, List.getElem_cons_succ])
  refine wpTill.step (i := 16) (by kernel_rfl) (by rfl) (fun K' hK => ?_)
  replace hK := Lib.hid hK
  go_simp
  go_at_call 19
  ((with_reducible refine (HN5.out vwr9_3 HB.out).mono ?_); rintro _ vwr9_4 ⟨A, c, rfl, _, hb⟩)
  replace HB := Lib.hid (HB.out.trans (hb.mono HB.out.size))
  clear hb
  refine hK.out _ _ (HSS.out _ HB.out) (fun _ => trivial) ?_
  clear hK K'
  (try simp only [Act.put, List.setIfInBounds_toArray, List.set_cons_zero, List.set_cons_succ, List.getElem_toArray, List.getElem_cons_zero, List.getElem_cons_succ])
  refine wpTill.take (i := 17) (v := ?_) (by rfl) rfl (by kernel_rfl) (by kernel_rfl) (by kernel_rfl) (by exact fun _ _ _ h => h) (HSS.out _ HB.out) (fun _ => trivial) (Or.inl ⟨by rfl, ?_⟩) ?_
  rotate_left
  · (intro w' hSw; (try dsimp only at hSw); go_simp; (try with_reducible rfl))
  (try simp only [Act.put, List.setIfInBounds_toArray, List.set_cons_zero, List.set_cons_succ, List.getElem_toArray, List.getElem_cons_zero, List.getElem_cons_succ])
  refine wpTill.take (i := 18) (v := ?_) (by rfl) rfl (by kernel_rfl) (by kernel_rfl) (by kernel_rfl) (by exact fun _ _ _ h => h) (HSS.out _ HB.out) (fun _ => trivial) (Or.inl ⟨by rfl, ?_⟩) ?_
  rotate_left
  · (intro w' hSw; (try dsimp only at hSw); go_simp; (try with_reducible rfl))
  (try simp only [Act.put, List.setIfInBounds_toArray, List.set_cons_zero, List.set_cons_succ, List.getElem_toArray, List.getElem_cons_zero, List.getElem_cons_succ])
  refine wpTill.take (i := 19) (v := ?_) (by rfl) rfl (by kernel_rfl) (by kernel_rfl) (by kernel_rfl) (by exact fun _ _ _ h => h) (HSS.out _ HB.out) (fun _ => trivial) (Or.inl ⟨by rfl, ?_⟩) ?_
  rotate_left
  · (intro w' hSw; (try dsimp only at hSw); go_simp; (try with_reducible rfl))
  (try simp only [Act.put, List.setIfInBounds_toArray, List.set_cons_zero, List.set_cons_succ, List.getElem_toArray, List.getElem_cons_zero, List.getElem_cons_succ])
  refine wpTill.take (i := 20) (v := ?_) (by rfl) rfl (by kernel_rfl) (by kernel_rfl) (by kernel_rfl) (by exact fun _ _ _ h => h) (HSS.out _ HB.out) (fun _ => trivial) (Or.inl ⟨by rfl, ?_⟩) ?_
  rotate_left
  · (intro w' hSw; (try dsimp only at hSw); go_simp; (try with_reducible rfl))
  (try simp only [Act.put, List.setIfInBounds_toArray, List.set_cons_zero, List.set_cons_succ, List.getElem_toArray, List.getElem_cons_zero, List.getElem_cons_succ])
  refine wpTill.take (i := 21) (v := ?_) (by rfl) rfl (by kernel_rfl) (by kernel_rfl) (by kernel_rfl) (by exact fun _ _ _ h => h) (HSS.out _ HB.out) (fun _ => trivial) (Or.inl ⟨by rfl, ?_⟩) ?_
  rotate_left
  · (intro w' hSw; (try dsimp only at hSw); go_simp; (try with_reducible rfl))
  (try simp only [Act.put, List.setIfInBounds_toArray, List.set_cons_zero, List.set_cons_succ, List.getElem_toArray, List.getElem_cons_zero, List.getElem_cons_succ])
  refine wpTill.take (i := 22) (v := ?_) (by rfl) rfl (by kernel_rfl) (by kernel_rfl) (by kernel_rfl) (by exact fun _ _ _ h => h) (HSS.out _ HB.out) (fun _ => trivial) (Or.inl ⟨by rfl, ?_⟩) ?_
  rotate_left
  · (intro w' hSw; (try dsimp only at hSw); go_simp; (try with_reducible rfl))
  (try simp only [Act.put, List.setIfInBounds_toArray, List.set_cons_zero, List.set_cons_succ, List.getElem_toArray, List.getElem_cons_zero, List.getElem_cons_succ])
  refine wpTill.take (i := 24) (v := ?_) (by rfl) rfl (by kernel_rfl) (by kernel_rfl) (by kernel_rfl) (by exact fun _ _ _ h => h) (HSS.out _ HB.out) (fun _ => trivial) (Or.inl ⟨by rfl, ?_⟩) ?_
  rotate_left
  · (intro w' hSw; (try dsimp only at hSw); go_simp; (try with_reducible rfl))
  (try simp only [Act.put, List.setIfInBounds_toArray, List.set_cons_zero, List.set_cons_succ, List.getElem_toArray, List.getElem_cons_zero, List.getElem_cons_succ])
  refine wpTill.take (i := 25) (v := ?_) (by rfl) rfl (by kernel_rfl) (by kernel_rfl) (by kernel_rfl) (by exact fun _ _ _ h => h) (HSS.out _ HB.out) (fun _ => trivial) (Or.inl ⟨by rfl, ?_⟩) ?_
  rotate_left
  · (intro w' hSw; (try dsimp only at hSw); go_simp; (try with_reducible rfl))
  (try simp only [Act.put, List.setIfInBounds_toArray, List.set_cons_zero, List.set_cons_succ, List.getElem_toArray, List.getElem_cons_zero, List.getElem_cons_succ])
  refine wpTill.take (i := 26) (v := ?_) (by rfl) rfl (by kernel_rfl) (by kernel_rfl) (by kernel_rfl) (by exact fun _ _ _ h => h) (HSS.out _ HB.out) (fun _ => trivial) (Or.inl ⟨by rfl, ?_⟩) ?_
  rotate_left
  · (intro w' hSw; (try dsimp only at hSw); go_simp; (try with_reducible rfl))
  (try simp only [Act.put, List.setIfInBounds_toArray, List.set_cons_zero, List.set_cons_succ, List.getElem_toArray, List.getElem_cons_zero, List.getElem_cons_succ])
  refine wpTill.take (i := 27) (v := ?_) (by rfl) rfl (by kernel_rfl) (by kernel_rfl) (by kernel_rfl) (by exact fun _ _ _ h => h) (HSS.out _ HB.out) (fun _ => trivial) (Or.inl ⟨by rfl, ?_⟩) ?_
  rotate_left
  · (intro w' hSw; (try dsimp only at hSw); go_simp; (try with_reducible rfl))
  (try simp only [Act.put, List.setIfInBounds_toArray, List.set_cons_zero, List.set_cons_succ, List.getElem_toArray, List.getElem_cons_zero, List.getElem_cons_succ])
  refine wpTill.two (i := 23) (j := 28) (fun x y w' => (∃ A c l, x = .slice A 4 c ∧ ChAt w' A 4 l ∧ vsOf l = [xA, xB, xC, xD]) ∧ (∃ g, y = .slice (some ⟨g, 0, none⟩) 4 4 ∧ ChAt w' (some ⟨g, 0, none⟩) 4 ([x1, x2, x3, x4] : List EntC)) ∧ Below wr9.heap.size wr9 w') (by kernel_rfl) (by kernel_rfl) (by kernel_rfl) (by rfl) (by rfl) (by rfl) ?hi23 ?hj23 ?hr23
  case hi23 =>
    intro K1 K2 hK1 hK2
    replace hK1 := Lib.hid hK1
    replace hK2 := Lib.hid hK2
    go_simp
    go_at_call 7
    ((with_reducible refine (HJ56.out vwr9_4 HB.out).mono ?_); rintro _ w5 ⟨A, c, l, rfl, hch, hvl, hb⟩)
    have HB5 := Lib.hid (HB.out.trans (hb.mono HB.out.size))
    refine hK1.out _ _ (HSS.out _ HB5.out) (fun _ => trivial) ?_
    (try simp only [Act.put, List.setIfInBounds_toArray, List.set_cons_zero, List.set_cons_succ, List.getElem_toArray, List.getElem_cons_zero, List.getElem_cons_succ])
    go_simp
    refine hK2.out _ _ (HSS.out _ (HB5.out.alloc HB5.out.size _)) (fun _ => trivial) ⟨.slice A 4 c, .slice (some ⟨w5.heap.size, 0, none⟩) 4 4, by first | rfl | (simp only [Act.put, List.setIfInBounds_toArray, List.set_cons_zero, List.set_cons_succ]), ⟨A, c, l, rfl, hch.below (below_alloc _ _), hvl⟩, ⟨w5.heap.size, rfl, (chAt_ents w5 ([x1, x2, x3, x4] : List EntC) (by simp) (by simp only [List.mem_cons, List.not_mem_nil, or_false]; rintro x h; rcases h with rfl | rfl | rfl | rfl <;> first | exact HM1.out _ HB5.out | exact HM2.out _ HB5.out | exact HM3.out _ HB5.out | exact HM4.out _ HB5.out))⟩, HB5.out.alloc HB5.out.size _⟩
  case hj23 =>
    intro K1 K2 hK1 hK2
    replace hK1 := Lib.hid hK1
    replace hK2 := Lib.hid hK2
    go_simp
    refine hK1.out _ _ (HSS.out _ (HB.out.alloc HB.out.size _)) (fun _ => trivial) ?_
    (try simp only [Act.put, List.setIfInBounds_toArray, List.set_cons_zero, List.set_cons_succ, List.getElem_toArray, List.getElem_cons_zero, List.getElem_cons_succ])
    go_simp
    have HBL := Lib.hid (fun o => HB.out.alloc HB.out.size o)
    go_at_call 7
    ((with_reducible refine (HJ56.out _ (HBL.out _)).mono ?_); rintro _ w5 ⟨A, c, l, rfl, hch, hvl, hb⟩)
    have HB5 := Lib.hid ((HBL.out _).trans (hb.mono (HBL.out _).size))
    refine hK2.out _ _ (HSS.out _ HB5.out) (fun _ => trivial) ⟨.slice A 4 c, .slice (some ⟨vwr9_4.heap.size, 0, none⟩) 4 4, by first | rfl | (simp only [Act.put, List.setIfInBounds_toArray, List.set_cons_zero, List.set_cons_succ]), ⟨A, c, l, rfl, hch, hvl⟩, ⟨vwr9_4.heap.size, rfl, (chAt_ents vwr9_4 ([x1, x2, x3, x4] : List EntC) (by simp) (by simp only [List.mem_cons, List.not_mem_nil, or_false]; rintro x h; rcases h with rfl | rfl | rfl | rfl <;> first | exact HM1.out _ HB.out | exact HM2.out _ HB.out | exact HM3.out _ HB.out | exact HM4.out _ HB.out)).below hb⟩, HB5.out⟩
  case hr23 =>
  intro x y vwr9_5 hS _ hR
  clear hS
  obtain ⟨⟨A23, k23, m23, rfl, hch, hvl⟩, ⟨g23, rfl, hll⟩, hb⟩ := hR
  replace HCH := Lib.hid hch
  replace HVL := Lib.hid hvl
  replace HLL := Lib.hid hll
  replace HB := Lib.hid hb
  clear hch hvl hll hb
  (try simp only [Act.put, List.setIfInBounds_toArray, List.set_cons_zero, List.set_cons_succ, List.getElem_toArray, List.getElem_cons_zero, List.getElem_cons_succ])
  refine wpTill.step (i := 29) (by kernel_rfl) (by rfl) (fun K' hK => ?_)
  replace hK := Lib.hid hK
  go_simp
  go_at_call 6
  ((with_reducible refine (SameChain_any vwr9_5 A23 (some ⟨g23, 0, none⟩) 4 k23 4 4 m23 ([x1, x2, x3, x4] : List EntC) HCH.out HLL.out (by omega) true (by rw [HVL.out, HX1234.out]; decide)).mono ?_); rintro _ vwr9_6 ⟨rfl, hb⟩)
  replace HB := Lib.hid (HB.out.trans (hb.mono HB.out.size))
  clear hb
  refine hK.out _ _ (HSS.out _ HB.out) (fun _ => trivial) ?_
  clear hK K'
  (try simp only [Act.put, List.setIfInBounds_toArray, List.set_cons_zero, List.set_cons_succ, List.getElem_toArray, List.getElem_cons_zero, List.getElem_cons_succ])
  refine wpTill.take (i := 30) (v := ?_) (by rfl) rfl (by kernel_rfl) (by kernel_rfl) (by kernel_rfl) (by exact fun _ _ _ h => h) (HSS.out _ HB.out) (fun _ => trivial) (Or.inl ⟨by rfl, ?_⟩) ?_
  rotate_left
  · (intro w' hSw; (try dsimp only at hSw); go_simp; (try with_reducible rfl))
  (try simp only [Act.put, List.setIfInBounds_toArray, List.set_cons_zero, List.set_cons_succ, List.getElem_toArray, List.getElem_cons_zero, List.getElem_cons_succ])
  refine wpTill.take (i := 31) (v := ?_) (by rfl) rfl (by kernel_rfl) (by kernel_rfl) (by kernel_rfl) (by exact fun _ _ _ h => h) (HSS.out _ HB.out) (fun _ => trivial) (Or.inl ⟨by rfl, ?_⟩) ?_
  rotate_left
  · (intro w' hSw; (try dsimp only at hSw); go_simp; (try with_reducible rfl))
  (try simp only [Act.put, List.setIfInBounds_toArray, List.set_cons_zero, List.set_cons_succ, List.getElem_toArray, List.getElem_cons_zero, List.getElem_cons_succ])
  refine wpTill.take (i := 32) (v := ?_) (by rfl) rfl (by kernel_rfl) (by kernel_rfl) (by kernel_rfl) (by exact fun _ _ _ h => h) (HSS.out _ HB.out) (fun _ => trivial) (Or.inl ⟨by rfl, ?_⟩) ?_
  rotate_left
  · (intro w' hSw; (try dsimp only at hSw); go_simp; (try with_reducible rfl))
  (try simp only [Act.put, List.setIfInBounds_toArray, List.set_cons_zero, List.set_cons_succ, List.getElem_toArray, List.getElem_cons_zero, List.getElem_cons_succ])
  refine wpTill.step (i := 33) (by kernel_rfl) (by rfl) (fun K' hK => ?_)
  replace hK := Lib.hid hK
  go_simp
  have HG33 : Hid (Sl (vwr9_6.alloc (.cells #[.int .i64 2, .int .i64 2, .int .i64 0, .int .i64 0, .int .i64 0, .int .i64 0, .int .i64 0, .int .i64 0] 3)) 1 (some ⟨vwr9_6.heap.size, 0, none⟩) 8 (([2, 2, 0, 0, 0, 0, 0, 0] : List Int).map intC)) := Lib.hid (sl_ints vwr9_6 [2, 2, 0, 0, 0, 0, 0, 0] (by simp))
  replace HB : Hid (Below wr9.heap.size wr9 (vwr9_6.alloc (.cells #[.int .i64 2, .int .i64 2, .int .i64 0, .int .i64 0, .int .i64 0, .int .i64 0, .int .i64 0, .int .i64 0] 3))) := Lib.hid (HB.out.alloc HB.out.size _)
  refine hK.out _ _ (HSS.out _ HB.out) (fun _ => trivial) ?_
  clear hK K'
  (try simp only [Act.put, List.setIfInBounds_toArray, List.set_cons_zero, List.set_cons_succ, List.getElem_toArray, List.getElem_cons_zero, List.getElem_cons_succ])
  generalize hgg : vwr9_6.heap.size = g33 at *
  generalize hWW : (vwr9_6.alloc (.cells #[.int .i64 2, .int .i64 2, .int .i64 0, .int .i64 0, .int .i64 0, .int .i64 0, .int .i64 0, .int .i64 0] 3)) = vwr9_7 at *
  clear hWW hgg
  refine wpTill.step (i := 34) (by kernel_rfl) (by rfl) (fun K' hK => ?_)
  replace hK := Lib.hid hK
  go_simp
  go_at_call 9
  ((with_reducible refine (SameInts_any vwr9_7 (some ⟨g8, 0, none⟩) (some ⟨g33, 0, none⟩) 8 8 8 8 [2, 2, 0, 0, 0, 0, 0, 0] [2, 2, 0, 0, 0, 0, 0, 0] (HG8.out.below HB.out) HG33.out (by omega) true (by decide)).mono ?_); rintro _ vwr9_8 ⟨rfl, hb⟩)
  replace HB := Lib.hid (HB.out.trans (hb.mono HB.out.size))
  clear hb
  refine hK.out _ _ (HSS.out _ HB.out) (fun _ => trivial) ?_
  clear hK K'
  (try simp only [Act.put, List.setIfInBounds_toArray, List.set_cons_zero, List.set_cons_succ, List.getElem_toArray, List.getElem_cons_zero, List.getElem_cons_succ])
  refine wpTill.take (i := 35) (v := ?_) (by rfl) rfl (by kernel_rfl) (by kernel_rfl) (by kernel_rfl) (by exact fun _ _ _ h => h) (HSS.out _ HB.out) (fun _ => trivial) (Or.inl ⟨by rfl, ?_⟩) ?_
  rotate_left
  · (intro w' hSw; (try dsimp only at hSw); go_simp; (try with_reducible rfl))
  (try simp only [Act.put, List.setIfInBounds_toArray, List.set_cons_zero, List.set_cons_succ, List.getElem_toArray, List.getElem_cons_zero, List.getElem_cons_succ])
  refine wpTill.take (i := 36) (v := ?_) (by rfl) rfl (by kernel_rfl) (by kernel_rfl) (by kernel_rfl) (by exact fun _ _ _ h => h) (HSS.out _ HB.out) (fun _ => trivial) (Or.inl ⟨by rfl, ?_⟩) ?_
  rotate_left
  · (intro w' hSw; (try dsimp only at hSw); go_simp; (try with_reducible rfl))
  (try simp only [Act.put, List.setIfInBounds_toArray, List.set_cons_zero, List.set_cons_succ, List.getElem_toArray, List.getElem_cons_zero, List.getElem_cons_succ])
  refine wpTill.stop (by kernel_rfl) ?_ _
  replace HC5 := Lib.hid (HC5.out.below HB.out)
  replace HC6 := Lib.hid (HC6.out.below HB.out)
  replace HC7 := Lib.hid (HC7.out.below HB.out)
  replace HS6 := Lib.hid (HS6.out.below HB.out)
  replace HA1 : Hid (EntAt vwr9_8 x1) := Lib.hid (Sl.below HA1.out HB.out)
  replace HA2 : Hid (EntAt vwr9_8 x2) := Lib.hid (Sl.below HA2.out HB.out)
  replace HA3 : Hid (EntAt vwr9_8 x3) := Lib.hid (Sl.below HA3.out HB.out)
  replace HA4 : Hid (EntAt vwr9_8 x4) := Lib.hid (Sl.below HA4.out HB.out)
  clear HB HSS HEB HM1 HM2 HM3 HM4 HG8 HG33 HQ5 HF5 HN5 HJ56 HCH HVL HLL
  go_upto_region 10 with (fail)
  refine wpTill.startN 21 (S := fun w' => w'.cell? ⟨b1, 0, none⟩ = some (.int .i64 x1.v.dev) ∧ w'.cell? ⟨b1, 1, none⟩ = some (.int .i64 x1.v.no) ∧ w'.cell? ⟨b1, 2, none⟩ = some (.int .i64 x1.v.day) ∧ w'.cell? ⟨b1, 3, none⟩ = some (.slice x1.A x1.v.seen.length x1.c) ∧ w'.cell? ⟨b1, 4, none⟩ = some (.string ⟨x1.v.text.toArray⟩) ∧ w'.cell? ⟨b2, 0, none⟩ = some (.int .i64 x2.v.dev) ∧ w'.cell? ⟨b2, 1, none⟩ = some (.int .i64 x2.v.no) ∧ w'.cell? ⟨b2, 2, none⟩ = some (.int .i64 x2.v.day) ∧ w'.cell? ⟨b2, 3, none⟩ = some (.slice x2.A x2.v.seen.length x2.c) ∧ w'.cell? ⟨b2, 4, none⟩ = some (.string ⟨x2.v.text.toArray⟩) ∧ w'.cell? ⟨b3, 0, none⟩ = some (.int .i64 x3.v.dev) ∧ w'.cell? ⟨b3, 1, none⟩ = some (.int .i64 x3.v.no) ∧ w'.cell? ⟨b3, 2, none⟩ = some (.int .i64 x3.v.day) ∧ w'.cell? ⟨b3, 3, none⟩ = some (.slice x3.A x3.v.seen.length x3.c) ∧ w'.cell? ⟨b3, 4, none⟩ = some (.string ⟨x3.v.text.toArray⟩) ∧ w'.cell? ⟨b4, 0, none⟩ = some (.int .i64 x4.v.dev) ∧ w'.cell? ⟨b4, 1, none⟩ = some (.int .i64 x4.v.no) ∧ w'.cell? ⟨b4, 2, none⟩ = some (.int .i64 x4.v.day) ∧ w'.cell? ⟨b4, 3, none⟩ = some (.slice x4.A x4.v.seen.length x4.c) ∧ w'.cell? ⟨b4, 4, none⟩ = some (.string ⟨x4.v.text.toArray⟩) ∧ Below vwr9_8.drew.heap.size vwr9_8.drew w') (T := fun _ => True) (m := 300) rfl (by kernel_rfl) ?_
  replace HC5 := Lib.hid (HC5.out.below (Below.refl _ _).drew)
  replace HC6 := Lib.hid (HC6.out.below (Below.refl _ _).drew)
  replace HC7 := Lib.hid (HC7.out.below (Below.refl _ _).drew)
  replace HS6 := Lib.hid HS6.out.drew
  replace HA1 : Hid (EntAt vwr9_8.drew x1) := Lib.hid (Sl.drew HA1.out)
  replace HA2 : Hid (EntAt vwr9_8.drew x2) := Lib.hid (Sl.drew HA2.out)
  replace HA3 : Hid (EntAt vwr9_8.drew x3) := Lib.hid (Sl.drew HA3.out)
  replace HA4 : Hid (EntAt vwr9_8.drew x4) := Lib.hid (Sl.drew HA4.out)
  generalize vwr9_8.drew = wr10 at *
  have HSS : Hid (∀ w', Below wr10.heap.size wr10 w' → (w'.cell? ⟨b1, 0, none⟩ = some (.int .i64 x1.v.dev) ∧ w'.cell? ⟨b1, 1, none⟩ = some (.int .i64 x1.v.no) ∧ w'.cell? ⟨b1, 2, none⟩ = some (.int .i64 x1.v.day) ∧ w'.cell? ⟨b1, 3, none⟩ = some (.slice x1.A x1.v.seen.length x1.c) ∧ w'.cell? ⟨b1, 4, none⟩ = some (.string ⟨x1.v.text.toArray⟩) ∧ w'.cell? ⟨b2, 0, none⟩ = some (.int .i64 x2.v.dev) ∧ w'.cell? ⟨b2, 1, none⟩ = some (.int .i64 x2.v.no) ∧ w'.cell? ⟨b2, 2, none⟩ = some (.int .i64 x2.v.day) ∧ w'.cell? ⟨b2, 3, none⟩ = some (.slice x2.A x2.v.seen.length x2.c) ∧ w'.cell? ⟨b2, 4, none⟩ = some (.string ⟨x2.v.text.toArray⟩) ∧ w'.cell? ⟨b3, 0, none⟩ = some (.int .i64 x3.v.dev) ∧ w'.cell? ⟨b3, 1, none⟩ = some (.int .i64 x3.v.no) ∧ w'.cell? ⟨b3, 2, none⟩ = some (.int .i64 x3.v.day) ∧ w'.cell? ⟨b3, 3, none⟩ = some (.slice x3.A x3.v.seen.length x3.c) ∧ w'.cell? ⟨b3, 4, none⟩ = some (.string ⟨x3.v.text.toArray⟩) ∧ w'.cell? ⟨b4, 0, none⟩ = some (.int .i64 x4.v.dev) ∧ w'.cell? ⟨b4, 1, none⟩ = some (.int .i64 x4.v.no) ∧ w'.cell? ⟨b4, 2, none⟩ = some (.int .i64 x4.v.day) ∧ w'.cell? ⟨b4, 3, none⟩ = some (.slice x4.A x4.v.seen.length x4.c) ∧ w'.cell? ⟨b4, 4, none⟩ = some (.string ⟨x4.v.text.toArray⟩) ∧ Below wr10.heap.size wr10 w')) := Lib.hid (fun w' hb => by
    have l4 := (HS6.out.loc).below hb
    have l3 := (HS6.out.drop.loc).below hb
    have l2 := (HS6.out.drop.drop.loc).below hb
    have l1 := (HS6.out.drop.drop.drop.loc).below hb
    exact ⟨l1.cell 0, l1.cell 1, l1.cell 2, l1.cell 3, l1.cell 4, l2.cell 0, l2.cell 1, l2.cell 2, l2.cell 3, l2.cell 4, l3.cell 0, l3.cell 1, l3.cell 2, l3.cell 3, l3.cell 4, l4.cell 0, l4.cell 1, l4.cell 2, l4.cell 3, l4.cell 4, hb⟩)
  have HB := Lib.hid (Below.refl wr10.heap.size wr10)
  have HEB : Hid (∀ W, Below wr10.heap.size wr10 W → Env B0 W ∧ B0 ≤ W.heap.size) := Lib.hid (fun W hb => ⟨HE.out W (HS6.out.base.trans (hb.mono HS6.out.base.size)), Nat.le_trans HB0.out (Nat.le_trans HS6.out.base.size hb.size)⟩)
  have HM1 : Hid (∀ W, Below wr10.heap.size wr10 W → EntAt W x1 ∧ x1.v.seen.length ≤ 1099511627776 ∧ x1.v.text.length ≤ 140737488351232) := Lib.hid (fun W hb => ⟨Sl.below HA1.out hb, exE_len HV1.out⟩)
  have HM2 : Hid (∀ W, Below wr10.heap.size wr10 W → EntAt W x2 ∧ x2.v.seen.length ≤ 1099511627776 ∧ x2.v.text.length ≤ 140737488351232) := Lib.hid (fun W hb => ⟨Sl.below HA2.out hb, exE_len HV2.out⟩)
  have HM3 : Hid (∀ W, Below wr10.heap.size wr10 W → EntAt W x3 ∧ x3.v.seen.length ≤ 1099511627776 ∧ x3.v.text.length ≤ 140737488351232) := Lib.hid (fun W hb => ⟨Sl.below HA3.out hb, exE_len HV3.out⟩)
  have HM4 : Hid (∀ W, Below wr10.heap.size wr10 W → EntAt W x4 ∧ x4.v.seen.length ≤ 1099511627776 ∧ x4.v.text.length ≤ 140737488351232) := Lib.hid (fun W hb => ⟨Sl.below HA4.out hb, exE_len HV4.out⟩)
  have HQ6 : Hid (∀ W, Below wr10.heap.size wr10 W → Calls Tryz.prog 14 #[.slice (some ⟨c6, 0, none⟩) 3 3] W (GivesE W [xC])) := Lib.hid (fun W hb => by
    have h := Order_any W (HEB.out _ hb).1 (HEB.out _ hb).2 (some ⟨c6, 0, none⟩) 3 3 ([x2, x3, x4] : List EntC) (HC6.out.below hb) (by omega)
    rw [HX6.out, o6] at h
    exact h)
  have HN6 : Hid (∀ W, Below wr10.heap.size wr10 W → Calls Tryz.prog 19 #[.slice (some ⟨c6, 0, none⟩) 3 3] W fun e w' => ∃ A' c', e = .returned (.slice A' ([(0, 0)] : List (Nat × Nat)).length c') ∧ Sl w' 2 A' ([(0, 0)] : List (Nat × Nat)).length (([(0, 0)] : List (Nat × Nat)).map refC) ∧ Below W.heap.size W w') := Lib.hid (fun W hb => Missing_any W (HEB.out _ hb).1 (HEB.out _ hb).2 (some ⟨c6, 0, none⟩) 3 3 ([x2, x3, x4] : List EntC) (HC6.out.below hb) (by omega) [(0, 0)] (by rw [HX6.out]; exact m6))
  have HP5 : Hid (∀ W, Below wr10.heap.size wr10 W → Calls Tryz.prog 12 #[.slice (some ⟨c5, 0, none⟩) 5 5, .int .i64 0] W (GivesE W [xA, xB])) := Lib.hid (fun W hb => by
    have h := Past_any W (HEB.out _ hb).1 (HEB.out _ hb).2 (some ⟨c5, 0, none⟩) 5 5 ([x4, x2, x1, x3, x1] : List EntC) (HC5.out.below hb) (by omega) 0
    rw [HX5.out, p5] at h
    exact h)
  refine wpTill.take (i := 0) (v := ?_) (by rfl) rfl (by kernel_rfl) (by kernel_rfl) (by kernel_rfl) (by exact fun _ _ _ h => h) (HSS.out _ HB.out) (fun _ => trivial) (Or.inl ⟨by rfl, ?_⟩) ?_
  rotate_left
  · (intro w' hSw; (try dsimp only at hSw); go_simp; (try with_reducible rfl))
  (try simp only [Act.put, List.setIfInBounds_toArray, List.set_cons_zero, List.set_cons_succ, List.getElem_toArray, List.getElem_cons_zero, List.getElem_cons_succ])
  refine wpTill.take (i := 2) (v := ?_) (by rfl) rfl (by kernel_rfl) (by kernel_rfl) (by kernel_rfl) (by exact fun _ _ _ h => h) (HSS.out _ HB.out) (fun _ => trivial) (Or.inl ⟨by rfl, ?_⟩) ?_
  rotate_left
  · (intro w' hSw; (try dsimp only at hSw); go_simp; (try with_reducible rfl))
  (try simp only [Act.put, List.setIfInBounds_toArray, List.set_cons_zero, List.set_cons_succ, List.getElem_toArray, List.getElem_cons_zero, List.getElem_cons_succ])
  refine wpTill.two (i := 1) (j := 3) (fun x y w' => (∃ A c l, x = .slice A 1 c ∧ ChAt w' A 1 l ∧ vsOf l = [xC]) ∧ (∃ g, y = .slice (some ⟨g, 0, none⟩) 1 1 ∧ ChAt w' (some ⟨g, 0, none⟩) 1 ([x3] : List EntC)) ∧ Below wr10.heap.size wr10 w') (by kernel_rfl) (by kernel_rfl) (by kernel_rfl) (by rfl) (by rfl) (by rfl) ?hi1 ?hj1 ?hr1
  case hi1 =>
    intro K1 K2 hK1 hK2
    replace hK1 := Lib.hid hK1
    replace hK2 := Lib.hid hK2
    go_simp
    go_at_call 14
    ((with_reducible refine (HQ6.out wr10 HB.out).mono ?_); rintro _ w5 ⟨A, c, l, rfl, hch, hvl, hb⟩)
    have HB5 := Lib.hid (HB.out.trans (hb.mono HB.out.size))
    refine hK1.out _ _ (HSS.out _ HB5.out) (fun _ => trivial) ?_
    (try simp only [Act.put, List.setIfInBounds_toArray, List.set_cons_zero, List.set_cons_succ, List.getElem_toArray, List.getElem_cons_zero, List.getElem_cons_succ])
    go_simp
    refine hK2.out _ _ (HSS.out _ (HB5.out.alloc HB5.out.size _)) (fun _ => trivial) ⟨.slice A 1 c, .slice (some ⟨w5.heap.size, 0, none⟩) 1 1, by first | rfl | (simp only [Act.put, List.setIfInBounds_toArray, List.set_cons_zero, List.set_cons_succ]), ⟨A, c, l, rfl, hch.below (below_alloc _ _), hvl⟩, ⟨w5.heap.size, rfl, (chAt_ents w5 ([x3] : List EntC) (by simp) (by simp only [List.mem_cons, List.not_mem_nil, or_false]; rintro x h; rcases h with rfl <;> first | exact HM1.out _ HB5.out | exact HM2.out _ HB5.out | exact HM3.out _ HB5.out | exact HM4.out _ HB5.out))⟩, HB5.out.alloc HB5.out.size _⟩
  case hj1 =>
    intro K1 K2 hK1 hK2
    replace hK1 := Lib.hid hK1
    replace hK2 := Lib.hid hK2
    go_simp
    refine hK1.out _ _ (HSS.out _ (HB.out.alloc HB.out.size _)) (fun _ => trivial) ?_
    (try simp only [Act.put, List.setIfInBounds_toArray, List.set_cons_zero, List.set_cons_succ, List.getElem_toArray, List.getElem_cons_zero, List.getElem_cons_succ])
    go_simp
    have HBL := Lib.hid (fun o => HB.out.alloc HB.out.size o)
    go_at_call 14
    ((with_reducible refine (HQ6.out _ (HBL.out _)).mono ?_); rintro _ w5 ⟨A, c, l, rfl, hch, hvl, hb⟩)
    have HB5 := Lib.hid ((HBL.out _).trans (hb.mono (HBL.out _).size))
    refine hK2.out _ _ (HSS.out _ HB5.out) (fun _ => trivial) ⟨.slice A 1 c, .slice (some ⟨wr10.heap.size, 0, none⟩) 1 1, by first | rfl | (simp only [Act.put, List.setIfInBounds_toArray, List.set_cons_zero, List.set_cons_succ]), ⟨A, c, l, rfl, hch, hvl⟩, ⟨wr10.heap.size, rfl, (chAt_ents wr10 ([x3] : List EntC) (by simp) (by simp only [List.mem_cons, List.not_mem_nil, or_false]; rintro x h; rcases h with rfl <;> first | exact HM1.out _ HB.out | exact HM2.out _ HB.out | exact HM3.out _ HB.out | exact HM4.out _ HB.out)).below hb⟩, HB5.out⟩
  case hr1 =>
  intro x y vwr10_9 hS _ hR
  clear hS
  obtain ⟨⟨A1, k1, m1, rfl, hch, hvl⟩, ⟨g1, rfl, hll⟩, hb⟩ := hR
  have HCH := Lib.hid hch
  have HVL := Lib.hid hvl
  have HLL := Lib.hid hll
  replace HB := Lib.hid hb
  clear hch hvl hll hb
  (try simp only [Act.put, List.setIfInBounds_toArray, List.set_cons_zero, List.set_cons_succ, List.getElem_toArray, List.getElem_cons_zero, List.getElem_cons_succ])
  refine wpTill.step (i := 4) (by kernel_rfl) (by rfl) (fun K' hK => ?_)
  replace hK := Lib.hid hK
  go_simp
  go_at_call 6
  ((with_reducible refine (SameChain_any vwr10_9 A1 (some ⟨g1, 0, none⟩) 1 k1 1 1 m1 ([x3] : List EntC) HCH.out HLL.out (by omega) true (by rw [HVL.out, HX3.out]; decide)).mono ?_); rintro _ vwr10_10 ⟨rfl, hb⟩)
  replace HB := Lib.hid (HB.out.trans (hb.mono HB.out.size))
  clear hb
  refine hK.out _ _ (HSS.out _ HB.out) (fun _ => trivial) ?_
  clear hK K'
  (try simp only [Act.put, List.setIfInBounds_toArray, List.set_cons_zero, List.set_cons_succ, List.getElem_toArray, List.getElem_cons_zero, List.getElem_cons_succ])
  refine wpTill.take (i := 5) (v := ?_) (by rfl) rfl (by kernel_rfl) (by kernel_rfl) (by kernel_rfl) (by exact fun _ _ _ h => h) (HSS.out _ HB.out) (fun _ => trivial) (Or.inl ⟨by rfl, ?_⟩) ?_
  rotate_left
  · (intro w' hSw; (try dsimp only at hSw); go_simp; (try with_reducible rfl))
  (try simp only [Act.put, List.setIfInBounds_toArray, List.set_cons_zero, List.set_cons_succ, List.getElem_toArray, List.getElem_cons_zero, List.getElem_cons_succ])
  refine wpTill.take (i := 6) (v := ?_) (by rfl) rfl (by kernel_rfl) (by kernel_rfl) (by kernel_rfl) (by exact fun _ _ _ h => h) (HSS.out _ HB.out) (fun _ => trivial) (Or.inl ⟨by rfl, ?_⟩) ?_
  rotate_left
  · (intro w' hSw; (try dsimp only at hSw); go_simp; (try with_reducible rfl))
  (try simp only [Act.put, List.setIfInBounds_toArray, List.set_cons_zero, List.set_cons_succ, List.getElem_toArray, List.getElem_cons_zero, List.getElem_cons_succ])
  refine wpTill.take (i := 8) (v := ?_) (by rfl) rfl (by kernel_rfl) (by kernel_rfl) (by kernel_rfl) (by exact fun _ _ _ h => h) (HSS.out _ HB.out) (fun _ => trivial) (Or.inl ⟨by rfl, ?_⟩) ?_
  rotate_left
  · (intro w' hSw; (try dsimp only at hSw); go_simp; (try with_reducible rfl))
  (try simp only [Act.put, List.setIfInBounds_toArray, List.set_cons_zero, List.set_cons_succ, List.getElem_toArray, List.getElem_cons_zero, List.getElem_cons_succ])
  refine wpTill.two (i := 7) (j := 9) (fun x y w' => (∃ A c, x = .slice A 1 c ∧ Sl w' 2 A 1 (([(0, 0)] : List (Nat × Nat)).map refC)) ∧ (∃ g, y = .slice (some ⟨g, 0, none⟩) 1 1 ∧ Sl w' 2 (some ⟨g, 0, none⟩) 1 (([(0, 0)] : List (Nat × Nat)).map refC)) ∧ Below wr10.heap.size wr10 w') (by kernel_rfl) (by kernel_rfl) (by kernel_rfl) (by rfl) (by rfl) (by rfl) ?hi7 ?hj7 ?hr7
  case hi7 =>
    intro K1 K2 hK1 hK2
    replace hK1 := Lib.hid hK1
    replace hK2 := Lib.hid hK2
    go_simp
    go_at_call 19
    ((with_reducible refine (HN6.out vwr10_10 HB.out).mono ?_); rintro _ w5 ⟨A, c, rfl, hch, hb⟩)
    have HB5 := Lib.hid (HB.out.trans (hb.mono HB.out.size))
    refine hK1.out _ _ (HSS.out _ HB5.out) (fun _ => trivial) ?_
    (try simp only [Act.put, List.setIfInBounds_toArray, List.set_cons_zero, List.set_cons_succ, List.getElem_toArray, List.getElem_cons_zero, List.getElem_cons_succ])
    go_simp
    refine hK2.out _ _ (HSS.out _ (HB5.out.alloc HB5.out.size _)) (fun _ => trivial) ⟨.slice A 1 c, .slice (some ⟨w5.heap.size, 0, none⟩) 1 1, by first | rfl | (simp only [Act.put, List.setIfInBounds_toArray, List.set_cons_zero, List.set_cons_succ]), ⟨A, c, rfl, hch.below (below_alloc _ _)⟩, ⟨w5.heap.size, rfl, (sl_refs w5 [(0, 0)] (by simp))⟩, HB5.out.alloc HB5.out.size _⟩
  case hj7 =>
    intro K1 K2 hK1 hK2
    replace hK1 := Lib.hid hK1
    replace hK2 := Lib.hid hK2
    go_simp
    refine hK1.out _ _ (HSS.out _ (HB.out.alloc HB.out.size _)) (fun _ => trivial) ?_
    (try simp only [Act.put, List.setIfInBounds_toArray, List.set_cons_zero, List.set_cons_succ, List.getElem_toArray, List.getElem_cons_zero, List.getElem_cons_succ])
    go_simp
    have HBL := Lib.hid (fun o => HB.out.alloc HB.out.size o)
    go_at_call 19
    ((with_reducible refine (HN6.out _ (HBL.out _)).mono ?_); rintro _ w5 ⟨A, c, rfl, hch, hb⟩)
    have HB5 := Lib.hid ((HBL.out _).trans (hb.mono (HBL.out _).size))
    refine hK2.out _ _ (HSS.out _ HB5.out) (fun _ => trivial) ⟨.slice A 1 c, .slice (some ⟨vwr10_10.heap.size, 0, none⟩) 1 1, by first | rfl | (simp only [Act.put, List.setIfInBounds_toArray, List.set_cons_zero, List.set_cons_succ]), ⟨A, c, rfl, hch⟩, ⟨vwr10_10.heap.size, rfl, (sl_refs vwr10_10 [(0, 0)] (by simp)).below hb⟩, HB5.out⟩
  case hr7 =>
  intro x y vwr10_11 hS _ hR
  clear hS
  obtain ⟨⟨A7, k7, rfl, hch⟩, ⟨g7, rfl, hll⟩, hb⟩ := hR
  have HCI := Lib.hid hch
  have HLI := Lib.hid hll
  replace HB := Lib.hid hb
  clear hch hll hb
  (try simp only [Act.put, List.setIfInBounds_toArray, List.set_cons_zero, List.set_cons_succ, List.getElem_toArray, List.getElem_cons_zero, List.getElem_cons_succ])
  refine wpTill.step (i := 10) (by kernel_rfl) (by rfl) (fun K' hK => ?_)
  replace hK := Lib.hid hK
  go_simp
  go_at_call 18
  ((with_reducible refine (SameRefs_any vwr10_11 A7 (some ⟨g7, 0, none⟩) 1 k7 1 1 [(0, 0)] [(0, 0)] HCI.out HLI.out (by omega) true (by decide)).mono ?_); rintro _ vwr10_12 ⟨rfl, hb⟩)
  replace HB := Lib.hid (HB.out.trans (hb.mono HB.out.size))
  clear hb
  refine hK.out _ _ (HSS.out _ HB.out) (fun _ => trivial) ?_
  clear hK K'
  (try simp only [Act.put, List.setIfInBounds_toArray, List.set_cons_zero, List.set_cons_succ, List.getElem_toArray, List.getElem_cons_zero, List.getElem_cons_succ])
  refine wpTill.take (i := 11) (v := ?_) (by rfl) rfl (by kernel_rfl) (by kernel_rfl) (by kernel_rfl) (by exact fun _ _ _ h => h) (HSS.out _ HB.out) (fun _ => trivial) (Or.inl ⟨by rfl, ?_⟩) ?_
  rotate_left
  · (intro w' hSw; (try dsimp only at hSw); go_simp; (try with_reducible rfl))
  (try simp only [Act.put, List.setIfInBounds_toArray, List.set_cons_zero, List.set_cons_succ, List.getElem_toArray, List.getElem_cons_zero, List.getElem_cons_succ])
  refine wpTill.take (i := 12) (v := ?_) (by rfl) rfl (by kernel_rfl) (by kernel_rfl) (by kernel_rfl) (by exact fun _ _ _ h => h) (HSS.out _ HB.out) (fun _ => trivial) (Or.inl ⟨by rfl, ?_⟩) ?_
  rotate_left
  · (intro w' hSw; (try dsimp only at hSw); go_simp; (try with_reducible rfl))
  (try simp only [Act.put, List.setIfInBounds_toArray, List.set_cons_zero, List.set_cons_succ, List.getElem_toArray, List.getElem_cons_zero, List.getElem_cons_succ])
  refine wpTill.take (i := 13) (v := ?_) (by rfl) rfl (by kernel_rfl) (by kernel_rfl) (by kernel_rfl) (by exact fun _ _ _ h => h) (HSS.out _ HB.out) (fun _ => trivial) (Or.inl ⟨by rfl, ?_⟩) ?_
  rotate_left
  · (intro w' hSw; (try dsimp only at hSw); go_simp; (try with_reducible rfl))
  (try simp only [Act.put, List.setIfInBounds_toArray, List.set_cons_zero, List.set_cons_succ, List.getElem_toArray, List.getElem_cons_zero, List.getElem_cons_succ])
  refine wpTill.take (i := 15) (v := ?_) (by rfl) rfl (by kernel_rfl) (by kernel_rfl) (by kernel_rfl) (by exact fun _ _ _ h => h) (HSS.out _ HB.out) (fun _ => trivial) (Or.inl ⟨by rfl, ?_⟩) ?_
  rotate_left
  · (intro w' hSw; (try dsimp only at hSw); go_simp; (try with_reducible rfl))
  (try simp only [Act.put, List.setIfInBounds_toArray, List.set_cons_zero, List.set_cons_succ, List.getElem_toArray, List.getElem_cons_zero, List.getElem_cons_succ])
  refine wpTill.take (i := 16) (v := ?_) (by rfl) rfl (by kernel_rfl) (by kernel_rfl) (by kernel_rfl) (by exact fun _ _ _ h => h) (HSS.out _ HB.out) (fun _ => trivial) (Or.inl ⟨by rfl, ?_⟩) ?_
  rotate_left
  · (intro w' hSw; (try dsimp only at hSw); go_simp; (try with_reducible rfl))
  (try simp only [Act.put, List.setIfInBounds_toArray, List.set_cons_zero, List.set_cons_succ, List.getElem_toArray, List.getElem_cons_zero, List.getElem_cons_succ])
  refine wpTill.two (i := 14) (j := 17) (fun x y w' => (∃ A c l, x = .slice A 2 c ∧ ChAt w' A 2 l ∧ vsOf l = [xA, xB]) ∧ (∃ g, y = .slice (some ⟨g, 0, none⟩) 2 2 ∧ ChAt w' (some ⟨g, 0, none⟩) 2 ([x1, x2] : List EntC)) ∧ Below wr10.heap.size wr10 w') (by kernel_rfl) (by kernel_rfl) (by kernel_rfl) (by rfl) (by rfl) (by rfl) ?hi14 ?hj14 ?hr14
  case hi14 =>
    intro K1 K2 hK1 hK2
    replace hK1 := Lib.hid hK1
    replace hK2 := Lib.hid hK2
    go_simp
    go_at_call 12
    ((with_reducible refine (HP5.out vwr10_12 HB.out).mono ?_); rintro _ w5 ⟨A, c, l, rfl, hch, hvl, hb⟩)
    have HB5 := Lib.hid (HB.out.trans (hb.mono HB.out.size))
    refine hK1.out _ _ (HSS.out _ HB5.out) (fun _ => trivial) ?_
    (try simp only [Act.put, List.setIfInBounds_toArray, List.set_cons_zero, List.set_cons_succ, List.getElem_toArray, List.getElem_cons_zero, List.getElem_cons_succ])
    go_simp
    refine hK2.out _ _ (HSS.out _ (HB5.out.alloc HB5.out.size _)) (fun _ => trivial) ⟨.slice A 2 c, .slice (some ⟨w5.heap.size, 0, none⟩) 2 2, by first | rfl | (simp only [Act.put, List.setIfInBounds_toArray, List.set_cons_zero, List.set_cons_succ]), ⟨A, c, l, rfl, hch.below (below_alloc _ _), hvl⟩, ⟨w5.heap.size, rfl, (chAt_ents w5 ([x1, x2] : List EntC) (by simp) (by simp only [List.mem_cons, List.not_mem_nil, or_false]; rintro x h; rcases h with rfl | rfl <;> first | exact HM1.out _ HB5.out | exact HM2.out _ HB5.out | exact HM3.out _ HB5.out | exact HM4.out _ HB5.out))⟩, HB5.out.alloc HB5.out.size _⟩
  case hj14 =>
    intro K1 K2 hK1 hK2
    replace hK1 := Lib.hid hK1
    replace hK2 := Lib.hid hK2
    go_simp
    refine hK1.out _ _ (HSS.out _ (HB.out.alloc HB.out.size _)) (fun _ => trivial) ?_
    (try simp only [Act.put, List.setIfInBounds_toArray, List.set_cons_zero, List.set_cons_succ, List.getElem_toArray, List.getElem_cons_zero, List.getElem_cons_succ])
    go_simp
    have HBL := Lib.hid (fun o => HB.out.alloc HB.out.size o)
    go_at_call 12
    ((with_reducible refine (HP5.out _ (HBL.out _)).mono ?_); rintro _ w5 ⟨A, c, l, rfl, hch, hvl, hb⟩)
    have HB5 := Lib.hid ((HBL.out _).trans (hb.mono (HBL.out _).size))
    refine hK2.out _ _ (HSS.out _ HB5.out) (fun _ => trivial) ⟨.slice A 2 c, .slice (some ⟨vwr10_12.heap.size, 0, none⟩) 2 2, by first | rfl | (simp only [Act.put, List.setIfInBounds_toArray, List.set_cons_zero, List.set_cons_succ]), ⟨A, c, l, rfl, hch, hvl⟩, ⟨vwr10_12.heap.size, rfl, (chAt_ents vwr10_12 ([x1, x2] : List EntC) (by simp) (by simp only [List.mem_cons, List.not_mem_nil, or_false]; rintro x h; rcases h with rfl | rfl <;> first | exact HM1.out _ HB.out | exact HM2.out _ HB.out | exact HM3.out _ HB.out | exact HM4.out _ HB.out)).below hb⟩, HB5.out⟩
  case hr14 =>
  intro x y vwr10_13 hS _ hR
  clear hS
  obtain ⟨⟨A14, k14, m14, rfl, hch, hvl⟩, ⟨g14, rfl, hll⟩, hb⟩ := hR
  replace HCH := Lib.hid hch
  replace HVL := Lib.hid hvl
  replace HLL := Lib.hid hll
  replace HB := Lib.hid hb
  clear hch hvl hll hb
  (try simp only [Act.put, List.setIfInBounds_toArray, List.set_cons_zero, List.set_cons_succ, List.getElem_toArray, List.getElem_cons_zero, List.getElem_cons_succ])
  refine wpTill.step (i := 18) (by kernel_rfl) (by rfl) (fun K' hK => ?_)
  replace hK := Lib.hid hK
  go_simp
  go_at_call 6
  ((with_reducible refine (SameChain_any vwr10_13 A14 (some ⟨g14, 0, none⟩) 2 k14 2 2 m14 ([x1, x2] : List EntC) HCH.out HLL.out (by omega) true (by rw [HVL.out, HX12.out]; decide)).mono ?_); rintro _ vwr10_14 ⟨rfl, hb⟩)
  replace HB := Lib.hid (HB.out.trans (hb.mono HB.out.size))
  clear hb
  refine hK.out _ _ (HSS.out _ HB.out) (fun _ => trivial) ?_
  clear hK K'
  (try simp only [Act.put, List.setIfInBounds_toArray, List.set_cons_zero, List.set_cons_succ, List.getElem_toArray, List.getElem_cons_zero, List.getElem_cons_succ])
  refine wpTill.take (i := 19) (v := ?_) (by rfl) rfl (by kernel_rfl) (by kernel_rfl) (by kernel_rfl) (by exact fun _ _ _ h => h) (HSS.out _ HB.out) (fun _ => trivial) (Or.inl ⟨by rfl, ?_⟩) ?_
  rotate_left
  · (intro w' hSw; (try dsimp only at hSw); go_simp; (try with_reducible rfl))
  (try simp only [Act.put, List.setIfInBounds_toArray, List.set_cons_zero, List.set_cons_succ, List.getElem_toArray, List.getElem_cons_zero, List.getElem_cons_succ])
  refine wpTill.take (i := 20) (v := ?_) (by rfl) rfl (by kernel_rfl) (by kernel_rfl) (by kernel_rfl) (by exact fun _ _ _ h => h) (HSS.out _ HB.out) (fun _ => trivial) (Or.inl ⟨by rfl, ?_⟩) ?_
  rotate_left
  · (intro w' hSw; (try dsimp only at hSw); go_simp; (try with_reducible rfl))
  (try simp only [Act.put, List.setIfInBounds_toArray, List.set_cons_zero, List.set_cons_succ, List.getElem_toArray, List.getElem_cons_zero, List.getElem_cons_succ])
  refine wpTill.stop (by kernel_rfl) ?_ _
  replace HC5 := Lib.hid (HC5.out.below HB.out)
  replace HC6 := Lib.hid (HC6.out.below HB.out)
  replace HC7 := Lib.hid (HC7.out.below HB.out)
  replace HS6 := Lib.hid (HS6.out.below HB.out)
  replace HA1 : Hid (EntAt vwr10_14 x1) := Lib.hid (Sl.below HA1.out HB.out)
  replace HA2 : Hid (EntAt vwr10_14 x2) := Lib.hid (Sl.below HA2.out HB.out)
  replace HA3 : Hid (EntAt vwr10_14 x3) := Lib.hid (Sl.below HA3.out HB.out)
  replace HA4 : Hid (EntAt vwr10_14 x4) := Lib.hid (Sl.below HA4.out HB.out)
  clear HB HSS HEB HM1 HM2 HM3 HM4 HQ6 HN6 HP5 HCH HVL HLL HCI HLI
  go_upto_region 11 with (fail)
  refine wpTill.startN 25 (S := fun w' => w'.cell? ⟨b1, 0, none⟩ = some (.int .i64 x1.v.dev) ∧ w'.cell? ⟨b1, 1, none⟩ = some (.int .i64 x1.v.no) ∧ w'.cell? ⟨b1, 2, none⟩ = some (.int .i64 x1.v.day) ∧ w'.cell? ⟨b1, 3, none⟩ = some (.slice x1.A x1.v.seen.length x1.c) ∧ w'.cell? ⟨b1, 4, none⟩ = some (.string ⟨x1.v.text.toArray⟩) ∧ w'.cell? ⟨b2, 0, none⟩ = some (.int .i64 x2.v.dev) ∧ w'.cell? ⟨b2, 1, none⟩ = some (.int .i64 x2.v.no) ∧ w'.cell? ⟨b2, 2, none⟩ = some (.int .i64 x2.v.day) ∧ w'.cell? ⟨b2, 3, none⟩ = some (.slice x2.A x2.v.seen.length x2.c) ∧ w'.cell? ⟨b2, 4, none⟩ = some (.string ⟨x2.v.text.toArray⟩) ∧ w'.cell? ⟨b3, 0, none⟩ = some (.int .i64 x3.v.dev) ∧ w'.cell? ⟨b3, 1, none⟩ = some (.int .i64 x3.v.no) ∧ w'.cell? ⟨b3, 2, none⟩ = some (.int .i64 x3.v.day) ∧ w'.cell? ⟨b3, 3, none⟩ = some (.slice x3.A x3.v.seen.length x3.c) ∧ w'.cell? ⟨b3, 4, none⟩ = some (.string ⟨x3.v.text.toArray⟩) ∧ w'.cell? ⟨b4, 0, none⟩ = some (.int .i64 x4.v.dev) ∧ w'.cell? ⟨b4, 1, none⟩ = some (.int .i64 x4.v.no) ∧ w'.cell? ⟨b4, 2, none⟩ = some (.int .i64 x4.v.day) ∧ w'.cell? ⟨b4, 3, none⟩ = some (.slice x4.A x4.v.seen.length x4.c) ∧ w'.cell? ⟨b4, 4, none⟩ = some (.string ⟨x4.v.text.toArray⟩) ∧ Below vwr10_14.drew.heap.size vwr10_14.drew w') (T := fun _ => True) (m := 300) rfl (by kernel_rfl) ?_
  replace HC5 := Lib.hid (HC5.out.below (Below.refl _ _).drew)
  replace HC6 := Lib.hid (HC6.out.below (Below.refl _ _).drew)
  replace HC7 := Lib.hid (HC7.out.below (Below.refl _ _).drew)
  replace HS6 := Lib.hid HS6.out.drew
  replace HA1 : Hid (EntAt vwr10_14.drew x1) := Lib.hid (Sl.drew HA1.out)
  replace HA2 : Hid (EntAt vwr10_14.drew x2) := Lib.hid (Sl.drew HA2.out)
  replace HA3 : Hid (EntAt vwr10_14.drew x3) := Lib.hid (Sl.drew HA3.out)
  replace HA4 : Hid (EntAt vwr10_14.drew x4) := Lib.hid (Sl.drew HA4.out)
  generalize vwr10_14.drew = wr11 at *
  have HSS : Hid (∀ w', Below wr11.heap.size wr11 w' → (w'.cell? ⟨b1, 0, none⟩ = some (.int .i64 x1.v.dev) ∧ w'.cell? ⟨b1, 1, none⟩ = some (.int .i64 x1.v.no) ∧ w'.cell? ⟨b1, 2, none⟩ = some (.int .i64 x1.v.day) ∧ w'.cell? ⟨b1, 3, none⟩ = some (.slice x1.A x1.v.seen.length x1.c) ∧ w'.cell? ⟨b1, 4, none⟩ = some (.string ⟨x1.v.text.toArray⟩) ∧ w'.cell? ⟨b2, 0, none⟩ = some (.int .i64 x2.v.dev) ∧ w'.cell? ⟨b2, 1, none⟩ = some (.int .i64 x2.v.no) ∧ w'.cell? ⟨b2, 2, none⟩ = some (.int .i64 x2.v.day) ∧ w'.cell? ⟨b2, 3, none⟩ = some (.slice x2.A x2.v.seen.length x2.c) ∧ w'.cell? ⟨b2, 4, none⟩ = some (.string ⟨x2.v.text.toArray⟩) ∧ w'.cell? ⟨b3, 0, none⟩ = some (.int .i64 x3.v.dev) ∧ w'.cell? ⟨b3, 1, none⟩ = some (.int .i64 x3.v.no) ∧ w'.cell? ⟨b3, 2, none⟩ = some (.int .i64 x3.v.day) ∧ w'.cell? ⟨b3, 3, none⟩ = some (.slice x3.A x3.v.seen.length x3.c) ∧ w'.cell? ⟨b3, 4, none⟩ = some (.string ⟨x3.v.text.toArray⟩) ∧ w'.cell? ⟨b4, 0, none⟩ = some (.int .i64 x4.v.dev) ∧ w'.cell? ⟨b4, 1, none⟩ = some (.int .i64 x4.v.no) ∧ w'.cell? ⟨b4, 2, none⟩ = some (.int .i64 x4.v.day) ∧ w'.cell? ⟨b4, 3, none⟩ = some (.slice x4.A x4.v.seen.length x4.c) ∧ w'.cell? ⟨b4, 4, none⟩ = some (.string ⟨x4.v.text.toArray⟩) ∧ Below wr11.heap.size wr11 w')) := Lib.hid (fun w' hb => by
    have l4 := (HS6.out.loc).below hb
    have l3 := (HS6.out.drop.loc).below hb
    have l2 := (HS6.out.drop.drop.loc).below hb
    have l1 := (HS6.out.drop.drop.drop.loc).below hb
    exact ⟨l1.cell 0, l1.cell 1, l1.cell 2, l1.cell 3, l1.cell 4, l2.cell 0, l2.cell 1, l2.cell 2, l2.cell 3, l2.cell 4, l3.cell 0, l3.cell 1, l3.cell 2, l3.cell 3, l3.cell 4, l4.cell 0, l4.cell 1, l4.cell 2, l4.cell 3, l4.cell 4, hb⟩)
  have HB := Lib.hid (Below.refl wr11.heap.size wr11)
  have HEB : Hid (∀ W, Below wr11.heap.size wr11 W → Env B0 W ∧ B0 ≤ W.heap.size) := Lib.hid (fun W hb => ⟨HE.out W (HS6.out.base.trans (hb.mono HS6.out.base.size)), Nat.le_trans HB0.out (Nat.le_trans HS6.out.base.size hb.size)⟩)
  have HM1 : Hid (∀ W, Below wr11.heap.size wr11 W → EntAt W x1 ∧ x1.v.seen.length ≤ 1099511627776 ∧ x1.v.text.length ≤ 140737488351232) := Lib.hid (fun W hb => ⟨Sl.below HA1.out hb, exE_len HV1.out⟩)
  have HM2 : Hid (∀ W, Below wr11.heap.size wr11 W → EntAt W x2 ∧ x2.v.seen.length ≤ 1099511627776 ∧ x2.v.text.length ≤ 140737488351232) := Lib.hid (fun W hb => ⟨Sl.below HA2.out hb, exE_len HV2.out⟩)
  have HM3 : Hid (∀ W, Below wr11.heap.size wr11 W → EntAt W x3 ∧ x3.v.seen.length ≤ 1099511627776 ∧ x3.v.text.length ≤ 140737488351232) := Lib.hid (fun W hb => ⟨Sl.below HA3.out hb, exE_len HV3.out⟩)
  have HM4 : Hid (∀ W, Below wr11.heap.size wr11 W → EntAt W x4 ∧ x4.v.seen.length ≤ 1099511627776 ∧ x4.v.text.length ≤ 140737488351232) := Lib.hid (fun W hb => ⟨Sl.below HA4.out hb, exE_len HV4.out⟩)
  have HQ7 : Hid (∀ W, Below wr11.heap.size wr11 W → Calls Tryz.prog 14 #[.slice (some ⟨c7, 0, none⟩) 5 5] W (GivesE W [xC, xD])) := Lib.hid (fun W hb => by
    have h := Order_any W (HEB.out _ hb).1 (HEB.out _ hb).2 (some ⟨c7, 0, none⟩) 5 5 ([x1, x2, x3, x4, x5] : List EntC) (HC7.out.below hb) (by omega)
    rw [HX7.out, o7] at h
    exact h)
  have HF7 : Hid (∀ W, Below wr11.heap.size wr11 W → Calls Tryz.prog 10 #[.slice (some ⟨c7, 0, none⟩) 5 5] W (GivesI W ([0] : List Int))) := Lib.hid (fun W hb => Forks_any W (HEB.out _ hb).1 (HEB.out _ hb).2 (some ⟨c7, 0, none⟩) 5 5 ([x1, x2, x3, x4, x5] : List EntC) (HC7.out.below hb) (by omega) ([0] : List Int) (by rw [HX7.out]; exact f7))
  have HP7 : Hid (∀ W, Below wr11.heap.size wr11 W → Calls Tryz.prog 12 #[.slice (some ⟨c7, 0, none⟩) 5 5, .int .i64 0] W (GivesE W [])) := Lib.hid (fun W hb => by
    have h := Past_any W (HEB.out _ hb).1 (HEB.out _ hb).2 (some ⟨c7, 0, none⟩) 5 5 ([x1, x2, x3, x4, x5] : List EntC) (HC7.out.below hb) (by omega) 0
    rw [HX7.out, p7] at h
    exact h)
  refine wpTill.take (i := 0) (v := ?_) (by rfl) rfl (by kernel_rfl) (by kernel_rfl) (by kernel_rfl) (by exact fun _ _ _ h => h) (HSS.out _ HB.out) (fun _ => trivial) (Or.inl ⟨by rfl, ?_⟩) ?_
  rotate_left
  · (intro w' hSw; (try dsimp only at hSw); go_simp; (try with_reducible rfl))
  (try simp only [Act.put, List.setIfInBounds_toArray, List.set_cons_zero, List.set_cons_succ, List.getElem_toArray, List.getElem_cons_zero, List.getElem_cons_succ])
  refine wpTill.take (i := 1) (v := ?_) (by rfl) rfl (by kernel_rfl) (by kernel_rfl) (by kernel_rfl) (by exact fun _ _ _ h => h) (HSS.out _ HB.out) (fun _ => trivial) (Or.inl ⟨by rfl, ?_⟩) ?_
  rotate_left
  · (intro w' hSw; (try dsimp only at hSw); go_simp; (try with_reducible rfl))
  (try simp only [Act.put, List.setIfInBounds_toArray, List.set_cons_zero, List.set_cons_succ, List.getElem_toArray, List.getElem_cons_zero, List.getElem_cons_succ])
  refine wpTill.take (i := 2) (v := ?_) (by rfl) rfl (by kernel_rfl) (by kernel_rfl) (by kernel_rfl) (by exact fun _ _ _ h => h) (HSS.out _ HB.out) (fun _ => trivial) (Or.inl ⟨by rfl, ?_⟩) ?_
  rotate_left
  · (intro w' hSw; (try dsimp only at hSw); go_simp; (try with_reducible rfl))
  (try simp only [Act.put, List.setIfInBounds_toArray, List.set_cons_zero, List.set_cons_succ, List.getElem_toArray, List.getElem_cons_zero, List.getElem_cons_succ])
  refine wpTill.take (i := 3) (v := ?_) (by rfl) rfl (by kernel_rfl) (by kernel_rfl) (by kernel_rfl) (by exact fun _ _ _ h => h) (HSS.out _ HB.out) (fun _ => trivial) (Or.inl ⟨by rfl, ?_⟩) ?_
  rotate_left
  · (intro w' hSw; (try dsimp only at hSw); go_simp; (try with_reducible rfl))
  (try simp only [Act.put, List.setIfInBounds_toArray, List.set_cons_zero, List.set_cons_succ, List.getElem_toArray, List.getElem_cons_zero, List.getElem_cons_succ])
  refine wpTill.take (i := 4) (v := ?_) (by rfl) rfl (by kernel_rfl) (by kernel_rfl) (by kernel_rfl) (by exact fun _ _ _ h => h) (HSS.out _ HB.out) (fun _ => trivial) (Or.inl ⟨by rfl, ?_⟩) ?_
  rotate_left
  · (intro w' hSw; (try dsimp only at hSw); go_simp; (try with_reducible rfl))
  (try simp only [Act.put, List.setIfInBounds_toArray, List.set_cons_zero, List.set_cons_succ, List.getElem_toArray, List.getElem_cons_zero, List.getElem_cons_succ])
  refine wpTill.take (i := 5) (v := ?_) (by rfl) rfl (by kernel_rfl) (by kernel_rfl) (by kernel_rfl) (by exact fun _ _ _ h => h) (HSS.out _ HB.out) (fun _ => trivial) (Or.inl ⟨by rfl, ?_⟩) ?_
  rotate_left
  · (intro w' hSw; (try dsimp only at hSw); go_simp; (try with_reducible rfl))
  (try simp only [Act.put, List.setIfInBounds_toArray, List.set_cons_zero, List.set_cons_succ, List.getElem_toArray, List.getElem_cons_zero, List.getElem_cons_succ])
  refine wpTill.take (i := 7) (v := ?_) (by rfl) rfl (by kernel_rfl) (by kernel_rfl) (by kernel_rfl) (by exact fun _ _ _ h => h) (HSS.out _ HB.out) (fun _ => trivial) (Or.inl ⟨by rfl, ?_⟩) ?_
  rotate_left
  · (intro w' hSw; (try dsimp only at hSw); go_simp; (try with_reducible rfl))
  (try simp only [Act.put, List.setIfInBounds_toArray, List.set_cons_zero, List.set_cons_succ, List.getElem_toArray, List.getElem_cons_zero, List.getElem_cons_succ])
  refine wpTill.take (i := 8) (v := ?_) (by rfl) rfl (by kernel_rfl) (by kernel_rfl) (by kernel_rfl) (by exact fun _ _ _ h => h) (HSS.out _ HB.out) (fun _ => trivial) (Or.inl ⟨by rfl, ?_⟩) ?_
  rotate_left
  · (intro w' hSw; (try dsimp only at hSw); go_simp; (try with_reducible rfl))
  (try simp only [Act.put, List.setIfInBounds_toArray, List.set_cons_zero, List.set_cons_succ, List.getElem_toArray, List.getElem_cons_zero, List.getElem_cons_succ])
  refine wpTill.two (i := 6) (j := 9) (fun x y w' => (∃ A c l, x = .slice A 2 c ∧ ChAt w' A 2 l ∧ vsOf l = [xC, xD]) ∧ (∃ g, y = .slice (some ⟨g, 0, none⟩) 2 2 ∧ ChAt w' (some ⟨g, 0, none⟩) 2 ([x3, x4] : List EntC)) ∧ Below wr11.heap.size wr11 w') (by kernel_rfl) (by kernel_rfl) (by kernel_rfl) (by rfl) (by rfl) (by rfl) ?hi6 ?hj6 ?hr6
  case hi6 =>
    intro K1 K2 hK1 hK2
    replace hK1 := Lib.hid hK1
    replace hK2 := Lib.hid hK2
    go_simp
    go_at_call 14
    ((with_reducible refine (HQ7.out wr11 HB.out).mono ?_); rintro _ w5 ⟨A, c, l, rfl, hch, hvl, hb⟩)
    have HB5 := Lib.hid (HB.out.trans (hb.mono HB.out.size))
    refine hK1.out _ _ (HSS.out _ HB5.out) (fun _ => trivial) ?_
    (try simp only [Act.put, List.setIfInBounds_toArray, List.set_cons_zero, List.set_cons_succ, List.getElem_toArray, List.getElem_cons_zero, List.getElem_cons_succ])
    go_simp
    refine hK2.out _ _ (HSS.out _ (HB5.out.alloc HB5.out.size _)) (fun _ => trivial) ⟨.slice A 2 c, .slice (some ⟨w5.heap.size, 0, none⟩) 2 2, by first | rfl | (simp only [Act.put, List.setIfInBounds_toArray, List.set_cons_zero, List.set_cons_succ]), ⟨A, c, l, rfl, hch.below (below_alloc _ _), hvl⟩, ⟨w5.heap.size, rfl, (chAt_ents w5 ([x3, x4] : List EntC) (by simp) (by simp only [List.mem_cons, List.not_mem_nil, or_false]; rintro x h; rcases h with rfl | rfl <;> first | exact HM1.out _ HB5.out | exact HM2.out _ HB5.out | exact HM3.out _ HB5.out | exact HM4.out _ HB5.out))⟩, HB5.out.alloc HB5.out.size _⟩
  case hj6 =>
    intro K1 K2 hK1 hK2
    replace hK1 := Lib.hid hK1
    replace hK2 := Lib.hid hK2
    go_simp
    refine hK1.out _ _ (HSS.out _ (HB.out.alloc HB.out.size _)) (fun _ => trivial) ?_
    (try simp only [Act.put, List.setIfInBounds_toArray, List.set_cons_zero, List.set_cons_succ, List.getElem_toArray, List.getElem_cons_zero, List.getElem_cons_succ])
    go_simp
    have HBL := Lib.hid (fun o => HB.out.alloc HB.out.size o)
    go_at_call 14
    ((with_reducible refine (HQ7.out _ (HBL.out _)).mono ?_); rintro _ w5 ⟨A, c, l, rfl, hch, hvl, hb⟩)
    have HB5 := Lib.hid ((HBL.out _).trans (hb.mono (HBL.out _).size))
    refine hK2.out _ _ (HSS.out _ HB5.out) (fun _ => trivial) ⟨.slice A 2 c, .slice (some ⟨wr11.heap.size, 0, none⟩) 2 2, by first | rfl | (simp only [Act.put, List.setIfInBounds_toArray, List.set_cons_zero, List.set_cons_succ]), ⟨A, c, l, rfl, hch, hvl⟩, ⟨wr11.heap.size, rfl, (chAt_ents wr11 ([x3, x4] : List EntC) (by simp) (by simp only [List.mem_cons, List.not_mem_nil, or_false]; rintro x h; rcases h with rfl | rfl <;> first | exact HM1.out _ HB.out | exact HM2.out _ HB.out | exact HM3.out _ HB.out | exact HM4.out _ HB.out)).below hb⟩, HB5.out⟩
  case hr6 =>
  intro x y vwr11_15 hS _ hR
  clear hS
  obtain ⟨⟨A6, k6, m6, rfl, hch, hvl⟩, ⟨g6, rfl, hll⟩, hb⟩ := hR
  have HCH := Lib.hid hch
  have HVL := Lib.hid hvl
  have HLL := Lib.hid hll
  replace HB := Lib.hid hb
  clear hch hvl hll hb
  (try simp only [Act.put, List.setIfInBounds_toArray, List.set_cons_zero, List.set_cons_succ, List.getElem_toArray, List.getElem_cons_zero, List.getElem_cons_succ])
  refine wpTill.step (i := 10) (by kernel_rfl) (by rfl) (fun K' hK => ?_)
  replace hK := Lib.hid hK
  go_simp
  go_at_call 6
  ((with_reducible refine (SameChain_any vwr11_15 A6 (some ⟨g6, 0, none⟩) 2 k6 2 2 m6 ([x3, x4] : List EntC) HCH.out HLL.out (by omega) true (by rw [HVL.out, HX34.out]; decide)).mono ?_); rintro _ vwr11_16 ⟨rfl, hb⟩)
  replace HB := Lib.hid (HB.out.trans (hb.mono HB.out.size))
  clear hb
  refine hK.out _ _ (HSS.out _ HB.out) (fun _ => trivial) ?_
  clear hK K'
  (try simp only [Act.put, List.setIfInBounds_toArray, List.set_cons_zero, List.set_cons_succ, List.getElem_toArray, List.getElem_cons_zero, List.getElem_cons_succ])
  refine wpTill.take (i := 11) (v := ?_) (by rfl) rfl (by kernel_rfl) (by kernel_rfl) (by kernel_rfl) (by exact fun _ _ _ h => h) (HSS.out _ HB.out) (fun _ => trivial) (Or.inl ⟨by rfl, ?_⟩) ?_
  rotate_left
  · (intro w' hSw; (try dsimp only at hSw); go_simp; (try with_reducible rfl))
  (try simp only [Act.put, List.setIfInBounds_toArray, List.set_cons_zero, List.set_cons_succ, List.getElem_toArray, List.getElem_cons_zero, List.getElem_cons_succ])
  refine wpTill.take (i := 12) (v := ?_) (by rfl) rfl (by kernel_rfl) (by kernel_rfl) (by kernel_rfl) (by exact fun _ _ _ h => h) (HSS.out _ HB.out) (fun _ => trivial) (Or.inl ⟨by rfl, ?_⟩) ?_
  rotate_left
  · (intro w' hSw; (try dsimp only at hSw); go_simp; (try with_reducible rfl))
  (try simp only [Act.put, List.setIfInBounds_toArray, List.set_cons_zero, List.set_cons_succ, List.getElem_toArray, List.getElem_cons_zero, List.getElem_cons_succ])
  refine wpTill.take (i := 13) (v := ?_) (by rfl) rfl (by kernel_rfl) (by kernel_rfl) (by kernel_rfl) (by exact fun _ _ _ h => h) (HSS.out _ HB.out) (fun _ => trivial) (Or.inl ⟨by rfl, ?_⟩) ?_
  rotate_left
  · (intro w' hSw; (try dsimp only at hSw); go_simp; (try with_reducible rfl))
  (try simp only [Act.put, List.setIfInBounds_toArray, List.set_cons_zero, List.set_cons_succ, List.getElem_toArray, List.getElem_cons_zero, List.getElem_cons_succ])
  refine wpTill.two (i := 14) (j := 15) (fun x y w' => (∃ A c, x = .slice A 1 c ∧ Sl w' 1 A 1 (([0] : List Int).map intC)) ∧ (∃ g, y = .slice (some ⟨g, 0, none⟩) 1 1 ∧ Sl w' 1 (some ⟨g, 0, none⟩) 1 (([0] : List Int).map intC)) ∧ Below wr11.heap.size wr11 w') (by kernel_rfl) (by kernel_rfl) (by kernel_rfl) (by rfl) (by rfl) (by rfl) ?hi14 ?hj14 ?hr14
  case hi14 =>
    intro K1 K2 hK1 hK2
    replace hK1 := Lib.hid hK1
    replace hK2 := Lib.hid hK2
    go_simp
    go_at_call 10
    ((with_reducible refine (HF7.out vwr11_16 HB.out).mono ?_); rintro _ w5 ⟨A, c, rfl, hch, hb⟩)
    have HB5 := Lib.hid (HB.out.trans (hb.mono HB.out.size))
    refine hK1.out _ _ (HSS.out _ HB5.out) (fun _ => trivial) ?_
    (try simp only [Act.put, List.setIfInBounds_toArray, List.set_cons_zero, List.set_cons_succ, List.getElem_toArray, List.getElem_cons_zero, List.getElem_cons_succ])
    go_simp
    refine hK2.out _ _ (HSS.out _ (HB5.out.alloc HB5.out.size _)) (fun _ => trivial) ⟨.slice A 1 c, .slice (some ⟨w5.heap.size, 0, none⟩) 1 1, by first | rfl | (simp only [Act.put, List.setIfInBounds_toArray, List.set_cons_zero, List.set_cons_succ]), ⟨A, c, rfl, hch.sl'.below (below_alloc _ _)⟩, ⟨w5.heap.size, rfl, (sl_ints w5 [0] (by simp))⟩, HB5.out.alloc HB5.out.size _⟩
  case hj14 =>
    intro K1 K2 hK1 hK2
    replace hK1 := Lib.hid hK1
    replace hK2 := Lib.hid hK2
    go_simp
    refine hK1.out _ _ (HSS.out _ (HB.out.alloc HB.out.size _)) (fun _ => trivial) ?_
    (try simp only [Act.put, List.setIfInBounds_toArray, List.set_cons_zero, List.set_cons_succ, List.getElem_toArray, List.getElem_cons_zero, List.getElem_cons_succ])
    go_simp
    have HBL := Lib.hid (fun o => HB.out.alloc HB.out.size o)
    go_at_call 10
    ((with_reducible refine (HF7.out _ (HBL.out _)).mono ?_); rintro _ w5 ⟨A, c, rfl, hch, hb⟩)
    have HB5 := Lib.hid ((HBL.out _).trans (hb.mono (HBL.out _).size))
    refine hK2.out _ _ (HSS.out _ HB5.out) (fun _ => trivial) ⟨.slice A 1 c, .slice (some ⟨vwr11_16.heap.size, 0, none⟩) 1 1, by first | rfl | (simp only [Act.put, List.setIfInBounds_toArray, List.set_cons_zero, List.set_cons_succ]), ⟨A, c, rfl, hch.sl'⟩, ⟨vwr11_16.heap.size, rfl, (sl_ints vwr11_16 [0] (by simp)).below hb⟩, HB5.out⟩
  case hr14 =>
  intro x y vwr11_17 hS _ hR
  clear hS
  obtain ⟨⟨A14, k14, rfl, hch⟩, ⟨g14, rfl, hll⟩, hb⟩ := hR
  have HCI := Lib.hid hch
  have HLI := Lib.hid hll
  replace HB := Lib.hid hb
  clear hch hll hb
  (try simp only [Act.put, List.setIfInBounds_toArray, List.set_cons_zero, List.set_cons_succ, List.getElem_toArray, List.getElem_cons_zero, List.getElem_cons_succ])
  refine wpTill.step (i := 16) (by kernel_rfl) (by rfl) (fun K' hK => ?_)
  replace hK := Lib.hid hK
  go_simp
  go_at_call 9
  ((with_reducible refine (SameInts_any vwr11_17 A14 (some ⟨g14, 0, none⟩) 1 k14 1 1 [0] [0] HCI.out HLI.out (by omega) true (by decide)).mono ?_); rintro _ vwr11_18 ⟨rfl, hb⟩)
  replace HB := Lib.hid (HB.out.trans (hb.mono HB.out.size))
  clear hb
  refine hK.out _ _ (HSS.out _ HB.out) (fun _ => trivial) ?_
  clear hK K'
  (try simp only [Act.put, List.setIfInBounds_toArray, List.set_cons_zero, List.set_cons_succ, List.getElem_toArray, List.getElem_cons_zero, List.getElem_cons_succ])
  refine wpTill.take (i := 17) (v := ?_) (by rfl) rfl (by kernel_rfl) (by kernel_rfl) (by kernel_rfl) (by exact fun _ _ _ h => h) (HSS.out _ HB.out) (fun _ => trivial) (Or.inl ⟨by rfl, ?_⟩) ?_
  rotate_left
  · (intro w' hSw; (try dsimp only at hSw); go_simp; (try with_reducible rfl))
  (try simp only [Act.put, List.setIfInBounds_toArray, List.set_cons_zero, List.set_cons_succ, List.getElem_toArray, List.getElem_cons_zero, List.getElem_cons_succ])
  refine wpTill.take (i := 18) (v := ?_) (by rfl) rfl (by kernel_rfl) (by kernel_rfl) (by kernel_rfl) (by exact fun _ _ _ h => h) (HSS.out _ HB.out) (fun _ => trivial) (Or.inl ⟨by rfl, ?_⟩) ?_
  rotate_left
  · (intro w' hSw; (try dsimp only at hSw); go_simp; (try with_reducible rfl))
  (try simp only [Act.put, List.setIfInBounds_toArray, List.set_cons_zero, List.set_cons_succ, List.getElem_toArray, List.getElem_cons_zero, List.getElem_cons_succ])
  refine wpTill.take (i := 19) (v := ?_) (by rfl) rfl (by kernel_rfl) (by kernel_rfl) (by kernel_rfl) (by exact fun _ _ _ h => h) (HSS.out _ HB.out) (fun _ => trivial) (Or.inl ⟨by rfl, ?_⟩) ?_
  rotate_left
  · (intro w' hSw; (try dsimp only at hSw); go_simp; (try with_reducible rfl))
  (try simp only [Act.put, List.setIfInBounds_toArray, List.set_cons_zero, List.set_cons_succ, List.getElem_toArray, List.getElem_cons_zero, List.getElem_cons_succ])
  refine wpTill.step (i := 20) (by kernel_rfl) (by rfl) (fun K' hK => ?_)
  replace hK := Lib.hid hK
  go_simp
  go_at_call 12
  ((with_reducible refine (HP7.out vwr11_18 HB.out).mono ?_); rintro _ vwr11_19 ⟨A, c, l, rfl, _, _, hb⟩)
  replace HB := Lib.hid (HB.out.trans (hb.mono HB.out.size))
  clear hb
  refine hK.out _ _ (HSS.out _ HB.out) (fun _ => trivial) ?_
  clear hK K'
  (try simp only [Act.put, List.setIfInBounds_toArray, List.set_cons_zero, List.set_cons_succ, List.getElem_toArray, List.getElem_cons_zero, List.getElem_cons_succ])
  refine wpTill.take (i := 21) (v := ?_) (by rfl) rfl (by kernel_rfl) (by kernel_rfl) (by kernel_rfl) (by exact fun _ _ _ h => h) (HSS.out _ HB.out) (fun _ => trivial) (Or.inl ⟨by rfl, ?_⟩) ?_
  rotate_left
  · (intro w' hSw; (try dsimp only at hSw); go_simp; (try with_reducible rfl))
  (try simp only [Act.put, List.setIfInBounds_toArray, List.set_cons_zero, List.set_cons_succ, List.getElem_toArray, List.getElem_cons_zero, List.getElem_cons_succ])
  refine wpTill.take (i := 22) (v := ?_) (by rfl) rfl (by kernel_rfl) (by kernel_rfl) (by kernel_rfl) (by exact fun _ _ _ h => h) (HSS.out _ HB.out) (fun _ => trivial) (Or.inl ⟨by rfl, ?_⟩) ?_
  rotate_left
  · (intro w' hSw; (try dsimp only at hSw); go_simp; (try with_reducible rfl))
  (try simp only [Act.put, List.setIfInBounds_toArray, List.set_cons_zero, List.set_cons_succ, List.getElem_toArray, List.getElem_cons_zero, List.getElem_cons_succ])
  refine wpTill.take (i := 23) (v := ?_) (by rfl) rfl (by kernel_rfl) (by kernel_rfl) (by kernel_rfl) (by exact fun _ _ _ h => h) (HSS.out _ HB.out) (fun _ => trivial) (Or.inl ⟨by rfl, ?_⟩) ?_
  rotate_left
  · (intro w' hSw; (try dsimp only at hSw); go_simp; (try with_reducible rfl))
  (try simp only [Act.put, List.setIfInBounds_toArray, List.set_cons_zero, List.set_cons_succ, List.getElem_toArray, List.getElem_cons_zero, List.getElem_cons_succ])
  refine wpTill.take (i := 24) (v := ?_) (by rfl) rfl (by kernel_rfl) (by kernel_rfl) (by kernel_rfl) (by exact fun _ _ _ h => h) (HSS.out _ HB.out) (fun _ => trivial) (Or.inl ⟨by rfl, ?_⟩) ?_
  rotate_left
  · (intro w' hSw; (try dsimp only at hSw); go_simp; (try with_reducible rfl))
  (try simp only [Act.put, List.setIfInBounds_toArray, List.set_cons_zero, List.set_cons_succ, List.getElem_toArray, List.getElem_cons_zero, List.getElem_cons_succ])
  refine wpTill.stop (by kernel_rfl) ?_ _
  replace HC5 := Lib.hid (HC5.out.below HB.out)
  replace HC6 := Lib.hid (HC6.out.below HB.out)
  replace HC7 := Lib.hid (HC7.out.below HB.out)
  replace HS6 := Lib.hid (HS6.out.below HB.out)
  replace HA1 : Hid (EntAt vwr11_19 x1) := Lib.hid (Sl.below HA1.out HB.out)
  replace HA2 : Hid (EntAt vwr11_19 x2) := Lib.hid (Sl.below HA2.out HB.out)
  replace HA3 : Hid (EntAt vwr11_19 x3) := Lib.hid (Sl.below HA3.out HB.out)
  replace HA4 : Hid (EntAt vwr11_19 x4) := Lib.hid (Sl.below HA4.out HB.out)
  clear HB HSS HEB HM1 HM2 HM3 HM4 HQ7 HF7 HP7 HCH HVL HLL HCI HLI
  go_wp2_with (fail)
  go_ret
  exact ⟨rfl, HS6.out.base⟩
end Go.Proofs.YtnnnibkainlplaaGreatDoor
