/- wire: the reader's Num, Int, Text, items at ints, Nums, walked (written by wip/gen_wirex.py). -/
import Derived.Test.YtniiahmpdkgplaaGreatDoorWireT
namespace Go.Proofs.YtniiahmpdkgplaaGreatDoor
open Go.RowKit Go.Sort Go.Lib

set_option maxRecDepth 100000 in
set_option maxHeartbeats 1000000 in
theorem NumM_any {B : Nat} {w : World} {b : Nat} {r : RdV} (h : RdAt w b r) (hE : Env B w) (hB : B ≤ b) (hl : r.rest.length ≤ 140737488351232) (x : Int × RdV) (hx : natF r = x) :
    Calls Tryz.prog 54 #[.pointer (some ⟨b, 0, none⟩)] w (RdPost w b (.int .i64 x.1) x.2) := by
  have HA : Hid (Calls Tryz.prog 73 #[.pointer (some ⟨b, 0, none⟩), .int .u8 59, .int .i64 0] w (RdPost w b (.int .i64 x.1) x.2)) := Lib.hid (number_any h hE hB 59 0 hl x hx)
  clear hx hl h hE
  go_enter Tryz.func54, Tryz.ntmps54
  go_wp2_with ((with_reducible refine (HA.out).mono ?_); rintro _ w1 ⟨rfl, h1, g1⟩; have H1 := Lib.hid h1; have G1 := Lib.hid g1; clear h1 g1)
  go_ret
  exact ⟨rfl, H1.out, G1.out⟩
set_option maxRecDepth 100000 in
set_option maxHeartbeats 2000000 in
theorem Text_M {B : Nat} {w : World} {b : Nat} {r : RdV} (h : RdAt w b r) (hE : Env B w) (hB : B ≤ b) (hok : r.ok) (hl : r.rest.length ≤ 140737488351232) (x : List UInt8 × RdV) (hx : textF r = x) :
    Calls Tryz.prog 53 #[.pointer (some ⟨b, 0, none⟩)] w (RdPost w b (.string ⟨x.1.toArray⟩) x.2) := by
  obtain ⟨n, r1, hn⟩ : ∃ n r1, numF 58 0 r = (n, r1) := ⟨_, _, rfl⟩
  have HA : Hid (Calls Tryz.prog 73 #[.pointer (some ⟨b, 0, none⟩), .int .u8 58, .int .i64 0] w (RdPost w b (.int .i64 n) r1)) := Lib.hid (number_any h hE hB 58 0 hl _ hn)
  have hk := (numF_keeps (e := 58) (least := 0) hok).2
  rw [hn] at hk
  simp only at hk
  have hw := textF_ways hn x hx hok
  obtain ⟨l, bd⟩ := r1
  simp only at hw hk
  have hl2 : l.length ≤ 140737488351232 := by omega
  clear hn hx hok hl h hk hE
  have hsz := str_size l
  rcases hw with ⟨h1, rfl, rfl⟩ | ⟨k, rfl, rfl, ⟨h1, rfl⟩ | ⟨h1, h2, h3, rfl⟩ | ⟨h1, h2, h3, rfl⟩⟩
  · obtain ⟨rfl, rfl⟩ : l = [] ∧ bd = true := by injection h1; exact ⟨‹_›, ‹_›⟩
    have H2 : Hid (∀ W, RdAt W b ⟨[], true⟩ → Calls Tryz.prog 75 #[.pointer (some ⟨b, 0, none⟩), .string ⟨#[44]⟩] (W.setCell ⟨b, 0, none⟩ (.string ByteArray.empty)) (RdPost (W.setCell ⟨b, 0, none⟩ (.string ByteArray.empty)) b (.tuple #[]) .fail)) := Lib.hid (fun W h => close_any (h.set1 []) 44 _ rfl)
    have HG := Lib.hid (fun W : World => grownBy_setCell W ⟨b, 0, none⟩ (.string ByteArray.empty))
    clear h1
    go_enter Tryz.func53, Tryz.ntmps53
    go_wp2_with (first | ((with_reducible refine (HA.out).mono ?_); rintro _ w1 ⟨rfl, h1, g1⟩; have K1 := Lib.hid (H2.out w1 h1); have G1 := Lib.hid (g1.trans (HG.out w1)); obtain ⟨z, f1, f2⟩ := h1; clear g1) | ((with_reducible refine (K1.out).mono ?_); rintro _ w3 ⟨rfl, h1, g1⟩; have K3 := Lib.hid h1; have G3 := Lib.hid (G1.out.trans g1); clear g1; obtain ⟨z3, k3, e3⟩ := h1; simp only [RdV.fail] at k3))
    go_ret
    exact ⟨rfl, K3.out, G3.out⟩
  · have hki : (l.length : Int) < (k : Int) := by omega
    clear h1
    go_enter Tryz.func53, Tryz.ntmps53
    go_wp2_with (first | ((with_reducible refine (HA.out).mono ?_); rintro _ w1 ⟨rfl, h1, g1⟩; have H1 := Lib.hid (fail_any h1); have G1 := Lib.hid g1; obtain ⟨z, f1, f2⟩ := h1; clear g1) | ((with_reducible refine (H1.out).mono ?_); rintro _ w3 ⟨rfl, h1, g1⟩; have K1 := Lib.hid h1; have G3 := Lib.hid (G1.out.trans g1); clear h1 g1))
    go_ret
    exact ⟨rfl, K1.out, G3.out⟩
  · have hki : (k : Int) ≤ (l.length : Int) := by omega
    have hkn : (0 : Int) ≤ (k : Int) := by omega
    have hex := str_ext l 0 k
    rw [List.drop_zero] at hex
    have hex2 := str_ext l k l.length
    rw [List.take_length] at hex2
    generalize hdk : l.drop k = dk at *
    have H2 : Hid (∀ W, RdAt W b ⟨l, false⟩ → Calls Tryz.prog 75 #[.pointer (some ⟨b, 0, none⟩), .string ⟨#[44]⟩] (W.setCell ⟨b, 0, none⟩ (.string ⟨dk.toArray⟩)) (RdPost (W.setCell ⟨b, 0, none⟩ (.string ⟨dk.toArray⟩)) b (.tuple #[]) .fail)) := Lib.hid (fun W h => close_any (h.set1 dk) 44 _ h2)
    have HG := Lib.hid (fun W : World => grownBy_setCell W ⟨b, 0, none⟩ (.string ⟨dk.toArray⟩))
    generalize l.take k = tk at *
    clear h1 h3 hdk
    clear h2
    go_enter Tryz.func53, Tryz.ntmps53
    go_wp2_with (first | ((with_reducible refine (HA.out).mono ?_); rintro _ w1 ⟨rfl, h1, g1⟩; have K1 := Lib.hid (H2.out w1 h1); have G1 := Lib.hid (g1.trans (HG.out w1)); obtain ⟨z, f1, f2⟩ := h1; clear g1) | ((with_reducible refine (K1.out).mono ?_); rintro _ w3 ⟨rfl, h1, g1⟩; have K3 := Lib.hid h1; have G3 := Lib.hid (G1.out.trans g1); clear g1; obtain ⟨z3, k3, e3⟩ := h1; simp only [RdV.fail] at k3))
    go_ret
    exact ⟨rfl, K3.out, G3.out⟩
  · have hki : (k : Int) ≤ (l.length : Int) := by omega
    have hkn : (0 : Int) ≤ (k : Int) := by omega
    have hex := str_ext l 0 k
    rw [List.drop_zero] at hex
    have hex2 := str_ext l k l.length
    rw [List.take_length] at hex2
    generalize hdk : l.drop k = dk at *
    have H2 : Hid (∀ W, RdAt W b ⟨l, false⟩ → Calls Tryz.prog 75 #[.pointer (some ⟨b, 0, none⟩), .string ⟨#[44]⟩] (W.setCell ⟨b, 0, none⟩ (.string ⟨dk.toArray⟩)) (RdPost (W.setCell ⟨b, 0, none⟩ (.string ⟨dk.toArray⟩)) b (.tuple #[]) (closeF 44 ⟨dk, false⟩))) := Lib.hid (fun W h => close_any (h.set1 dk) 44 _ rfl)
    have HG := Lib.hid (fun W : World => grownBy_setCell W ⟨b, 0, none⟩ (.string ⟨dk.toArray⟩))
    generalize closeF 44 ⟨dk, false⟩ = r3 at *
    obtain ⟨l3, b3⟩ := r3
    simp only at h2
    subst h2
    generalize l.take k = tk at *
    clear h1 h3 hdk
    go_enter Tryz.func53, Tryz.ntmps53
    go_wp2_with (first | ((with_reducible refine (HA.out).mono ?_); rintro _ w1 ⟨rfl, h1, g1⟩; have K1 := Lib.hid (H2.out w1 h1); have G1 := Lib.hid (g1.trans (HG.out w1)); obtain ⟨z, f1, f2⟩ := h1; clear g1) | ((with_reducible refine (K1.out).mono ?_); rintro _ w3 ⟨rfl, h1, g1⟩; have K3 := Lib.hid h1; have G3 := Lib.hid (G1.out.trans g1); clear g1; obtain ⟨z3, k3, e3⟩ := h1; simp only at k3))
    go_ret
    exact ⟨rfl, K3.out, G3.out⟩
end Go.Proofs.YtniiahmpdkgplaaGreatDoor
