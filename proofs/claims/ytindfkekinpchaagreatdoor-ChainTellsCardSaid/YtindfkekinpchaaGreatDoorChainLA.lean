/- kerbsidelaw46: ChainBack, walked. -/
import Derived.Test.YtindfkekinpchaaGreatDoorChainS2
namespace Go.Proofs.YtindfkekinpchaaGreatDoor
open Go.RowKit Go.Sort Go.Lib

theorem decodeF_enc {x : EntV} (h : rightB x = true) : decodeF (encE x) = (x, true) := by
  have h1 := rightB_true.1 h
  unfold decodeF
  rw [if_pos (goodD_enc h1), decE_enc h1]
theorem decodeF_was {s : List UInt8} {v : EntV} (h : decodeF s = (v, true)) : encodeF v = (s, true) ∧ rightB v = true := by
  unfold decodeF at h
  split at h
  · rename_i hg
    injection h with h1 h2
    subst h1
    obtain ⟨e1, e2⟩ := enc_decE hg
    have e3 := rightB_true.2 e2
    refine ⟨?_, e3⟩
    unfold encodeF
    rw [if_pos e3, e1]
  · injection h with h1 h2
    cases h2
theorem decodeF_no {s : List UInt8} {v : EntV} (h : decodeF s = (v, false)) : v = .zero := by
  unfold decodeF at h
  split at h
  · injection h with h1 h2; cases h2
  · injection h with h1 h2; exact h1.symm
/-- a right entry's encoding is short -/
theorem encE_len {x : EntV} (h : RightE x) (ht : x.text.length ≤ 4010) : (encE x).length ≤ 100000 := by
  have h1 : ∀ n : Int, 0 ≤ n → n ≤ 100000 → (encN n).length ≤ 21 := fun n h0 h1 => by unfold encN; rw [if_neg (by omega)]; exact encI_len ⟨by omega, by omega⟩
  have a1 := h1 x.dev h.d0 (by have := h.d1; omega)
  have a2 := h1 x.no h.n0 (by have := h.n1; omega)
  have a3 := h1 x.day h.y0 h.y1
  have a4 := encT_len (s := x.text) (by omega)
  have a5 := flat_le encI 21 x.seen fun n hn => encI_len (by have := h.rng n hn; exact ⟨by omega, by omega⟩)
  have a6 := h.len
  have a7 := itoa_length (n := (x.seen.length : Int)) (by omega) (by omega)
  have a8 : (encIs x.seen).length ≤ 1000 := by
    unfold encIs
    simp
    simp only [List.length_flatten, List.map_map, Function.comp_def] at a5 ⊢
    omega
  unfold encE
  simp only [List.length_append]
  omega
end Go.Proofs.YtindfkekinpchaaGreatDoor
