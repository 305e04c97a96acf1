/- Plain: codes as bytes: none begins another one. -/
import Derived.Test.YtblaegknigdmgaaDoorCode2
namespace Rk
open Go Go.RowKit Go.Proofs
attribute [local irreducible] OpV OpU OpC WL QL WC WX OL RL TL TM
theorem bs_inj {a b : List Nat} (ha : ∀ x ∈ a, x < 256) (hb : ∀ x ∈ b, x < 256) (h : bs a = bs b) : a = b := by
  have key : ∀ l : List Nat, (∀ x ∈ l, x < 256) → (bs l).map UInt8.toNat = l := fun l hl => by
    unfold bs
    rw [List.map_map]
    conv => rhs; rw [← List.map_id l]
    refine List.map_congr_left fun x hx => ?_
    simp only [Function.comp]
    rw [UInt8.toNat_ofNat', Nat.mod_eq_of_lt (hl x hx)]; rfl
  rw [← key a ha, ← key b hb, h]
theorem codeL_lt {l : Nat → Nat} {n s : Nat} : ∀ x ∈ Code.codeL l n s, x < 256 := fun x hx => by
  simp only [Code.codeL, Code.bits, List.mem_map, List.mem_range] at hx
  obtain ⟨p, _, rfl⟩ := hx
  omega
theorem codeF_free {n : Nat} {f : Nat → Int} (he : Code.longErr n f = 0) {i j : Nat} (hi : i < n) (hj : j < n) (hij : i ≠ j) (h0 : 0 < (codeF n f i).length) : (codeF n f j).take (codeF n f i).length ≠ codeF n f i := fun h => by
  obtain ⟨hn, hf, hroom⟩ := Code.longErr_zero.1 he
  have hfree := Code.codeL_free (l := lnF f) (n := n) (M := 20) (fun k hk => by have := hf k hk; show (f k).toNat ≤ 20; omega) hroom
  refine hfree i j hi hj hij (fun e => ?_) ?_
  · rw [codeF, e] at h0; simp [bs] at h0
  · have h2 : bs ((Code.codeL (lnF f) n j).take (Code.codeL (lnF f) n i).length) = bs (Code.codeL (lnF f) n i) := by
      rw [codeF, bs_len] at h
      rw [← h, codeF, bs, bs, List.map_take]
    have h3 := bs_inj (fun x hx => codeL_lt x (List.mem_of_mem_take hx)) codeL_lt h2
    exact List.prefix_iff_eq_take.2 h3.symm
end Rk
