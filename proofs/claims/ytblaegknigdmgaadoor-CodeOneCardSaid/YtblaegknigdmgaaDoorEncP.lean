/- Plain: what is encoded is decoded. -/
import Derived.Test.YtblaegknigdmgaaDoorEnc
import Derived.Test.YtblaegknigdmgaaDoorDec
namespace Rk
open Go Go.RowKit Go.Proofs
theorem nats_bs {l : List Nat} (h : ∀ x ∈ l, x < 256) : nats (bs l) = l := by
  unfold nats bs
  rw [List.map_map]
  conv => rhs; rw [← List.map_id l]
  refine List.map_congr_left fun x hx => ?_
  simp only [Function.comp]
  rw [UInt8.toNat_ofNat', Nat.mod_eq_of_lt (h x hx)]; rfl
theorem bs_nats (s : Bs) : bs (nats s) = s := by
  unfold nats bs
  rw [List.map_map]
  conv => rhs; rw [← List.map_id s]
  refine List.map_congr_left fun x _ => ?_
  simp
theorem code_small {l : Nat → Nat} {n : Nat} {r : List Nat} : ∀ x ∈ r.flatMap (Code.codeL l n), x < 256 := fun x hx => by
  obtain ⟨s, _, hs⟩ := List.mem_flatMap.1 hx
  simp only [Code.codeL, Code.bits, List.mem_map, List.mem_range] at hs
  obtain ⟨p, _, rfl⟩ := hs
  omega
theorem code_free {n : Nat} {f : Nat → Int} (he : Code.longErr n f = 0) : Tri.Free (Code.codeL (lnF f) n) n := by
  obtain ⟨hn, hf, hroom⟩ := Code.longErr_zero.1 he
  exact Code.codeL_free (l := lnF f) (n := n) (M := 20) (fun k hk => by have := hf k hk; show (f k).toNat ≤ 20; omega) hroom
theorem enc_dec {n : Nat} {f : Nat → Int} {r : List Int} (he : Code.longErr n f = 0) (hz : (encF n f r).1 = 0) : decF n f (bs (encF n f r).2) = some (r.map Int.toNat) ∧ (encF n f r).2.length ≤ 400 := by
  obtain ⟨h1, h2, h3⟩ := Code.enc_ok r [] hz
  rw [List.nil_append] at h1
  refine ⟨?_, h3 (by simp)⟩
  show Tri.dec _ _ (nats (bs (encF n f r).2)) = _
  rw [show (encF n f r).2 = (r.map Int.toNat).flatMap (Code.codeL (lnF f) n) from h1, nats_bs code_small]
  have h := Tri.dec_all (code_free he) (r.map Int.toNat) [] (fun x hx => by
    obtain ⟨y, hy, rfl⟩ := List.mem_map.1 hx
    obtain ⟨_, hb, hc⟩ := h2 y hy
    exact ⟨hb, fun e => hc (by have := congrArg List.length e; rw [Code.codeL_len] at this; simpa using this)⟩)
  rw [List.append_nil, Tri.dec_nil] at h
  rw [h]; simp
theorem ofNat_toNat {n : Nat} {f : Nat → Int} {r : List Int} (hz : (encF n f r).1 = 0) : (r.map Int.toNat).map Int.ofNat = r := by
  obtain ⟨_, h2, _⟩ := Code.enc_ok r [] hz
  rw [List.map_map]
  conv => rhs; rw [← List.map_id r]
  refine List.map_congr_left fun x hx => ?_
  have := (h2 x hx).1
  simp; omega
end Rk
