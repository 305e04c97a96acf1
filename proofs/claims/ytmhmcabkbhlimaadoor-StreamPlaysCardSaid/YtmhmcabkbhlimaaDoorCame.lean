/- Numbers that came to a stream, in memory. -/
import Derived.Test.YtmhmcabkbhlimaaDoorStr4
namespace Rk
open Go Go.RowKit Go.Proofs
attribute [local irreducible] OpV OpU OpC WL QL WC WX OL RL TL TM
/-- numbers that came, in memory, away from what F owns -/
structure Came (w : World) (B : Nat) (v : Value) (all : List Int) (F : Nat → Prop) : Prop where
  own : OwnL inC 1 3 w B v all
  out : ∀ g, v.ownBlock = some g → ¬ F g ∧ g < w.heap.size
theorem Came.chg {w w' : World} {B : Nat} {v : Value} {all : List Int} {F F' : Nat → Prop} (h : Came w B v all F) (hc : Chg w w' F F') : Came w' B v all F' :=
  ⟨h.own.chg hc (fun g hf hg => (h.out g hg).1 hf) (fun g hg => (h.out g hg).2), fun g hg => ⟨hc.stay (h.out g hg).1 (h.out g hg).2, Nat.lt_of_lt_of_le (h.out g hg).2 hc.size⟩⟩
theorem Came.below {w w' : World} {B : Nat} {v : Value} {all : List Int} {F : Nat → Prop} (h : Came w B v all F) (hb : Below w.heap.size w w') : Came w' B v all F :=
  ⟨h.own.below hb, fun g hg => ⟨(h.out g hg).1, Nat.lt_of_lt_of_le (h.out g hg).2 hb.size⟩⟩
/-- one more came: the list's blocks, and what it leaves alone -/
theorem came_push {w w' : World} {v v' : Value} {row : Option Nat} (hg : w.grownBy w' row) (hrow : row = none ∨ row = v.ownBlock) (hlt : ∀ g, v'.ownBlock = some g → g < w'.heap.size) (hsep : ∀ u, Sep w v u → Sep w' v' u) (hv : ∀ g, v.ownBlock = some g → g < w.heap.size) : Chg w w' (ownF v) (ownF v') :=
  Chg.grown hg hrow fun g hg' => ⟨by
    rcases Nat.lt_or_ge g w.heap.size with h | h
    · left
      apply Classical.byContradiction
      intro hn
      have := hsep (.slice (some ⟨g, 0, none⟩) 0 0) ⟨hv, fun k hk => (by simp [Value.ownBlock] at hk; omega), fun k hk hk2 => (by simp [Value.ownBlock] at hk2; subst hk2; exact hn hk)⟩
      exact this.apart g hg' rfl
    · exact .inr h, hlt g hg'⟩

end Rk
