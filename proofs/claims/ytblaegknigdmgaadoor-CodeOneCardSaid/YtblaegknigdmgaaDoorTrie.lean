/- The walk's own rules: tries as rows of two numbers; a number of an element stored. The contract of code.grow. -/
import Derived.Test.YtblaegknigdmgaaDoorCode2
import Derived.Test.YtblaegknigdmgaaDoorLit
namespace Rk
open Go Go.RowKit Go.Proofs
abbrev Pr := Int × Int
def prC (x : Pr) : List Value := [.int .i64 x.1, .int .i64 x.2]
theorem prC_len (x : Pr) : (prC x).length = 2 := rfl
theorem prC_one (x : Pr) : ∀ u ∈ prC x, u.oneCell' = true := by simp [prC, Value.oneCell']
abbrev prV (x : Pr) : Value := .agg (prC x).toArray
theorem unTrie : Tryd.prog.underlying 77 = some (.slice 79) := by kernel_rfl
theorem unPr : Tryd.prog.underlying 79 = some (.array 2 3) := by kernel_rfl
theorem tyPr : Ty Tryd.prog 79 true 2 16 (prV (0, 0)) := Ty.mk' (by kernel_rfl) (fun _ => by kernel_rfl) rfl
section
variable {E : Env} {w : World} {t : TypeId} {x y : Operand} {bk o n c i j : Nat}
theorem OpV.trAddr (hx : evE E x = some (.slice (some ⟨bk, o, none⟩) n c)) (hi : evE E y = some (.int .i64 (j : Int))) (hn : j < n) :
    OpV Tryd.prog (.indexAddr 77 x y) t E w (.pointer (some ⟨bk, o + j * 2, none⟩)) w := OpV.indexAddr unTrie tyPr.size hx hi (by omega) (by omega)
theorem OpV.prAddr {kd : IntKind} (hx : evE E x = some (.pointer (some ⟨bk, o, none⟩))) (hi : evE E y = some (.int kd (j : Int))) (hn : j < 2) :
    OpV Tryd.prog (.indexAddr 79 x y) t E w (.pointer (some ⟨bk, o + j, none⟩)) w := fun ρ hρ _ _ _ _ => by
  have h1 : (j : Int) < 2 := by omega
  simp [execOp, hρ _ _ hx, hρ _ _ hi, go_sem, Instr.indexAt, run_underlying unPr, tyInt.size, asIntOf, Addr.add, Instr.sureAddr, hn]
theorem OpV.pr0 : OpV Tryd.prog (.build 79 #[]) t E w (prV (0, 0)) w := OpV.build (parts := []) (ps := []) rfl (by kernel_rfl)
theorem OpV.lenTrie {A : Option Addr} (hx : evE E x = some (.slice A n c)) {rt : TypeId} : OpV Tryd.prog (.call { callee := .builtin .len, args := #[x], argTypes := #[77] }) rt E w (.int .i64 n) w := OpV.len_slice unTrie hx
section
variable {ops : Array Oper} {K : Env → World → Prop} {N d_ : Nat} {rest : List Oper} {pos : String} {after : Array Edge} {C : World → Prop} {R : Env → Prop}
theorem WL.trAddr  (h_ : WL Tryd.prog ops K N ((d_, (.pointer (some ⟨bk, o + j * 2, none⟩))) :: E) rest w) (hx : evE E x = some (.slice (some ⟨bk, o, none⟩) n c) := by with_unfolding_all exact rfl) (hi : evE E y = some (.int .i64 (j : Int)) := by with_unfolding_all exact rfl) (hn : j < n := by omega) (hd_ : Nat.blt d_ N = true := by with_unfolding_all exact rfl) :
    WL Tryd.prog ops K N E (⟨some d_, .indexAddr 77 x y, t, pos, after, none⟩ :: rest) w := WL.step (OpV.trAddr hx hi hn) hd_ h_
theorem QL.trAddr  (h_ : QL Tryd.prog ops C R N ((d_, (.pointer (some ⟨bk, o + j * 2, none⟩))) :: E) rest) (hx : evE E x = some (.slice (some ⟨bk, o, none⟩) n c) := by with_unfolding_all exact rfl) (hi : evE E y = some (.int .i64 (j : Int)) := by with_unfolding_all exact rfl) (hn : j < n := by omega) (hd_ : Nat.blt d_ N = true := by with_unfolding_all exact rfl) :
    QL Tryd.prog ops C R N E (⟨some d_, .indexAddr 77 x y, t, pos, after, none⟩ :: rest) := QL.step (fun _ _ => OpV.trAddr hx hi hn) hd_ h_
theorem RL.trAddr  (h_ : R ((d_, (.pointer (some ⟨bk, o + j * 2, none⟩))) :: E)) (hx : evE E x = some (.slice (some ⟨bk, o, none⟩) n c) := by with_unfolding_all exact rfl) (hi : evE E y = some (.int .i64 (j : Int)) := by with_unfolding_all exact rfl) (hn : j < n := by omega) (hd_ : Nat.blt d_ N = true := by with_unfolding_all exact rfl) :
    RL Tryd.prog ops C R N E ⟨some d_, .indexAddr 77 x y, t, pos, after, none⟩ := RL.step (fun _ _ => OpV.trAddr hx hi hn) hd_ h_
theorem WL.prAddr {kd : IntKind} (h_ : WL Tryd.prog ops K N ((d_, (.pointer (some ⟨bk, o + j, none⟩))) :: E) rest w) (hx : evE E x = some (.pointer (some ⟨bk, o, none⟩)) := by with_unfolding_all exact rfl) (hi : evE E y = some (.int kd (j : Int)) := by with_unfolding_all exact rfl) (hn : j < 2 := by omega) (hd_ : Nat.blt d_ N = true := by with_unfolding_all exact rfl) :
    WL Tryd.prog ops K N E (⟨some d_, .indexAddr 79 x y, t, pos, after, none⟩ :: rest) w := WL.step (OpV.prAddr hx hi hn) hd_ h_
theorem QL.prAddr {kd : IntKind} (h_ : QL Tryd.prog ops C R N ((d_, (.pointer (some ⟨bk, o + j, none⟩))) :: E) rest) (hx : evE E x = some (.pointer (some ⟨bk, o, none⟩)) := by with_unfolding_all exact rfl) (hi : evE E y = some (.int kd (j : Int)) := by with_unfolding_all exact rfl) (hn : j < 2 := by omega) (hd_ : Nat.blt d_ N = true := by with_unfolding_all exact rfl) :
    QL Tryd.prog ops C R N E (⟨some d_, .indexAddr 79 x y, t, pos, after, none⟩ :: rest) := QL.step (fun _ _ => OpV.prAddr hx hi hn) hd_ h_
theorem RL.prAddr {kd : IntKind} (h_ : R ((d_, (.pointer (some ⟨bk, o + j, none⟩))) :: E)) (hx : evE E x = some (.pointer (some ⟨bk, o, none⟩)) := by with_unfolding_all exact rfl) (hi : evE E y = some (.int kd (j : Int)) := by with_unfolding_all exact rfl) (hn : j < 2 := by omega) (hd_ : Nat.blt d_ N = true := by with_unfolding_all exact rfl) :
    RL Tryd.prog ops C R N E ⟨some d_, .indexAddr 79 x y, t, pos, after, none⟩ := RL.step (fun _ _ => OpV.prAddr hx hi hn) hd_ h_
theorem WL.pr0  (h_ : WL Tryd.prog ops K N ((d_, (prV (0, 0))) :: E) rest w)  (hd_ : Nat.blt d_ N = true := by with_unfolding_all exact rfl) :
    WL Tryd.prog ops K N E (⟨some d_, .build 79 #[], t, pos, after, none⟩ :: rest) w := WL.step (OpV.pr0 ) hd_ h_
theorem QL.pr0  (h_ : QL Tryd.prog ops C R N ((d_, (prV (0, 0))) :: E) rest)  (hd_ : Nat.blt d_ N = true := by with_unfolding_all exact rfl) :
    QL Tryd.prog ops C R N E (⟨some d_, .build 79 #[], t, pos, after, none⟩ :: rest) := QL.step (fun _ _ => OpV.pr0 ) hd_ h_
theorem RL.pr0  (h_ : R ((d_, (prV (0, 0))) :: E))  (hd_ : Nat.blt d_ N = true := by with_unfolding_all exact rfl) :
    RL Tryd.prog ops C R N E ⟨some d_, .build 79 #[], t, pos, after, none⟩ := RL.step (fun _ _ => OpV.pr0 ) hd_ h_
theorem WL.lenTrie {A : Option Addr} {rt : TypeId} (h_ : WL Tryd.prog ops K N ((d_, (.int .i64 n)) :: E) rest w) (hx : evE E x = some (.slice A n c) := by with_unfolding_all exact rfl) (hd_ : Nat.blt d_ N = true := by with_unfolding_all exact rfl) :
    WL Tryd.prog ops K N E (⟨some d_, .call { callee := .builtin .len, args := #[x], argTypes := #[77] }, rt, pos, after, none⟩ :: rest) w := WL.step (OpV.lenTrie hx) hd_ h_
theorem QL.lenTrie {A : Option Addr} {rt : TypeId} (h_ : QL Tryd.prog ops C R N ((d_, (.int .i64 n)) :: E) rest) (hx : evE E x = some (.slice A n c) := by with_unfolding_all exact rfl) (hd_ : Nat.blt d_ N = true := by with_unfolding_all exact rfl) :
    QL Tryd.prog ops C R N E (⟨some d_, .call { callee := .builtin .len, args := #[x], argTypes := #[77] }, rt, pos, after, none⟩ :: rest) := QL.step (fun _ _ => OpV.lenTrie hx) hd_ h_
theorem RL.lenTrie {A : Option Addr} {rt : TypeId} (h_ : R ((d_, (.int .i64 n)) :: E)) (hx : evE E x = some (.slice A n c) := by with_unfolding_all exact rfl) (hd_ : Nat.blt d_ N = true := by with_unfolding_all exact rfl) :
    RL Tryd.prog ops C R N E ⟨some d_, .call { callee := .builtin .len, args := #[x], argTypes := #[77] }, rt, pos, after, none⟩ := RL.step (fun _ _ => OpV.lenTrie hx) hd_ h_
end
end
section
variable {P : Program} {ops : Array Oper} {K : Env → World → Prop} {N : Nat} {E : Env} {rest : List Oper} {w w' : World} {t : TypeId} {pos : String} {after : Array Edge}
  {x y : Operand} {v z : Value} {e e1 : TypeId} {k bytes : Nat} {α : Type} {enc : α → List Value} {f : Nat → α} {B g n cap : Nat}
/-- one cell of an element stored -/
theorem WL.storeC (hk : ∀ x, (enc x).length = k) (ty : Ty P e1 false 1 bytes z) {p i j : Nat} (hx : evE E x = some (.pointer (some ⟨g, p, none⟩))) (hp : p = i * k + j)
    (hy : evE E y = some v) (hv : v.cells = #[v]) (hv1 : v.oneCell' = true) (ho : OwnS enc k e w B g n cap f) (hi : i < n) (hj : j < k) {a : α} (ha : ∀ q, (enc a)[q]? = if q = j then some v else (enc (f i))[q]?)
    (h : ∀ w', w.grownBy w' (some g) → OwnS enc k e w' B g n cap (fun q => if q = i then a else f q) → w'.heap.size = w.heap.size → WL P ops K N E rest w') :
    WL P ops K N E (⟨none, .store e1 x y, t, pos, after, none⟩ :: rest) w := by
  subst hp
  obtain ⟨cur, hb, hl, hc⟩ := ho.blk
  have hfit : i * k + k ≤ cap * k := by
    have := Nat.mul_le_mul_right k (show i + 1 ≤ cap from by have := ho.le; omega)
    rw [Nat.add_mul, Nat.one_mul] at this; exact this
  refine WL.store ty hx hy (by rw [hv]; rfl) (by rw [hv]; intro u hu; simp at hu; subst hu; exact hv1) hb (by omega) fun w' hg hb' hz => h w' hg ?_ hz
  rw [hv] at hb'
  refine ⟨ho.base, ho.le, ho.max, _, hb', by rw [putAt_length, hl], fun i' hi' j' u hu => ?_⟩
  rw [putAt_get _ _ _ _ (by show i * k + j + 1 ≤ _; omega)]
  have hj' : j' < k := by
    rcases Nat.lt_or_ge j' k with hj | hj
    · exact hj
    · rw [List.getElem?_eq_none (by rw [hk]; exact hj)] at hu; cases hu
  by_cases e : i' = i
  · subst e
    rw [if_pos rfl, ha] at hu
    by_cases e2 : j' = j
    · subst e2
      rw [if_pos rfl] at hu
      rw [if_pos (by show _ ∧ _ < i' * k + j' + 1; omega), Nat.sub_self]
      exact hu
    · rw [if_neg e2] at hu
      rw [if_neg (by show ¬ (_ ∧ _ < i' * k + j + 1); omega), hc i' hi' j' u hu]
  · rw [if_neg e] at hu
    rw [if_neg, hc i' hi' j' u hu]
    show ¬ (_ ∧ _ < i * k + j + 1)
    rcases Nat.lt_or_gt_of_ne e with hlt | hgt
    · have := Nat.mul_le_mul_right k (show i' + 1 ≤ i from hlt)
      rw [Nat.add_mul, Nat.one_mul] at this
      omega
    · have := Nat.mul_le_mul_right k (show i + 1 ≤ i' from hgt)
      rw [Nat.add_mul, Nat.one_mul] at this
      omega
end
/-- a number of an element loaded -/
theorem pr_at {w : World} {g n : Nat} {T : Nat → Pr} (h : RowOf prC 2 w (some ⟨g, 0, none⟩) n T) {a k : Nat} (ha : a < n) (hk : k < 2) : w.cell? ⟨g, 0 + a * 2 + k, none⟩ = some (.int .i64 (if k = 0 then (T a).1 else (T a).2)) := by
  refine h.get ha k _ ?_
  rcases (show k = 0 ∨ k = 1 by omega) with rfl | rfl <;> rfl
theorem pr_get {T : List Pr} {a k : Nat} (ha : a < T.length) : (if k = 0 then (lf T a).1 else (lf T a).2) = Tri.get T a k := by
  unfold Tri.get
  have : T.getD a (0, 0) = lf T a := by rw [lf_get ha]; simp [List.getD, ha]
  rw [this]
theorem put_seg {T : List Pr} {a k : Nat} {v : Int} (ha : a < T.length) : segL (fun q => if q = a then Tri.put1 (lf T a) k v else lf T q) T.length = Tri.put T a k v := by
  have e : T.getD a (0, 0) = lf T a := by rw [lf_get ha]; simp [List.getD, ha]
  have e2 : Tri.put T a k v = T.set a (Tri.put1 (lf T a) k v) := by unfold Tri.put; rw [e]
  rw [e2]
  refine List.ext_getElem (by rw [segL_length, List.length_set]) fun i h1 h2 => ?_
  rw [segL_length] at h1
  rw [segL_get, List.getElem_set]
  by_cases hia : i = a
  · subst hia; simp
  · rw [if_neg hia, if_neg (fun h => hia h.symm), lf_get h1]
theorem prC_put (x : Pr) {k : Nat} (hk : k < 2) (v : Int) : ∀ q, (prC (Tri.put1 x k v))[q]? = if q = k then some (.int .i64 v) else (prC x)[q]? := fun q => by
  rcases (show k = 0 ∨ k = 1 by omega) with rfl | rfl
  · rcases q with _ | _ | q <;> simp [prC, Tri.put1]
  · rcases q with _ | _ | q <;> simp [prC, Tri.put1]
abbrev OwnT (w : World) (B : Nat) (v : Value) (T : List Pr) : Prop := OwnL prC 2 79 w B v T
end Rk
