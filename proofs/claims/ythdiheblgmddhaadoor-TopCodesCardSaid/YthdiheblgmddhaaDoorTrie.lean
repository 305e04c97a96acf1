/- The walk's own rules: tries as rows of two numbers; a number of an element stored. The contract of code.grow. -/
import Derived.Test.YthdiheblgmddhaaDoorCode2
import Derived.Test.YthdiheblgmddhaaDoorLit
import Derived.Test.YthdiheblgmddhaaDoorStoC
namespace Rk
open Go Go.RowKit Go.Proofs
abbrev Pr := Int × Int
def prC (x : Pr) : List Value := [.int .i64 x.1, .int .i64 x.2]
theorem prC_len (x : Pr) : (prC x).length = 2 := rfl
theorem prC_one (x : Pr) : ∀ u ∈ prC x, u.oneCell' = true := by simp [prC, Value.oneCell']
abbrev prV (x : Pr) : Value := .agg (prC x).toArray
theorem unTrie : Tryd.prog.underlying 61 = some (.slice 63) := by kernel_rfl
theorem unPr : Tryd.prog.underlying 63 = some (.array 2 3) := by kernel_rfl
theorem tyPr : Ty Tryd.prog 63 true 2 16 (prV (0, 0)) := Ty.mk' (by kernel_rfl) (fun _ => by kernel_rfl) rfl
section
variable {E : Env} {w : World} {t : TypeId} {x y : Operand} {bk o n c i j : Nat}
theorem OpV.trAddr (hx : evE E x = some (.slice (some ⟨bk, o, none⟩) n c)) (hi : evE E y = some (.int .i64 (j : Int))) (hn : j < n) :
    OpV Tryd.prog (.indexAddr 61 x y) t E w (.pointer (some ⟨bk, o + j * 2, none⟩)) w := OpV.indexAddr unTrie tyPr.size hx hi (by omega) (by omega)
theorem OpV.prAddr {kd : IntKind} (hx : evE E x = some (.pointer (some ⟨bk, o, none⟩))) (hi : evE E y = some (.int kd (j : Int))) (hn : j < 2) :
    OpV Tryd.prog (.indexAddr 63 x y) t E w (.pointer (some ⟨bk, o + j, none⟩)) w := fun ρ hρ _ _ _ _ => by
  have h1 : (j : Int) < 2 := by omega
  simp [execOp, hρ _ _ hx, hρ _ _ hi, go_sem, Instr.indexAt, run_underlying unPr, tyInt.size, asIntOf, Addr.add, Instr.sureAddr, hn]
theorem OpV.pr0 : OpV Tryd.prog (.build 63 #[]) t E w (prV (0, 0)) w := OpV.build (parts := []) (ps := []) rfl (by kernel_rfl)
theorem OpV.lenTrie {A : Option Addr} (hx : evE E x = some (.slice A n c)) {rt : TypeId} : OpV Tryd.prog (.call { callee := .builtin .len, args := #[x], argTypes := #[61] }) rt E w (.int .i64 n) w := OpV.len_slice unTrie hx
section
variable {ops : Array Oper} {K : Env → World → Prop} {N d_ : Nat} {rest : List Oper} {pos : String} {after : Array Edge} {C : World → Prop} {R : Env → Prop}
theorem WL.trAddr  (h_ : WL Tryd.prog ops K N ((d_, (.pointer (some ⟨bk, o + j * 2, none⟩))) :: E) rest w) (hx : evE E x = some (.slice (some ⟨bk, o, none⟩) n c) := by with_unfolding_all exact rfl) (hi : evE E y = some (.int .i64 (j : Int)) := by with_unfolding_all exact rfl) (hn : j < n := by omega) (hd_ : Nat.blt d_ N = true := by with_unfolding_all exact rfl) :
    WL Tryd.prog ops K N E (⟨some d_, .indexAddr 61 x y, t, pos, after, none⟩ :: rest) w := WL.step (OpV.trAddr hx hi hn) hd_ h_
theorem QL.trAddr  (h_ : QL Tryd.prog ops C R N ((d_, (.pointer (some ⟨bk, o + j * 2, none⟩))) :: E) rest) (hx : evE E x = some (.slice (some ⟨bk, o, none⟩) n c) := by with_unfolding_all exact rfl) (hi : evE E y = some (.int .i64 (j : Int)) := by with_unfolding_all exact rfl) (hn : j < n := by omega) (hd_ : Nat.blt d_ N = true := by with_unfolding_all exact rfl) :
    QL Tryd.prog ops C R N E (⟨some d_, .indexAddr 61 x y, t, pos, after, none⟩ :: rest) := QL.step (fun _ _ => OpV.trAddr hx hi hn) hd_ h_
theorem RL.trAddr  (h_ : R ((d_, (.pointer (some ⟨bk, o + j * 2, none⟩))) :: E)) (hx : evE E x = some (.slice (some ⟨bk, o, none⟩) n c) := by with_unfolding_all exact rfl) (hi : evE E y = some (.int .i64 (j : Int)) := by with_unfolding_all exact rfl) (hn : j < n := by omega) (hd_ : Nat.blt d_ N = true := by with_unfolding_all exact rfl) :
    RL Tryd.prog ops C R N E ⟨some d_, .indexAddr 61 x y, t, pos, after, none⟩ := RL.step (fun _ _ => OpV.trAddr hx hi hn) hd_ h_
theorem WL.prAddr {kd : IntKind} (h_ : WL Tryd.prog ops K N ((d_, (.pointer (some ⟨bk, o + j, none⟩))) :: E) rest w) (hx : evE E x = some (.pointer (some ⟨bk, o, none⟩)) := by with_unfolding_all exact rfl) (hi : evE E y = some (.int kd (j : Int)) := by with_unfolding_all exact rfl) (hn : j < 2 := by omega) (hd_ : Nat.blt d_ N = true := by with_unfolding_all exact rfl) :
    WL Tryd.prog ops K N E (⟨some d_, .indexAddr 63 x y, t, pos, after, none⟩ :: rest) w := WL.step (OpV.prAddr hx hi hn) hd_ h_
theorem QL.prAddr {kd : IntKind} (h_ : QL Tryd.prog ops C R N ((d_, (.pointer (some ⟨bk, o + j, none⟩))) :: E) rest) (hx : evE E x = some (.pointer (some ⟨bk, o, none⟩)) := by with_unfolding_all exact rfl) (hi : evE E y = some (.int kd (j : Int)) := by with_unfolding_all exact rfl) (hn : j < 2 := by omega) (hd_ : Nat.blt d_ N = true := by with_unfolding_all exact rfl) :
    QL Tryd.prog ops C R N E (⟨some d_, .indexAddr 63 x y, t, pos, after, none⟩ :: rest) := QL.step (fun _ _ => OpV.prAddr hx hi hn) hd_ h_
theorem RL.prAddr {kd : IntKind} (h_ : R ((d_, (.pointer (some ⟨bk, o + j, none⟩))) :: E)) (hx : evE E x = some (.pointer (some ⟨bk, o, none⟩)) := by with_unfolding_all exact rfl) (hi : evE E y = some (.int kd (j : Int)) := by with_unfolding_all exact rfl) (hn : j < 2 := by omega) (hd_ : Nat.blt d_ N = true := by with_unfolding_all exact rfl) :
    RL Tryd.prog ops C R N E ⟨some d_, .indexAddr 63 x y, t, pos, after, none⟩ := RL.step (fun _ _ => OpV.prAddr hx hi hn) hd_ h_
theorem WL.pr0  (h_ : WL Tryd.prog ops K N ((d_, (prV (0, 0))) :: E) rest w)  (hd_ : Nat.blt d_ N = true := by with_unfolding_all exact rfl) :
    WL Tryd.prog ops K N E (⟨some d_, .build 63 #[], t, pos, after, none⟩ :: rest) w := WL.step (OpV.pr0 ) hd_ h_
theorem QL.pr0  (h_ : QL Tryd.prog ops C R N ((d_, (prV (0, 0))) :: E) rest)  (hd_ : Nat.blt d_ N = true := by with_unfolding_all exact rfl) :
    QL Tryd.prog ops C R N E (⟨some d_, .build 63 #[], t, pos, after, none⟩ :: rest) := QL.step (fun _ _ => OpV.pr0 ) hd_ h_
theorem RL.pr0  (h_ : R ((d_, (prV (0, 0))) :: E))  (hd_ : Nat.blt d_ N = true := by with_unfolding_all exact rfl) :
    RL Tryd.prog ops C R N E ⟨some d_, .build 63 #[], t, pos, after, none⟩ := RL.step (fun _ _ => OpV.pr0 ) hd_ h_
theorem WL.lenTrie {A : Option Addr} {rt : TypeId} (h_ : WL Tryd.prog ops K N ((d_, (.int .i64 n)) :: E) rest w) (hx : evE E x = some (.slice A n c) := by with_unfolding_all exact rfl) (hd_ : Nat.blt d_ N = true := by with_unfolding_all exact rfl) :
    WL Tryd.prog ops K N E (⟨some d_, .call { callee := .builtin .len, args := #[x], argTypes := #[61] }, rt, pos, after, none⟩ :: rest) w := WL.step (OpV.lenTrie hx) hd_ h_
theorem QL.lenTrie {A : Option Addr} {rt : TypeId} (h_ : QL Tryd.prog ops C R N ((d_, (.int .i64 n)) :: E) rest) (hx : evE E x = some (.slice A n c) := by with_unfolding_all exact rfl) (hd_ : Nat.blt d_ N = true := by with_unfolding_all exact rfl) :
    QL Tryd.prog ops C R N E (⟨some d_, .call { callee := .builtin .len, args := #[x], argTypes := #[61] }, rt, pos, after, none⟩ :: rest) := QL.step (fun _ _ => OpV.lenTrie hx) hd_ h_
theorem RL.lenTrie {A : Option Addr} {rt : TypeId} (h_ : R ((d_, (.int .i64 n)) :: E)) (hx : evE E x = some (.slice A n c) := by with_unfolding_all exact rfl) (hd_ : Nat.blt d_ N = true := by with_unfolding_all exact rfl) :
    RL Tryd.prog ops C R N E ⟨some d_, .call { callee := .builtin .len, args := #[x], argTypes := #[61] }, rt, pos, after, none⟩ := RL.step (fun _ _ => OpV.lenTrie hx) hd_ h_
end
end
/-- a number of an element loaded -/
theorem pr_at {w : World} {g n : Nat} {T : Nat → Pr} (h : RowOf prC 2 w (some ⟨g, 0, none⟩) n T) {a k : Nat} (ha : a < n) (hk : k < 2) : w.cell? ⟨g, 0 + a * 2 + k, none⟩ = some (.int .i64 (if k = 0 then (T a).1 else (T a).2)) := by
  refine h.get ha k _ ?_
  rcases (show k = 0 ∨ k = 1 by omega) with rfl | rfl <;> rfl
theorem pr_get {T : List Pr} {a k : Nat} (ha : a < T.length) : (if k = 0 then (lf T a).1 else (lf T a).2) = Tri.get T a k := by
  unfold Tri.get
  have : T.getD a (0, 0) = lf T a := by rw [lf_get ha]; simp [List.getD, ha]
  rw [this]
theorem put_seg {T : List Pr} {a k : Nat} {v : Int} (ha : a < T.length) : segL (fun q => if q = a then Tri.put1 (lf T a) k v else lf T q) T.length = Tri.put T a k v := by
  have e : T.getD a (0, 0) = lf T a := by rw [lf_get ha]; simp [List.getD, ha]
  have e2 : Tri.put T a k v = T.set a (Tri.put1 (lf T a) k v) := by unfold Tri.put; rw [e]
  rw [e2]
  refine List.ext_getElem (by rw [segL_length, List.length_set]) fun i h1 h2 => ?_
  rw [segL_length] at h1
  rw [segL_get, List.getElem_set]
  by_cases hia : i = a
  · subst hia; simp
  · rw [if_neg hia, if_neg (fun h => hia h.symm), lf_get h1]
theorem prC_put (x : Pr) {k : Nat} (hk : k < 2) (v : Int) : ∀ q, (prC (Tri.put1 x k v))[q]? = if q = k then some (.int .i64 v) else (prC x)[q]? := fun q => by
  rcases (show k = 0 ∨ k = 1 by omega) with rfl | rfl
  · rcases q with _ | _ | q <;> simp [prC, Tri.put1]
  · rcases q with _ | _ | q <;> simp [prC, Tri.put1]
abbrev OwnT (w : World) (B : Nat) (v : Value) (T : List Pr) : Prop := OwnL prC 2 63 w B v T
end Rk
