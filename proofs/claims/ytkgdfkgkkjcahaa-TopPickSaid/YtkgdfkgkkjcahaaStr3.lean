/- A stream in memory while its lists are changed. -/
import Derived.Test.YtkgdfkgkkjcahaaStr2
namespace Rk
open Go Go.RowKit Go.Proofs
/-- a stream while its lists (ka, la) are not yet stored in its block (cs) -/
structure SM (w : World) (B sp lp hp : Nat) (vl vh ka la : Value) (Ll Lh K P : List Int) (col : Nat → Nat) (cs : List Value) : Prop where
  blk : Bk w sp 54 cs
  base : B ≤ sp
  low : @HObj_int kLow w B lp fLow vl Ll
  high : @HObj_int kHigh w B hp fHigh vh Lh
  keys : OwnO inC 1 3 w B ka K
  last : OwnO inC 1 3 w B la P
  c0 : col sp = 0
  c1 : ∀ g, hF lp vl g → col g = 1
  c2 : ∀ g, hF hp vh g → col g = 2
  c3 : ∀ g, ka.ownBlock = some g → col g = 3 ∧ g < w.heap.size ∧ B ≤ g
  c4 : ∀ g, la.ownBlock = some g → col g = 4 ∧ g < w.heap.size ∧ B ≤ g
section
variable {w w' : World} {B sp lp hp room seen : Nat} {vl vh ka la ka' la' : Value} {Ll Lh K P K' P' : List Int} {col : Nat → Nat} {cs cs' : List Value} {row : Option Nat}
theorem SSt.toM (h : SSt w B sp lp hp room seen vl vh ka la Ll Lh K P col) : SM w B sp lp hp vl vh ka la Ll Lh K P col [.pointer (some ⟨lp, 0, none⟩), .pointer (some ⟨hp, 0, none⟩), .int .i64 room, la, .int .i64 seen, ka] :=
  ⟨h.blk, h.base, h.low, h.high, h.keys, h.last, h.c0, h.c1, h.c2, h.c3, h.c4⟩
theorem SM.toS (h : SM w B sp lp hp vl vh ka la Ll Lh K P col [.pointer (some ⟨lp, 0, none⟩), .pointer (some ⟨hp, 0, none⟩), .int .i64 room, la, .int .i64 seen, ka]) : SSt w B sp lp hp room seen vl vh ka la Ll Lh K P col :=
  ⟨h.blk, h.base, h.low, h.high, h.keys, h.last, h.c0, h.c1, h.c2, h.c3, h.c4⟩
theorem SM.lt (h : SM w B sp lp hp vl vh ka la Ll Lh K P col cs) : ∀ g, SF sp lp hp vl vh ka la g → g < w.heap.size ∧ B ≤ g := by
  rintro g (rfl | h1 | h1 | h1 | h1)
  · exact ⟨h.blk.lt, h.base⟩
  · exact ⟨h.low.lt g h1, h.low.ge g h1⟩
  · exact ⟨h.high.lt g h1, h.high.ge g h1⟩
  · exact (h.c3 g h1).2
  · exact (h.c4 g h1).2
theorem SM.below (h : SM w B sp lp hp vl vh ka la Ll Lh K P col cs) (hb : Below w.heap.size w w') : SM w' B sp lp hp vl vh ka la Ll Lh K P col cs :=
  ⟨h.blk.below hb, h.base, h.low.below hb, h.high.below hb, h.keys.below hb, h.last.below hb, h.c0, h.c1, h.c2, fun g hg => ⟨(h.c3 g hg).1, Nat.lt_of_lt_of_le (h.c3 g hg).2.1 hb.size, (h.c3 g hg).2.2⟩, fun g hg => ⟨(h.c4 g hg).1, Nat.lt_of_lt_of_le (h.c4 g hg).2.1 hb.size, (h.c4 g hg).2.2⟩⟩
theorem SM.keysA (h : SM w B sp lp hp vl vh ka la Ll Lh K P col cs) (hg : w.grownBy w' row) (hrow : row = none ∨ row = ka.ownBlock) (hv : ka'.ownBlock = ka.ownBlock ∨ ∃ g, ka'.ownBlock = some g ∧ w.heap.size ≤ g)
    (ho : OwnO inC 1 3 w' B ka' K') (hne : K' ≠ []) : SM w' B sp lp hp vl vh ka' la Ll Lh K' P (recol w col 3) cs ∧ Chg w w' (SF sp lp hp vl vh ka la) (SF sp lp hp vl vh ka' la) := by
  have hlt := h.lt
  have hc : Chg w w' (ownF ka) (ownF ka') := Chg.grown hg hrow fun g hg' => ⟨by
    rcases hv with e | ⟨g', e, h2⟩
    · exact .inl (e ▸ hg')
    · rw [e] at hg'; injection hg' with hg'; exact .inr (by omega), (ho.blk hne g hg').2⟩
  have hap : ∀ (G : Nat → Prop) (c : Nat), c ≠ 3 → (∀ g, G g → col g = c) → Apart (ownF ka) G := fun G c hne hG g a b => hne (by rw [← hG g b, (h.c3 g a).1])
  refine ⟨⟨h.blk.chg hc (fun hf => by have := (h.c3 _ hf).1; have := h.c0; omega), h.base, h.low.chg hc (hap _ 1 (by omega) h.c1), h.high.chg hc (hap _ 2 (by omega) h.c2), ho,
    h.last.chg hc (hap _ 4 (by omega) fun g hg => (h.c4 g hg).1) (fun g hg => (h.c4 g hg).2.1), ?_, ?_, ?_, ?_, ?_⟩, hc.widen (fun g hg => .inr (.inr (.inr (.inl hg)))) (fun g hg => ?_) (fun g hg => (hlt g hg).1)⟩
  · rw [recol_old h.blk.lt]; exact h.c0
  · intro g hg; rw [recol_old (h.low.lt g hg)]; exact h.c1 g hg
  · intro g hg; rw [recol_old (h.high.lt g hg)]; exact h.c2 g hg
  · intro g hg; exact ⟨recol_new hc (fun g hg => (h.c3 g hg).1) g hg, (ho.blk hne g hg).2, (ho.blk hne g hg).1⟩
  · intro g hg; have := h.c4 g hg; rw [recol_old this.2.1]; exact ⟨this.1, Nat.lt_of_lt_of_le this.2.1 hc.size, this.2.2⟩
  · rcases hg with hg | hg | hg | hg | hg
    · exact .inr (.inl hg)
    · exact .inr (.inr (.inl hg))
    · exact .inr (.inr (.inr (.inl hg)))
    · exact .inl hg
    · exact .inr (.inr (.inr (.inr (.inr hg))))
theorem SM.lastA (h : SM w B sp lp hp vl vh ka la Ll Lh K P col cs) (hg : w.grownBy w' row) (hrow : row = none ∨ row = la.ownBlock) (hv : la'.ownBlock = la.ownBlock ∨ ∃ g, la'.ownBlock = some g ∧ w.heap.size ≤ g)
    (ho : OwnO inC 1 3 w' B la' P') (hne : P' ≠ []) : SM w' B sp lp hp vl vh ka la' Ll Lh K P' (recol w col 4) cs ∧ Chg w w' (SF sp lp hp vl vh ka la) (SF sp lp hp vl vh ka la') := by
  have hlt := h.lt
  have hc : Chg w w' (ownF la) (ownF la') := Chg.grown hg hrow fun g hg' => ⟨by
    rcases hv with e | ⟨g', e, h2⟩
    · exact .inl (e ▸ hg')
    · rw [e] at hg'; injection hg' with hg'; exact .inr (by omega), (ho.blk hne g hg').2⟩
  have hap : ∀ (G : Nat → Prop) (c : Nat), c ≠ 4 → (∀ g, G g → col g = c) → Apart (ownF la) G := fun G c hne hG g a b => hne (by rw [← hG g b, (h.c4 g a).1])
  refine ⟨⟨h.blk.chg hc (fun hf => by have := (h.c4 _ hf).1; have := h.c0; omega), h.base, h.low.chg hc (hap _ 1 (by omega) h.c1), h.high.chg hc (hap _ 2 (by omega) h.c2),
    h.keys.chg hc (hap _ 3 (by omega) fun g hg => (h.c3 g hg).1) (fun g hg => (h.c3 g hg).2.1), ho, ?_, ?_, ?_, ?_, ?_⟩, hc.widen (fun g hg => .inr (.inr (.inr (.inr hg)))) (fun g hg => ?_) (fun g hg => (hlt g hg).1)⟩
  · rw [recol_old h.blk.lt]; exact h.c0
  · intro g hg; rw [recol_old (h.low.lt g hg)]; exact h.c1 g hg
  · intro g hg; rw [recol_old (h.high.lt g hg)]; exact h.c2 g hg
  · intro g hg; have := h.c3 g hg; rw [recol_old this.2.1]; exact ⟨this.1, Nat.lt_of_lt_of_le this.2.1 hc.size, this.2.2⟩
  · intro g hg; exact ⟨recol_new hc (fun g hg => (h.c4 g hg).1) g hg, (ho.blk hne g hg).2, (ho.blk hne g hg).1⟩
  · rcases hg with hg | hg | hg | hg | hg
    · exact .inr (.inl hg)
    · exact .inr (.inr (.inl hg))
    · exact .inr (.inr (.inr (.inl hg)))
    · exact .inr (.inr (.inr (.inr (.inl hg))))
    · exact .inl hg
theorem SM.store (h : SM w B sp lp hp vl vh ka la Ll Lh K P col cs) (hg : w.grownBy w' (some sp)) (hb : Bk w' sp 54 cs') : SM w' B sp lp hp vl vh ka la Ll Lh K P col cs' ∧ Chg w w' (SF sp lp hp vl vh ka la) (SF sp lp hp vl vh ka la) := by
  have hc : Chg w w' (one sp) (one sp) := Chg.one hg h.blk.lt
  have hlt := h.lt
  have hap : ∀ (G : Nat → Prop) (c : Nat), c ≠ 0 → (∀ g, G g → col g = c) → Apart (one sp) G := fun G c hne hG g a b => hne (by cases a; rw [← hG _ b, h.c0])
  exact ⟨⟨hb, h.base, h.low.chg hc (hap _ 1 (by omega) h.c1), h.high.chg hc (hap _ 2 (by omega) h.c2), h.keys.chg hc (hap _ 3 (by omega) fun g hg => (h.c3 g hg).1) (fun g hg => (h.c3 g hg).2.1), h.last.chg hc (hap _ 4 (by omega) fun g hg => (h.c4 g hg).1) (fun g hg => (h.c4 g hg).2.1), h.c0, h.c1, h.c2,
    fun g hg' => ⟨(h.c3 g hg').1, Nat.lt_of_lt_of_le (h.c3 g hg').2.1 hg.size, (h.c3 g hg').2.2⟩, fun g hg' => ⟨(h.c4 g hg').1, Nat.lt_of_lt_of_le (h.c4 g hg').2.1 hg.size, (h.c4 g hg').2.2⟩⟩, hc.widen (fun g hg => .inl hg) (fun g hg' => .inr hg') (fun g hg => (hlt g hg).1)⟩
/-- the lists cut: the same blocks -/
theorem SM.cut (h : SM w B sp lp hp vl vh ka la Ll Lh K P col cs) (hk : OwnO inC 1 3 w B ka' K') (hl : OwnO inC 1 3 w B la' P') (hkb : ∀ g, ka'.ownBlock = some g → ka.ownBlock = some g) (hlb : ∀ g, la'.ownBlock = some g → la.ownBlock = some g) :
    SM w B sp lp hp vl vh ka' la' Ll Lh K' P' col cs ∧ Chg w w (SF sp lp hp vl vh ka la) (SF sp lp hp vl vh ka' la') := by
  have hlt := h.lt
  refine ⟨⟨h.blk, h.base, h.low, h.high, hk, hl, h.c0, h.c1, h.c2, fun g hg => h.c3 g (hkb g hg), fun g hg => h.c4 g (hlb g hg)⟩, (Chg.refl (F := fun _ => False) (fun _ h => h.elim)).widen (fun _ h => h.elim) (fun g hg => .inr ?_) (fun g hg => (hlt g hg).1)⟩
  rcases hg with hg | hg | hg | hg | hg
  · exact .inl hg
  · exact .inr (.inl hg)
  · exact .inr (.inr (.inl hg))
  · exact .inr (.inr (.inr (.inl (hkb g hg))))
  · exact .inr (.inr (.inr (.inr (hlb g hg))))
end
theorem TM.sub {P : Program} {ops : Array Oper} {K : Env → World → Prop} {H : World → Prop} {N : Nat} {E E' : Env} {w : World} {t : Tm} (hs : Sub E E') (h : TM P ops H K N E' t w) : TM P ops H K N E t w := fun a ha => h a (hs.ag ha)
theorem TM.via {σ : Type} {P : Program} {ops : Array Oper} {K : Env → World → Prop} {H : World → Prop} {N : Nat} {E : Env} {w : World} {t : Tm} (t' : Tm) (env : σ → Env) (I : σ → World → Prop) (hf : ∀ s w, I s w → TM P ops H K N (env s) t' w)
    (h : (∀ s w, I s w → TM P ops H K N (env s) t' w) → TM P ops H K N E t w) : TM P ops H K N E t w := h hf
theorem callsS {P : Program} {f : FuncId} {args : Array Value} {w : World} {u : Value} {C : World → Prop} (hc : Calls P f args w (Ret fun v w' => v = u ∧ w' = w)) (h : C w) : Calls P f args w (Ret fun v w' => v = u ∧ C w') := hc.mono fun e w1 he => by
  cases e with
  | returned v => exact ⟨he.1, he.2 ▸ h⟩
  | panicked ch => exact he
  | outgrown => exact he
/-- a literal of one number -/
theorem rowOne {w : World} {g : Nat} {cs : List Value} (h : Bk w g 3 cs) (x : Int) (e : cs = [.int .i64 x]) : RowOf inC 1 w (some ⟨g, 0, none⟩) 1 (fun _ => x) := by
  subst e
  refine h.toRow (enc := inC) (k := 1) 0 fun i hi j u hu => ?_
  obtain rfl : i = 0 := by omega
  simpa [inC] using hu
end Rk
