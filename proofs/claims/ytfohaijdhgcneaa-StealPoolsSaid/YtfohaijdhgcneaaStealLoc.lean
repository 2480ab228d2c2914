/- A race and one of its actors, seen by an operation's step. -/
import Derived.Test.YtfohaijdhgcneaaStealRep
set_option linter.unusedVariables false
set_option linter.unusedSimpArgs false
namespace Go.Proofs.Ytfohaijdhgcneaa
open Go Go.RowKit

/-- The numbers of a race and of an actor: room, cells, top, bottom, results. -/
structure Nums where
  room : Nat
  cells : List Int
  top : Int
  bot : Int
  got : List Int
/-- What does not turn: the slices of the race, the actor's number and its closure. -/
structure Fixed where
  b : Nat
  ab : Nat
  cv : Value
  av : Value
  ov : Value
  tv : Value
  pv : Value
  n : Nat
  opv : Value
  nx : Value
structure Loc (w : World) (F : Fixed) (N : Nums) (gv : Value) : Prop where
  core : Core w F.b N.room N.cells N.top N.bot F.cv F.av F.ov F.tv F.pv
  ac : AcB w F.ab F.n N.got F.opv F.nx gv
  off : Off F.cv gv
  r1 : 1 ≤ N.room
  r16 : N.room ≤ 16
  cl : N.cells.length = N.room
  tb : 0 ≤ N.top ∧ N.top ≤ 1000
  bb : -1 ≤ N.bot ∧ N.bot ≤ 1000
  gl : N.got.length ≤ 500
/-- What an operation's step may turn. -/
def XP (F : Fixed) (gv : Value) : Nat → Prop := fun k => k = F.b ∨ F.cv.ownBlock = some k ∨ k = F.ab ∨ gv.ownBlock = some k
def XT (F : Fixed) (gv : Value) (bt bx : Nat) : Nat → Prop := fun k => XP F gv k ∨ k = bt ∨ k = bx
/-- The two variables of a take or a steal. -/
structure Box2 (w : World) (F : Fixed) (gv : Value) (bt bx : Nat) (t x : Int) : Prop where
  t : Blk w bt 3 [.int .i64 t]
  x : Blk w bx 3 [.int .i64 x]
  ne : bt ≠ bx
  c : ∀ g, F.cv.ownBlock = some g → g ≠ bt ∧ g ≠ bx
  g : ∀ g, gv.ownBlock = some g → g ≠ bt ∧ g ≠ bx
section
variable {w w' : World} {X : Nat → Prop} {F : Fixed} {N : Nums} {gv : Value} {bt bx : Nat} {t x : Int}
theorem Loc.nab (h : Loc w F N gv) : F.b ≠ F.ab := blk_ne h.core.blk h.ac.blk (by decide)
theorem Loc.cb (h : Loc w F N gv) : ∀ g, F.cv.ownBlock = some g → g ≠ F.b := own_ne_blk h.core.row h.core.blk (by decide)
theorem Loc.ca (h : Loc w F N gv) : ∀ g, F.cv.ownBlock = some g → g ≠ F.ab := own_ne_blk h.core.row h.ac.blk (by decide)
theorem Loc.gb (h : Loc w F N gv) : ∀ g, gv.ownBlock = some g → g ≠ F.b := own_ne_blk h.ac.row h.core.blk (by decide)
theorem Loc.ga (h : Loc w F N gv) : ∀ g, gv.ownBlock = some g → g ≠ F.ab := own_ne_blk h.ac.row h.ac.blk (by decide)
theorem Loc.only (h : Loc w F N gv) (ho : Only w w') : Loc w' F N gv := { h with core := h.core.only ho, ac := h.ac.only ho }
theorem Box2.only (h : Box2 w F gv bt bx t x) (ho : Only w w') : Box2 w' F gv bt bx t x := { h with t := ho.blk h.t, x := ho.blk h.x }
/-- A box of another type is not turned. -/
theorem Loc.apart (h : Loc w F N gv) {k : Nat} {T : TypeId} {vs : List Value} (hb : Blk w k T vs) (h1 : T ≠ 81) (h2 : T ≠ 86) (h3 : T ≠ 3) : ¬ XP F gv k := by
  rintro (rfl | e | rfl | e)
  · exact h1 (hb.inj h.core.blk).1
  · exact own_ne_blk h.core.row hb (fun e => h3 e.symm) k e rfl
  · exact h2 (hb.inj h.ac.blk).1
  · exact own_ne_blk h.ac.row hb (fun e => h3 e.symm) k e rfl
theorem Box2.apart (h : Box2 w F gv bt bx t x) {k : Nat} {T : TypeId} {vs : List Value} (hb : Blk w k T vs) (h3 : T ≠ 3) : k ≠ bt ∧ k ≠ bx := ⟨blk_ne hb h.t h3, blk_ne hb h.x h3⟩
/-- Bottom anew. -/
theorem Loc.putB (h : Loc w F N gv) (v : Int) (hv : -1 ≤ v ∧ v ≤ 1000) : Loc (w.setCell ⟨F.b, 3, none⟩ (.int .i64 v)) F { N with bot := v } gv :=
  ⟨⟨h.core.blk.set 3 _, own_set h.core.row _ h.cb⟩, ⟨h.ac.blk.set_other h.nab _, own_set h.ac.row _ h.gb⟩, h.off, h.r1, h.r16, h.cl, h.tb, hv, h.gl⟩
/-- Top anew. -/
theorem Loc.putT (h : Loc w F N gv) (v : Int) (hv : 0 ≤ v ∧ v ≤ 1000) : Loc (w.setCell ⟨F.b, 2, none⟩ (.int .i64 v)) F { N with top := v } gv :=
  ⟨⟨h.core.blk.set 2 _, own_set h.core.row _ h.cb⟩, ⟨h.ac.blk.set_other h.nab _, own_set h.ac.row _ h.gb⟩, h.off, h.r1, h.r16, h.cl, hv, h.bb, h.gl⟩
theorem Box2.put (h : Box2 w F gv bt bx t x) {k i : Nat} (v : Value) (hk : k ≠ bt ∧ k ≠ bx) : Box2 (w.setCell ⟨k, i, none⟩ v) F gv bt bx t x :=
  { h with t := h.t.set_other hk.1 v, x := h.x.set_other hk.2 v }
theorem Box2.putT (h : Box2 w F gv bt bx t x) (v : Int) : Box2 (w.setCell ⟨bt, 0, none⟩ (.int .i64 v)) F gv bt bx v x :=
  { h with t := h.t.set 0 _, x := h.x.set_other h.ne _ }
theorem Box2.putX (h : Box2 w F gv bt bx t x) (v : Int) : Box2 (w.setCell ⟨bx, 0, none⟩ (.int .i64 v)) F gv bt bx t v :=
  { h with t := h.t.set_other (fun e => h.ne e.symm) _, x := h.x.set 0 _ }
/-- A variable turned. -/
theorem Loc.box (h : Loc w F N gv) (hb : Box2 w F gv bt bx t x) {k : Nat} (hk : k = bt ∨ k = bx) (v : Value) : Loc (w.setCell ⟨k, 0, none⟩ v) F N gv := by
  have e1 : k ≠ F.b := by rcases hk with rfl | rfl; exact blk_ne hb.t h.core.blk (by decide); exact blk_ne hb.x h.core.blk (by decide)
  have e2 : k ≠ F.ab := by rcases hk with rfl | rfl; exact blk_ne hb.t h.ac.blk (by decide); exact blk_ne hb.x h.ac.blk (by decide)
  have e3 : ∀ g, F.cv.ownBlock = some g → g ≠ k := fun g hg => by rcases hk with rfl | rfl; exact (hb.c g hg).1; exact (hb.c g hg).2
  have e4 : ∀ g, gv.ownBlock = some g → g ≠ k := fun g hg => by rcases hk with rfl | rfl; exact (hb.g g hg).1; exact (hb.g g hg).2
  exact { h with core := ⟨h.core.blk.set_other e1 _, own_set h.core.row _ e3⟩, ac := ⟨h.ac.blk.set_other e2 _, own_set h.ac.row _ e4⟩ }
/-- A cell anew. -/
theorem Loc.putC {gc cc : Nat} (h : Loc w F N gv) (e : F.cv = .slice (some ⟨gc, 0, none⟩) N.room cc) (q : Nat) (v : Int) : Loc (w.setCell ⟨gc, q, none⟩ (.int .i64 v)) F { N with cells := N.cells.set q v } gv := by
  have hg : F.cv.ownBlock = some gc := by rw [e]; rfl
  have hr := h.core.row
  rw [e] at hr
  have hr2 := (hr.stored q (.int .i64 v)).1
  refine ⟨⟨h.core.blk.set_other (h.cb gc hg) _, ?_⟩, ⟨h.ac.blk.set_other (h.ca gc hg) _, own_set h.ac.row _ (fun g hgg e2 => h.off gc hg (by rw [hgg]; simp only at e2; rw [e2]))⟩, h.off, h.r1, h.r16, by simp [h.cl], h.tb, h.bb, h.gl⟩
  rw [e]
  simpa [ints, List.map_set] using hr2
/-- Behind 'end'. -/
theorem Loc.ended (h : Loc w F N gv) {gv' : Value} {r : Int} (ha : AcB w' F.ab F.n (N.got ++ [r]) F.opv F.nx gv') (hn : Next w gv gv') (hx : Stay (fun k => k = F.ab ∨ gv.ownBlock = some k) w w') (hl : N.got.length < 500) : Loc w' F { N with got := N.got ++ [r] } gv' :=
  ⟨h.core.stay hx (by rintro (e | e); exact h.nab e; exact h.gb _ e rfl) (fun g hg => by rintro (e | e); exact h.ca g hg e; exact h.off g hg e), ha, fun g hg hg2 => by
    rcases hn g hg2 with e | e
    · exact h.off g hg e
    · have := (own_lt h.core.row g hg).2
      omega, h.r1, h.r16, h.cl, h.tb, h.bb, by simp; omega⟩
theorem Box2.ended (h : Box2 w F gv bt bx t x) {gv' : Value} (hl : Loc w F N gv) (hn : Next w gv gv') (hx : Stay (fun k => k = F.ab ∨ gv.ownBlock = some k) w w') : Box2 w' F gv' bt bx t x :=
  ⟨hx.blk h.t (by rintro (e | e); exact blk_ne h.t hl.ac.blk (by decide) e; exact (h.g _ e).1 rfl), hx.blk h.x (by rintro (e | e); exact blk_ne h.x hl.ac.blk (by decide) e; exact (h.g _ e).2 rfl), h.ne, h.c, fun g hg => by
    rcases hn g hg with e | e
    · exact h.g g e
    · have h1 := h.t.lt
      have h2 := h.x.lt
      exact ⟨by omega, by omega⟩⟩
end
/-- Behind a step of a push. -/
def PushPost (w : World) (F : Fixed) (N' : Nums) (gv : Value) (ret : Value) (e : Ending) (w' : World) : Prop := e = .returned ret ∧ ∃ gv', Loc w' F N' gv' ∧ Next w gv gv' ∧ Stay (XP F gv) w w'
/-- Behind a step of a take or a steal. -/
def TwoPost (w : World) (F : Fixed) (N' : Nums) (gv : Value) (bt bx : Nat) (t' x' : Int) (ret : Value) (e : Ending) (w' : World) : Prop := e = .returned ret ∧ ∃ gv', Loc w' F N' gv' ∧ Box2 w' F gv' bt bx t' x' ∧ Next w gv gv' ∧ Stay (XT F gv bt bx) w w'

end Go.Proofs.Ytfohaijdhgcneaa
