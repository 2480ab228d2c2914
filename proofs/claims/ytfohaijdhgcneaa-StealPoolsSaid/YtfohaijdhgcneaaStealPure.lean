/- A race: plain lists, no program in sight. -/
import Derived.Test.YtfohaijdhgcneaaSep
set_option linter.unusedVariables false
set_option linter.unusedSimpArgs false
namespace Go.Proofs.Ytfohaijdhgcneaa
open Go Go.RowKit

/-- An actor: how many operations, the step it is at, what it has read, its results. -/
structure Act where
  n : Nat
  step : Nat
  t : Int
  x : Int
  got : List Int
deriving DecidableEq
/-- A race: its deque, its actors (the owner first), the owner's operations, the thieves' numbers, the steps made. -/
structure Rc where
  room : Nat
  cells : List Int
  top : Int
  bot : Int
  acts : List Act
  own : List Int
  thv : List Int
  past : List Int

def Act.done (a : Act) (r : Int) : Act := { a with got := a.got ++ [r], step := 0 }
def Rc.at (R : Rc) (p : Int) : Int := R.cells.getD (p.toNat % R.room) 0
def pushS (R : Rc) (a : Act) (x : Int) : Rc × Act :=
  if a.step = 0 then (if R.bot - R.top = R.room then (R, a.done (-1)) else (R, { a with step := 1 }))
  else if a.step = 1 then ({ R with cells := R.cells.set (R.bot.toNat % R.room) x }, { a with step := 2 })
  else ({ R with bot := R.bot + 1 }, a.done x)
def takeS (R : Rc) (a : Act) : Rc × Act :=
  if a.step = 0 then ({ R with bot := R.bot - 1 }, { a with step := 1 })
  else if a.step = 1 then
    (if R.bot < R.top then ({ R with bot := R.top }, { a with t := R.top }.done 0)
     else if R.top < R.bot then (R, { a with t := R.top }.done (R.at R.bot))
     else (R, { a with t := R.top, step := 2 }))
  else if a.step = 2 then (R, { a with x := R.at R.bot, step := 3 })
  else if R.top = a.t then ({ R with bot := a.t + 1, top := a.t + 1 }, a.done a.x) else ({ R with bot := a.t + 1 }, a.done 0)
def stealS (R : Rc) (a : Act) : Rc × Act :=
  if a.step = 0 then (R, { a with t := R.top, step := 1 })
  else if a.step = 1 then (if R.bot ≤ a.t then (R, a.done 0) else (R, { a with step := 2 }))
  else if a.step = 2 then (R, { a with x := R.at a.t, step := 3 })
  else if R.top = a.t then ({ R with top := a.t + 1 }, a.done a.x) else (R, a.done (-1))
def opS (R : Rc) (i : Nat) (a : Act) : Rc × Act :=
  if i = 0 then (if R.own.getD a.got.length 0 = 0 then takeS R a else pushS R a (R.own.getD a.got.length 0)) else stealS R a
/-- An actor's step: the race behind it. -/
def Rc.go (R : Rc) (i : Nat) (a : Act) : Rc := { (opS R i a).1 with acts := R.acts.set i (opS R i a).2, past := R.past ++ [(i : Int)] }
def Rc.step (R : Rc) (i : Int) : Rc × Bool :=
  if i < 0 then (R, false) else
  match R.acts[i.toNat]? with
  | none => (R, false)
  | some a => if a.got.length = a.n then (R, false) else (R.go i.toNat a, true)

/-- Is the owner taking? -/
def Rc.tak (R : Rc) (a : Act) : Prop := 1 ≤ a.step ∧ R.own.getD a.got.length 0 = 0
instance (R : Rc) (a : Act) : Decidable (R.tak a) := inferInstanceAs (Decidable (_ ∧ _))
def lim (bot : Int) (tak : Bool) : Int := if tak then bot + 1 else bot
def mu (l : List Act) : Nat := (l.map fun a => 4 * a.got.length + a.step).sum
structure Rc.Ok (R : Rc) : Prop where
  r1 : 1 ≤ R.room
  r16 : R.room ≤ 16
  cl : R.cells.length = R.room
  t0 : 0 ≤ R.top
  al : R.acts.length ≤ 9
  an : ∀ (i : Nat) (a : Act), R.acts[i]? = some a → a.n ≤ 60 ∧ a.got.length ≤ a.n ∧ a.step ≤ 3 ∧ (a.step ≠ 0 → a.got.length < a.n)
  own : ∃ a, R.acts[0]? = some a ∧ R.own.length = a.n ∧ R.bot ≤ a.got.length ∧ R.top ≤ lim R.bot (decide (R.tak a)) ∧
    (R.own.getD a.got.length 0 ≠ 0 → a.step ≤ 2) ∧ (R.tak a → 2 ≤ a.step → a.t = R.bot ∧ 0 ≤ a.t ∧ a.t ≤ R.top) ∧ (R.tak a → R.bot + 1 ≤ a.got.length) ∧
    ∀ (i : Nat) (s : Act), 0 < i → R.acts[i]? = some s → 1 ≤ s.step → 0 ≤ s.t ∧ s.t ≤ R.top ∧ (2 ≤ s.step → s.t = R.top → s.t < lim R.bot (decide (R.tak a)))
  ow : ∀ x ∈ R.own, 0 ≤ x ∧ x ≤ 1000000
  pl : R.past.length ≤ mu R.acts
theorem mu_set : ∀ (l : List Act) (i : Nat) (a a' : Act), l[i]? = some a → mu (l.set i a') + (4 * a.got.length + a.step) = mu l + (4 * a'.got.length + a'.step)
  | [], i, a, a', h => by simp at h
  | b :: l, 0, a, a', h => by
    simp only [List.getElem?_cons_zero, Option.some.injEq] at h
    subst h
    simp [mu]
    omega
  | b :: l, i + 1, a, a', h => by
    simp only [List.getElem?_cons_succ] at h
    have := mu_set l i a a' h
    simp only [mu, List.set_cons_succ, List.map_cons, List.sum_cons] at this ⊢
    omega
theorem mu_le : ∀ (l : List Act), (∀ a ∈ l, a.got.length ≤ 60 ∧ a.step ≤ 3) → mu l ≤ 243 * l.length
  | [], _ => by simp [mu]
  | a :: l, h => by
    have h1 := h a (List.mem_cons_self ..)
    have := mu_le l (fun b hb => h b (List.mem_cons_of_mem _ hb))
    simp only [mu, List.map_cons, List.sum_cons, List.length_cons] at this ⊢
    omega
theorem Rc.Ok.past_le {R : Rc} (h : R.Ok) : R.past.length ≤ 2187 := by
  have h1 := h.pl
  have h2 := mu_le R.acts (fun a ha => by
    obtain ⟨i, hi⟩ := List.getElem?_of_mem ha
    have := h.an i a hi
    omega)
  have h3 := h.al
  omega

/-- What an operation's step does to its own actor. -/
theorem op_act (R : Rc) (i : Nat) (a : Act) (h3 : a.step ≤ 3) (hn : a.got.length < a.n) : (opS R i a).2.n = a.n ∧ (opS R i a).2.step ≤ 3 ∧ (opS R i a).2.got.length ≤ a.n ∧ ((opS R i a).2.step ≠ 0 → (opS R i a).2.got.length < a.n) ∧ 4 * a.got.length + a.step + 1 ≤ 4 * (opS R i a).2.got.length + (opS R i a).2.step := by
  have hd : ∀ (b : Act) (r : Int), b.n = a.n → b.got = a.got → (b.done r).n = a.n ∧ (b.done r).step ≤ 3 ∧ (b.done r).got.length ≤ a.n ∧ ((b.done r).step ≠ 0 → (b.done r).got.length < a.n) ∧ 4 * a.got.length + a.step + 1 ≤ 4 * (b.done r).got.length + (b.done r).step := fun b r h1 h2 => by
    refine ⟨h1, by simp [Act.done], by simp [Act.done, h2]; omega, by simp [Act.done], by simp [Act.done, h2]; omega⟩
  unfold opS
  split
  · split
    · unfold takeS
      split
      · refine ⟨rfl, by simp, by simp; omega, by simp; omega, by simp; omega⟩
      split
      · split
        · exact hd _ _ rfl rfl
        split
        · exact hd _ _ rfl rfl
        · refine ⟨rfl, by simp, by simp; omega, by simp; omega, by simp; omega⟩
      split
      · refine ⟨rfl, by simp, by simp; omega, by simp; omega, by simp; omega⟩
      split
      · exact hd _ _ rfl rfl
      · exact hd _ _ rfl rfl
    · unfold pushS
      split
      · split
        · exact hd _ _ rfl rfl
        · refine ⟨rfl, by simp, by simp; omega, by simp; omega, by simp; omega⟩
      split
      · refine ⟨rfl, by simp, by simp; omega, by simp; omega, by simp; omega⟩
      · exact hd _ _ rfl rfl
  · unfold stealS
    split
    · refine ⟨rfl, by simp, by simp; omega, by simp; omega, by simp; omega⟩
    split
    · split
      · exact hd _ _ rfl rfl
      · refine ⟨rfl, by simp, by simp; omega, by simp; omega, by simp; omega⟩
    split
    · refine ⟨rfl, by simp, by simp; omega, by simp; omega, by simp; omega⟩
    split
    · exact hd _ _ rfl rfl
    · exact hd _ _ rfl rfl
theorem op_room (R : Rc) (i : Nat) (a : Act) : (opS R i a).1.room = R.room ∧ (opS R i a).1.cells.length = R.cells.length ∧ (opS R i a).1.own = R.own ∧ (opS R i a).1.thv = R.thv := by
  unfold opS takeS pushS stealS
  repeat' split
  all_goals simp

end Go.Proofs.Ytfohaijdhgcneaa
