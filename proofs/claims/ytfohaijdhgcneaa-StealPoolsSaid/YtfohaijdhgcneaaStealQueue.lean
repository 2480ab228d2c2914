/- A race's deque is a list: what each step does to it. -/
import Derived.Test.YtfohaijdhgcneaaStealOk
set_option linter.unusedVariables false
set_option linter.unusedSimpArgs false
namespace Go.Proofs.Ytfohaijdhgcneaa
open Go Go.RowKit

/-- The deque of a race holds the list q. -/
structure Deq (R : Rc) (q : List Int) : Prop where
  ok : R.Ok
  pos : ∀ x ∈ q, 0 < x
  ql : q.length ≤ R.room
  val : ∀ k : Nat, k < q.length → R.at (R.top + (k : Int)) = q.getD k 0
  own : ∀ a, R.acts[0]? = some a → R.top + (q.length : Int) = lim R.bot (decide (R.tak a)) ∧
    (R.own.getD a.got.length 0 ≠ 0 → 1 ≤ a.step → q.length < R.room ∧ (a.step = 2 → R.at R.bot = R.own.getD a.got.length 0)) ∧ (R.tak a → a.step = 3 → a.x = R.at R.bot)
  thv : ∀ (i : Nat) (s : Act), 0 < i → R.acts[i]? = some s → s.step = 3 → s.t = R.top → s.x = R.at R.top
/-- An operation ends: what it says, what it does. -/
def Ev (room : Nat) (i : Nat) (op r : Int) (q q' : List Int) : Prop :=
  if i = 0 then
    (if op = 0 then (r = 0 ∧ q = [] ∧ q' = []) ∨ q = q' ++ [r]
     else (r = -1 ∧ q' = q ∧ q.length = room) ∨ (r = op ∧ q' = q ++ [op] ∧ q.length < room))
  else (r = 0 ∧ q' = q) ∨ (r = -1 ∧ q' = q) ∨ q = r :: q'

theorem mod_ne {a b m : Nat} (h : a < b) (h2 : b - a < m) : a % m ≠ b % m := fun e => by
  have h3 : (b - a) % m = 0 := Nat.sub_mod_eq_zero_of_mod_eq e.symm
  rw [Nat.mod_eq_of_lt h2] at h3
  omega
theorem at_set {R : Rc} (h1 : 1 ≤ R.room) (hc : R.cells.length = R.room) (x : Int) (p : Int) :
    Rc.at { R with cells := R.cells.set (R.bot.toNat % R.room) x } p = if p.toNat % R.room = R.bot.toNat % R.room then x else R.at p := by
  unfold Rc.at
  simp only
  have hm := Nat.mod_lt R.bot.toNat (show R.room > 0 by omega)
  rw [List.getD_eq_getElem?_getD, List.getElem?_set]
  by_cases e : R.bot.toNat % R.room = p.toNat % R.room
  · rw [if_pos e, if_pos (by rw [hc]; exact hm), if_pos e.symm]
    rfl
  · rw [if_neg e, if_neg (fun h => e h.symm), List.getD_eq_getElem?_getD]
theorem go_own (R : Rc) (i : Nat) (a : Act) : (R.go i a).own = R.own := (op_room R i a).2.2.1
theorem go_tak (R : Rc) (i : Nat) (a b : Act) : decide ((R.go i a).tak b) = decide (R.tak b) := decide_eq_decide.2 (by unfold Rc.tak; rw [go_own])
/-- A step of the owner. -/
theorem Deq.mk0 {R : Rc} {q q' : List Int} {a : Act} (h : Deq R q) (hi : R.acts[0]? = some a) (hn : a.got.length ≠ a.n) {R1 : Rc} {a1 : Act} (he : opS R 0 a = (R1, a1))
    (pos : ∀ x ∈ q', 0 < x) (ql : q'.length ≤ R.room) (val : ∀ k : Nat, k < q'.length → R1.at (R1.top + (k : Int)) = q'.getD k 0)
    (own1 : R1.top + (q'.length : Int) = lim R1.bot (decide (R.tak a1)))
    (own2 : R.own.getD a1.got.length 0 ≠ 0 → 1 ≤ a1.step → q'.length < R.room ∧ (a1.step = 2 → R1.at R1.bot = R.own.getD a1.got.length 0))
    (own3 : R.tak a1 → a1.step = 3 → a1.x = R1.at R1.bot)
    (thv : ∀ (i : Nat) (s : Act), 0 < i → R.acts[i]? = some s → s.step = 3 → s.t = R1.top → s.x = R1.at R1.top) : Deq (R.go 0 a) q' := by
  obtain ⟨r1, r2, r3, r4⟩ := op_room R 0 a
  have hil := (List.getElem?_eq_some_iff.1 hi).1
  have e1 : (R.go 0 a).room = R.room := r1
  have e2 : (R.go 0 a).top = R1.top := by show (opS R 0 a).1.top = _; rw [he]
  have e3 : (R.go 0 a).bot = R1.bot := by show (opS R 0 a).1.bot = _; rw [he]
  have e4 : ∀ p, (R.go 0 a).at p = R1.at p := fun p => by show (opS R 0 a).1.at p = _; rw [he]
  have e5 : (R.go 0 a).acts = R.acts.set 0 a1 := by show R.acts.set 0 (opS R 0 a).2 = _; rw [he]
  refine ⟨h.ok.go hi hn, pos, by rw [e1]; exact ql, fun k hk => by rw [e4, e2]; exact val k hk, fun b hb => ?_, fun i s h0 hs h3 ht => ?_⟩
  · rw [e5, List.getElem?_set, if_pos rfl, if_pos hil] at hb
    cases hb
    rw [e2, e3, go_tak, go_own, e1]
    refine ⟨own1, fun h1 h2 => by rw [e4]; exact own2 h1 h2, fun h1 h2 => ?_⟩
    rw [e4]
    refine own3 ?_ h2
    unfold Rc.tak at h1 ⊢
    rwa [go_own] at h1
  · rw [e5, List.getElem?_set, if_neg (by omega)] at hs
    rw [e2] at ht
    rw [e2, e4]
    exact thv i s h0 hs h3 ht
/-- A step of a thief. -/
theorem Deq.mk1 {R : Rc} {q q' : List Int} {i : Nat} {a : Act} (h : Deq R q) (h0 : i ≠ 0) (hi : R.acts[i]? = some a) (hn : a.got.length ≠ a.n) {a1 : Act} {top : Int} (he : opS R i a = ({ R with top := top }, a1))
    (pos : ∀ x ∈ q', 0 < x) (ql : q'.length ≤ q.length) (hq : top + (q'.length : Int) = R.top + (q.length : Int)) (val : ∀ k : Nat, k < q'.length → R.at (top + (k : Int)) = q'.getD k 0)
    (thv1 : ∀ (j : Nat) (s : Act), 0 < j → R.acts[j]? = some s → s.step = 3 → s.t = top → s.x = R.at top) (thv2 : a1.step = 3 → a1.t = top → a1.x = R.at top) : Deq (R.go i a) q' := by
  obtain ⟨r1, r2, r3, r4⟩ := op_room R i a
  have hil := (List.getElem?_eq_some_iff.1 hi).1
  have e1 : (R.go i a).room = R.room := r1
  have e2 : (R.go i a).top = top := by show (opS R i a).1.top = _; rw [he]
  have e3 : (R.go i a).bot = R.bot := by show (opS R i a).1.bot = _; rw [he]
  have e4 : ∀ p, (R.go i a).at p = R.at p := fun p => by show (opS R i a).1.at p = _; rw [he]; rfl
  have e5 : (R.go i a).acts = R.acts.set i a1 := by show R.acts.set i (opS R i a).2 = _; rw [he]
  refine ⟨h.ok.go hi hn, pos, by rw [e1]; exact Nat.le_trans ql h.ql, fun k hk => by rw [e4, e2]; exact val k hk, fun b hb => ?_, fun j s hj hs h3 ht => ?_⟩
  · rw [e5, List.getElem?_set, if_neg h0] at hb
    obtain ⟨o1, o2, o3⟩ := h.own b hb
    rw [e2, e3, go_tak, go_own, e1]
    refine ⟨hq.trans o1, fun h1 h2 => by rw [e4]; exact ⟨Nat.lt_of_le_of_lt ql (o2 h1 h2).1, (o2 h1 h2).2⟩, fun h1 h2 => ?_⟩
    rw [e4]
    refine o3 ?_ h2
    unfold Rc.tak at h1 ⊢
    rwa [go_own] at h1
  · rw [e2] at ht
    rw [e2, e4]
    rw [e5, List.getElem?_set] at hs
    split at hs
    · cases hs
      exact thv2 h3 ht
    · exact thv1 j s hj hs h3 ht
theorem getD_dropLast {q : List Int} {k : Nat} (h : k < q.dropLast.length) : q.dropLast.getD k 0 = q.getD k 0 := by
  rw [List.getD_eq_getElem?_getD, List.getD_eq_getElem?_getD, List.getElem?_dropLast, if_pos (by rw [List.length_dropLast] at h; omega)]
theorem drop_last {q : List Int} (h : q ≠ []) : q = q.dropLast ++ [q.getD (q.length - 1) 0] := by
  rw [List.getD_eq_getElem?_getD, ← List.getLast?_eq_getElem?, List.getLast?_eq_some_getLast h]
  exact (List.dropLast_concat_getLast h).symm

/-- What a step does to the deque's list. -/
theorem Deq.go {R : Rc} {q : List Int} {i : Nat} {a : Act} (h : Deq R q) (hi : R.acts[i]? = some a) (hn : a.got.length ≠ a.n) :
    ((opS R i a).2.got = a.got ∧ (opS R i a).1.top = R.top ∧ Deq (R.go i a) q) ∨
    ∃ r q', (opS R i a).2.got = a.got ++ [r] ∧ (opS R i a).2.step = 0 ∧ Ev R.room i (R.own.getD a.got.length 0) r q q' ∧ ((opS R i a).1.top = R.top ∨ 0 < r) ∧ Deq (R.go i a) q' := by
  have hr1 := h.ok.r1
  have hcl := h.ok.cl
  have ht0 := h.ok.t0
  have han := h.ok.an i a hi
  have hql := h.ql
  obtain ⟨a0, p1, p2, p3, p4, p5, p6, p7, p8⟩ := h.ok.own
  by_cases h0 : i = 0
  · subst h0
    rw [hi] at p1
    cases p1
    obtain ⟨o1, o2, o3⟩ := h.own a hi
    by_cases hop : R.own.getD a.got.length 0 = 0
    · have e : opS R 0 a = takeS R a := by unfold opS; rw [if_pos rfl, if_pos hop]
      by_cases s0 : a.step = 0
      · have tk : decide (R.tak a) = false := by simp [Rc.tak, s0]
        rw [tk, lim_false] at o1
        have e2 : opS R 0 a = ({ R with bot := R.bot - 1 }, { a with step := 1 }) := by rw [e]; unfold takeS; rw [if_pos s0]
        have tk2 : decide (R.tak { a with step := 1 }) = true := decide_eq_true (show R.tak _ from ⟨by simp, hop⟩)
        refine .inl ⟨by rw [e2], by rw [e2], h.mk0 hi hn e2 h.pos hql h.val (by rw [tk2, lim_true]; simp only; omega) (fun h1 => absurd hop h1) (fun _ h => by simp at h) h.thv⟩
      have tkp : R.tak a := ⟨by omega, hop⟩
      have tk : decide (R.tak a) = true := decide_eq_true tkp
      rw [tk, lim_true] at o1 p4
      by_cases s1 : a.step = 1
      · by_cases c1 : R.bot < R.top
        · have e2 : opS R 0 a = ({ R with bot := R.top }, { a with t := R.top }.done 0) := by rw [e]; unfold takeS; rw [if_neg s0, if_pos s1, if_pos c1]
          have hq : q = [] := List.eq_nil_of_length_eq_zero (by omega)
          subst hq
          refine .inr ⟨0, [], by rw [e2]; rfl, by rw [e2]; rfl, by unfold Ev; rw [if_pos rfl, if_pos hop]; exact .inl ⟨rfl, rfl, rfl⟩, by rw [e2]; exact .inl rfl, h.mk0 hi hn e2 h.pos hql (fun k hk => by simp at hk) (by rw [done_tak, lim_false]; simp) (fun _ h => by simp [Act.done] at h) (fun _ h => by simp [Act.done] at h) h.thv⟩
        · by_cases c2 : R.top < R.bot
          · have e2 : opS R 0 a = (R, { a with t := R.top }.done (R.at R.bot)) := by rw [e]; unfold takeS; rw [if_neg s0, if_pos s1, if_neg c1, if_pos c2]
            have hq : q ≠ [] := fun e => by subst e; simp at o1; omega
            have hlast : R.at R.bot = q.getD (q.length - 1) 0 := by
              have := h.val (q.length - 1) (by omega)
              rw [← this]
              congr 1
              omega
            have hd := drop_last hq
            refine .inr ⟨R.at R.bot, q.dropLast, by rw [e2]; rfl, by rw [e2]; rfl, by unfold Ev; rw [if_pos rfl, if_pos hop, hlast]; exact .inr hd, by rw [e2]; exact .inl rfl, h.mk0 hi hn e2 (fun x hx => h.pos x ((List.dropLast_sublist q).subset hx)) (by rw [List.length_dropLast]; omega) (fun k hk => by rw [getD_dropLast hk]; exact h.val k (by rw [List.length_dropLast] at hk; omega)) (by rw [done_tak, lim_false, List.length_dropLast]; omega) (fun _ h => by simp [Act.done] at h) (fun _ h => by simp [Act.done] at h) h.thv⟩
          · have e2 : opS R 0 a = (R, { a with t := R.top, step := 2 }) := by rw [e]; unfold takeS; rw [if_neg s0, if_pos s1, if_neg c1, if_neg c2]
            have tk2 : decide (R.tak { a with t := R.top, step := 2 }) = true := decide_eq_true (show R.tak _ from ⟨by simp, hop⟩)
            refine .inl ⟨by rw [e2], by rw [e2], h.mk0 hi hn e2 h.pos hql h.val (by rw [tk2, lim_true]; exact o1) (fun h1 => absurd hop h1) (fun _ h => by simp at h) h.thv⟩
      by_cases s2 : a.step = 2
      · have e2 : opS R 0 a = (R, { a with x := R.at R.bot, step := 3 }) := by rw [e]; unfold takeS; rw [if_neg s0, if_neg s1, if_pos s2]
        have tk2 : decide (R.tak { a with x := R.at R.bot, step := 3 }) = true := decide_eq_true (show R.tak _ from ⟨by simp, hop⟩)
        refine .inl ⟨by rw [e2], by rw [e2], h.mk0 hi hn e2 h.pos hql h.val (by rw [tk2, lim_true]; exact o1) (fun h1 => absurd hop h1) (fun _ _ => rfl) h.thv⟩
      · have q6 := p6 tkp (by omega)
        have hx := o3 tkp (by omega)
        by_cases c1 : R.top = a.t
        · have e2 : opS R 0 a = ({ R with bot := a.t + 1, top := a.t + 1 }, a.done a.x) := by rw [e]; unfold takeS; rw [if_neg s0, if_neg s1, if_neg s2, if_pos c1]
          have hq : q = [a.x] := by
            match q, h, o1 with
            | [y], h, o1 =>
              have := h.val 0 (by simp)
              simp at this
              rw [← this, hx]
              congr 2
              omega
            | [], h, o1 => simp at o1; omega
            | y :: z :: l, h, o1 => simp at o1; omega
          have hp : 0 < a.x := h.pos _ (by rw [hq]; simp)
          refine .inr ⟨a.x, [], by rw [e2]; rfl, by rw [e2]; rfl, by unfold Ev; rw [if_pos rfl, if_pos hop]; exact .inr hq, .inr hp, h.mk0 hi hn e2 (fun x hx => by simp at hx) (by simp) (fun k hk => by simp at hk) (by rw [done_tak, lim_false]; simp) (fun _ h => by simp [Act.done] at h) (fun _ h => by simp [Act.done] at h) (fun j s hj hs h3 ht => by
            have := (p8 j s hj hs (by omega)).2.1
            simp at ht
            omega)⟩
        · have e2 : opS R 0 a = ({ R with bot := a.t + 1 }, a.done 0) := by rw [e]; unfold takeS; rw [if_neg s0, if_neg s1, if_neg s2, if_neg c1]
          have hq : q = [] := List.eq_nil_of_length_eq_zero (by omega)
          subst hq
          refine .inr ⟨0, [], by rw [e2]; rfl, by rw [e2]; rfl, by unfold Ev; rw [if_pos rfl, if_pos hop]; exact .inl ⟨rfl, rfl, rfl⟩, by rw [e2]; exact .inl rfl, h.mk0 hi hn e2 h.pos hql (fun k hk => by simp at hk) (by rw [done_tak, lim_false]; simp at o1 ⊢; omega) (fun _ h => by simp [Act.done] at h) (fun _ h => by simp [Act.done] at h) h.thv⟩
    · have e : opS R 0 a = pushS R a (R.own.getD a.got.length 0) := by unfold opS; rw [if_pos rfl, if_neg hop]
      have tk : decide (R.tak a) = false := decide_eq_false (fun hk => hop hk.2)
      rw [tk, lim_false] at o1 p4
      have hop2 : 0 ≤ R.own.getD a.got.length 0 := by
        rw [List.getD_eq_getElem?_getD, List.getElem?_eq_getElem (by omega)]
        exact (h.ok.ow _ (List.getElem_mem _)).1
      obtain ⟨x, hx⟩ : ∃ x, x = R.own.getD a.got.length 0 := ⟨_, rfl⟩
      rw [← hx] at e o2 hop hop2 ⊢
      by_cases s0 : a.step = 0
      · by_cases c1 : R.bot - R.top = R.room
        · have e2 : opS R 0 a = (R, a.done (-1)) := by rw [e]; unfold pushS; rw [if_pos s0, if_pos c1]
          refine .inr ⟨-1, q, by rw [e2]; rfl, by rw [e2]; rfl, by unfold Ev; rw [if_pos rfl, if_neg hop]; exact .inl ⟨rfl, rfl, by omega⟩, by rw [e2]; exact .inl rfl, h.mk0 hi hn e2 h.pos hql h.val (by rw [done_tak, lim_false]; exact o1) (fun _ h => by simp [Act.done] at h) (fun _ h => by simp [Act.done] at h) h.thv⟩
        · have e2 : opS R 0 a = (R, { a with step := 1 }) := by rw [e]; unfold pushS; rw [if_pos s0, if_neg c1]
          have tk2 : decide (R.tak { a with step := 1 }) = false := decide_eq_false (fun hk => hop (hx.trans hk.2))
          refine .inl ⟨by rw [e2], by rw [e2], h.mk0 hi hn e2 h.pos hql h.val (by rw [tk2, lim_false]; exact o1) (fun _ _ => ⟨by omega, fun h => by simp at h⟩) (fun _ h => by simp at h) h.thv⟩
      have ho2 := o2 hop (by omega)
      by_cases s1 : a.step = 1
      · have e2 : opS R 0 a = ({ R with cells := R.cells.set (R.bot.toNat % R.room) x }, { a with step := 2 }) := by rw [e]; unfold pushS; rw [if_neg s0, if_pos s1]
        have tk2 : decide (R.tak { a with step := 2 }) = false := decide_eq_false (fun hk => hop (hx.trans hk.2))
        have hne : ∀ p : Int, R.top ≤ p → p < R.bot → ¬ p.toNat % R.room = R.bot.toNat % R.room := fun p h1 h2 => mod_ne (by omega) (by omega)
        refine .inl ⟨by rw [e2], by rw [e2], h.mk0 hi hn e2 h.pos hql (fun k hk => ?_) (by rw [tk2, lim_false]; exact o1) (fun _ _ => ⟨ho2.1, fun _ => ?_⟩) (fun _ h => by simp at h) (fun j s hj hs h3 ht => ?_)⟩
        · rw [at_set hr1 hcl, if_neg (hne _ (by simp only; omega) (by simp only; omega))]
          exact h.val k hk
        · rw [at_set hr1 hcl, if_pos rfl]
          exact hx
        · have h8 := (p8 j s hj hs (by omega)).2.2 (by omega) ht
          rw [tk, lim_false] at h8
          have ht' : s.t = R.top := ht
          rw [at_set hr1 hcl, if_neg (hne _ (by simp only; omega) (by simp only; omega))]
          exact h.thv j s hj hs h3 ht
      · have s2 : a.step = 2 := by have := p5 (by rw [← hx]; exact hop); omega
        have e2 : opS R 0 a = ({ R with bot := R.bot + 1 }, a.done x) := by rw [e]; unfold pushS; rw [if_neg s0, if_neg s1]
        refine .inr ⟨x, q ++ [x], by rw [e2]; rfl, by rw [e2]; rfl, by unfold Ev; rw [if_pos rfl, if_neg hop]; exact .inr ⟨rfl, rfl, ho2.1⟩, by rw [e2]; exact .inl rfl, h.mk0 hi hn e2 (fun y hy => ?_) (by simp; omega) (fun k hk => ?_) (by rw [done_tak, lim_false]; simp; omega) (fun _ h => by simp [Act.done] at h) (fun _ h => by simp [Act.done] at h) h.thv⟩
        · rcases List.mem_append.1 hy with hy | hy
          · exact h.pos y hy
          · simp at hy
            omega
        · show R.at (R.top + (k : Int)) = _
          rw [List.getD_eq_getElem?_getD]
          by_cases hk2 : k < q.length
          · rw [List.getElem?_append_left hk2, ← List.getD_eq_getElem?_getD]
            exact h.val k hk2
          · have hk3 : k = q.length := by simp at hk; omega
            subst hk3
            rw [List.getElem?_append_right (Nat.le_refl _), Nat.sub_self]
            simp only [List.getElem?_cons_zero, Option.getD_some]
            rw [o1, ho2.2 s2]
  · have e := op_thv R i a h0
    have hi8 := p8 i a (by omega) hi
    have same : ∀ {a1 : Act}, opS R i a = (R, a1) → (a1.step = 3 → a1.t = R.top → a1.x = R.at R.top) → Deq (R.go i a) q := fun he ht => h.mk1 h0 hi hn (top := R.top) he h.pos (Nat.le_refl _) rfl h.val h.thv ht
    by_cases s0 : a.step = 0
    · have e2 : opS R i a = (R, { a with t := R.top, step := 1 }) := by rw [e]; unfold stealS; rw [if_pos s0]
      exact .inl ⟨by rw [e2], by rw [e2], same e2 (fun h => by simp at h)⟩
    by_cases s1 : a.step = 1
    · by_cases c1 : R.bot ≤ a.t
      · have e2 : opS R i a = (R, a.done 0) := by rw [e]; unfold stealS; rw [if_neg s0, if_pos s1, if_pos c1]
        exact .inr ⟨0, q, by rw [e2]; rfl, by rw [e2]; rfl, by unfold Ev; rw [if_neg h0]; exact .inl ⟨rfl, rfl⟩, by rw [e2]; exact .inl rfl, same e2 (fun h => by simp [Act.done] at h)⟩
      · have e2 : opS R i a = (R, { a with step := 2 }) := by rw [e]; unfold stealS; rw [if_neg s0, if_pos s1, if_neg c1]
        exact .inl ⟨by rw [e2], by rw [e2], same e2 (fun h => by simp at h)⟩
    by_cases s2 : a.step = 2
    · have e2 : opS R i a = (R, { a with x := R.at a.t, step := 3 }) := by rw [e]; unfold stealS; rw [if_neg s0, if_neg s1, if_pos s2]
      exact .inl ⟨by rw [e2], by rw [e2], same e2 (fun _ ht => by simp only at ht ⊢; rw [ht])⟩
    · by_cases c1 : R.top = a.t
      · have e2 : opS R i a = ({ R with top := a.t + 1 }, a.done a.x) := by rw [e]; unfold stealS; rw [if_neg s0, if_neg s1, if_neg s2, if_pos c1]
        have hlt := (hi8 (by omega)).2.2 (by omega) c1.symm
        rw [← (h.own a0 p1).1] at hlt
        have hx := h.thv i a (by omega) hi (by omega) c1.symm
        obtain ⟨q', hq⟩ : ∃ q', q = a.x :: q' := by
          match q, h, hlt with
          | [], h, hlt => simp at hlt; omega
          | y :: l, h, hlt =>
            have := h.val 0 (by simp)
            simp at this
            exact ⟨l, by rw [hx, this]⟩
        subst hq
        refine .inr ⟨a.x, q', by rw [e2]; rfl, by rw [e2]; rfl, by unfold Ev; rw [if_neg h0]; exact .inr (.inr rfl), .inr (h.pos _ (List.mem_cons_self ..)), h.mk1 h0 hi hn e2 (fun x hx => h.pos x (List.mem_cons_of_mem _ hx)) (by simp) (by simp; omega) (fun k hk => ?_) (fun j s hj hs h3 ht => ?_) (fun h => by simp [Act.done] at h)⟩
        · have := h.val (k + 1) (by simp; omega)
          rw [show a.t + 1 + (k : Int) = R.top + ((k + 1 : Nat) : Int) by omega, this]
          simp
        · have := (p8 j s hj hs (by omega)).2.1
          omega
      · have e2 : opS R i a = (R, a.done (-1)) := by rw [e]; unfold stealS; rw [if_neg s0, if_neg s1, if_neg s2, if_neg c1]
        exact .inr ⟨-1, q, by rw [e2]; rfl, by rw [e2]; rfl, by unfold Ev; rw [if_neg h0]; exact .inr (.inl ⟨rfl, rfl⟩), by rw [e2]; exact .inl rfl, same e2 (fun h => by simp [Act.done] at h)⟩

end Go.Proofs.Ytfohaijdhgcneaa
