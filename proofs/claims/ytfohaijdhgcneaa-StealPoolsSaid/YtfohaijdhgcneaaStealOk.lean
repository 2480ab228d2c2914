/- What each race keeps. -/
import Derived.Test.YtfohaijdhgcneaaStealPure
set_option linter.unusedVariables false
set_option linter.unusedSimpArgs false
namespace Go.Proofs.Ytfohaijdhgcneaa
open Go Go.RowKit

theorem op_thv (R : Rc) (i : Nat) (a : Act) (hi : i ≠ 0) : opS R i a = stealS R a := by unfold opS; rw [if_neg hi]
/-- What a thief's step leaves, and what it turns. -/
theorem steal_facts {R : Rc} {a : Act} {L : Int} (ht : 1 ≤ a.step → 0 ≤ a.t ∧ a.t ≤ R.top ∧ (2 ≤ a.step → a.t = R.top → a.t < L)) (h0 : 0 ≤ R.top) (hL : R.top ≤ L) (hb : R.bot ≤ L) :
    (stealS R a).1.bot = R.bot ∧ R.top ≤ (stealS R a).1.top ∧ (stealS R a).1.top ≤ L ∧ ((stealS R a).1.top = R.top ∨ (stealS R a).1.top = R.top + 1) ∧
    (1 ≤ (stealS R a).2.step → 0 ≤ (stealS R a).2.t ∧ (stealS R a).2.t ≤ (stealS R a).1.top ∧ (2 ≤ (stealS R a).2.step → (stealS R a).2.t = (stealS R a).1.top → (stealS R a).2.t < L)) := by
  unfold stealS
  split
  · exact ⟨rfl, by simp, by simpa using hL, .inl rfl, fun _ => ⟨by simpa using h0, by simp, fun h => by simp at h⟩⟩
  split
  · rename_i h1 h2
    obtain ⟨a1, a2, a3⟩ := ht (by omega)
    split
    · exact ⟨rfl, by simp, by simpa using hL, .inl rfl, fun h => by simp [Act.done] at h⟩
    · exact ⟨rfl, by simp, by simpa using hL, .inl rfl, fun _ => ⟨by simpa using a1, by simpa using a2, fun _ _ => by simp; omega⟩⟩
  split
  · rename_i h1 h2 h3
    obtain ⟨a1, a2, a3⟩ := ht (by omega)
    exact ⟨rfl, by simp, by simpa using hL, .inl rfl, fun _ => ⟨by simpa using a1, by simpa using a2, fun _ h => by simp at h ⊢; exact a3 (by omega) h⟩⟩
  · rename_i h1 h2 h3
    obtain ⟨a1, a2, a3⟩ := ht (by omega)
    split
    · rename_i h4
      have := a3 (by omega) h4.symm
      exact ⟨rfl, by simp; omega, by simp; omega, .inr (by simp; omega), fun h => by simp [Act.done] at h⟩
    · exact ⟨rfl, by simp, by simpa using hL, .inl rfl, fun h => by simp [Act.done] at h⟩
theorem lim_false (b : Int) : lim b false = b := rfl
theorem lim_true (b : Int) : lim b true = b + 1 := rfl
theorem done_tak (R : Rc) (b : Act) (r : Int) : decide (R.tak (b.done r)) = false := by simp [Rc.tak, Act.done]

theorem Rc.Ok.go {R : Rc} (h : R.Ok) {i : Nat} {a : Act} (hi : R.acts[i]? = some a) (hn : a.got.length ≠ a.n) : (R.go i a).Ok := by
  have han := h.an i a hi
  obtain ⟨o1, o2, o3, o4, o5⟩ := op_act R i a han.2.2.1 (by omega)
  obtain ⟨r1, r2, r3, r4⟩ := op_room R i a
  have hil := (List.getElem?_eq_some_iff.1 hi).1
  obtain ⟨a0, p1, p2, p3, p4, p5, p6, p7, p8⟩ := h.own
  have hR : (R.go i a).room = R.room := r1
  refine ⟨by rw [hR]; exact h.r1, by rw [hR]; exact h.r16, by rw [hR]; exact r2.trans h.cl, ?_, by simp only [Rc.go, List.length_set]; exact h.al, fun j b hb => ?_, ?_, by show ∀ x ∈ (opS R i a).1.own, _; rw [r3]; exact h.ow, ?_⟩
  · show 0 ≤ (opS R i a).1.top
    have := h.t0
    unfold opS takeS pushS stealS
    repeat' split
    all_goals (simp; try omega)
  · have hb' : (R.acts.set i (opS R i a).2)[j]? = some b := hb
    rw [List.getElem?_set] at hb'
    split at hb'
    · cases hb'
      exact ⟨by rw [o1]; exact han.1, by rw [o1]; exact o3, o2, fun h => by rw [o1]; exact o4 h⟩
    · exact h.an j b hb'
  · by_cases h0 : i = 0
    · subst h0
      rw [hi] at p1
      cases p1
      refine ⟨(opS R 0 a).2, by show (R.acts.set 0 (opS R 0 a).2)[0]? = _; rw [List.getElem?_set, if_pos rfl, if_pos hil], by show (opS R 0 a).1.own.length = _; rw [r3, o1]; exact p2, ?_⟩
      have hth : ∀ (j : Nat) (s : Act), 0 < j → (R.go 0 a).acts[j]? = some s → R.acts[j]? = some s := fun j s hj hs => by
        have hs' : (R.acts.set 0 (opS R 0 a).2)[j]? = some s := hs
        rwa [List.getElem?_set, if_neg (by omega)] at hs'
      suffices hg : (opS R 0 a).1.bot ≤ ((opS R 0 a).2.got.length : Int) ∧ (opS R 0 a).1.top ≤ lim (opS R 0 a).1.bot (decide (R.tak (opS R 0 a).2)) ∧
          (R.own.getD (opS R 0 a).2.got.length 0 ≠ 0 → (opS R 0 a).2.step ≤ 2) ∧ (R.tak (opS R 0 a).2 → 2 ≤ (opS R 0 a).2.step → (opS R 0 a).2.t = (opS R 0 a).1.bot ∧ 0 ≤ (opS R 0 a).2.t ∧ (opS R 0 a).2.t ≤ (opS R 0 a).1.top) ∧ (R.tak (opS R 0 a).2 → (opS R 0 a).1.bot + 1 ≤ (opS R 0 a).2.got.length) ∧
          R.top ≤ (opS R 0 a).1.top ∧ ∀ v : Int, 0 ≤ v → v ≤ R.top → (v = R.top → v < lim R.bot (decide (R.tak a))) → (v = (opS R 0 a).1.top → v < lim (opS R 0 a).1.bot (decide (R.tak (opS R 0 a).2))) by
        obtain ⟨g1, g2, g3, g4, g5, g6, g7⟩ := hg
        have etak : ∀ b : Act, (R.go 0 a).tak b ↔ R.tak b := fun b => by unfold Rc.tak; rw [show (R.go 0 a).own = R.own from r3]
        have eown : (R.go 0 a).own = R.own := r3
        refine ⟨g1, ?_, by rw [eown]; exact g3, fun hk => g4 ((etak _).1 hk), fun hk => g5 ((etak _).1 hk), fun j s hj hs hst => ?_⟩
        · rw [show decide ((R.go 0 a).tak (opS R 0 a).2) = decide (R.tak (opS R 0 a).2) from decide_eq_decide.2 (etak _)]
          exact g2
        · obtain ⟨b1, b2, b3⟩ := p8 j s hj (hth j s hj hs) hst
          rw [show decide ((R.go 0 a).tak (opS R 0 a).2) = decide (R.tak (opS R 0 a).2) from decide_eq_decide.2 (etak _)]
          exact ⟨b1, Int.le_trans b2 g6, fun h2 => g7 s.t b1 b2 (b3 h2)⟩
      have ht0 := h.t0
      by_cases hop : R.own.getD a.got.length 0 = 0
      · have e : opS R 0 a = takeS R a := by unfold opS; rw [if_pos rfl, if_pos hop]
        rw [e]
        by_cases s0 : a.step = 0
        · have tk : decide (R.tak a) = false := by simp [Rc.tak, s0]
          rw [tk, lim_false] at p4
          have e2 : takeS R a = ({ R with bot := R.bot - 1 }, { a with step := 1 }) := by unfold takeS; rw [if_pos s0]
          have tk2 : decide (R.tak { a with step := 1 }) = true := decide_eq_true (show R.tak _ from ⟨by simp, hop⟩)
          rw [e2, tk, lim_false]
          simp only [tk2, lim_true]
          refine ⟨by omega, by omega, fun h => absurd hop h, fun _ h => by omega, fun _ => by omega, by omega, fun v _ _ hv he => ?_⟩
          have := hv he
          omega
        have tkp : R.tak a := ⟨by omega, hop⟩
        have tk : decide (R.tak a) = true := decide_eq_true tkp
        rw [tk, lim_true] at p4
        have q7 := p7 tkp
        by_cases s1 : a.step = 1
        · by_cases c1 : R.bot < R.top
          · have e2 : takeS R a = ({ R with bot := R.top }, { a with t := R.top }.done 0) := by unfold takeS; rw [if_neg s0, if_pos s1, if_pos c1]
            rw [e2, tk]
            simp only [done_tak, lim_true, lim_false]
            refine ⟨by simp [Act.done]; omega, by omega, fun _ => by simp [Act.done], fun hk => absurd hk.1 (by simp [Act.done]), fun hk => absurd hk.1 (by simp [Act.done]), by omega, fun v _ _ hv he => ?_⟩
            have := hv he
            omega
          · by_cases c2 : R.top < R.bot
            · have e2 : takeS R a = (R, { a with t := R.top }.done (R.at R.bot)) := by unfold takeS; rw [if_neg s0, if_pos s1, if_neg c1, if_pos c2]
              rw [e2, tk]
              simp only [done_tak, lim_true, lim_false]
              exact ⟨by simp [Act.done]; omega, by omega, fun _ => by simp [Act.done], fun hk => absurd hk.1 (by simp [Act.done]), fun hk => absurd hk.1 (by simp [Act.done]), by omega, fun v _ _ hv he => by omega⟩
            · have e2 : takeS R a = (R, { a with t := R.top, step := 2 }) := by unfold takeS; rw [if_neg s0, if_pos s1, if_neg c1, if_neg c2]
              have tk2 : decide (R.tak { a with t := R.top, step := 2 }) = true := decide_eq_true (show R.tak _ from ⟨by simp, hop⟩)
              rw [e2, tk]
              simp only [tk2, lim_true]
              exact ⟨by omega, by omega, fun h => absurd hop h, fun _ _ => ⟨by omega, by simpa using ht0, by omega⟩, fun _ => q7, by omega, fun v _ _ hv he => hv he⟩
        by_cases s2 : a.step = 2
        · have e2 : takeS R a = (R, { a with x := R.at R.bot, step := 3 }) := by unfold takeS; rw [if_neg s0, if_neg s1, if_pos s2]
          have tk2 : decide (R.tak { a with x := R.at R.bot, step := 3 }) = true := decide_eq_true (show R.tak _ from ⟨by simp, hop⟩)
          have q6 := p6 tkp (by omega)
          rw [e2, tk]
          simp only [tk2, lim_true]
          exact ⟨by omega, by omega, fun h => absurd hop h, fun _ _ => q6, fun _ => q7, by omega, fun v _ _ hv he => hv he⟩
        · have q6 := p6 tkp (by omega)
          by_cases c1 : R.top = a.t
          · have e2 : takeS R a = ({ R with bot := a.t + 1, top := a.t + 1 }, a.done a.x) := by unfold takeS; rw [if_neg s0, if_neg s1, if_neg s2, if_pos c1]
            rw [e2, tk]
            simp only [done_tak, lim_true, lim_false]
            exact ⟨by simp [Act.done]; omega, by omega, fun _ => by simp [Act.done], fun hk => absurd hk.1 (by simp [Act.done]), fun hk => absurd hk.1 (by simp [Act.done]), by omega, fun v _ _ hv he => by omega⟩
          · have e2 : takeS R a = ({ R with bot := a.t + 1 }, a.done 0) := by unfold takeS; rw [if_neg s0, if_neg s1, if_neg s2, if_neg c1]
            rw [e2, tk]
            simp only [done_tak, lim_true, lim_false]
            refine ⟨by simp [Act.done]; omega, by omega, fun _ => by simp [Act.done], fun hk => absurd hk.1 (by simp [Act.done]), fun hk => absurd hk.1 (by simp [Act.done]), by omega, fun v _ _ hv he => ?_⟩
            have := hv he
            omega
      · have e : opS R 0 a = pushS R a (R.own.getD a.got.length 0) := by unfold opS; rw [if_pos rfl, if_neg hop]
        have tk : decide (R.tak a) = false := decide_eq_false (fun hk => hop hk.2)
        rw [tk, lim_false] at p4
        rw [e]
        by_cases s0 : a.step = 0
        · by_cases c1 : R.bot - R.top = R.room
          · have e2 : pushS R a (R.own.getD a.got.length 0) = (R, a.done (-1)) := by unfold pushS; rw [if_pos s0, if_pos c1]
            rw [e2, tk]
            simp only [done_tak, lim_false]
            exact ⟨by simp [Act.done]; omega, by omega, fun _ => by simp [Act.done], fun hk => absurd hk.1 (by simp [Act.done]), fun hk => absurd hk.1 (by simp [Act.done]), by omega, fun v _ _ hv he => hv he⟩
          · have e2 : pushS R a (R.own.getD a.got.length 0) = (R, { a with step := 1 }) := by unfold pushS; rw [if_pos s0, if_neg c1]
            have tk2 : decide (R.tak { a with step := 1 }) = false := decide_eq_false (fun hk => hop hk.2)
            rw [e2, tk]
            simp only [tk2, lim_false]
            exact ⟨by omega, by omega, fun _ => by omega, fun hk => absurd hk.2 hop, fun hk => absurd hk.2 hop, by omega, fun v _ _ hv he => hv he⟩
        by_cases s1 : a.step = 1
        · have e2 : pushS R a (R.own.getD a.got.length 0) = ({ R with cells := R.cells.set (R.bot.toNat % R.room) (R.own.getD a.got.length 0) }, { a with step := 2 }) := by unfold pushS; rw [if_neg s0, if_pos s1]
          have tk2 : decide (R.tak { a with step := 2 }) = false := decide_eq_false (fun hk => hop hk.2)
          rw [e2, tk]
          simp only [tk2, lim_false]
          exact ⟨by omega, by omega, fun _ => by omega, fun hk => absurd hk.2 hop, fun hk => absurd hk.2 hop, by omega, fun v _ _ hv he => hv he⟩
        · have e2 : pushS R a (R.own.getD a.got.length 0) = ({ R with bot := R.bot + 1 }, a.done (R.own.getD a.got.length 0)) := by unfold pushS; rw [if_neg s0, if_neg s1]
          rw [e2, tk]
          simp only [done_tak, lim_false]
          refine ⟨by simp [Act.done]; omega, by omega, fun _ => by simp [Act.done], fun hk => absurd hk.1 (by simp [Act.done]), fun hk => absurd hk.1 (by simp [Act.done]), by omega, fun v _ _ hv he => ?_⟩
          have := hv he
          omega
    · have e := op_thv R i a h0
      have hbl : R.bot ≤ lim R.bot (decide (R.tak a0)) := by
        cases decide (R.tak a0)
        · rw [lim_false]; omega
        · rw [lim_true]; omega
      obtain ⟨f1, f2, f3, f4, f5⟩ := steal_facts (R := R) (a := a) (fun hs => p8 i a (by omega) hi hs) h.t0 p4 hbl
      have etak : decide ((R.go i a).tak a0) = decide (R.tak a0) := decide_eq_decide.2 (by unfold Rc.tak; rw [show (R.go i a).own = R.own from r3])
      have ebot : (R.go i a).bot = R.bot := by show (opS R i a).1.bot = _; rw [e]; exact f1
      have etop : (R.go i a).top = (stealS R a).1.top := by show (opS R i a).1.top = _; rw [e]
      have hkt : (R.go i a).tak a0 → R.tak a0 := fun hk => by unfold Rc.tak at hk ⊢; rw [show (R.go i a).own = R.own from r3] at hk; exact hk
      refine ⟨a0, by show (R.acts.set i (opS R i a).2)[0]? = _; rw [List.getElem?_set, if_neg h0]; exact p1, by show (opS R i a).1.own.length = _; rw [r3]; exact p2, by rw [ebot]; exact p3, by rw [etak, ebot, etop]; exact f3, by rw [show (R.go i a).own = R.own from r3]; exact p5, fun hk h2 => ?_, fun hk => by rw [ebot]; exact p7 (hkt hk), fun j s hj hs hst => ?_⟩
      · have := p6 (hkt hk) h2
        rw [ebot, etop]
        exact ⟨this.1, this.2.1, Int.le_trans this.2.2 f2⟩
      · have hs' : (R.acts.set i (opS R i a).2)[j]? = some s := hs
        rw [List.getElem?_set] at hs'
        rw [etak, ebot, etop]
        split at hs'
        · cases hs'
          rw [e] at hst ⊢
          exact f5 hst
        · obtain ⟨b1, b2, b3⟩ := p8 j s hj hs' hst
          refine ⟨b1, Int.le_trans b2 f2, fun h2 ht => ?_⟩
          rcases f4 with f4 | f4
          · exact b3 h2 (by omega)
          · omega
  · show ((R.past ++ [(i : Int)]).length) ≤ mu (R.acts.set i (opS R i a).2)
    have := mu_set R.acts i a (opS R i a).2 hi
    have := h.pl
    rw [List.length_append, List.length_singleton]
    omega
theorem Rc.Ok.step {R : Rc} (h : R.Ok) (i : Int) : (R.step i).1.Ok := by
  unfold Rc.step
  split
  · exact h
  split
  · exact h
  · rename_i a ha
    split
    · exact h
    · rename_i hn
      exact h.go ha hn

end Go.Proofs.Ytfohaijdhgcneaa
