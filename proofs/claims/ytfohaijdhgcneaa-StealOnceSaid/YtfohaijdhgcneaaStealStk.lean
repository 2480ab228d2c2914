/- StealStack: an owner alone has a stack. -/
import Derived.Test.YtfohaijdhgcneaaStealAsc
set_option linter.unusedVariables false
set_option linter.unusedSimpArgs false
namespace Go.Proofs.Ytfohaijdhgcneaa
open Go Go.RowKit

/-- One operation on a stack, and what it says. -/
def stOp (room : Nat) (p : List Int × List Int) (x : Int) : List Int × List Int :=
  if 0 < x ∧ p.1.length = room then (p.1, p.2 ++ [-1])
  else if 0 < x then (p.1 ++ [x], p.2 ++ [x])
  else if p.1.length = 0 then (p.1, p.2 ++ [0])
  else (p.1.take (p.1.length - 1), p.2 ++ [p.1.getD (p.1.length - 1) 0])
def stAll (room : Nat) (l : List Int) : List Int × List Int := l.foldl (stOp room) ([], [])
theorem stAll_take {room : Nat} {l : List Int} {i : Nat} (h : i < l.length) : stAll room (l.take (i + 1)) = stOp room (stAll room (l.take i)) (l.getD i 0) := by
  rw [take_one h]
  unfold stAll
  rw [List.foldl_append]
  rfl
theorem stOp_len (room : Nat) (p : List Int × List Int) (x : Int) : (stOp room p x).2.length = p.2.length + 1 ∧ (stOp room p x).1.length ≤ p.1.length + 1 := by
  unfold stOp
  split
  · simp
  split
  · simp
  split
  · simp
  · simp; omega
theorem stAll_len (room : Nat) (l : List Int) (i : Nat) (h : i ≤ l.length) : (stAll room (l.take i)).2.length = i ∧ (stAll room (l.take i)).1.length ≤ i := by
  induction i with
  | zero => simp [stAll]
  | succ i ih =>
    have h1 := ih (by omega)
    have h2 := stOp_len room (stAll room (l.take i)) (l.getD i 0)
    rw [stAll_take (by omega)]
    omega
theorem Hist.stack {room : Nat} {own : List Int} {out : List (Int × Int)} {g q : List Int} (h : Hist room own out g q) (h0 : ∀ x ∈ own, 0 ≤ x) (ho : ∀ e ∈ out, e.1 = 0) : g.length ≤ own.length ∧ stAll room (own.take g.length) = (q, g) := by
  induction h with
  | nil => exact ⟨Nat.zero_le _, rfl⟩
  | @mine out g q q' r hh hgl hev ih =>
    obtain ⟨_, i2⟩ := ih (fun e he => ho e (List.mem_append_left _ he))
    refine ⟨by simp; omega, ?_⟩
    rw [List.length_append, List.length_singleton, stAll_take hgl, i2]
    have hop := h0 _ (getD_mem hgl)
    obtain ⟨op, hop2⟩ : ∃ op, op = own.getD g.length 0 := ⟨_, rfl⟩
    rw [← hop2] at hev hop ⊢
    unfold Ev at hev
    rw [if_pos rfl] at hev
    unfold stOp
    simp only
    split at hev
    · rename_i e0
      rw [if_neg (by omega), if_neg (by omega)]
      rcases hev with ⟨rfl, rfl, rfl⟩ | rfl
      · rfl
      · rw [if_neg (by simp)]
        simp [List.getD_eq_getElem?_getD]
    · rename_i e0
      rcases hev with ⟨rfl, rfl, e⟩ | ⟨rfl, rfl, e⟩
      · rw [if_pos ⟨by omega, e⟩]
      · rw [if_neg (by omega), if_pos (by omega)]
  | @theirs out g q q' i op r hh h1 hev ih =>
    have := ho (i, r) (by simp)
    simp only at this
    omega
theorem runs_alone : ∀ (l : List Int) (R : Rc) (out : List (Int × Int)), R.acts.length = 1 → (∀ e ∈ out, e.1 = 0) → ∀ e ∈ (Rc.runs (R, out) l).2, e.1 = 0
  | [], _, _, _, h => h
  | i :: l, R, out, h1, h => by
    refine runs_alone l (R.step i).1 (out ++ R.say i) (by rw [step_len]; exact h1) (fun e he => ?_)
    rcases List.mem_append.1 he with he | he
    · exact h e he
    · unfold Rc.say at he
      split at he
      · rename_i hlt
        simp at he
        subst he
        by_cases hi : i = 0
        · exact hi
        · exfalso
          have hs : (R.step i) = (R, false) := by
            unfold Rc.step
            split
            · rfl
            · rw [List.getElem?_eq_none (by omega)]
          rw [hs] at hlt
          exact absurd hlt (Nat.lt_irrefl _)
      · simp at he
theorem play_stack {room : Nat} {own : List Int} (hv : Valid room own []) (order : List Int) :
    (((Rc.start room own [] []).play order).1.rest, ((Rc.start room own [] []).play order).1.got 0) = stAll room own := by
  obtain ⟨g, q, hh, hg, hq⟩ := play_hist hv order
  have hal := runs_alone (sched order) (Rc.start room own [] []) [] rfl (fun e he => by cases he)
  obtain ⟨h1, h2⟩ := hh.stack (fun x hx => (hv.ox x hx).1) hal
  have hok := (play_tr hv order).deq.ok
  have hdone := (play_done (Rc.start_ok room own [] [] (by have := hv.r1; omega) (by have := hv.r2; omega) hv.o (by simp) hv.ox (fun n hn => by cases hn)) order).2
  obtain ⟨a, ha, hn, _⟩ := hok.own
  have hd := hdone 0 a ha
  have e2 := (runs_same (sched order) (Rc.start room own [] []) []).2
  have e2' : ((Rc.start room own ([] : List Int) (([] : List Int).map Int.toNat)).play order).1.own = own := e2
  rw [e2'] at hn
  have hgl : g.length = own.length := by
    rw [← hg]
    have := got_at ha
    rw [show ((0 : Nat) : Int) = 0 from rfl] at this
    rw [this, hd, hn]
  rw [hgl, List.take_length] at h2
  rw [h2, ← hg, ← hq]
  rfl
end Go.Proofs.Ytfohaijdhgcneaa
