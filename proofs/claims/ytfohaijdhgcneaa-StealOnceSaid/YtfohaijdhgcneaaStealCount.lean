/- StealOnce: what goes in comes out. -/
import Derived.Test.YtfohaijdhgcneaaStealAsc
set_option linter.unusedVariables false
set_option linter.unusedSimpArgs false
namespace Go.Proofs.Ytfohaijdhgcneaa
open Go Go.RowKit

/-- The law's count: how many operations of the owner, what was pushed, what was taken. -/
def onOp (own : List Int) (p : Nat × List Int × List Int) (e : Int × Int) : Nat × List Int × List Int :=
  if 0 < e.1 then (p.1, p.2.1, if 0 < e.2 then p.2.2 ++ [e.2] else p.2.2)
  else if 0 < own.getD p.1 0 ∧ e.2 = own.getD p.1 0 then (p.1 + 1, p.2.1 ++ [own.getD p.1 0], p.2.2)
  else if own.getD p.1 0 = 0 ∧ 0 < e.2 then (p.1 + 1, p.2.1, p.2.2 ++ [e.2])
  else (p.1 + 1, p.2.1, p.2.2)
def onAll (own : List Int) (l : List (Int × Int)) : Nat × List Int × List Int := l.foldl (onOp own) (0, [], [])
theorem onAll_one (own : List Int) (l : List (Int × Int)) (e : Int × Int) : onAll own (l ++ [e]) = onOp own (onAll own l) e := by
  unfold onAll
  rw [List.foldl_append]
  rfl
theorem onAll_take {own : List Int} {out : List (Int × Int)} {i : Nat} (h : i < out.length) : onAll own (out.take (i + 1)) = onOp own (onAll own (out.take i)) (said out i) := by
  rw [List.take_add_one, List.getElem?_eq_getElem h]
  unfold said
  rw [List.getD_eq_getElem?_getD, List.getElem?_eq_getElem h]
  exact onAll_one _ _ _
/-- What an entry may be. -/
def Legal (own : List Int) (c : Nat) (e : Int × Int) : Prop := 0 ≤ e.1 ∧ (e.1 = 0 → c < own.length ∧ (0 < own.getD c 0 → e.2 = own.getD c 0 ∨ e.2 = -1) ∧ (own.getD c 0 = 0 → 0 ≤ e.2) ∧ 0 ≤ own.getD c 0)
theorem said_last (l : List (Int × Int)) (e : Int × Int) : said (l ++ [e]) l.length = e := by
  unfold said
  simp [List.getD_eq_getElem?_getD]
theorem said_front {l : List (Int × Int)} {e : Int × Int} {k : Nat} (h : k < l.length) : said (l ++ [e]) k = said l k := by
  unfold said
  rw [List.getD_eq_getElem?_getD, List.getElem?_append_left h, List.getD_eq_getElem?_getD]
theorem Hist.count {room : Nat} {own : List Int} {out : List (Int × Int)} {g q : List Int} (h : Hist room own out g q) (h0 : ∀ x ∈ own, 0 ≤ x) :
    (onAll own out).1 = g.length ∧ (∀ x ∈ q, 0 < x) ∧ (∀ a, (onAll own out).2.1.count a = (onAll own out).2.2.count a + q.count a) ∧ ∀ k, k < out.length → Legal own (onAll own (out.take k)).1 (said out k) := by
  induction h with
  | nil => exact ⟨rfl, fun x hx => by simp at hx, fun a => rfl, fun k hk => by simp at hk⟩
  | @mine out g q q' r hh hgl hev ih =>
    obtain ⟨i1, i2, i3, i4⟩ := ih
    have hop := h0 _ (getD_mem hgl)
    obtain ⟨op, hop2⟩ : ∃ op, op = own.getD g.length 0 := ⟨_, rfl⟩
    rw [← hop2] at hev hop
    have leg : Legal own g.length (0, r) → ∀ k, k < (out ++ [((0 : Int), r)]).length → Legal own (onAll own ((out ++ [((0 : Int), r)]).take k)).1 (said (out ++ [((0 : Int), r)]) k) := fun hl k hk => by
      by_cases hk2 : k < out.length
      · rw [List.take_append_of_le_length (by omega), said_front hk2]
        exact i4 k hk2
      · have hk3 : k = out.length := by simp at hk; omega
        subst hk3
        rw [List.take_left, said_last, i1]
        exact hl
    rw [onAll_one]
    unfold onOp
    rw [if_neg (by simp), i1, ← hop2]
    unfold Ev at hev
    rw [if_pos rfl] at hev
    split at hev
    · rename_i e0
      rw [if_neg (by omega)]
      rcases hev with ⟨rfl, rfl, rfl⟩ | rfl
      · rw [if_neg (by simp)]
        exact ⟨by simp, i2, i3, leg ⟨by simp, fun _ => ⟨hgl, fun h => by omega, fun _ => by simp, by rw [← hop2]; exact hop⟩⟩⟩
      · have hr : 0 < r := i2 r (by simp)
        rw [if_pos ⟨e0, hr⟩]
        refine ⟨by simp, fun x hx => i2 x (by simp [hx]), fun a => ?_, leg ⟨by simp, fun _ => ⟨hgl, fun h => by omega, fun _ => by simp; omega, by rw [← hop2]; exact hop⟩⟩⟩
        have := i3 a
        simp only [List.count_append] at this ⊢
        omega
    · rename_i e0
      rcases hev with ⟨rfl, rfl, e⟩ | ⟨rfl, rfl, e⟩
      · rw [if_neg (by simp only; omega), if_neg (by simp only; omega)]
        exact ⟨by simp, i2, i3, leg ⟨by simp, fun _ => ⟨hgl, fun _ => .inr rfl, fun h => by omega, by rw [← hop2]; exact hop⟩⟩⟩
      · rw [if_pos ⟨by omega, rfl⟩]
        refine ⟨by simp, fun x hx => ?_, fun a => ?_, leg ⟨by simp, fun _ => ⟨hgl, fun _ => .inl hop2, fun h => by omega, by rw [← hop2]; exact hop⟩⟩⟩
        · rcases List.mem_append.1 hx with hx | hx
          · exact i2 x hx
          · simp at hx; omega
        · have := i3 a
          simp only [List.count_append] at this ⊢
          omega
  | @theirs out g q q' i op r hh h1 hev ih =>
    obtain ⟨i1, i2, i3, i4⟩ := ih
    have leg : ∀ k, k < (out ++ [((i : Int), r)]).length → Legal own (onAll own ((out ++ [((i : Int), r)]).take k)).1 (said (out ++ [((i : Int), r)]) k) := fun k hk => by
      by_cases hk2 : k < out.length
      · rw [List.take_append_of_le_length (by omega), said_front hk2]
        exact i4 k hk2
      · have hk3 : k = out.length := by simp at hk; omega
        subst hk3
        rw [List.take_left, said_last]
        exact ⟨by simp, fun e => by simp at e; omega⟩
    rw [onAll_one]
    unfold onOp
    rw [if_pos (by simp only; omega)]
    unfold Ev at hev
    rw [if_neg (by omega)] at hev
    rcases hev with ⟨rfl, rfl⟩ | ⟨rfl, rfl⟩ | rfl
    · rw [if_neg (by simp)]; exact ⟨i1, i2, i3, leg⟩
    · rw [if_neg (by simp)]; exact ⟨i1, i2, i3, leg⟩
    · have hr : 0 < r := i2 r (by simp)
      rw [if_pos hr]
      refine ⟨i1, fun x hx => i2 x (by simp [hx]), fun a => ?_, leg⟩
      have := i3 a
      rw [show r :: q' = [r] ++ q' from rfl] at this
      simp only [List.count_append] at this ⊢
      omega
theorem play_count {room : Nat} {own thv : List Int} (hv : Valid room own thv) (order : List Int) :
    (onAll own ((Rc.start room own thv (thv.map Int.toNat)).play order).2).1 = own.length ∧
    (onAll own ((Rc.start room own thv (thv.map Int.toNat)).play order).2).2.1.Perm ((onAll own ((Rc.start room own thv (thv.map Int.toNat)).play order).2).2.2 ++ ((Rc.start room own thv (thv.map Int.toNat)).play order).1.rest) ∧
    ∀ k, k < ((Rc.start room own thv (thv.map Int.toNat)).play order).2.length → Legal own (onAll own (((Rc.start room own thv (thv.map Int.toNat)).play order).2.take k)).1 (said ((Rc.start room own thv (thv.map Int.toNat)).play order).2 k) := by
  obtain ⟨g, q, hh, hg, hq⟩ := play_hist hv order
  obtain ⟨h1, _, h3, h4⟩ := hh.count (fun x hx => (hv.ox x hx).1)
  have hok := (play_tr hv order).deq.ok
  have hdone := (play_done (Rc.start_ok room own thv (thv.map Int.toNat) (by have := hv.r1; omega) (by have := hv.r2; omega) hv.o (by simpa using hv.t) hv.ox (fun n hn => by
    obtain ⟨y, hy, rfl⟩ := List.mem_map.1 hn
    have := hv.tx y hy
    omega)) order).2
  obtain ⟨a, ha, hn, _⟩ := hok.own
  have hd := hdone 0 a ha
  have e2 := (runs_same (sched order) (Rc.start room own thv (thv.map Int.toNat)) []).2
  have e2' : ((Rc.start room own thv (thv.map Int.toNat)).play order).1.own = own := e2
  rw [e2'] at hn
  have hgl : g.length = own.length := by
    rw [← hg]
    have := got_at ha
    rw [show ((0 : Nat) : Int) = 0 from rfl] at this
    rw [this, hd, hn]
  refine ⟨h1.trans hgl, List.perm_iff_count.2 fun a => ?_, h4⟩
  rw [hq, List.count_append]
  exact h3 a
theorem onOp_len (own : List Int) (p : Nat × List Int × List Int) (e : Int × Int) : (onOp own p e).1 ≤ p.1 + 1 ∧ (onOp own p e).2.1.length ≤ p.2.1.length + 1 ∧ (onOp own p e).2.2.length ≤ p.2.2.length + 1 := by
  unfold onOp
  split
  · refine ⟨by simp, by simp, ?_⟩
    simp only
    split <;> simp
  split
  · simp
  split
  · simp
  · simp
theorem onAll_len (own : List Int) (out : List (Int × Int)) (i : Nat) (h : i ≤ out.length) : (onAll own (out.take i)).1 ≤ i ∧ (onAll own (out.take i)).2.1.length ≤ i ∧ (onAll own (out.take i)).2.2.length ≤ i := by
  induction i with
  | zero => simp [onAll]
  | succ i ih =>
    have h1 := ih (by omega)
    have h2 := onOp_len own (onAll own (out.take i)) (said out i)
    rw [onAll_take (by omega)]
    omega
end Go.Proofs.Ytfohaijdhgcneaa
