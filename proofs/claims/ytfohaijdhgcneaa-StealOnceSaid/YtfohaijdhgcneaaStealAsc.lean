/- StealOrder: what thieves steal ascends. -/
import Derived.Test.YtfohaijdhgcneaaStealSaid
set_option linter.unusedVariables false
set_option linter.unusedSimpArgs false
namespace Go.Proofs.Ytfohaijdhgcneaa
open Go Go.RowKit

/-- The numbers stolen. -/
def stolen (l : List (Int × Int)) : List Int := (l.filter fun e => decide (e.1 ≠ 0 ∧ 0 < e.2)).map Prod.snd
theorem stolen_append (a b : List (Int × Int)) : stolen (a ++ b) = stolen a ++ stolen b := by simp [stolen]
theorem stolen_one (e : Int × Int) : stolen [e] = if e.1 ≠ 0 ∧ 0 < e.2 then [e.2] else [] := by
  unfold stolen
  by_cases h : e.1 ≠ 0 ∧ 0 < e.2
  · rw [if_pos h]; simp [h]
  · rw [if_neg h]; simp only [List.filter_cons, decide_eq_true_eq, if_neg h, List.filter_nil, List.map_nil]
/-- Numbers ascend. -/
def Inc (own : List Int) : Prop := ∀ i j : Nat, i < j → j < own.length → 0 < own.getD i 0 → 0 < own.getD j 0 → own.getD i 0 < own.getD j 0
theorem Hist.asc {room : Nat} {own : List Int} {out : List (Int × Int)} {g q : List Int} (h : Hist room own out g q) (hi : Inc own) (h0 : ∀ x ∈ own, 0 ≤ x) :
    (stolen out ++ q).Pairwise (· < ·) ∧ ∀ x ∈ stolen out ++ q, ∃ i, i < g.length ∧ i < own.length ∧ own.getD i 0 = x ∧ 0 < x := by
  induction h with
  | nil => exact ⟨List.Pairwise.nil, fun x hx => by simp [stolen] at hx⟩
  | @mine out g q q' r hh hgl hev ih =>
    obtain ⟨i1, i2⟩ := ih
    have hs : stolen (out ++ [(0, r)]) = stolen out := by rw [stolen_append, stolen_one, if_neg (fun h => h.1 rfl), List.append_nil]
    have more : ∀ x ∈ stolen out ++ q, ∃ i, i < (g ++ [r]).length ∧ i < own.length ∧ own.getD i 0 = x ∧ 0 < x := fun x hx => by
      obtain ⟨i, a, b⟩ := i2 x hx
      exact ⟨i, by rw [List.length_append]; exact Nat.lt_add_right _ a, b⟩
    rw [hs]
    unfold Ev at hev
    rw [if_pos rfl] at hev
    split at hev
    · rcases hev with ⟨_, rfl, rfl⟩ | rfl
      · exact ⟨i1, more⟩
      · have hsub : (stolen out ++ q').Sublist (stolen out ++ (q' ++ [r])) := List.Sublist.append (List.Sublist.refl _) (List.sublist_append_left _ _)
        exact ⟨i1.sublist hsub, fun x hx => more x (hsub.subset hx)⟩
    · rename_i hop
      rcases hev with ⟨_, rfl, _⟩ | ⟨rfl, rfl, _⟩
      · exact ⟨i1, more⟩
      · have hpos : 0 < own.getD g.length 0 := by
          have : own.getD g.length 0 ∈ own := getD_mem hgl
          have := h0 _ this
          omega
        refine ⟨?_, fun x hx => ?_⟩
        · rw [← List.append_assoc, List.pairwise_append]
          refine ⟨i1, List.pairwise_singleton _ _, fun x hx y hy => ?_⟩
          obtain ⟨i, a, b, c, d⟩ := i2 x hx
          simp at hy
          subst hy
          rw [← c]
          rw [← List.getD_eq_getElem?_getD]
          exact hi i g.length a hgl (by rw [c]; exact d) hpos
        · rw [← List.append_assoc] at hx
          rcases List.mem_append.1 hx with hx | hx
          · exact more x hx
          · simp only [List.mem_singleton] at hx
            subst hx
            exact ⟨g.length, by simp, hgl, rfl, hpos⟩
  | @theirs out g q q' i op r hh h1 hev ih =>
    obtain ⟨i1, i2⟩ := ih
    unfold Ev at hev
    rw [if_neg (by omega)] at hev
    rw [stolen_append, stolen_one]
    rcases hev with ⟨rfl, rfl⟩ | ⟨rfl, rfl⟩ | rfl
    · rw [if_neg (fun h => by have := h.2; simp at this), List.append_nil]; exact ⟨i1, i2⟩
    · rw [if_neg (fun h => by have := h.2; simp at this), List.append_nil]; exact ⟨i1, i2⟩
    · obtain ⟨j, _, _, _, hr⟩ := i2 r (by simp)
      rw [if_pos ⟨by simp; omega, hr⟩, List.append_assoc]
      exact ⟨i1, i2⟩
theorem runs_same : ∀ (l : List Int) (R : Rc) (out : List (Int × Int)), (Rc.runs (R, out) l).1.room = R.room ∧ (Rc.runs (R, out) l).1.own = R.own
  | [], _, _ => ⟨rfl, rfl⟩
  | i :: l, R, out => by
    obtain ⟨h1, h2, _⟩ := step_same R i
    have := runs_same l (R.step i).1 (out ++ R.say i)
    exact ⟨this.1.trans h1, this.2.trans h2⟩
theorem play_hist {room : Nat} {own thv : List Int} (hv : Valid room own thv) (order : List Int) :
    ∃ g q, Hist room own ((Rc.start room own thv (thv.map Int.toNat)).play order).2 g q ∧ ((Rc.start room own thv (thv.map Int.toNat)).play order).1.got 0 = g ∧ ((Rc.start room own thv (thv.map Int.toNat)).play order).1.rest = q := by
  have hT := play_tr hv order
  obtain ⟨a, ha, hh⟩ := hT.hist
  obtain ⟨e1, e2⟩ := runs_same (sched order) (Rc.start room own thv (thv.map Int.toNat)) []
  have e1' : ((Rc.start room own thv (thv.map Int.toNat)).play order).1.room = room := e1
  have e2' : ((Rc.start room own thv (thv.map Int.toNat)).play order).1.own = own := e2
  rw [e1', e2'] at hh
  exact ⟨a.got, _, hh, got_at ha, rfl⟩
/-- The last number stolen. -/
def lastS (l : List (Int × Int)) : Int := l.foldl (fun c e => if e.1 = 0 ∨ e.2 ≤ 0 then c else e.2) 0
theorem lastS_one (l : List (Int × Int)) (e : Int × Int) : lastS (l ++ [e]) = if e.1 = 0 ∨ e.2 ≤ 0 then lastS l else e.2 := by
  unfold lastS
  rw [List.foldl_append]
  rfl
theorem lastS_mem (l : List (Int × Int)) : lastS l = 0 ∨ lastS l ∈ stolen l := by
  suffices h : ∀ n (l : List (Int × Int)), l.length = n → lastS l = 0 ∨ lastS l ∈ stolen l from h _ l rfl
  intro n
  induction n with
  | zero => intro l hl; rw [List.eq_nil_of_length_eq_zero hl]; exact .inl rfl
  | succ n ih =>
    intro l hl
    rcases List.eq_nil_or_concat l with rfl | ⟨l2, e, rfl⟩
    · exact .inl rfl
    rw [List.concat_eq_append, List.length_append] at hl
    simp only [List.concat_eq_append]
    rw [lastS_one, stolen_append, stolen_one]
    by_cases h : e.1 = 0 ∨ e.2 ≤ 0
    · rw [if_pos h, if_neg (fun h2 => by rcases h with h | h; exact h2.1 h; omega), List.append_nil]
      exact ih l2 (by simpa using hl)
    · rw [if_neg h, if_pos ⟨fun h2 => h (.inl h2), by omega⟩]
      exact .inr (by simp)
theorem lastS_lt {out : List (Int × Int)} (h : (stolen out).Pairwise (· < ·)) {i : Nat} (hi : i < out.length) (h0 : (said out i).1 ≠ 0) (h1 : 0 < (said out i).2) : lastS (out.take i) < (said out i).2 := by
  rw [split_at hi, stolen_append, show said out i :: out.drop (i + 1) = [said out i] ++ out.drop (i + 1) from rfl, stolen_append, stolen_one, if_pos ⟨h0, h1⟩] at h
  rcases lastS_mem (out.take i) with e | e
  · omega
  · rw [List.pairwise_append] at h
    exact h.2.2 _ e _ (by simp)
theorem lastS_take {out : List (Int × Int)} {i : Nat} (hi : i < out.length) : lastS (out.take (i + 1)) = if (said out i).1 = 0 ∨ (said out i).2 ≤ 0 then lastS (out.take i) else (said out i).2 := by
  have : out.take (i + 1) = out.take i ++ [said out i] := by
    unfold said
    rw [List.take_add_one, List.getElem?_eq_getElem hi, List.getD_eq_getElem?_getD, List.getElem?_eq_getElem hi]
    rfl
  rw [this, lastS_one]
/-- Numbers anew: each greater than those before. -/
def cntp (l : List Int) : Int := l.foldl (fun c x => if 0 < x then c + 1 else c) 0
def ren (l : List Int) : List Int := (List.range l.length).map fun i => if 0 < l.getD i 0 then cntp (l.take (i + 1)) else l.getD i 0
theorem ren_len (l : List Int) : (ren l).length = l.length := by simp [ren]
theorem ren_at {l : List Int} {i : Nat} (h : i < l.length) : (ren l).getD i 0 = if 0 < l.getD i 0 then cntp (l.take (i + 1)) else l.getD i 0 := by
  unfold ren
  rw [List.getD_eq_getElem?_getD, List.getElem?_map, List.getElem?_range h]
  rfl
theorem cntp_take {l : List Int} {i : Nat} (h : i < l.length) : cntp (l.take (i + 1)) = if 0 < l.getD i 0 then cntp (l.take i) + 1 else cntp (l.take i) := by
  rw [take_one h]
  unfold cntp
  rw [List.foldl_append]
  rfl
theorem cntp_le (l : List Int) (i : Nat) (h : i ≤ l.length) : 0 ≤ cntp (l.take i) ∧ cntp (l.take i) ≤ i := by
  induction i with
  | zero => simp [cntp]
  | succ i ih =>
    have := ih (by omega)
    rw [cntp_take (by omega)]
    split <;> omega
theorem cntp_mono (l : List Int) (i d : Nat) (h : i + d ≤ l.length) : cntp (l.take i) ≤ cntp (l.take (i + d)) := by
  induction d with
  | zero => exact Int.le_refl _
  | succ d ih =>
    have := ih (by omega)
    rw [← Nat.add_assoc, cntp_take (by omega)]
    split <;> omega
theorem ren_inc (l : List Int) : Inc (ren l) := by
  intro i j hij hj hi0 hj0
  rw [ren_len] at hj
  rw [ren_at (by omega)] at hi0 ⊢
  rw [ren_at hj] at hj0 ⊢
  have hi1 : 0 < l.getD i 0 := by
    by_cases h : 0 < l.getD i 0
    · exact h
    · rw [if_neg h] at hi0; exact absurd hi0 h
  have hj1 : 0 < l.getD j 0 := by
    by_cases h : 0 < l.getD j 0
    · exact h
    · rw [if_neg h] at hj0; exact absurd hj0 h
  rw [if_pos hi1, if_pos hj1, cntp_take hj, if_pos hj1]
  obtain ⟨d, hd⟩ : ∃ d, i + 1 + d = j := ⟨j - (i + 1), by omega⟩
  have := cntp_mono l (i + 1) d (by omega)
  rw [hd] at this
  omega
/-- Half of it anew. -/
def rens (l : List Int) (i : Nat) : List Int := (ren l).take i ++ l.drop i
theorem rens_zero (l : List Int) : rens l 0 = l := by simp [rens]
theorem rens_all (l : List Int) : rens l l.length = ren l := by
  unfold rens
  rw [List.drop_length, List.append_nil, List.take_of_length_le (by rw [ren_len]; exact Nat.le_refl _)]
theorem rens_len (l : List Int) {i : Nat} (h : i ≤ l.length) : (rens l i).length = l.length := by
  unfold rens
  rw [List.length_append, List.length_take, ren_len, List.length_drop]
  omega
theorem rens_at (l : List Int) {i : Nat} (h : i < l.length) : (rens l i).getD i 0 = l.getD i 0 := by
  unfold rens
  rw [List.getD_eq_getElem?_getD, List.getElem?_append_right (by rw [List.length_take, ren_len]; omega), List.length_take, ren_len, Nat.min_eq_left (by omega), Nat.sub_self, List.getElem?_drop, Nat.add_zero, List.getD_eq_getElem?_getD]
theorem rens_succ (l : List Int) {i : Nat} (h : i < l.length) : rens l (i + 1) = (rens l i).set i ((ren l).getD i 0) := by
  unfold rens
  have h1 : ((ren l).take i).length = i := by rw [List.length_take, ren_len]; omega
  rw [List.set_append_right _ _ (by omega), h1, Nat.sub_self, take_one (by rw [ren_len]; exact h), List.append_assoc]
  congr 1
  have : l.drop i = l[i] :: l.drop (i + 1) := List.drop_eq_getElem_cons h
  rw [this]
  rfl
theorem rens_skip (l : List Int) {i : Nat} (h : i < l.length) (h0 : ¬ 0 < l.getD i 0) : rens l (i + 1) = rens l i := by
  rw [rens_succ l h, ren_at h, if_neg h0, ← rens_at l h]
  refine List.ext_getElem? fun k => ?_
  rw [List.getElem?_set]
  split
  · rename_i e
    subst e
    split
    · rename_i h2
      rw [List.getD_eq_getElem?_getD, List.getElem?_eq_getElem h2]
      rfl
    · rename_i h2
      rw [List.getElem?_eq_none (by omega)]
  · rfl
end Go.Proofs.Ytfohaijdhgcneaa
