/- The permits of a lock: plain lists. -/
import Derived.Test.YtfifdgigeecfbaaLockStates
set_option linter.unusedVariables false
set_option linter.unusedSimpArgs false
namespace Go.Proofs.Ytfifdgigeecfbaa
open Go Go.RowKit

theorem srt_sorted (l : List Int) : (srt l).Pairwise (fun a b => a ≤ b) := by
  have h := List.pairwise_mergeSort (le := fun x y : Int => decide (x ≤ y)) (fun a b c h1 h2 => by simp only [decide_eq_true_eq] at *; omega) (fun a b => by simp only [Bool.or_eq_true, decide_eq_true_eq]; omega) l
  exact h.imp (fun h => by simpa using h)
theorem srt_perm_self (l : List Int) : (srt l).Perm l := List.mergeSort_perm l _
theorem srt_lt {l : List Int} (h : l.Nodup) : (srt l).Pairwise (fun a b => a < b) := by
  have h1 := srt_sorted l
  have h2 : (srt l).Nodup := (srt_perm_self l).nodup_iff.2 h
  exact (h1.and h2).imp (fun ⟨a, b⟩ => by omega)
theorem holders_perm {k : Lk} {d : Int} (h : k.Ok d) : k.holders.Perm k.holds := by
  have e : (k.holds.map (·.1)).map (fun p => (p, k.has p)) = k.holds := by
    rw [List.map_map]
    conv => rhs; rw [← List.map_id k.holds]
    apply List.map_congr_left
    intro x hx
    have := aget_of_mem h.keys (k := x.1) (v := x.2) hx
    simp [Function.comp, Lk.has, this]
  unfold Lk.holders
  have := (srt_perm_self (k.holds.map (·.1))).map (fun p => (p, k.has p))
  rwa [e] at this
theorem holders_pos {k : Lk} {d : Int} (h : k.Ok d) : ∀ x ∈ k.holders, 1 ≤ x.2 := fun x hx => h.pos x ((holders_perm h).mem_iff.1 hx)
theorem sumH_perm {l l' : List (Int × Int)} (h : l.Perm l') : sumH l = sumH l' := by
  induction h with
  | nil => rfl
  | cons x _ ih => simp only [sumH, List.map_cons, List.sum_cons] at *; omega
  | swap x y l => simp only [sumH, List.map_cons, List.sum_cons]; omega
  | trans _ _ h1 h2 => exact h1.trans h2
theorem sumH_append (l l' : List (Int × Int)) : sumH (l ++ l') = sumH l + sumH l' := by simp [sumH]
theorem holders_sum {k : Lk} {d : Int} (h : k.Ok d) : sumH k.holders = sumH k.holds := sumH_perm (holders_perm h)
theorem holders_asc {k : Lk} {d : Int} (h : k.Ok d) {i : Nat} {x y : Int × Int} (hx : k.holders[i]? = some x) (hy : k.holders[i + 1]? = some y) : x.1 < y.1 := by
  have hp : k.holders.Pairwise (fun a b => a.1 < b.1) := by
    unfold Lk.holders
    rw [List.pairwise_map]
    exact srt_lt h.keys
  obtain ⟨l1, e1⟩ := List.getElem?_eq_some_iff.1 hx
  obtain ⟨l2, e2⟩ := List.getElem?_eq_some_iff.1 hy
  have := List.pairwise_iff_getElem.1 hp i (i + 1) l1 l2 (by omega)
  rw [e1, e2] at this
  exact this
theorem sumH_take {l : List (Int × Int)} {j : Nat} {x : Int × Int} (h : l[j]? = some x) : sumH (l.take (j + 1)) = sumH (l.take j) + x.2 := by
  obtain ⟨hl, e⟩ := List.getElem?_eq_some_iff.1 h
  rw [List.take_succ_eq_append_getElem hl, e]
  simp [sumH]
theorem sumH_take_le {l : List (Int × Int)} (h : ∀ x ∈ l, 1 ≤ x.2) (j : Nat) : 0 ≤ sumH (l.take j) ∧ sumH (l.take j) ≤ sumH l := by
  have h1 := sumH_nonneg (l := l.take j) (fun x hx => h x (List.take_subset _ _ hx))
  have h2 := sumH_nonneg (l := l.drop j) (fun x hx => h x (List.drop_subset _ _ hx))
  have h3 : sumH l = sumH (l.take j) + sumH (l.drop j) := by
    rw [← sumH_append, List.take_append_drop]
  omega
/-- Those who wait, of all locks. -/
def Tb.wall (t : Tb) : List Int := t.ls.flatMap Lk.waiting
theorem wall_fresh {t : Tb} (h : t.Cons) {i : Nat} {k : Lk} (hi : t.ls[i]? = some k) {j : Nat} {p : Int} (hp : k.waiting[j]? = some p) : p ∉ (t.ls.take i).flatMap Lk.waiting ++ k.waiting.take j := by
  intro hm
  have hpw : p ∈ k.waiting := List.mem_of_getElem? hp
  have h1 := h.c2 i k p hi hpw
  rcases List.mem_append.1 hm with hm | hm
  · obtain ⟨k', hk', hp'⟩ := List.mem_flatMap.1 hm
    obtain ⟨j', hj'⟩ := List.getElem?_of_mem hk'
    obtain ⟨hl, _⟩ := List.getElem?_eq_some_iff.1 hj'
    have hji : j' < i := by simp at hl; omega
    rw [List.getElem?_take_of_lt hji] at hj'
    have h2 := h.c2 j' k' p hj' hp'
    rw [h1] at h2
    simp at h2
    omega
  · obtain ⟨j', hj'⟩ := List.getElem?_of_mem hm
    obtain ⟨hl, _⟩ := List.getElem?_eq_some_iff.1 hj'
    have hji : j' < j := by simp at hl; omega
    rw [List.getElem?_take_of_lt hji] at hj'
    have := (List.getElem?_inj (i := j') (j := j) (List.getElem?_eq_some_iff.1 hj').1 (h.c3 i k hi)).1 (hj'.trans hp.symm)
    omega

theorem wall_len {l : List Lk} {D : Nat} (h : ∀ k ∈ l, k.waiting.length ≤ D) : (l.flatMap Lk.waiting).length ≤ l.length * D := by
  induction l with
  | nil => simp
  | cons x l ih =>
    have h1 := h x (by simp)
    have h2 := ih (fun y hy => h y (by simp [hy]))
    simp only [List.flatMap_cons, List.length_append, List.length_cons, Nat.add_mul]
    omega
theorem wall_take {t : Tb} {i : Nat} {k : Lk} (h : t.ls[i]? = some k) : (t.ls.take (i + 1)).flatMap Lk.waiting = (t.ls.take i).flatMap Lk.waiting ++ k.waiting := by
  obtain ⟨hl, e⟩ := List.getElem?_eq_some_iff.1 h
  rw [List.take_succ_eq_append_getElem hl, e, List.flatMap_append]
  simp

end Go.Proofs.Ytfifdgigeecfbaa
