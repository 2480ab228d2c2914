/- A pool's items, all together. -/
import Derived.Test.YtfohaijdhgcneaaPoolSteal
set_option linter.unusedVariables false
set_option linter.unusedSimpArgs false
namespace Go.Proofs.Ytfohaijdhgcneaa
open Go Go.RowKit

theorem flat_set : ∀ (qs : List (List Int)) (i : Nat) (l : List Int), i < qs.length → ((qs.set i l).flatten).Perm (l ++ (qs.set i []).flatten)
  | [], i, l, h => by simp at h
  | q :: qs, 0, l, h => by simp
  | q :: qs, i + 1, l, h => by
    have := flat_set qs i l (by simpa using h)
    simp only [List.set_cons_succ, List.flatten_cons]
    refine (this.append_left q).trans ?_
    rw [← List.append_assoc, ← List.append_assoc]
    exact List.Perm.append_right _ List.perm_append_comm
theorem set_same {qs : List (List Int)} {i : Nat} (h : i < qs.length) : qs.set i (qs.getD i []) = qs := by
  refine List.ext_getElem? fun k => ?_
  rw [List.getElem?_set]
  split
  · rename_i e
    subst e
    rw [List.getD_eq_getElem?_getD, List.getElem?_eq_getElem h]
    rfl
  · rfl
theorem flat_split {qs : List (List Int)} {i : Nat} (h : i < qs.length) : (qs.flatten).Perm (qs.getD i [] ++ (qs.set i []).flatten) := by
  have := flat_set qs i (qs.getD i []) h
  rwa [set_same h] at this
theorem flat_put {qs : List (List Int)} {i : Nat} (h : i < qs.length) (x : Int) : ((qs.set i (qs.getD i [] ++ [x])).flatten).Perm (x :: qs.flatten) := by
  refine (flat_set qs i _ h).trans ?_
  refine List.Perm.trans ?_ ((flat_split h).symm.cons x)
  rw [List.append_assoc]
  exact List.perm_middle
theorem flat_next {qs : List (List Int)} {i : Nat} (h : i < qs.length) {x : Int} {l : List Int} (hq : qs.getD i [] = x :: l) : (qs.flatten).Perm (x :: (qs.set i l).flatten) := by
  refine (flat_split h).trans ?_
  rw [hq]
  exact (flat_set qs i l h).symm.cons x
theorem flat_half {qs : List (List Int)} {i j : Nat} (hi : i < qs.length) (hj : j < qs.length) (hij : i ≠ j) (hq : qs.getD i [] = []) : ((pHalf qs i j).flatten).Perm qs.flatten := by
  unfold pHalf
  obtain ⟨l, hl⟩ : ∃ l, l = qs.getD j [] := ⟨_, rfl⟩
  rw [← hl]
  refine (flat_set _ j _ (by simpa using hj)).trans ?_
  rw [List.set_comm _ _ hij]
  refine ((flat_set (qs.set j []) i _ (by simpa using hi)).append_left _).trans ?_
  have e1 : (qs.set j []).set i [] = qs.set j [] := by
    have : (qs.set j []).getD i [] = [] := by rw [List.getD_eq_getElem?_getD, List.getElem?_set, if_neg (fun e => hij e.symm), ← List.getD_eq_getElem?_getD]; exact hq
    have h2 := set_same (qs := qs.set j []) (i := i) (by simpa using hi)
    rwa [this] at h2
  rw [e1, ← List.append_assoc]
  refine List.Perm.trans ?_ (flat_split hj).symm
  rw [← hl]
  refine List.Perm.append_right _ ?_
  refine List.perm_append_comm.trans ?_
  rw [List.take_append_drop]
/-- What StealItems keeps. -/
structure Items (qs : List (List Int)) (put got : Nat) : Prop where
  nd : qs.flatten.Nodup
  rg : ∀ x ∈ qs.flatten, 1 ≤ x ∧ x ≤ put
  ln : qs.flatten.length + got = put
theorem Items.start (n : Nat) : Items (List.replicate n []) 0 0 := by
  have e : (List.replicate n ([] : List Int)).flatten = [] := by simp
  exact ⟨by rw [e]; exact List.nodup_nil, by rw [e]; intro x hx; simp at hx, by rw [e]; rfl⟩
theorem Items.put {qs : List (List Int)} {put got : Nat} (h : Items qs put got) {i : Nat} (hi : i < qs.length) : Items (qs.set i (qs.getD i [] ++ [((put + 1 : Nat) : Int)])) (put + 1) got := by
  have hp := flat_put hi ((put + 1 : Nat) : Int)
  refine ⟨hp.nodup_iff.2 (List.nodup_cons.2 ⟨fun hx => by have := (h.rg _ hx).2; omega, h.nd⟩), fun x hx => ?_, by rw [hp.length_eq, List.length_cons]; have := h.ln; omega⟩
  rcases List.mem_cons.1 (hp.mem_iff.1 hx) with rfl | hx
  · omega
  · have := h.rg x hx; omega
theorem Items.perm {qs qs' : List (List Int)} {put got : Nat} (h : Items qs put got) (hp : qs'.flatten.Perm qs.flatten) : Items qs' put got :=
  ⟨hp.nodup_iff.2 h.nd, fun x hx => h.rg x (hp.mem_iff.1 hx), by rw [hp.length_eq]; exact h.ln⟩
theorem Items.next {qs : List (List Int)} {put got : Nat} (h : Items qs put got) {i : Nat} (hi : i < qs.length) {x : Int} {l : List Int} (hq : qs.getD i [] = x :: l) : Items (qs.set i l) put (got + 1) ∧ 1 ≤ x ∧ x ≤ put := by
  have hp := flat_next hi hq
  have hn := hp.nodup_iff.1 h.nd
  refine ⟨⟨(List.nodup_cons.1 hn).2, fun y hy => h.rg y (hp.mem_iff.2 (List.mem_cons_of_mem _ hy)), ?_⟩, h.rg x (hp.mem_iff.2 (List.mem_cons_self ..))⟩
  have := h.ln
  have h2 := hp.length_eq
  rw [List.length_cons] at h2
  omega
/-- Whoever else there is comes at some place of the search. -/
theorem vic_all {n i f j : Nat} (hi : i < n) (hj : j < n) (hij : j ≠ i) : ∃ k, k < n - 1 ∧ vic n (i + 1) f k = j := by
  obtain ⟨m, rfl⟩ : ∃ m, n = m + 1 := ⟨n - 1, by omega⟩
  have hm : 0 < m := by omega
  obtain ⟨r, hr, hrj⟩ : ∃ r, r < m ∧ (i + 1 + r) % (m + 1) = j := by
    by_cases h : i < j
    · exact ⟨j - i - 1, by omega, by rw [show i + 1 + (j - i - 1) = j by omega]; exact Nat.mod_eq_of_lt hj⟩
    · exact ⟨j + m - i, by omega, by rw [show i + 1 + (j + m - i) = j + (m + 1) by omega, Nat.add_mod_right]; exact Nat.mod_eq_of_lt hj⟩
  obtain ⟨g, hg⟩ : ∃ g, g = f % m := ⟨_, rfl⟩
  have hgm : g < m := by rw [hg]; exact Nat.mod_lt _ hm
  have hf : f = m * (f / m) + g := by rw [hg]; exact (Nat.div_add_mod f m).symm
  obtain ⟨q, hq⟩ : ∃ q, q = f / m := ⟨_, rfl⟩
  rw [← hq] at hf
  have key : ∀ k, (f + k) % m = r → vic (m + 1) (i + 1) f k = j := fun k hk => by
    unfold vic
    rw [Nat.add_sub_cancel, hk]
    exact hrj
  by_cases h : g ≤ r
  · refine ⟨r - g, by omega, key _ ?_⟩
    rw [hf, show m * q + g + (r - g) = r + m * q by omega, Nat.add_mul_mod_self_left]
    exact Nat.mod_eq_of_lt hr
  · refine ⟨r + m - g, by omega, key _ ?_⟩
    rw [hf, show m * q + g + (r + m - g) = r + m + m * q by omega, Nat.add_mul_mod_self_left, Nat.add_mod_right]
    exact Nat.mod_eq_of_lt hr
theorem pfind_none {qs : List (List Int)} {i : Nat} {seed : Int} (hi : i < qs.length) (hq : qs.getD i [] = []) (h : pFind qs (i + 1) seed = none) : qs.flatten = [] := by
  rw [List.flatten_eq_nil_iff]
  intro l hl
  obtain ⟨j, hj⟩ := List.getElem?_of_mem hl
  have hjl := (List.getElem?_eq_some_iff.1 hj).1
  have e : l = qs.getD j [] := by rw [List.getD_eq_getElem?_getD, hj]; rfl
  rw [e]
  by_cases hij : j = i
  · rw [hij]; exact hq
  · obtain ⟨k, hk, hv⟩ := vic_all (f := fromOf qs.length seed) hi hjl hij
    unfold pFind at h
    have := List.find?_eq_none.1 h j (List.mem_map.2 ⟨k, List.mem_range.2 hk, hv⟩)
    simpa using this
theorem pfind_some {qs : List (List Int)} {i j : Nat} {seed : Int} (hi : i < qs.length) (h : pFind qs (i + 1) seed = some j) : j < qs.length ∧ j ≠ i ∧ qs.getD j [] ≠ [] := by
  unfold pFind at h
  have h1 := List.find?_some h
  have h2 := List.mem_of_find?_eq_some h
  obtain ⟨k, hk, hv⟩ := List.mem_map.1 h2
  rw [List.mem_range] at hk
  exact ⟨by rw [← hv]; exact vic_lt (by omega), by rw [← hv]; exact vic_ne hi (by omega), by simpa using h1⟩
theorem half_head {qs : List (List Int)} {i j : Nat} (hi : i < qs.length) (hij : j ≠ i) (hq : qs.getD j [] ≠ []) : ∃ x l, (pHalf qs i j).getD i [] = x :: l := by
  have e : (pHalf qs i j).getD i [] = (qs.getD j []).take (((qs.getD j []).length + 1) / 2) := by
    unfold pHalf
    rw [List.getD_eq_getElem?_getD, List.getElem?_set, if_neg hij, List.getElem?_set, if_pos rfl, if_pos hi]
    rfl
  rw [e]
  obtain ⟨x, l, hl⟩ := List.exists_cons_of_ne_nil hq
  rw [hl]
  have : 0 < ((x :: l).length + 1) / 2 := by simp
  obtain ⟨k, hk⟩ : ∃ k, ((x :: l).length + 1) / 2 = k + 1 := ⟨((x :: l).length + 1) / 2 - 1, by omega⟩
  rw [hk]
  exact ⟨x, l.take k, rfl⟩
theorem getD_le_flat (qs : List (List Int)) (j : Nat) : (qs.getD j []).length ≤ qs.flatten.length := by
  by_cases hj : j < qs.length
  · have := (flat_split hj).length_eq
    rw [List.length_append] at this
    omega
  · rw [List.getD_eq_getElem?_getD, List.getElem?_eq_none (by omega)]
    simp
theorem Items.le {qs : List (List Int)} {put got : Nat} (h : Items qs put got) (j : Nat) : (qs.getD j []).length ≤ put := by
  have := getD_le_flat qs j
  have := h.ln
  omega
/-- One puts the queues into a row, one after the other. -/
theorem flat_take_succ {qs : List (List Int)} {i : Nat} (hi : i < qs.length) : (qs.take (i + 1)).flatten = (qs.take i).flatten ++ qs.getD i [] := by
  rw [List.take_succ_eq_append_getElem hi, List.flatten_append, List.getD_eq_getElem?_getD, List.getElem?_eq_getElem hi]
  simp
end Go.Proofs.Ytfohaijdhgcneaa
