/- A ledger's laws: what each task holds is told by the entries; times; what is crossed; what leaked. Plain lists, no program in sight. -/
import Derived.Test.YtgjicobfbdikmaaLedPure
import Derived.Test.YtgjicobfbdikmaaIntSort
set_option linter.unusedVariables false
set_option linter.unusedSimpArgs false
namespace Go.Proofs.Ytgjicobfbdikmaa
open Go Go.RowKit

theorem srt_sorted (l : List Int) : (srt l).Pairwise (fun a b => a ≤ b) := by
  have h := List.pairwise_mergeSort (le := fun x y : Int => decide (x ≤ y)) (fun a b c h1 h2 => by simp only [decide_eq_true_eq] at *; omega) (fun a b => by simp only [Bool.or_eq_true, decide_eq_true_eq]; omega) l
  exact h.imp (fun h => by simpa using h)
theorem srt_perm_self (l : List Int) : (srt l).Perm l := List.mergeSort_perm l _
theorem srt_eq {l s : List Int} (h : l.Perm s) (hs : s.Pairwise (fun a b => a ≤ b)) : srt l = s :=
  List.Perm.eq_of_pairwise (le := fun a b => a ≤ b) (fun a b _ _ h1 h2 => by omega) (srt_sorted l) hs ((srt_perm_self l).trans h)
theorem srt_perm {l s : List Int} (h : l.Perm s) : srt l = srt s := srt_eq (h.trans (srt_perm_self s).symm) (srt_sorted s)
theorem srt_lt {l : List Int} (h : l.Nodup) : (srt l).Pairwise (fun a b => a < b) := by
  have h1 := srt_sorted l
  have h2 : (srt l).Nodup := (srt_perm_self l).nodup_iff.2 h
  exact (h1.and h2).imp (fun ⟨a, b⟩ => by omega)

/-- The positions of the entries that a task holds. -/
def opn (t : Int) : Nat → List Ent → List Int
  | _, [] => []
  | i, e :: es => (if e.task = t ∧ e.to = 0 then [(i : Int)] else []) ++ opn t (i + 1) es
theorem opn_append (t : Int) : ∀ (es : List Ent) (i : Nat) (fs : List Ent), opn t i (es ++ fs) = opn t i es ++ opn t (i + es.length) fs
  | [], i, fs => by simp [opn]
  | e :: es, i, fs => by
    simp only [List.cons_append, opn, opn_append t es (i + 1) fs, List.append_assoc, List.length_cons]
    rw [show i + 1 + es.length = i + (es.length + 1) by omega]
theorem opn_mem (t : Int) : ∀ (es : List Ent) (i : Nat) (k : Int), k ∈ opn t i es ↔ ∃ j e, k = ((i + j : Nat) : Int) ∧ es[j]? = some e ∧ e.task = t ∧ e.to = 0
  | [], i, k => by simp [opn]
  | e :: es, i, k => by
    simp only [opn, List.mem_append, opn_mem t es (i + 1) k]
    constructor
    · rintro (h | ⟨j, x, rfl, hj, hx⟩)
      · split at h
        · rename_i hc
          simp only [List.mem_cons, List.not_mem_nil, or_false] at h
          exact ⟨0, e, by simpa using h, rfl, hc⟩
        · simp at h
      · exact ⟨j + 1, x, by omega, hj, hx⟩
    · rintro ⟨j, x, rfl, hj, hx⟩
      cases j with
      | zero =>
        simp only [List.getElem?_cons_zero, Option.some.injEq] at hj
        subst hj
        left
        rw [if_pos hx]
        simp
      | succ j => exact .inr ⟨j, x, by omega, hj, hx⟩
theorem opn_pw (t : Int) : ∀ (es : List Ent) (i : Nat), (opn t i es).Pairwise (fun a b => a < b)
  | [], i => by simp [opn]
  | e :: es, i => by
    have ih := opn_pw t es (i + 1)
    simp only [opn]
    split
    · refine List.pairwise_cons.2 ⟨fun b hb => ?_, ih⟩
      obtain ⟨j, x, rfl, _⟩ := (opn_mem t es (i + 1) b).1 hb
      omega
    · exact ih
theorem opn_modify (t tm : Int) (hn : tm ≠ 0) : ∀ (es : List Ent) (i k : Nat) (e : Ent), es[k]? = some e → e.to = 0 → opn t i (es.modify k fun x => { x with to := tm }) = if e.task = t then (opn t i es).erase ((i + k : Nat) : Int) else opn t i es
  | [], i, k, e, h, _ => by simp at h
  | a :: es, i, 0, e, h, h0 => by
    simp only [List.getElem?_cons_zero, Option.some.injEq] at h
    subst h
    simp only [List.modify_zero_cons, opn, hn, and_false, if_false, List.nil_append, h0, and_true, Nat.add_zero]
    split
    · simp
    · rfl
  | a :: es, i, k + 1, e, h, h0 => by
    simp only [List.getElem?_cons_succ] at h
    simp only [List.modify_succ_cons, opn, opn_modify t tm hn es (i + 1) k e h h0]
    rw [show i + 1 + k = i + (k + 1) by omega]
    split
    · split
      · simp only [List.cons_append, List.nil_append]
        rw [List.erase_cons_tail]
        simp
        omega
      · rfl
    · rfl
theorem eraseIdx_erase : ∀ {l : List Int} {j : Nat} {x : Int}, l.Nodup → l[j]? = some x → l.eraseIdx j = l.erase x
  | [], j, x, _, h => by simp at h
  | a :: l, 0, x, _, h => by
    simp only [List.getElem?_cons_zero, Option.some.injEq] at h
    subst h
    simp
  | a :: l, j + 1, x, hn, h => by
    simp only [List.getElem?_cons_succ] at h
    rw [List.nodup_cons] at hn
    rw [List.eraseIdx_cons_succ, List.erase_cons_tail, eraseIdx_erase hn.2 h]
    simp only [beq_iff_eq]
    rintro rfl
    exact hn.1 (List.mem_of_getElem? h)
theorem opn_nodup (t : Int) (es : List Ent) (i : Nat) : (opn t i es).Nodup := (opn_pw t es i).imp (fun h => by omega)

/-- All times. -/
def tms (es : List Ent) : List Int := es.flatMap fun e => e.fr :: (if e.to = 0 then [] else [e.to])
theorem tms_append (es fs : List Ent) : tms (es ++ fs) = tms es ++ tms fs := by simp [tms]
theorem tms_modify (tm : Int) (hn : tm ≠ 0) : ∀ (es : List Ent) (k : Nat) (e : Ent), es[k]? = some e → e.to = 0 → (tms (es.modify k fun x => { x with to := tm })).Perm (tms es ++ [tm])
  | [], k, e, h, _ => by simp at h
  | a :: es, 0, e, h, h0 => by
    simp only [List.getElem?_cons_zero, Option.some.injEq] at h
    subst h
    simp only [List.modify_zero_cons, tms, List.flatMap_cons, hn, if_false, h0, if_true, List.cons_append, List.nil_append]
    exact ((List.perm_append_singleton tm _).symm).cons _
  | a :: es, k + 1, e, h, h0 => by
    simp only [List.getElem?_cons_succ] at h
    have ih := tms_modify tm hn es k e h h0
    simp only [List.modify_succ_cons, tms, List.flatMap_cons] at ih ⊢
    rw [List.append_assoc]
    exact ih.append_left _
def ticks (n : Int) : List Int := (List.range n.toNat).map fun i : Nat => ((i + 1 : Nat) : Int)
theorem ticks_succ (n : Int) (h : 0 ≤ n) : ticks (n + 1) = ticks n ++ [n + 1] := by
  unfold ticks
  rw [show (n + 1).toNat = n.toNat + 1 by omega, List.range_succ, List.map_append]
  simp only [List.map_cons, List.map_nil]
  congr 2
  omega
theorem ticks_sorted (n : Int) : (ticks n).Pairwise (fun a b => a ≤ b) := by
  unfold ticks
  rw [List.pairwise_map]
  exact List.pairwise_lt_range.imp (fun h => by omega)

/-- An entry was crossed. -/
def Crs (es : List Ent) (k : Nat) : Prop := ∃ x, es[k]? = some x ∧ 0 < x.to ∧ ∃ j y, k < j ∧ es[j]? = some y ∧ y.task = x.task ∧ y.fr < x.to ∧ (y.to = 0 ∨ x.to < y.to)
/-- What the entries tell. -/
structure Lg.Core (L : Lg) : Prop where
  st : ∀ t, L.stk t = opn t 0 L.es
  t0 : 0 ≤ L.time
  pm : (tms L.es).Perm (ticks L.time)
  fl : ∀ (k : Nat) e, L.es[k]? = some e → 1 ≤ e.task ∧ e.task ≤ 64 ∧ 0 ≤ e.what ∧ e.what ≤ 999 ∧ 1 ≤ e.fr ∧ e.fr ≤ L.time ∧ (e.to = 0 ∨ (e.fr < e.to ∧ e.to ≤ L.time))
structure Lg.Inv (L : Lg) : Prop extends L.Core where
  ok : L.Ok
  cr : ∀ k : Int, k ∈ L.cr ↔ 0 ≤ k ∧ Crs L.es k.toNat
  crn : L.cr.Nodup
  lkn : L.lk.Nodup
  lke : ∀ k ∈ L.lk, k ∉ L.cr ∧ ∃ e, L.es[k.toNat]? = some e ∧ e.to ≠ 0
theorem Lg.new_core : Lg.new.Core := ⟨fun t => rfl, by simp [Lg.new], by simp [Lg.new, tms, ticks], by simp [Lg.new]⟩
theorem Lg.new_inv : Lg.new.Inv := { Lg.new_core with
  ok := Lg.new_ok
  cr := fun k => by simp [Lg.new, Crs]
  crn := by simp [Lg.new]
  lkn := by simp [Lg.new]
  lke := by simp [Lg.new] }

/-- What a cut takes out. -/
theorem Lg.Core.at {L : Lg} (h : L.Core) {t : Int} {i : Nat} (hi : i < (L.stk t).length) : ∃ (k : Nat) (e : Ent), (L.stk t)[i]? = some (k : Int) ∧ (L.stk t).getD i 0 = (k : Int) ∧ L.es[k]? = some e ∧ e.task = t ∧ e.to = 0 := by
  obtain ⟨x, hx⟩ : ∃ x, (L.stk t)[i]? = some x := ⟨_, List.getElem?_eq_getElem hi⟩
  have hm := List.mem_of_getElem? hx
  rw [h.st, opn_mem] at hm
  obtain ⟨j, e, rfl, he⟩ := hm
  rw [Nat.zero_add] at hx
  exact ⟨j, e, hx, by rw [List.getD_eq_getElem?_getD, hx]; rfl, he⟩
theorem Lg.Core.more {L : Lg} (h : L.Core) {t : Int} {i k : Nat} (hk : (L.stk t)[i]? = some (k : Int)) : i + 1 < (L.stk t).length ↔ ∃ j y, k < j ∧ L.es[j]? = some y ∧ y.task = t ∧ y.to = 0 := by
  have hp := opn_pw t L.es 0
  rw [← h.st] at hp
  obtain ⟨hi, hik⟩ := List.getElem?_eq_some_iff.1 hk
  constructor
  · intro h1
    obtain ⟨j, y, h2, h3, h4, h5, h6⟩ := h.at h1
    obtain ⟨hj, hjk⟩ := List.getElem?_eq_some_iff.1 h2
    have := List.pairwise_iff_getElem.1 hp i (i + 1) hi hj (by omega)
    rw [hik, hjk] at this
    exact ⟨j, y, by omega, h4, h5, h6⟩
  · rintro ⟨j, y, hkj, hy⟩
    have hm : (j : Int) ∈ L.stk t := by
      rw [h.st, opn_mem]
      exact ⟨j, y, by simp, hy⟩
    obtain ⟨q, hq, hqj⟩ := List.getElem_of_mem hm
    rcases Nat.lt_trichotomy i q with h1 | h1 | h1
    · omega
    · subst h1; rw [hik] at hqj; omega
    · have := List.pairwise_iff_getElem.1 hp q i hq hi h1
      rw [hik, hqj] at this
      omega
theorem Lg.Core.cut {L : Lg} (h : L.Core) {t : Int} {i : Nat} (hi : i < (L.stk t).length) : (L.cut t i).Core := by
  obtain ⟨k, e, h1, h2, h3, h4, h5⟩ := h.at hi
  have ht := h.t0
  unfold Lg.cut
  rw [h2]
  refine ⟨fun q => ?_, by simp; omega, ?_, fun j x hx => ?_⟩
  · simp only [shut, Int.toNat_natCast]
    rw [opn_modify q (L.time + 1) (by omega) L.es 0 k e h3 h5, Nat.zero_add]
    by_cases hq : q = t
    · subst hq
      rw [fput_same, if_pos h4, ← h.st]
      exact eraseIdx_erase (by rw [h.st]; exact opn_nodup _ _ _) h1
    · rw [fput_other _ _ hq, if_neg (fun e2 => hq (e2.symm.trans h4)), h.st]
  · simp only [shut, Int.toNat_natCast]
    rw [ticks_succ _ ht]
    exact (tms_modify (L.time + 1) (by omega) L.es k e h3 h5).trans (h.pm.append_right _)
  · simp only at hx ⊢
    rw [shut_get] at hx
    split at hx
    · rename_i hj
      rw [Int.toNat_natCast] at hj
      subst hj
      rw [h3] at hx
      simp only [Option.map_some, Option.some.injEq] at hx
      subst hx
      have := h.fl _ _ h3
      simp only
      omega
    · have := h.fl _ _ hx
      omega
theorem Lg.Core.cut_crs {L : Lg} (h : L.Core) {t : Int} {i : Nat} (hi : i < (L.stk t).length) (q : Nat) : Crs (L.cut t i).es q ↔ Crs L.es q ∨ ((q : Int) = (L.stk t).getD i 0 ∧ i + 1 < (L.stk t).length) := by
  obtain ⟨k, e, h1, h2, h3, h4, h5⟩ := h.at hi
  have ht := h.t0
  rw [h2, h.more h1]
  have hes : ∀ j, (L.cut t i).es[j]? = if k = j then some { e with to := L.time + 1 } else L.es[j]? := fun j => by
    unfold Lg.cut
    simp only
    rw [h2, shut_get, Int.toNat_natCast]
    split
    · rename_i hj; subst hj; rw [h3]; rfl
    · rfl
  unfold Crs
  constructor
  · rintro ⟨x, hx, h0, j, y, hqj, hy, hyt, hyf, hyo⟩
    rw [hes] at hx hy
    by_cases hkq : k = q
    · subst hkq
      rw [if_pos rfl] at hx
      simp only [Option.some.injEq] at hx
      subst hx
      rw [if_neg (by omega)] at hy
      refine .inr ⟨rfl, j, y, hqj, hy, hyt.trans h4, ?_⟩
      have := h.fl _ _ hy
      simp only at hyo hyf
      omega
    · rw [if_neg hkq] at hx
      refine .inl ⟨x, hx, h0, ?_⟩
      have hxl := h.fl _ _ hx
      by_cases hkj : k = j
      · subst hkj
        rw [if_pos rfl] at hy
        simp only [Option.some.injEq] at hy
        subst hy
        exact ⟨k, e, hqj, h3, hyt, hyf, .inl h5⟩
      · rw [if_neg hkj] at hy
        exact ⟨j, y, hqj, hy, hyt, hyf, hyo⟩
  · rintro (⟨x, hx, h0, j, y, hqj, hy, hyt, hyf, hyo⟩ | ⟨hq, j, y, hkj, hy, hyt, hyo⟩)
    · have hkq : ¬ k = q := by
        rintro rfl
        rw [h3] at hx
        cases hx
        omega
      have hxl := h.fl _ _ hx
      refine ⟨x, by rw [hes, if_neg hkq]; exact hx, h0, ?_⟩
      by_cases hkj : k = j
      · subst hkj
        rw [h3] at hy
        cases hy
        exact ⟨k, { e with to := L.time + 1 }, hqj, by rw [hes, if_pos rfl], hyt, hyf, .inr (by show x.to < L.time + 1; omega)⟩
      · exact ⟨j, y, hqj, by rw [hes, if_neg hkj]; exact hy, hyt, hyf, hyo⟩
    · obtain rfl : q = k := by omega
      refine ⟨{ e with to := L.time + 1 }, by rw [hes, if_pos rfl], by show 0 < L.time + 1; omega, j, y, hkj, by rw [hes, if_neg (by omega)]; exact hy, hyt.trans h4.symm, ?_, .inl hyo⟩
      have := h.fl _ _ hy
      show y.fr < L.time + 1
      omega
theorem Lg.Inv.acquire {L : Lg} (h : L.Inv) (t x : Int) : (L.acquire t x).1.Inv := by
  have hok := h.ok.acquire t x
  unfold Lg.acquire at hok ⊢
  split
  · exact h
  split
  · exact h
  rename_i h1 h2
  rw [if_neg h1, if_neg h2] at hok
  have ht := h.t0
  have hget : ∀ (j : Nat) y, (L.es ++ [(⟨x, t, L.time + 1, 0⟩ : Ent)])[j]? = some y ↔ L.es[j]? = some y ∨ (j = L.es.length ∧ y = ⟨x, t, L.time + 1, 0⟩) := fun j y => by
    rcases Nat.lt_trichotomy j L.es.length with hj | hj | hj
    · rw [List.getElem?_append_left hj]
      constructor
      · exact .inl
      · rintro (h | h)
        · exact h
        · omega
    · subst hj
      simp
      exact eq_comm
    · rw [List.getElem?_eq_none (by simp; omega), List.getElem?_eq_none (by omega)]
      simp
      omega
  have hcrs : ∀ q, Crs (L.es ++ [(⟨x, t, L.time + 1, 0⟩ : Ent)]) q ↔ Crs L.es q := fun q => by
    unfold Crs
    simp only [hget]
    constructor
    · rintro ⟨x1, hx, h0, j, y, hqj, hy, hyt, hyf, hyo⟩
      rcases hx with hx | ⟨_, rfl⟩
      · have := h.fl _ _ hx
        rcases hy with hy | ⟨_, rfl⟩
        · exact ⟨x1, hx, h0, j, y, hqj, hy, hyt, hyf, hyo⟩
        · simp only at hyf
          omega
      · simp at h0
    · rintro ⟨x1, hx, h0, j, y, hqj, hy, hr⟩
      exact ⟨x1, .inl hx, h0, j, y, hqj, .inl hy, hr⟩
  refine { ok := hok, st := fun q => ?_, t0 := by simp only; omega, pm := ?_, fl := fun k e he => ?_, cr := fun k => ?_, crn := h.crn, lkn := h.lkn, lke := fun k hk => ?_ }
  · simp only [opn_append, opn, Nat.zero_add, List.append_nil, and_true]
    by_cases hq : q = t
    · subst hq; rw [fput_same, if_pos rfl, h.st]
    · rw [fput_other _ _ hq, if_neg (fun e => hq e.symm), List.append_nil, h.st]
  · simp only [tms_append]
    rw [ticks_succ _ ht]
    exact h.pm.append_right _
  · simp only at he ⊢
    rcases (hget k e).1 he with he | ⟨_, rfl⟩
    · have := h.fl _ _ he
      omega
    · unfold Bad at h1
      show 1 ≤ t ∧ t ≤ 64 ∧ 0 ≤ x ∧ x ≤ 999 ∧ 1 ≤ L.time + 1 ∧ L.time + 1 ≤ L.time + 1 ∧ ((0 : Int) = 0 ∨ _)
      exact ⟨by omega, by omega, by omega, by omega, by omega, by omega, .inl rfl⟩
  · simp only [hcrs]
    exact h.cr k
  · obtain ⟨a, e, b, c⟩ := h.lke k hk
    exact ⟨a, e, (hget _ _).2 (.inl b), c⟩
theorem Lg.Inv.release {L : Lg} (h : L.Inv) (t x : Int) : (L.release t x).1.Inv := by
  have hok := h.ok.release t x
  unfold Lg.release at hok ⊢
  split
  · exact h
  rename_i h1
  rw [if_neg h1] at hok
  split
  · exact h
  · rename_i i hs
    simp only [hs] at hok
    have hi := (seek_spec hs).1
    have hc := h.toCore.cut hi
    have hx := h.toCore.cut_crs hi
    obtain ⟨k, e, g1, g2, g3, g4, g5⟩ := h.at hi
    have hcr : ∀ q : Int, q ∈ (if i + 1 < (L.stk t).length then L.cr ++ [(L.stk t).getD i 0] else L.cr) ↔ 0 ≤ q ∧ Crs (L.cut t i).es q.toNat := fun q => by
      have e1 : 0 ≤ q → ((q.toNat : Nat) : Int) = q := fun h => by omega
      rw [hx]
      split
      · rename_i hlt
        rw [List.mem_append, h.cr, g2]
        simp only [List.mem_cons, List.not_mem_nil, or_false]
        constructor
        · rintro (⟨a, b⟩ | rfl)
          · exact ⟨a, .inl b⟩
          · exact ⟨by omega, .inr ⟨by omega, hlt⟩⟩
        · rintro ⟨a, b | ⟨b, _⟩⟩
          · exact .inl ⟨a, b⟩
          · exact .inr (by omega)
      · rename_i hlt
        rw [h.cr]
        constructor
        · rintro ⟨a, b⟩
          exact ⟨a, .inl b⟩
        · rintro ⟨a, b | ⟨_, b⟩⟩
          · exact ⟨a, b⟩
          · exact absurd b hlt
    have hnew : (k : Int) ∉ L.cr := fun hm => by
      obtain ⟨_, x1, hx1, h0, _⟩ := (h.cr _).1 hm
      rw [Int.toNat_natCast, g3] at hx1
      cases hx1
      omega
    refine { st := hc.st, t0 := hc.t0, pm := hc.pm, fl := hc.fl, ok := hok, cr := hcr, crn := ?_, lkn := h.lkn, lke := fun q hq => ?_ }
    · simp only
      split
      · rw [g2]
        refine List.nodup_append.2 ⟨h.crn, by simp, fun a ha b hb e => ?_⟩
        simp only [List.mem_cons, List.not_mem_nil, or_false] at hb
        subst e hb
        exact hnew ha
      · exact h.crn
    · obtain ⟨a, e1, b, c⟩ := h.lke q hq
      have hqk : q ≠ (k : Int) := by
        rintro rfl
        rw [Int.toNat_natCast, g3] at b
        cases b
        exact c g5
      have hq0 := (h.ok.li q hq).1
      refine ⟨fun hm => ?_, e1, ?_, c⟩
      · simp only at hm
        split at hm
        · rw [g2] at hm
          simp only [List.mem_append, List.mem_cons, List.not_mem_nil, or_false] at hm
          rcases hm with hm | hm
          · exact a hm
          · exact hqk hm
        · exact a hm
      · unfold Lg.cut
        simp only
        rw [g2, shut_get, if_neg (by rw [Int.toNat_natCast]; omega)]
        exact b
theorem Lg.Inv.leak {L : Lg} (h : L.Inv) (t : Int) (hp : 0 < (L.stk t).length) : (L.leak t).Inv := by
  have hok := h.ok.leak t hp
  have hi : (L.stk t).length - 1 < (L.stk t).length := by omega
  have hc := h.toCore.cut hi
  have hx := h.toCore.cut_crs hi
  obtain ⟨k, e, g1, g2, g3, g4, g5⟩ := h.at hi
  have hnc : (k : Int) ∉ L.cr := fun hm => by
    obtain ⟨_, x1, hx1, h0, _⟩ := (h.cr _).1 hm
    rw [Int.toNat_natCast, g3] at hx1
    cases hx1
    omega
  have hnl : (k : Int) ∉ L.lk := fun hm => by
    obtain ⟨_, x1, hx1, h0⟩ := h.lke _ hm
    rw [Int.toNat_natCast, g3] at hx1
    cases hx1
    exact h0 g5
  have hget : ∀ j, (L.cut t ((L.stk t).length - 1)).es[j]? = if k = j then some { e with to := L.time + 1 } else L.es[j]? := fun j => by
    unfold Lg.cut
    simp only
    rw [g2, shut_get, Int.toNat_natCast]
    split
    · rename_i hj; subst hj; rw [g3]; rfl
    · rfl
  have ht := h.t0
  refine { st := hc.st, t0 := hc.t0, pm := hc.pm, fl := hc.fl, ok := hok, cr := fun q => ?_, crn := h.crn, lkn := ?_, lke := fun q hq => ?_ }
  · show q ∈ L.cr ↔ 0 ≤ q ∧ Crs (L.cut t ((L.stk t).length - 1)).es q.toNat
    rw [hx, h.cr]
    constructor
    · rintro ⟨a, b⟩; exact ⟨a, .inl b⟩
    · rintro ⟨a, b | ⟨_, b⟩⟩
      · exact ⟨a, b⟩
      · omega
  · show (L.lk ++ [(L.stk t).getD ((L.stk t).length - 1) 0]).Nodup
    rw [g2]
    refine List.nodup_append.2 ⟨h.lkn, by simp, fun a ha b hb e => ?_⟩
    simp only [List.mem_cons, List.not_mem_nil, or_false] at hb
    subst e hb
    exact hnl ha
  · change q ∈ L.lk ++ [(L.stk t).getD ((L.stk t).length - 1) 0] at hq
    show q ∉ L.cr ∧ ∃ e, (L.cut t ((L.stk t).length - 1)).es[q.toNat]? = some e ∧ e.to ≠ 0
    rw [g2] at hq
    simp only [List.mem_append, List.mem_cons, List.not_mem_nil, or_false] at hq
    rw [hget]
    rcases hq with hq | rfl
    · obtain ⟨a, e1, b, c⟩ := h.lke q hq
      refine ⟨a, ?_⟩
      split
      · exact ⟨_, rfl, by simp only; omega⟩
      · exact ⟨e1, b, c⟩
    · exact ⟨hnc, by rw [Int.toNat_natCast, if_pos rfl]; exact ⟨_, rfl, by simp only; omega⟩⟩
theorem Lg.Inv.leaks : ∀ (n : Nat) {L : Lg} {t : Int}, L.Inv → n ≤ (L.stk t).length → (Lg.leaks n L t).Inv
  | 0, _, _, h, _ => h
  | n + 1, L, t, h, hn => Lg.Inv.leaks n (h.leak t (by omega)) (by rw [leak_stk, List.length_eraseIdx]; split <;> omega)
theorem Lg.Inv.fin {L : Lg} (h : L.Inv) (t : Int) : (L.fin t).1.Inv := by
  unfold Lg.fin
  split
  · exact h
  · exact Lg.Inv.leaks _ h (Nat.le_refl _)

/-- A call. -/
structure LOp where
  kind : Int
  task : Int
  what : Int
def Lg.step (L : Lg) (o : LOp) : Lg := if o.kind = 0 then (L.acquire o.task o.what).1 else if o.kind = 1 then (L.release o.task o.what).1 else if o.kind = 2 then (L.fin o.task).1 else L
theorem Lg.Inv.step {L : Lg} (h : L.Inv) (o : LOp) : (L.step o).Inv := by
  unfold Lg.step
  split
  · exact h.acquire _ _
  split
  · exact h.release _ _
  split
  · exact h.fin _
  · exact h
def Lg.runs (L : Lg) (l : List LOp) : Lg := l.foldl Lg.step L
theorem Lg.Inv.runs : ∀ (l : List LOp) {L : Lg}, L.Inv → (L.runs l).Inv
  | [], _, h => h
  | o :: l, _, h => Lg.Inv.runs l (h.step o)

end Go.Proofs.Ytgjicobfbdikmaa
