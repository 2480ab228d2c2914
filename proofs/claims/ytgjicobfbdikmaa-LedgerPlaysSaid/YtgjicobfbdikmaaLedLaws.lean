/- What the laws of a ledger ask, in plain lists. -/
import Derived.Test.YtgjicobfbdikmaaLedInv
set_option linter.unusedVariables false
set_option linter.unusedSimpArgs false
namespace Go.Proofs.Ytgjicobfbdikmaa
open Go Go.RowKit

/-! ### Once -/
structure Kept (a b : List Ent) : Prop where
  len : a.length ≤ b.length
  at' : ∀ (i : Nat) x y, a[i]? = some x → b[i]? = some y → (x.to ≠ 0 → y = x) ∧ y.what = x.what ∧ y.task = x.task ∧ y.fr = x.fr
theorem Kept.refl (a : List Ent) : Kept a a := ⟨Nat.le_refl _, fun i x y hx hy => by rw [hx] at hy; cases hy; exact ⟨fun _ => rfl, rfl, rfl, rfl⟩⟩
theorem Kept.trans {a b c : List Ent} (h : Kept a b) (k : Kept b c) : Kept a c := ⟨Nat.le_trans h.len k.len, fun i x z hx hz => by
  have hi := (List.getElem?_eq_some_iff.1 hx).1
  obtain ⟨y, hy⟩ : ∃ y, b[i]? = some y := ⟨_, List.getElem?_eq_getElem (Nat.lt_of_lt_of_le hi h.len)⟩
  have h1 := h.at' i x y hx hy
  have h2 := k.at' i y z hy hz
  refine ⟨fun h0 => ?_, h2.2.1.trans h1.2.1, h2.2.2.1.trans h1.2.2.1, h2.2.2.2.trans h1.2.2.2⟩
  have e := h1.1 h0
  subst e
  exact h2.1 h0⟩
theorem kept_append (a b : List Ent) : Kept a (a ++ b) := ⟨by simp, fun i x y hx hy => by
  rw [List.getElem?_append_left (List.getElem?_eq_some_iff.1 hx).1, hx] at hy
  cases hy
  exact ⟨fun _ => rfl, rfl, rfl, rfl⟩⟩
theorem Lg.Core.cut_get {L : Lg} (h : L.Core) {t : Int} {i k : Nat} {e : Ent} (g2 : (L.stk t).getD i 0 = (k : Int)) (g3 : L.es[k]? = some e) (j : Nat) : (L.cut t i).es[j]? = if k = j then some { e with to := L.time + 1 } else L.es[j]? := by
  unfold Lg.cut
  simp only
  rw [g2, shut_get, Int.toNat_natCast]
  split
  · rename_i hj; subst hj; rw [g3]; rfl
  · rfl
theorem kept_cut {L : Lg} (h : L.Core) {t : Int} {i : Nat} (hi : i < (L.stk t).length) : Kept L.es (L.cut t i).es := by
  obtain ⟨k, e, g1, g2, g3, g4, g5⟩ := h.at hi
  refine ⟨by simp [Lg.cut, shut_length], fun j x y hx hy => ?_⟩
  rw [h.cut_get g2 g3] at hy
  split at hy
  · rename_i hj
    subst hj
    rw [g3] at hx
    cases hx
    cases hy
    exact ⟨fun h0 => absurd g5 h0, rfl, rfl, rfl⟩
  · rw [hx] at hy
    cases hy
    exact ⟨fun _ => rfl, rfl, rfl, rfl⟩
theorem kept_leaks : ∀ (n : Nat) {L : Lg} {t : Int}, L.Inv → n ≤ (L.stk t).length → Kept L.es (Lg.leaks n L t).es
  | 0, _, _, _, _ => Kept.refl _
  | n + 1, L, t, h, hn => (kept_cut (t := t) (i := (L.stk t).length - 1) h.toCore (by omega)).trans (kept_leaks n (h.leak t (by omega)) (by rw [leak_stk, List.length_eraseIdx]; split <;> omega))
theorem kept_step {L : Lg} (h : L.Inv) (o : LOp) : Kept L.es (L.step o).es := by
  unfold Lg.step
  split
  · unfold Lg.acquire
    split
    · exact Kept.refl _
    split
    · exact Kept.refl _
    · exact kept_append _ _
  split
  · unfold Lg.release
    split
    · exact Kept.refl _
    split
    · exact Kept.refl _
    · rename_i i hs
      exact kept_cut h.toCore (seek_spec hs).1
  split
  · unfold Lg.fin
    split
    · exact Kept.refl _
    · exact kept_leaks _ h (Nat.le_refl _)
  · exact Kept.refl _
theorem tms_srt {L : Lg} (h : L.Core) : srt (tms L.es) = ticks L.time := srt_eq h.pm (ticks_sorted _)
theorem ticks_get (n : Int) (i : Nat) (x : Int) (h : (ticks n)[i]? = some x) : x = (i : Int) + 1 := by
  unfold ticks at h
  rw [List.getElem?_map] at h
  obtain ⟨hi, _⟩ := List.getElem?_eq_some_iff.1 (show (List.range n.toNat)[i]? = some i from by
    cases hr : (List.range n.toNat)[i]? with
    | none => rw [hr] at h; cases h
    | some j =>
      obtain ⟨h1, h2⟩ := List.getElem?_eq_some_iff.1 hr
      simp at h2
      rw [h2])
  rw [List.getElem?_eq_getElem hi] at h
  simp at h
  omega

/-! ### Crossed -/
def cfound (was : List Ent) (i : Nat) (b : Ent) : Bool := (was.drop (i + 1)).any fun y => decide (y.task = b.task ∧ y.to = 0)
def cone (was now : List Ent) (i : Nat) : List Int :=
  match was[i]?, now[i]? with
  | some a, some b => if a = b then [] else if cfound was i b = true then [(i : Int)] else []
  | _, _ => []
def cfind (was now : List Ent) (n : Nat) : List Int := (List.range n).flatMap (cone was now)
theorem cfind_succ (was now : List Ent) (n : Nat) : cfind was now (n + 1) = cfind was now n ++ cone was now n := by simp [cfind, List.range_succ, List.flatMap_append]
theorem cone_same (es : List Ent) (i : Nat) : cone es es i = [] := by
  unfold cone
  split
  · rename_i h1 h2
    rw [h1] at h2
    cases h2
    simp
  · rfl
theorem cfind_same (es : List Ent) (n : Nat) : cfind es es n = [] := by simp [cfind, cone_same]
theorem cfind_cut {L : Lg} (h : L.Core) {t : Int} {i : Nat} (hi : i < (L.stk t).length) : ∃ k : Nat, (L.stk t).getD i 0 = (k : Int) ∧ k < L.es.length ∧ ∀ n, cfind L.es (L.cut t i).es n = if k < n ∧ i + 1 < (L.stk t).length then [(k : Int)] else [] := by
  obtain ⟨k, e, g1, g2, g3, g4, g5⟩ := h.at hi
  have ht := h.t0
  have hmore := h.more g1
  refine ⟨k, g2, (List.getElem?_eq_some_iff.1 g3).1, fun n => ?_⟩
  have hc : ∀ j, cone L.es (L.cut t i).es j = if j = k ∧ i + 1 < (L.stk t).length then [(k : Int)] else [] := fun j => by
    unfold cone
    rw [h.cut_get g2 g3]
    by_cases hj : k = j
    · subst hj
      rw [if_pos rfl, g3]
      simp only
      rw [if_neg (by intro he; have := congrArg Ent.to he; simp only at this; omega)]
      have hf : cfound L.es k { e with to := L.time + 1 } = true ↔ i + 1 < (L.stk t).length := by
        rw [hmore]
        unfold cfound
        rw [List.any_eq_true]
        constructor
        · rintro ⟨y, hy, hd⟩
          obtain ⟨q, hq⟩ := List.getElem?_of_mem hy
          rw [List.getElem?_drop] at hq
          have hd := of_decide_eq_true hd
          exact ⟨k + 1 + q, y, by omega, hq, hd.1.trans g4, hd.2⟩
        · rintro ⟨j, y, hkj, hy, h1, h2⟩
          refine ⟨y, List.mem_of_getElem? (i := j - (k + 1)) ?_, decide_eq_true ⟨h1.trans g4.symm, h2⟩⟩
          rw [List.getElem?_drop, show k + 1 + (j - (k + 1)) = j by omega]
          exact hy
      by_cases hm : i + 1 < (L.stk t).length
      · rw [if_pos (hf.2 hm), if_pos ⟨by simp, hm⟩]
      · rw [if_neg (fun h => hm (hf.1 h)), if_neg (fun h => hm h.2)]
    · rw [if_neg hj, if_neg (fun h => hj h.1.symm)]
      cases L.es[j]? with
      | none => rfl
      | some a => simp
  induction n with
  | zero => simp [cfind]
  | succ n ih =>
    rw [cfind_succ, ih, hc]
    by_cases hm : i + 1 < (L.stk t).length
    · simp only [hm, and_true]
      rcases Nat.lt_trichotomy k n with h1 | h1 | h1
      · rw [if_pos h1, if_neg (by omega), if_pos (by omega)]; rfl
      · subst h1; rw [if_neg (by omega), if_pos rfl, if_pos (by omega)]; rfl
      · rw [if_neg (by omega), if_neg (by omega), if_neg (by omega)]; rfl
    · simp [hm]
theorem cr_release {L : Lg} (h : L.Core) (t x : Int) : (L.release t x).1.cr = L.cr ++ cfind L.es (L.release t x).1.es (L.release t x).1.es.length := by
  unfold Lg.release
  split
  · simp [cfind_same]
  split
  · simp [cfind_same]
  · rename_i i hs
    obtain ⟨k, g2, hk, hc⟩ := cfind_cut h (seek_spec hs).1
    simp only
    rw [hc, g2]
    have hl : (L.cut t i).es.length = L.es.length := by simp [Lg.cut, shut_length]
    rw [hl]
    by_cases hm : i + 1 < (L.stk t).length
    · rw [if_pos hm, if_pos ⟨hk, hm⟩]
    · rw [if_neg hm, if_neg (fun h => hm h.2)]; simp
theorem leaks_cr : ∀ (n : Nat) (L : Lg) (t : Int), (Lg.leaks n L t).cr = L.cr
  | 0, _, _ => rfl
  | n + 1, L, t => (leaks_cr n (L.leak t) t).trans rfl
theorem cr_other {L : Lg} (o : LOp) (h : o.kind ≠ 1) : (L.step o).cr = L.cr := by
  unfold Lg.step
  split
  · unfold Lg.acquire
    split
    · rfl
    split <;> rfl
  split
  · unfold Lg.fin
    split
    · rfl
    · exact leaks_cr _ _ _
  · rfl

/-! ### Nested -/
theorem opn_out {L : Lg} (h : L.Core) {t : Int} (ht : t < 1 ∨ 64 < t) : L.stk t = [] := by
  rw [h.st]
  refine List.eq_nil_iff_forall_not_mem.2 fun k hk => ?_
  obtain ⟨j, e, _, he, h1, _⟩ := (opn_mem t L.es 0 k).1 hk
  have := h.fl _ _ he
  omega
theorem what_range {L : Lg} (h : L.Core) {t : Int} {i : Nat} (hi : i < (L.stk t).length) : 0 ≤ whatAt L.es ((L.stk t).getD i 0) ∧ whatAt L.es ((L.stk t).getD i 0) ≤ 999 := by
  obtain ⟨k, e, g1, g2, g3, g4, g5⟩ := h.at hi
  have := h.fl _ _ g3
  rw [g2]
  unfold whatAt
  rw [Int.toNat_natCast, g3]
  simp only [Option.map_some, Option.getD_some]
  omega
/-- What was acquired last is released. -/
theorem release_last {L : Lg} (h : L.Core) {t x : Int} (hb : ¬ Bad t 0) (hp : 0 < (L.stk t).length) (hx : x = whatAt L.es ((L.stk t).getD ((L.stk t).length - 1) 0)) : L.release t x = (L.cut t ((L.stk t).length - 1), 0) := by
  have hr := what_range h (show (L.stk t).length - 1 < (L.stk t).length by omega)
  rw [← hx] at hr
  have hs : seek (fun k => whatAt L.es k == x) (L.stk t) (L.stk t).length = some ((L.stk t).length - 1) := by
    obtain ⟨n, hn⟩ : ∃ n, (L.stk t).length = n + 1 := ⟨(L.stk t).length - 1, by omega⟩
    rw [hn] at hx ⊢
    simp only [seek]
    rw [if_pos]
    · simp
    · rw [hx]; simp
  unfold Lg.release
  rw [if_neg (by unfold Bad at hb ⊢; omega), hs]
  simp only
  rw [if_neg (by omega)]
  rfl
theorem cut_stk (L : Lg) (t : Int) (i : Nat) : (L.cut t i).stk t = (L.stk t).eraseIdx i := by simp [Lg.cut, fput_same]
theorem cut_stk_other (L : Lg) {t q : Int} (i : Nat) (h : q ≠ t) : (L.cut t i).stk q = L.stk q := by simp only [Lg.cut]; exact fput_other _ _ h
theorem cut_what (L : Lg) (t : Int) (i : Nat) (j : Int) : whatAt (L.cut t i).es j = whatAt L.es j := by
  unfold Lg.cut
  unfold whatAt
  simp only
  rw [shut_get]
  split
  · cases L.es[j.toNat]? <;> rfl
  · rfl

end Go.Proofs.Ytgjicobfbdikmaa
