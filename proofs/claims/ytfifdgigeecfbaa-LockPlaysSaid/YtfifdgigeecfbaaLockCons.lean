/- Who waits, waits for one lock, and is in the table of those who wait. Plain lists. -/
import Derived.Test.YtfifdgigeecfbaaLockFree
set_option linter.unusedVariables false
set_option linter.unusedSimpArgs false
namespace Go.Proofs.Ytfifdgigeecfbaa
open Go Go.RowKit

structure Tb.Cons (t : Tb) : Prop where
  c1 : ∀ (p : Int) (i : Nat), aget t.waits p = some i → ∃ k : Lk, t.ls[i]? = some k ∧ p ∈ k.waiting
  c2 : ∀ (i : Nat) (k : Lk) (p : Int), t.ls[i]? = some k → p ∈ k.waiting → aget t.waits p = some i
  c3 : ∀ (i : Nat) (k : Lk), t.ls[i]? = some k → k.waiting.Nodup
  c4 : (t.waits.map (·.1)).Nodup

def Tb.withdraw (t : Tb) (p : Int) : Tb × Bool :=
  match aget t.waits p with
  | none => (t, false)
  | some i =>
    match t.ls[i]? with
    | none => (t, false)
    | some k => (⟨t.ls.set i { k with waiting := k.waiting.filter fun x => !(x == p) }, adel t.waits p⟩, true)

theorem Tb.new_cons : Tb.new.Cons := ⟨by simp [Tb.new, aget], by simp [Tb.new], by simp [Tb.new], by simp [Tb.new]⟩
section
variable {t : Tb} {d : Int}
theorem Tb.Cons.make (h : t.Cons) (p : Int) : (t.make p).1.Cons := by
  unfold Tb.make
  split
  · exact h
  split
  · exact h
  · refine ⟨fun q i hq => ?_, fun i k q hi hq => ?_, fun i k hi => ?_, h.c4⟩
    · obtain ⟨k, hk, hm⟩ := h.c1 q i hq
      exact ⟨k, by rw [List.getElem?_append_left (List.getElem?_eq_some_iff.1 hk).1]; exact hk, hm⟩
    · by_cases hl : i < t.ls.length
      · rw [List.getElem?_append_left hl] at hi
        exact h.c2 i k q hi hq
      · rw [List.getElem?_append_right (by omega)] at hi
        cases e : i - t.ls.length with
        | zero => rw [e] at hi; simp at hi; subst hi; simp [Lk.new] at hq
        | succ n => rw [e] at hi; simp at hi
    · by_cases hl : i < t.ls.length
      · rw [List.getElem?_append_left hl] at hi
        exact h.c3 i k hi
      · rw [List.getElem?_append_right (by omega)] at hi
        cases e : i - t.ls.length with
        | zero => rw [e] at hi; simp at hi; subst hi; simp [Lk.new]
        | succ n => rw [e] at hi; simp at hi
/-- One lock's waiters stay. -/
theorem Tb.Cons.same (h : t.Cons) {i : Nat} {k k' : Lk} (hi : t.ls[i]? = some k) (hw : k'.waiting = k.waiting) : (⟨t.ls.set i k', t.waits⟩ : Tb).Cons := by
  have hil := (List.getElem?_eq_some_iff.1 hi).1
  refine ⟨fun q j hq => ?_, fun j kj q hj hq => ?_, fun j kj hj => ?_, h.c4⟩
  · obtain ⟨kk, hk, hm⟩ := h.c1 q j hq
    by_cases e : i = j
    · subst e
      rw [hi] at hk
      cases hk
      exact ⟨k', by simp [hil], by rw [hw]; exact hm⟩
    · exact ⟨kk, by simp [List.getElem?_set, e, hk], hm⟩
  · simp only [List.getElem?_set] at hj
    by_cases e : i = j
    · subst e
      simp [hil] at hj
      subst hj
      exact h.c2 i k q hi (by rw [← hw]; exact hq)
    · simp [e] at hj
      exact h.c2 j kj q hj hq
  · simp only [List.getElem?_set] at hj
    by_cases e : i = j
    · subst e
      simp [hil] at hj
      subst hj
      rw [hw]
      exact h.c3 i k hi
    · simp [e] at hj
      exact h.c3 j kj hj
/-- One lock's waiters change: p comes. -/
theorem Tb.Cons.come (h : t.Cons) {i : Nat} {k k' : Lk} {p : Int} (hi : t.ls[i]? = some k) (hn : aget t.waits p = none) (hw : k'.waiting = k.waiting ++ [p]) : (⟨t.ls.set i k', aset t.waits p i⟩ : Tb).Cons := by
  have hil := (List.getElem?_eq_some_iff.1 hi).1
  have hno : ∀ (j : Nat) (kj : Lk), t.ls[j]? = some kj → p ∉ kj.waiting := fun j kj hj hp => by rw [h.c2 j kj p hj hp] at hn; cases hn
  refine ⟨fun q j hq => ?_, fun j kj q hj hq => ?_, fun j kj hj => ?_, aset_nodup h.c4 _ _⟩
  · simp only [aget_set] at hq
    split at hq
    · rename_i e
      simp only [Option.some.injEq] at hq
      subst e hq
      exact ⟨k', by simp [hil], by rw [hw]; simp⟩
    · obtain ⟨kk, hk, hm⟩ := h.c1 q j hq
      by_cases e : i = j
      · subst e
        rw [hi] at hk
        cases hk
        exact ⟨k', by simp [hil], by rw [hw]; simp [hm]⟩
      · exact ⟨kk, by simp [List.getElem?_set, e, hk], hm⟩
  · simp only [List.getElem?_set] at hj
    simp only [aget_set]
    by_cases e : i = j
    · subst e
      simp [hil] at hj
      subst hj
      rw [hw] at hq
      rcases List.mem_append.1 hq with hq | hq
      · have hne : p ≠ q := fun e => hno i k hi (e ▸ hq)
        rw [if_neg hne]
        exact h.c2 i k q hi hq
      · simp at hq
        rw [if_pos hq.symm]
    · simp [e] at hj
      have hne : p ≠ q := fun e => hno j kj hj (e ▸ hq)
      rw [if_neg hne]
      exact h.c2 j kj q hj hq
  · simp only [List.getElem?_set] at hj
    by_cases e : i = j
    · subst e
      simp [hil] at hj
      subst hj
      rw [hw]
      exact List.nodup_append.2 ⟨h.c3 i k hi, by simp, fun a ha b hb => by simp at hb; subst hb; exact fun e => hno i k hi (e ▸ ha)⟩
    · simp [e] at hj
      exact h.c3 j kj hj
/-- One lock's waiters change: p goes. -/
theorem Tb.Cons.go (h : t.Cons) {i : Nat} {k k' : Lk} {p : Int} (hi : t.ls[i]? = some k) (hp : p ∈ k.waiting) (hw : ∀ q, q ∈ k'.waiting ↔ q ∈ k.waiting ∧ q ≠ p) (hnd : k'.waiting.Nodup) : (⟨t.ls.set i k', adel t.waits p⟩ : Tb).Cons := by
  have hil := (List.getElem?_eq_some_iff.1 hi).1
  have hpi := h.c2 i k p hi hp
  refine ⟨fun q j hq => ?_, fun j kj q hj hq => ?_, fun j kj hj => ?_, adel_nodup h.c4 _⟩
  · simp only [aget_del h.c4] at hq
    split at hq
    · cases hq
    · rename_i hne
      obtain ⟨kk, hk, hm⟩ := h.c1 q j hq
      by_cases e : i = j
      · subst e
        rw [hi] at hk
        cases hk
        exact ⟨k', by simp [hil], (hw q).2 ⟨hm, fun e => hne e.symm⟩⟩
      · exact ⟨kk, by simp [List.getElem?_set, e, hk], hm⟩
  · simp only [List.getElem?_set] at hj
    simp only [aget_del h.c4]
    by_cases e : i = j
    · subst e
      simp [hil] at hj
      subst hj
      obtain ⟨h1, h2⟩ := (hw q).1 hq
      rw [if_neg (fun e => h2 e.symm)]
      exact h.c2 i k q hi h1
    · simp [e] at hj
      have hq' := h.c2 j kj q hj hq
      rw [if_neg]
      · exact hq'
      · rintro rfl
        rw [hpi] at hq'
        exact e (by simpa using hq')
  · simp only [List.getElem?_set] at hj
    by_cases e : i = j
    · subst e
      simp [hil] at hj
      subst hj
      exact hnd
    · simp [e] at hj
      exact h.c3 j kj hj

theorem Tb.Cons.hold (h : t.Cons) (l p : Int) : (t.hold l p).1.Cons := by
  by_cases hz : t.asked l p = 0
  · cases hw : aget t.waits p with
    | some j => rw [Tb.hold_twice hz (by rw [hw]; rfl)]; exact h
    | none =>
      obtain ⟨k, hk⟩ := Tb.asked_at hz
      by_cases h1 : k.waiting = [] ∧ 0 < k.free
      · rw [Tb.hold_take hz hw hk h1.1 h1.2]
        exact h.same hk rfl
      · rw [Tb.hold_park hz hw hk h1]
        exact h.come hk hw rfl
  · rw [Tb.hold_bad rfl hz]
    exact h
theorem Tb.Cons.free (h : t.Cons) (hok : t.Ok d) (l p : Int) : (t.free l p).1.Cons := by
  by_cases hz : t.asked l p = 0
  · obtain ⟨k, hk⟩ := Tb.asked_at hz
    by_cases h0 : k.has p = 0
    · rw [Tb.free_none hz rfl hk h0]; exact h
    · rw [Tb.free_good hz rfl hk h0]
      cases hw : k.waiting with
      | nil =>
        rw [Lk.give_nil hw]
        simp only [if_true]
        exact h.same hk rfl
      | cons q r =>
        rw [Lk.give_cons hw]
        have hq := ((hok.lk k (List.mem_of_getElem? hk)).wone q (by rw [hw]; simp)).1
        have hnd := h.c3 _ k hk
        rw [hw, List.nodup_cons] at hnd
        simp only [if_neg (show ¬ q = 0 by omega)]
        refine h.go hk (by rw [hw]; simp) (fun x => ?_) hnd.2
        rw [hw]
        simp only [List.mem_cons]
        constructor
        · intro hx; exact ⟨.inr hx, fun e => hnd.1 (e ▸ hx)⟩
        · rintro ⟨hx | hx, hne⟩
          · exact absurd hx hne
          · exact hx
  · rw [Tb.free_bad rfl hz]
    exact h
theorem Tb.withdraw_none {p : Int} (h : aget t.waits p = none) : t.withdraw p = (t, false) := by unfold Tb.withdraw; rw [h]
theorem Tb.withdraw_some {p : Int} {i : Nat} {k : Lk} (h : aget t.waits p = some i) (hk : t.ls[i]? = some k) : t.withdraw p = (⟨t.ls.set i { k with waiting := k.waiting.filter fun x => !(x == p) }, adel t.waits p⟩, true) := by unfold Tb.withdraw; rw [h]; simp only [hk]
theorem Tb.Cons.withdraw (h : t.Cons) (p : Int) : (t.withdraw p).1.Cons := by
  cases hw : aget t.waits p with
  | none => rw [Tb.withdraw_none hw]; exact h
  | some i =>
    obtain ⟨k, hk, hm⟩ := h.c1 p i hw
    rw [Tb.withdraw_some hw hk]
    exact h.go hk hm (fun q => by simp [List.mem_filter]) ((h.c3 i k hk).filter _)
theorem Tb.Ok.withdraw (h : t.Ok d) (p : Int) : (t.withdraw p).1.Ok d := by
  cases hw : aget t.waits p with
  | none => rw [Tb.withdraw_none hw]; exact h
  | some i =>
    unfold Tb.withdraw
    rw [hw]
    simp only
    split
    · exact h
    · rename_i k hk
      have hk' := h.lk k (List.mem_of_getElem? hk)
      have hfl := List.length_filter_le (fun x => !(x == p)) k.waiting
      have h1 := h.upd (i := i) (k := { k with waiting := k.waiting.filter fun x => !(x == p) }) (d' := d) ⟨hk'.p1, hk'.p2, hk'.f0, hk'.sum, hk'.pos, hk'.keys, hk'.one, fun x hx => hk'.wone x (List.mem_filter.1 hx).1, fun hf => by rw [hk'.idle hf]; rfl, by have := hk'.wlen; show ((k.waiting.filter fun x => !(x == p)).length : Int) ≤ d; omega⟩ (Int.le_refl _)
      exact ⟨h1.n, h1.lk, fun x hx => by simpa [Tb.upd] using h.idx x (mem_adel hx), h1.d0, by have := (adel_sub t.waits p).length_le; have := h.wlen; show ((adel t.waits p).length : Int) ≤ d; omega⟩
end

end Go.Proofs.Ytfifdgigeecfbaa
