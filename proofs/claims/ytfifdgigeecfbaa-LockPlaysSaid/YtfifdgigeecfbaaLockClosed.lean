/- Who is stuck: the greatest set of parties that wait for locks that such parties alone hold. Plain lists. -/
import Derived.Test.YtfifdgigeecfbaaLockStuck
set_option linter.unusedVariables false
set_option linter.unusedSimpArgs false
namespace Go.Proofs.Ytfifdgigeecfbaa
open Go Go.RowKit

def Tb.Closed (t : Tb) (X : Int → Prop) : Prop := ∀ x, X x → ∃ (i : Nat) (k : Lk), aget t.waits x = some i ∧ t.ls[i]? = some k ∧ ∀ y, k.has y ≠ 0 → X y

section
variable {t : Tb} {d : Int} {X : Int → Prop}
/-- A permit that nobody of X gives back. -/
theorem Tb.Closed.gives (h : t.Closed X) (hok : t.Ok d) (hc : t.Cons) {i : Nat} {k : Lk} {p : Int} (hi : t.ls[i]? = some k) (hp : ¬ X p) (hh : k.has p ≠ 0) : (t.gives i p).Closed X := by
  have hil := (List.getElem?_eq_some_iff.1 hi).1
  have hno : ∀ x, X x → ∀ j, aget t.waits x = some j → j ≠ i := by
    rintro x hx j hj rfl
    obtain ⟨j', k', h1, h2, h3⟩ := h x hx
    rw [hj] at h1
    cases h1
    rw [hi] at h2
    cases h2
    exact hp (h3 p hh)
  intro x hx
  obtain ⟨j, k', h1, h2, h3⟩ := h x hx
  have hne := hno x hx j h1
  rw [Tb.gives_eq hi]
  refine ⟨j, k', ?_, (List.getElem?_set_ne (fun e => hne (Eq.symm e))).trans h2, h3⟩
  dsimp only
  split
  · exact h1
  · cases hw : k.waiting with
    | nil => rw [Lk.give_nil hw] at *; simp at *
    | cons q l =>
      rw [Lk.give_cons hw]
      have hq := hc.c2 i k q hi (by rw [hw]; simp)
      simp only [aget_del hc.c4]
      rw [if_neg]
      · exact h1
      · rintro rfl
        rw [hq] at h1
        exact hne (by simpa using h1.symm)
theorem Tb.Closed.frees {u : Tb} (h : t.Closed X) (hok : t.Ok d) (hc : t.Cons) (hf : t.frees = some u) : u.Closed X := by
  unfold Tb.frees at hf
  obtain ⟨⟨i, p⟩, hp, rfl⟩ := Option.map_eq_some_iff.1 hf
  obtain ⟨k, hk, hm, hn⟩ := pick_some hp
  refine h.gives hok hc hk (fun hx => ?_) (has_of_mem (hok.lk k (List.mem_of_getElem? hk)) hm)
  obtain ⟨j, _, h1, _⟩ := h p hx
  rw [hn] at h1
  cases h1
theorem Tb.Closed.nf (h : t.Closed X) (hok : t.Ok d) (hc : t.Cons) : t.nf.Closed X :=
  (nf_ind (d := d) (P := fun u => u.Cons ∧ u.Closed X) (fun t u hk ⟨h1, h2⟩ hf => ⟨frees_cons hk h1 hf, h2.frees hk h1 hf⟩) t.meas t (Nat.le_refl _) hok ⟨hc, h⟩).1.2
/-- .. and back. -/
theorem closed_back {u : Tb} (hok : t.Ok d) (hc : t.Cons) (hf : t.frees = some u) (h : u.Closed X) : t.Closed X := by
  unfold Tb.frees at hf
  obtain ⟨⟨i, p⟩, hp, rfl⟩ := Option.map_eq_some_iff.1 hf
  obtain ⟨k, hk, hm, hn⟩ := pick_some hp
  have hil := (List.getElem?_eq_some_iff.1 hk).1
  have hkok := hok.lk k (List.mem_of_getElem? hk)
  rw [Tb.gives_eq hk] at h
  cases hw : k.waiting with
  | nil =>
    rw [Lk.give_nil hw] at h
    simp only [if_true] at h
    intro x hx
    obtain ⟨j, k', h1, h2, h3⟩ := h x hx
    dsimp only at h1 h2
    have hji : i ≠ j := by
      rintro rfl
      obtain ⟨k2, hk2, hm2⟩ := hc.c1 x i h1
      rw [hk] at hk2
      cases hk2
      rw [hw] at hm2
      cases hm2
    simp only [List.getElem?_set, hji, if_false] at h2
    exact ⟨j, k', h1, h2, h3⟩
  | cons q l =>
    have hq0 := (hkok.wone q (by rw [hw]; simp)).1
    rw [Lk.give_cons hw] at h
    simp only [if_neg (show ¬ q = 0 by omega)] at h
    intro x hx
    obtain ⟨j, k', h1, h2, h3⟩ := h x hx
    dsimp only at h1 h2
    rw [aget_del hc.c4] at h1
    split at h1
    · cases h1
    rename_i hxq
    have hji : i ≠ j := by
      rintro rfl
      simp only [List.getElem?_set, if_true, hil] at h2
      simp only [Option.some.injEq] at h2
      subst h2
      have hb := Lk.less_bound hkok (has_of_mem hkok hm) q
      have hXq := h3 q (by
        simp only [Lk.has, aget_set, if_true, Option.getD_some]
        omega)
      obtain ⟨j2, _, g1, _⟩ := h q hXq
      dsimp only at g1
      rw [aget_del hc.c4, if_pos rfl] at g1
      cases g1
    simp only [List.getElem?_set, hji, if_false] at h2
    exact ⟨j, k', h1, h2, h3⟩
theorem pickFrom_none {ws : List (Int × Nat)} : ∀ {l : List Lk} {n : Nat}, pickFrom ws l n = none → ∀ k ∈ l, ∀ p ∈ k.holds.map (·.1), aget ws p ≠ none
  | [], n, h => by simp
  | k :: l, n, h => by
    simp only [pickFrom] at h
    split at h
    · cases h
    · rename_i hq
      intro k' hk' p hp
      rcases List.mem_cons.1 hk' with rfl | hk'
      · have := List.find?_eq_none.1 hq p ((srt_perm_self _).mem_iff.2 hp)
        intro e
        rw [e] at this
        simp at this
      · exact pickFrom_none h k' hk' p hp
theorem has_mem {k : Lk} {y : Int} (h : k.has y ≠ 0) : y ∈ k.holds.map (·.1) := by
  refine Classical.byContradiction fun hn => h ?_
  unfold Lk.has
  rw [aget_none.2 hn]
  rfl
theorem closed_end (hc : t.Cons) (hf : t.frees = none) : t.Closed (fun x => aget t.waits x ≠ none) := by
  have hp : t.pick = none := by
    unfold Tb.frees at hf
    exact Option.map_eq_none_iff.1 hf
  intro x hx
  cases hw : aget t.waits x with
  | none => exact absurd hw hx
  | some i =>
    obtain ⟨k, hk, _⟩ := hc.c1 x i hw
    exact ⟨i, k, rfl, hk, fun y hy => pickFrom_none hp k (List.mem_of_getElem? hk) y (has_mem hy)⟩
theorem closed_stuck : ∀ (n : Nat) (t : Tb), t.meas ≤ n → t.Ok d → t.Cons → t.Closed (fun x => aget t.nf.waits x ≠ none)
  | n, t, hn, hok, hc => by
    cases hf : t.frees with
    | none => rw [nf_none hf]; exact closed_end hc hf
    | some u =>
      have h1 := frees_meas hok hf
      rw [nf_step hok hf]
      match n, hn with
      | 0, hn => omega
      | n + 1, hn => exact closed_back hok hc hf (closed_stuck n u (by omega) (frees_ok hok hf) (frees_cons hok hc hf))
theorem closed_copy (hc : t.Cons) : t.copy.Closed X ↔ t.Closed X := by
  unfold Tb.Closed
  simp only [copy_get hc]
  exact Iff.rfl
theorem mem_stuck {x : Int} : x ∈ t.stuck ↔ aget t.copy.nf.waits x ≠ none := by
  unfold Tb.stuck
  rw [(srt_perm_self _).mem_iff]
  constructor
  · intro h e; exact aget_none.1 e h
  · intro h; exact Classical.byContradiction fun hn => h (aget_none.2 hn)
theorem stuck_closed (hok : t.Ok d) (hc : t.Cons) : t.Closed (fun x => x ∈ t.stuck) := by
  have h := closed_stuck t.copy.meas t.copy (Nat.le_refl _) (copy_ok hok hc) (copy_cons hc)
  rw [closed_copy hc] at h
  have e : (fun x => aget t.copy.nf.waits x ≠ none) = (fun x => x ∈ t.stuck) := by funext x; exact propext mem_stuck.symm
  rw [e] at h
  exact h
theorem stuck_max (hok : t.Ok d) (hc : t.Cons) (h : t.Closed X) {x : Int} (hx : X x) : x ∈ t.stuck := by
  rw [mem_stuck]
  have h1 := ((closed_copy hc).2 h).nf (copy_ok hok hc) (copy_cons hc)
  obtain ⟨i, _, h2, _⟩ := h1 x hx
  rw [h2]
  simp

theorem Tb.Closed.run (h : t.Closed X) (hok : t.Ok d) (hc : t.Cons) (o : Op3) (ho : o.kind = 0 ∨ ¬ X o.party) : (t.run o).1.Closed X := by
  unfold Tb.run
  split
  · show (t.make o.lock).1.Closed X
    unfold Tb.make
    split
    · exact h
    split
    · exact h
    · intro x hx
      obtain ⟨i, k, h1, h2, h3⟩ := h x hx
      exact ⟨i, k, h1, by show (t.ls ++ _)[i]? = _; rw [List.getElem?_append_left (List.getElem?_eq_some_iff.1 h2).1]; exact h2, h3⟩
  rename_i h0
  have hq : ¬ X o.party := ho.resolve_left h0
  have hne : ∀ x, X x → o.party ≠ x := fun x hx e => hq (e ▸ hx)
  split
  · show (t.hold o.lock o.party).1.Closed X
    by_cases hz : t.asked o.lock o.party = 0
    · cases hw : aget t.waits o.party with
      | some j => rw [Tb.hold_twice hz (by rw [hw]; rfl)]; exact h
      | none =>
        obtain ⟨k, hk⟩ := Tb.asked_at hz
        have hil := (List.getElem?_eq_some_iff.1 hk).1
        by_cases h1 : k.waiting = [] ∧ 0 < k.free
        · rw [Tb.hold_take hz hw hk h1.1 h1.2]
          intro x hx
          obtain ⟨i, k', g1, g2, g3⟩ := h x hx
          have hji : (o.lock - 1).toNat ≠ i := by
            rintro rfl
            obtain ⟨k2, hk2, hm2⟩ := hc.c1 x _ g1
            rw [hk] at hk2
            cases hk2
            rw [h1.1] at hm2
            cases hm2
          exact ⟨i, k', g1, (List.getElem?_set_ne hji).trans g2, g3⟩
        · rw [Tb.hold_park hz hw hk h1]
          intro x hx
          obtain ⟨i, k', g1, g2, g3⟩ := h x hx
          have g1' : aget (aset t.waits o.party (o.lock - 1).toNat) x = some i := by rw [aget_set, if_neg (hne x hx)]; exact g1
          by_cases hji : (o.lock - 1).toNat = i
          · rw [hji] at hk hil ⊢
            rw [hk] at g2
            cases g2
            exact ⟨i, k.park o.party, by rw [← hji] at g1'; rw [← hji]; exact g1', by simp [hil], g3⟩
          · exact ⟨i, k', g1', (List.getElem?_set_ne hji).trans g2, g3⟩
    · rw [Tb.hold_bad rfl hz]
      exact h
  split
  · show (t.free o.lock o.party).1.Closed X
    by_cases hz : t.asked o.lock o.party = 0
    · obtain ⟨k, hk⟩ := Tb.asked_at hz
      by_cases h1 : k.has o.party = 0
      · rw [Tb.free_none hz rfl hk h1]; exact h
      · have hg := h.gives hok hc hk hq h1
        rw [Tb.free_good hz rfl hk h1]
        rw [Tb.gives_eq hk] at hg
        exact hg
    · rw [Tb.free_bad rfl hz]
      exact h
  split
  · show (t.withdraw o.party).1.Closed X
    cases hw : aget t.waits o.party with
    | none => rw [Tb.withdraw_none hw]; exact h
    | some j =>
      obtain ⟨k, hk, hm⟩ := hc.c1 _ j hw
      have hil := (List.getElem?_eq_some_iff.1 hk).1
      rw [Tb.withdraw_some hw hk]
      intro x hx
      obtain ⟨i, k', g1, g2, g3⟩ := h x hx
      have g1' : aget (adel t.waits o.party) x = some i := by rw [aget_del hc.c4, if_neg (hne x hx)]; exact g1
      by_cases hji : j = i
      · subst hji
        rw [hk] at g2
        cases g2
        exact ⟨j, { k with waiting := k.waiting.filter fun x => !(x == o.party) }, g1', by simp [hil], g3⟩
      · exact ⟨i, k', g1', (List.getElem?_set_ne hji).trans g2, g3⟩
  · exact h

/-- All of a list are withdrawn. -/
def Tb.withdraws (t : Tb) (l : List Int) : Tb := l.foldl (fun t p => (t.withdraw p).1) t
theorem withdraw_get (hc : t.Cons) (p x : Int) : aget (t.withdraw p).1.waits x = if p = x then none else aget t.waits x := by
  cases hw : aget t.waits p with
  | none =>
    rw [Tb.withdraw_none hw]
    split
    · rename_i e; rw [← e, hw]
    · rfl
  | some j =>
    obtain ⟨k, hk, hm⟩ := hc.c1 _ j hw
    rw [Tb.withdraw_some hw hk]
    exact aget_del hc.c4 p x
theorem withdraw_ls (p : Int) (i : Nat) : ((t.withdraw p).1.ls[i]?).map Lk.holds = (t.ls[i]?).map Lk.holds := by
  unfold Tb.withdraw
  split
  · rfl
  · split
    · rfl
    · rename_i j _ k hk
      simp only [List.getElem?_set]
      split
      · rename_i e
        subst e
        rw [if_pos (List.getElem?_eq_some_iff.1 hk).1, hk]
        rfl
      · rfl
theorem withdraws_all : ∀ (l : List Int) (t : Tb), t.Ok d → t.Cons → (t.withdraws l).Ok d ∧ (t.withdraws l).Cons ∧ (∀ x, aget (t.withdraws l).waits x = if x ∈ l then none else aget t.waits x) ∧ ∀ i : Nat, ((t.withdraws l).ls[i]?).map Lk.holds = (t.ls[i]?).map Lk.holds
  | [], t, hok, hc => ⟨hok, hc, by simp [Tb.withdraws], fun _ => rfl⟩
  | p :: l, t, hok, hc => by
    obtain ⟨h1, h2, h3, h4⟩ := withdraws_all l (t.withdraw p).1 (hok.withdraw p) (hc.withdraw p)
    refine ⟨h1, h2, fun x => ?_, fun i => (h4 i).trans (withdraw_ls p i)⟩
    show aget ((t.withdraw p).1.withdraws l).waits x = _
    rw [h3, withdraw_get hc]
    by_cases hx : x ∈ l
    · simp [hx]
    · by_cases e : p = x
      · simp [hx, e]
      · have e2 : ¬ x = p := fun h => e (Eq.symm h)
        simp [hx, e, e2]
theorem withdraws_snoc (t : Tb) (l : List Int) (p : Int) : t.withdraws (l ++ [p]) = ((t.withdraws l).withdraw p).1 := by simp [Tb.withdraws]
theorem stuck_withdrawn (hok : t.Ok d) (hc : t.Cons) : (t.withdraws t.stuck).stuck = [] := by
  obtain ⟨h1, h2, h3, h4⟩ := withdraws_all t.stuck t hok hc
  rw [List.eq_nil_iff_forall_not_mem]
  intro x hx
  have hcl : t.Closed (fun x => x ∈ (t.withdraws t.stuck).stuck) := by
    intro y hy
    obtain ⟨i, k, g1, g2, g3⟩ := stuck_closed h1 h2 y hy
    rw [h3] at g1
    split at g1
    · cases g1
    · have g4 := h4 i
      rw [g2] at g4
      obtain ⟨k', hk', e⟩ := Option.map_eq_some_iff.1 g4.symm
      refine ⟨i, k', g1, hk', fun z hz => g3 z ?_⟩
      unfold Lk.has at hz ⊢
      rw [← e]
      exact hz
  have hxs := stuck_max hok hc hcl hx
  obtain ⟨i, k, g1, _⟩ := stuck_closed h1 h2 x hx
  rw [h3, if_pos hxs] at g1
  cases g1
theorem stuck_nodup (hok : t.Ok d) (hc : t.Cons) : t.stuck.Nodup := by
  unfold Tb.stuck
  exact (srt_perm_self _).nodup_iff.2 (nf_all (copy_ok hok hc) (copy_cons hc)).1.c4
end

end Go.Proofs.Ytfifdgigeecfbaa
