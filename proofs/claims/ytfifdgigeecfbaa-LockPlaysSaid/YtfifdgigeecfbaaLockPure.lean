/- Locks with permits: plain lists, no program in sight. -/
import Derived.Test.YtfifdgigeecfbaaIMap
set_option linter.unusedVariables false
set_option linter.unusedSimpArgs false
namespace Go.Proofs.Ytfifdgigeecfbaa
open Go Go.RowKit

/-- A lock: its permits, those that are free, who holds how many, who waits. -/
structure Lk where
  permits : Int
  free : Int
  holds : List (Int × Int)
  waiting : List Int
/-- A table: its locks; for which lock (its place) a party waits. -/
structure Tb where
  ls : List Lk
  waits : List (Int × Nat)

def Lk.new (p : Int) : Lk := ⟨p, p, [], []⟩
/-- How many permits a party holds. -/
def Lk.has (k : Lk) (p : Int) : Int := (aget k.holds p).getD 0
def Lk.take (k : Lk) (p : Int) : Lk := { k with free := k.free - 1, holds := aset k.holds p (k.has p + 1) }
def Lk.less (k : Lk) (p : Int) : List (Int × Int) :=
  if k.has p - 1 = 0 then adel (aset k.holds p (k.has p - 1)) p else aset k.holds p (k.has p - 1)
/-- A permit is given back: the lock behind it, and who has it now (0: nobody). -/
def Lk.give (k : Lk) (p : Int) : Lk × Int :=
  match k.waiting with
  | [] => ({ k with free := k.free + 1, holds := k.less p }, 0)
  | q :: l => ({ k with holds := aset (k.less p) q ((aget (k.less p) q).getD 0 + 1), waiting := l }, q)
def Lk.park (k : Lk) (p : Int) : Lk := { k with waiting := k.waiting ++ [p] }

def Tb.new : Tb := ⟨[], []⟩
def Tb.make (t : Tb) (p : Int) : Tb × Int × Int :=
  if p < 1 ∨ 16 < p then (t, 0, 2) else if 16 ≤ t.ls.length then (t, 0, 5) else ({ t with ls := t.ls ++ [Lk.new p] }, t.ls.length + 1, 0)
/-- What is wrong with a lock's number and a party's. -/
def Tb.asked (t : Tb) (lock party : Int) : Int := if party < 1 ∨ 1000000 < party then 2 else if lock < 1 ∨ t.ls.length < lock then 6 else 0
def Tb.upd (t : Tb) (i : Nat) (k : Lk) : Tb := { t with ls := t.ls.set i k }
def Tb.hold (t : Tb) (lock party : Int) : Tb × Bool × Int :=
  if t.asked lock party ≠ 0 then (t, false, t.asked lock party) else
  if (aget t.waits party).isSome then (t, false, 21) else
  match t.ls[(lock - 1).toNat]? with
  | none => (t, false, 6)
  | some k =>
    if k.waiting = [] ∧ 0 < k.free then (t.upd (lock - 1).toNat (k.take party), true, 0)
    else ({ t.upd (lock - 1).toNat (k.park party) with waits := aset t.waits party (lock - 1).toNat }, false, 0)
def Tb.free (t : Tb) (lock party : Int) : Tb × Int × Int :=
  if t.asked lock party ≠ 0 then (t, 0, t.asked lock party) else
  match t.ls[(lock - 1).toNat]? with
  | none => (t, 0, 6)
  | some k =>
    if k.has party = 0 then (t, 0, 6)
    else ({ t.upd (lock - 1).toNat (k.give party).1 with waits := if (k.give party).2 = 0 then t.waits else adel t.waits (k.give party).2 }, (k.give party).2, 0)

/-! ### What is always so -/
def sumH (l : List (Int × Int)) : Int := (l.map (·.2)).sum
/-- d: how many calls at most. -/
structure Lk.Ok (k : Lk) (d : Int) : Prop where
  p1 : 1 ≤ k.permits
  p2 : k.permits ≤ 16
  f0 : 0 ≤ k.free
  sum : k.free + sumH k.holds = k.permits
  pos : ∀ x ∈ k.holds, 1 ≤ x.2
  keys : (k.holds.map (·.1)).Nodup
  one : ∀ x ∈ k.holds, 1 ≤ x.1 ∧ x.1 ≤ 1000000
  wone : ∀ x ∈ k.waiting, 1 ≤ x ∧ x ≤ 1000000
  idle : 0 < k.free → k.waiting = []
  wlen : (k.waiting.length : Int) ≤ d

theorem sumH_nonneg {l : List (Int × Int)} (h : ∀ x ∈ l, 1 ≤ x.2) : 0 ≤ sumH l := by
  induction l with
  | nil => simp [sumH]
  | cons x l ih =>
    have h1 := h x (by simp)
    have h2 := ih (fun y hy => h y (by simp [hy]))
    simp only [sumH, List.map_cons, List.sum_cons] at *
    omega
theorem sumH_get {l : List (Int × Int)} (h : ∀ x ∈ l, 1 ≤ x.2) {p v : Int} (hp : aget l p = some v) : 1 ≤ v ∧ v ≤ sumH l := by
  induction l with
  | nil => simp [aget] at hp
  | cons x l ih =>
    have h1 := h x (by simp)
    have h3 := sumH_nonneg (l := l) (fun y hy => h y (by simp [hy]))
    simp only [aget] at hp
    split at hp
    · simp only [Option.some.injEq] at hp
      subst hp
      simp only [sumH, List.map_cons, List.sum_cons] at *
      omega
    · have h2 := ih (fun y hy => h y (by simp [hy])) hp
      simp only [sumH, List.map_cons, List.sum_cons] at *
      omega
theorem sumH_set (l : List (Int × Int)) (p v : Int) : sumH (aset l p v) = sumH l - (aget l p).getD 0 + v := by
  induction l with
  | nil => simp [aset, aget, sumH]
  | cons x l ih =>
    simp only [aset, aget]
    split
    · simp [sumH]; omega
    · simp only [sumH, List.map_cons, List.sum_cons] at *
      rw [ih]
      omega
theorem sumH_del (l : List (Int × Int)) (p : Int) : sumH (adel l p) = sumH l - (aget l p).getD 0 := by
  induction l with
  | nil => simp [adel, aget, sumH]
  | cons x l ih =>
    simp only [adel, aget]
    split
    · simp [sumH]; omega
    · simp only [sumH, List.map_cons, List.sum_cons] at *
      rw [ih]
      omega
theorem mem_aset {α : Type} {l : List (Int × α)} {p : Int} {v : α} {x : Int × α} (h : x ∈ aset l p v) : x = (p, v) ∨ x ∈ l := by
  induction l with
  | nil => simp [aset] at h; exact .inl h
  | cons y l ih =>
    simp only [aset] at h
    split at h
    · rcases List.mem_cons.1 h with h | h
      · exact .inl h
      · exact .inr (by simp [h])
    · rcases List.mem_cons.1 h with h | h
      · exact .inr (by simp [h])
      · rcases ih h with h | h
        · exact .inl h
        · exact .inr (by simp [h])
theorem mem_adel {α : Type} {l : List (Int × α)} {p : Int} {x : Int × α} (h : x ∈ adel l p) : x ∈ l := (adel_sub l p).subset h

section
variable {k : Lk} {d d' : Int}
theorem Lk.Ok.mono (h : k.Ok d) (hd : d ≤ d') : k.Ok d' := ⟨h.p1, h.p2, h.f0, h.sum, h.pos, h.keys, h.one, h.wone, h.idle, by have := h.wlen; omega⟩
theorem Lk.new_ok {p : Int} (h1 : 1 ≤ p) (h2 : p ≤ 16) (hd : 0 ≤ d) : (Lk.new p).Ok d := ⟨h1, h2, by simp [Lk.new]; omega, by simp [Lk.new, sumH], by simp [Lk.new], by simp [Lk.new], by simp [Lk.new], by simp [Lk.new], by simp [Lk.new], by simp [Lk.new]; omega⟩
theorem Lk.Ok.has (h : k.Ok d) (p : Int) : 0 ≤ k.has p ∧ k.has p ≤ 16 := by
  unfold Lk.has
  have hn := sumH_nonneg h.pos
  have := h.sum
  have := h.f0
  have := h.p2
  cases hg : aget k.holds p with
  | none => simp
  | some v => have := sumH_get h.pos hg; simp; omega
theorem Lk.Ok.take (h : k.Ok d) {p : Int} (h1 : 1 ≤ p) (h2 : p ≤ 1000000) (hf : 0 < k.free) : (k.take p).Ok d := by
  have hh := h.has p
  refine ⟨h.p1, h.p2, by simp [Lk.take]; omega, ?_, ?_, aset_nodup h.keys _ _, ?_, h.wone, fun _ => h.idle hf, h.wlen⟩
  · simp only [Lk.take, sumH_set]
    have := h.sum
    unfold Lk.has
    omega
  · intro x hx
    rcases mem_aset hx with rfl | hx
    · show 1 ≤ k.has p + 1; omega
    · exact h.pos x hx
  · intro x hx
    rcases mem_aset hx with rfl | hx
    · exact ⟨h1, h2⟩
    · exact h.one x hx
theorem Lk.Ok.park (h : k.Ok d) {p : Int} (h1 : 1 ≤ p) (h2 : p ≤ 1000000) (hn : ¬ (k.waiting = [] ∧ 0 < k.free)) : (k.park p).Ok (d + 1) := by
  refine ⟨h.p1, h.p2, h.f0, h.sum, h.pos, h.keys, h.one, ?_, ?_, by have := h.wlen; simp [Lk.park]; omega⟩
  · intro x hx
    simp only [Lk.park, List.mem_append, List.mem_singleton] at hx
    rcases hx with hx | rfl
    · exact h.wone x hx
    · exact ⟨h1, h2⟩
  · intro hf
    exact absurd ⟨h.idle hf, hf⟩ hn
theorem Lk.Ok.less (h : k.Ok d) {p : Int} (hp : k.has p ≠ 0) : sumH (k.less p) = sumH k.holds - 1 ∧ (∀ x ∈ k.less p, 1 ≤ x.2) ∧ ((k.less p).map (·.1)).Nodup ∧ (∀ x ∈ k.less p, 1 ≤ x.1 ∧ x.1 ≤ 1000000) := by
  have hh := h.has p
  obtain ⟨v, hv⟩ : ∃ v, aget k.holds p = some v := by
    cases hg : aget k.holds p with
    | none => simp [Lk.has, hg] at hp
    | some v => exact ⟨v, rfl⟩
  have hkp : k.has p = v := by simp [Lk.has, hv]
  have hm := aget_mem hv
  unfold Lk.less
  split
  · rename_i h0
    refine ⟨?_, ?_, adel_nodup (aset_nodup h.keys _ _) _, ?_⟩
    · rw [sumH_del, aget_set, if_pos rfl, sumH_set, hv]
      simp
      omega
    · intro x hx
      have hne : x.1 ≠ p := fun e => by
        have h1 := aget_none.1 (show aget (adel (aset k.holds p (k.has p - 1)) p) p = none by rw [aget_del (aset_nodup h.keys _ _), if_pos rfl])
        exact h1 (List.mem_map.2 ⟨x, hx, e⟩)
      rcases mem_aset (mem_adel hx) with rfl | hx
      · exact absurd rfl hne
      · exact h.pos x hx
    · intro x hx
      rcases mem_aset (mem_adel hx) with rfl | hx
      · exact h.one (p, v) hm
      · exact h.one x hx
  · rename_i h0
    refine ⟨?_, ?_, aset_nodup h.keys _ _, ?_⟩
    · rw [sumH_set, hv]
      simp
      omega
    · intro x hx
      rcases mem_aset hx with rfl | hx
      · show 1 ≤ k.has p - 1; omega
      · exact h.pos x hx
    · intro x hx
      rcases mem_aset hx with rfl | hx
      · exact h.one (p, v) hm
      · exact h.one x hx
theorem Lk.Ok.give (h : k.Ok d) {p : Int} (hp : k.has p ≠ 0) : (k.give p).1.Ok d := by
  obtain ⟨h1, h2, h3, h4⟩ := h.less hp
  have hsum := h.sum
  have hf := h.f0
  unfold Lk.give
  split
  · rename_i e
    exact ⟨h.p1, h.p2, by simp; omega, by simp only [h1]; omega, h2, h3, h4, h.wone, fun _ => e, h.wlen⟩
  · rename_i q l e
    have hw := h.wone
    rw [e] at hw
    have hq := hw q (by simp)
    have h0 : ¬ 0 < k.free := fun hf => by have := h.idle hf; rw [e] at this; cases this
    have hlq : 0 ≤ (aget (k.less p) q).getD 0 := by
      cases hg : aget (k.less p) q with
      | none => simp
      | some v => have := sumH_get h2 hg; simp; omega
    refine ⟨h.p1, h.p2, hf, by simp only [sumH_set, h1]; omega, ?_, aset_nodup h3 _ _, ?_, fun x hx => hw x (by simp [hx]), fun hf' => absurd hf' h0, by have := h.wlen; rw [e] at this; simp at this ⊢; omega⟩
    · intro x hx
      rcases mem_aset hx with rfl | hx
      · show 1 ≤ (aget (k.less p) q).getD 0 + 1; omega
      · exact h2 x hx
    · intro x hx
      rcases mem_aset hx with rfl | hx
      · exact hq
      · exact h4 x hx
theorem Lk.less_bound (h : k.Ok d) {p : Int} (hp : k.has p ≠ 0) (q : Int) : 0 ≤ (aget (k.less p) q).getD 0 ∧ (aget (k.less p) q).getD 0 ≤ 16 := by
  obtain ⟨h1, h2, h3, h4⟩ := h.less hp
  have := h.sum
  have := h.f0
  have := h.p2
  cases hg : aget (k.less p) q with
  | none => simp
  | some v => have := sumH_get h2 hg; simp; omega
end

structure Tb.Ok (t : Tb) (d : Int) : Prop where
  n : t.ls.length ≤ 16
  lk : ∀ k ∈ t.ls, k.Ok d
  idx : ∀ x ∈ t.waits, x.2 < t.ls.length
  d0 : 0 ≤ d
  wlen : (t.waits.length : Int) ≤ d

section
variable {t : Tb} {d d' : Int}
theorem Tb.Ok.mono (h : t.Ok d) (hd : d ≤ d') : t.Ok d' := ⟨h.n, fun k hk => (h.lk k hk).mono hd, h.idx, by have := h.d0; omega, by have := h.wlen; omega⟩
theorem Tb.new_ok (hd : 0 ≤ d) : Tb.new.Ok d := ⟨by simp [Tb.new], by simp [Tb.new], by simp [Tb.new], hd, by simpa [Tb.new] using hd⟩
theorem Tb.asked_zero {lock party : Int} (h : t.asked lock party = 0) : 1 ≤ party ∧ party ≤ 1000000 ∧ 1 ≤ lock ∧ lock ≤ t.ls.length := by
  unfold Tb.asked at h
  split at h
  · simp at h
  · split at h
    · simp at h
    · omega
theorem Tb.asked_at {lock party : Int} (h : t.asked lock party = 0) : ∃ k, t.ls[(lock - 1).toNat]? = some k := by
  have := Tb.asked_zero h
  exact ⟨_, List.getElem?_eq_getElem (by omega)⟩
theorem Tb.Ok.make (h : t.Ok d) (p : Int) : (t.make p).1.Ok d := by
  unfold Tb.make
  split
  · exact h
  split
  · exact h
  · refine ⟨by simp; omega, fun k hk => ?_, fun x hx => by have := h.idx x hx; simp; omega, h.d0, h.wlen⟩
    rcases List.mem_append.1 hk with hk | hk
    · exact h.lk k hk
    · simp at hk
      subst hk
      exact Lk.new_ok (by omega) (by omega) h.d0
theorem Tb.Ok.upd (h : t.Ok d) {i : Nat} {k : Lk} (hk : k.Ok d') (hd : d ≤ d') : (t.upd i k).Ok d' := by
  refine ⟨by simpa [Tb.upd] using h.n, fun x hx => ?_, fun x hx => by simpa [Tb.upd] using h.idx x hx, by have := h.d0; omega, by have := h.wlen; simp [Tb.upd]; omega⟩
  rcases List.mem_or_eq_of_mem_set hx with hx | rfl
  · exact (h.lk x hx).mono hd
  · exact hk
theorem Tb.Ok.hold (h : t.Ok d) (lock party : Int) : (t.hold lock party).1.Ok (d + 1) := by
  unfold Tb.hold
  split
  · exact h.mono (by omega)
  rename_i hz
  simp only [ne_eq, Decidable.not_not] at hz
  obtain ⟨z1, z2, z3, z4⟩ := Tb.asked_zero hz
  split
  · exact h.mono (by omega)
  split
  · exact h.mono (by omega)
  rename_i k hk
  have hok := h.lk k (List.mem_of_getElem? hk)
  split
  · rename_i hc
    exact h.upd ((hok.take z1 z2 hc.2).mono (by omega)) (by omega)
  · rename_i hc
    have h1 := h.upd (i := (lock - 1).toNat) (hok.park z1 z2 hc) (by omega)
    refine ⟨h1.n, h1.lk, fun x hx => ?_, h1.d0, ?_⟩
    · simp only [Tb.upd, List.length_set]
      rcases mem_aset hx with rfl | hx
      · show (lock - 1).toNat < _; omega
      · exact h.idx x hx
    · have := h.wlen
      simp only [aset_len]
      split <;> omega
theorem Tb.Ok.free (h : t.Ok d) (lock party : Int) : (t.free lock party).1.Ok d := by
  unfold Tb.free
  split
  · exact h
  split
  · exact h
  rename_i k hk
  have hok := h.lk k (List.mem_of_getElem? hk)
  split
  · exact h
  · rename_i hc
    have h1 := h.upd (i := (lock - 1).toNat) (hok.give hc) (Int.le_refl _)
    refine ⟨h1.n, h1.lk, fun x hx => ?_, h1.d0, ?_⟩
    · simp only [Tb.upd, List.length_set]
      dsimp only at hx
      split at hx
      · exact h.idx x hx
      · exact h.idx x (mem_adel hx)
    · have := h.wlen
      dsimp only
      split
      · exact this
      · have := (adel_sub t.waits (k.give party).2).length_le
        omega
end

end Go.Proofs.Ytfifdgigeecfbaa
