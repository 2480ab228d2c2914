/- A pool in memory; has, Queue, Put. -/
import Derived.Test.YtfohaijdhgcneaaPoolRep
import Derived.Test.YtfohaijdhgcneaaIntClone
import Derived.Deep.RegionLaw
set_option linter.unusedVariables false
set_option linter.unusedSimpArgs false
namespace Go.Proofs.Ytfohaijdhgcneaa
open Go Go.RowKit

/-- A pool's struct, its slice of queues, its queues. -/
structure PoolAt (w0 w : World) (b : Nat) (qs : List (List Int)) (qv : Value) (vs : List Value) : Prop where
  blk : Blk w b 100 [qv]
  row : w.ownsRow w0.heap.size 22 1 qv qs.length vs
  q : ∀ (i : Nat) (v : Value) (l : List Int), vs[i]? = some v → qs[i]? = some l → Qu w w0.heap.size v l
  off : ∀ (i j : Nat) (v u : Value), i ≠ j → vs[i]? = some v → vs[j]? = some u → Off v u
  bb : w0.heap.size ≤ b
/-- A pool's blocks. -/
def PBlk (b : Nat) (qv : Value) (vs : List Value) (k : Nat) : Prop := k = b ∨ qv.ownBlock = some k ∨ ∃ (i : Nat) (v : Value), vs[i]? = some v ∧ v.ownBlock = some k
section
variable {w0 w w' : World} {b : Nat} {qs : List (List Int)} {qv : Value} {vs : List Value} {X : Nat → Prop}
theorem PoolAt.len (h : PoolAt w0 w b qs qv vs) : vs.length = qs.length := by have := h.row.1; omega
theorem PoolAt.lt (h : PoolAt w0 w b qs qv vs) {k : Nat} (hk : PBlk b qv vs k) : w0.heap.size ≤ k ∧ k < w.heap.size := by
  rcases hk with rfl | e | ⟨i, v, hv, e⟩
  · exact ⟨h.bb, h.blk.lt⟩
  · exact own_lt h.row k e
  · have hi := (List.getElem?_eq_some_iff.1 hv).1
    exact (h.q i v _ hv (List.getElem?_eq_getElem (by rw [← h.len]; exact hi))).lt k e
theorem PoolAt.stay (h : PoolAt w0 w b qs qv vs) (hx : Stay X w w') (hX : ∀ k, PBlk b qv vs k → ¬ X k) : PoolAt w0 w' b qs qv vs :=
  ⟨hx.blk h.blk (hX b (.inl rfl)), own_stay hx h.row (fun g hg => hX g (.inr (.inl hg))), fun i v l h1 h2 => (h.q i v l h1 h2).stay hx (fun g hg => hX g (.inr (.inr ⟨i, v, h1, hg⟩))), h.off, h.bb⟩
theorem PoolAt.only (h : PoolAt w0 w b qs qv vs) (ho : Only w w') : PoolAt w0 w' b qs qv vs := h.stay ho (fun _ _ h => h)
/-- The slice of queues and a queue lie apart. -/
theorem PoolAt.apart (h : PoolAt w0 w b qs qv vs) {i : Nat} {v : Value} (hv : vs[i]? = some v) : ∀ g, v.ownBlock = some g → qv.ownBlock ≠ some g ∧ g ≠ b := fun g hg => by
  have hi := (List.getElem?_eq_some_iff.1 hv).1
  have hq := h.q i v _ hv (List.getElem?_eq_getElem (by rw [← h.len]; exact hi))
  refine ⟨fun e => ?_, hq.ne_blk h.blk (by decide) g hg⟩
  rcases h.row.2 with ⟨rfl, _⟩ | ⟨g', cap, cur, rfl, _, hg', _⟩
  · simp [Value.ownBlock] at e
  · have e2 : g' = g := by simpa [Value.ownBlock] using e
    subst e2
    exact hq.ne_blk (k := g') (T := 22) (vs := cur.toList) (by unfold Blk; rw [Array.toArray_toList]; exact hg') (by decide) g' hg rfl
/-- A queue anew, in its place. -/
theorem PoolAt.put (h : PoolAt w0 w b qs qv vs) (hx : Stay X w w') {i : Nat} {v v' : Value} {l' : List Int} (hv : vs[i]? = some v) (hX : ∀ k, X k → v.ownBlock = some k) (hq : Qu w' w0.heap.size v' l') (hn : ∀ g, v'.ownBlock = some g → v.ownBlock = some g ∨ w.heap.size ≤ g) {g cap : Nat} (hqv : qv = .slice (some ⟨g, 0, none⟩) qs.length cap) :
    PoolAt w0 (w'.setCell ⟨g, i, none⟩ v') b (qs.set i l') qv (vs.set i v') := by
  have hil := (List.getElem?_eq_some_iff.1 hv).1
  have hgo : qv.ownBlock = some g := by rw [hqv]; rfl
  have hB := hx.blk h.blk (fun e => (h.apart hv b (hX b e)).2 rfl)
  have hR := own_stay hx h.row (fun k hk e => (h.apart hv k (hX k e)).1 hk)
  have hbg : g ≠ b := own_ne_blk hR hB (by decide) g hgo
  have hst := Stay.put (S := fun k => k = g) (Stay.refl _ w') rfl i v'
  have hR2 := hR
  rw [hqv] at hR2
  have hlt : ∀ k, PBlk b qv vs k → k < w.heap.size := fun k hk => (h.lt hk).2
  have hv'g : ∀ k, v'.ownBlock = some k → k ≠ g := fun k hk e => by
    subst e
    rcases hn k hk with e | e
    · exact (h.apart hv k e).1 hgo
    · have := hlt k (.inr (.inl hgo)); omega
  refine ⟨hB.set_other hbg v', ?_, fun j u l hu hl => ?_, fun j k u u' hjk hu hu' => ?_, h.bb⟩
  · rw [List.length_set, hqv]
    exact (hR2.stored i v').1
  · rw [List.getElem?_set] at hu hl
    by_cases hij : i = j
    · subst hij
      rw [if_pos rfl, if_pos hil] at hu
      rw [if_pos rfl, if_pos (by rw [← h.len]; exact hil)] at hl
      cases hu
      cases hl
      exact hq.stay hst (fun k hk e => hv'g k hk e)
    · rw [if_neg hij] at hu hl
      refine ((h.q j u l hu hl).stay hx (fun k hk e => ?_)).stay hst (fun k hk e => ?_)
      · exact h.off i j v u hij hv hu k (hX k e) hk
      · subst e
        exact (h.apart hu k hk).1 hgo
  · have key : ∀ (j : Nat) (u : Value), i ≠ j → vs[j]? = some u → Off v' u := fun j u hij hu k hk hk2 => by
      rcases hn k hk with e | e
      · exact h.off i j v u hij hv hu k e hk2
      · have := hlt k (.inr (.inr ⟨j, u, hu, hk2⟩)); omega
    rw [List.getElem?_set] at hu hu'
    by_cases hij : i = j
    · subst hij
      rw [if_pos rfl, if_pos hil] at hu
      rw [if_neg hjk] at hu'
      cases hu
      exact key k u' hjk hu'
    · rw [if_neg hij] at hu
      by_cases hik : i = k
      · subst hik
        rw [if_pos rfl, if_pos hil] at hu'
        cases hu'
        exact (key j u hij hu).symm
      · rw [if_neg hik] at hu'
        exact h.off j k u u' hjk hu hu'
/-- .. and what it turns. -/
theorem PoolAt.turns (h : PoolAt w0 w b qs qv vs) (hx : Stay X w w') {i : Nat} {v : Value} (v' : Value) (hv : vs[i]? = some v) (hX : ∀ k, X k → v.ownBlock = some k) (hn : ∀ g, v'.ownBlock = some g → v.ownBlock = some g ∨ w.heap.size ≤ g) {g cap : Nat} (hqv : qv = .slice (some ⟨g, 0, none⟩) qs.length cap) :
    Stay (PBlk b qv vs) w (w'.setCell ⟨g, i, none⟩ v') ∧ ∀ k, PBlk b qv (vs.set i v') k → PBlk b qv vs k ∨ w.heap.size ≤ k := by
  have hil := (List.getElem?_eq_some_iff.1 hv).1
  have hgo : qv.ownBlock = some g := by rw [hqv]; rfl
  refine ⟨(hx.mono (fun k _ e => .inr (.inr ⟨i, v, hv, hX k e⟩))).put (.inr (.inl hgo)) _ _, fun k hk => ?_⟩
  rcases hk with e | e | ⟨j, u, hu, e⟩
  · exact .inl (.inl e)
  · exact .inl (.inr (.inl e))
  · rw [List.getElem?_set] at hu
    by_cases hij : i = j
    · subst hij
      rw [if_pos rfl, if_pos hil] at hu
      cases hu
      rcases hn k e with e2 | e2
      · exact .inl (.inr (.inr ⟨i, v, hv, e2⟩))
      · exact .inr e2
    · rw [if_neg hij] at hu
      exact .inl (.inr (.inr ⟨j, u, hu, e⟩))
end
def pIs (qs : List (List Int)) (x : Int) : Prop := 1 ≤ x ∧ x ≤ qs.length
set_option maxRecDepth 100000 in
set_option maxHeartbeats 4000000 in
theorem has_any {w0 w : World} {b : Nat} {qs : List (List Int)} {qv : Value} {vs : List Value} (h : PoolAt w0 w b qs qv vs) (x : Int) :
    Calls Try.prog 48 #[.pointer (some ⟨b, 0, none⟩), .int .i64 x] w fun e w' => e = .returned (.bool (decide (1 ≤ x ∧ x ≤ (qs.length : Int)))) ∧ Only w w' := by
  obtain ⟨A, c, rfl⟩ := own_shape h.row
  have cb := h.blk.cell
  have lb := h.blk.lt
  clear h
  by_cases h1 : 1 ≤ x
  · by_cases h2 : x ≤ (qs.length : Int)
    · rw [decide_eq_true (p := 1 ≤ x ∧ x ≤ (qs.length : Int)) ⟨h1, h2⟩]
      have b1 : decide (x ≥ 1) = true := decide_eq_true h1
      have b2 : decide (x ≤ (qs.length : Int)) = true := decide_eq_true h2
      go_enter Try.func48, Try.ntmps48
      go_wp2_with fail
      go_ret
      exact ⟨rfl, Stay.refl _ w⟩
    · rw [decide_eq_false (p := 1 ≤ x ∧ x ≤ (qs.length : Int)) (fun h => h2 h.2)]
      have b1 : decide (x ≥ 1) = true := decide_eq_true h1
      have b2 : decide (x ≤ (qs.length : Int)) = false := decide_eq_false h2
      go_enter Try.func48, Try.ntmps48
      go_wp2_with fail
      go_ret
      exact ⟨rfl, Stay.refl _ w⟩
  · rw [decide_eq_false (p := 1 ≤ x ∧ x ≤ (qs.length : Int)) (fun h => h1 h.1)]
    have b1 : decide (x ≥ 1) = false := decide_eq_false h1
    go_enter Try.func48, Try.ntmps48
    go_wp2_with fail
    go_ret
    exact ⟨rfl, Stay.refl _ w⟩
end Go.Proofs.Ytfohaijdhgcneaa
