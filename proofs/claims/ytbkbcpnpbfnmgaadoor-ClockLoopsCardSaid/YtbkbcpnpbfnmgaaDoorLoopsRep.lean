/- A clock whose blocks are named one for one, for a loop in whose body it is used. -/
import Derived.Test.YtbkbcpnpbfnmgaaDoorLawOuts
set_option linter.unusedVariables false
set_option linter.unusedSimpArgs false
namespace Go.Proofs.YtbkbcpnpbfnmgaaDoor
open Go Go.RowKit

/-- A clock's blocks, one for one: those that its struct reaches. -/
structure Exact (w : World) (b : Nat) (C : Ck) (m : Nat) (T : Nat → Prop) : Prop where
  at_ : CkAt w T b C
  mp : w.cell? ⟨b, 457, none⟩ = some (.map (some m))
  outw : ∀ k, T k → Reach w (fun j => j = b) k
  inw : ∀ k, Reach w (fun j => j = b) k → T k
  cells : ∀ k, T k → k ≠ m → ∃ o, w.heap[k]? = some o ∧ o.isCells = true
theorem CkAt.exact {w : World} {S : Nat → Prop} {b : Nat} {C : Ck} (h : CkAt w S b C) : ∃ m T, Exact w b C m T ∧ ∀ k, T k → S k := by
  obtain ⟨m, W, wv, fs, h1, h2, h3, h4, h5, h6⟩ := h
  have hmap := h1.blk.at (ck_atm C.now C.made m h1.vl h1.full.1)
  have hwv : ∀ (i : Nat) (v : Value), wv[i]? = some v → w.cell? ⟨b, 2 + i, none⟩ = some v := fun i v hv => h1.blk.at (by
    have hi := (List.getElem?_eq_some_iff.1 hv).1
    unfold ckCells
    rw [show 2 + i = (i + 1) + 1 by omega]
    simp only [List.getElem?_cons_succ]
    rw [List.getElem?_append_left (by omega)]
    exact hv)
  refine ⟨m, CBlk b m wv, ⟨⟨m, W, wv, fs, h1, h2, h3, h4, fun _ h => h, fun k hk => h1.lt hk⟩, hmap, fun k hk => ?_, fun k hk => ?_, fun k hk hkm => ?_⟩, h5⟩
  · rcases hk with rfl | rfl | ⟨i, v, hv, e⟩
    · exact .inl rfl
    · exact .inr ⟨b, 457, _, rfl, hmap, .inr rfl⟩
    · exact .inr ⟨b, 2 + i, v, rfl, hwv i v hv, .inl e⟩
  · rcases hk with rfl | ⟨b', i, v, rfl, hc, hv⟩
    · exact .inl rfl
    · rw [h1.blk.cell] at hc
      have hmem := List.mem_of_getElem? hc
      unfold ckCells at hmem
      simp only [List.mem_append, List.mem_cons, List.not_mem_nil, or_false] at hmem
      have hnint : ∀ (kd : IntKind) (z : Int), v = .int kd z → False := fun kd z e => by
        subst e
        rcases hv with h | h
        · simp [Value.ownBlock] at h
        · cases h
      rcases hmem with h | h | h | h | h
      · exact (hnint _ _ h).elim
      · exact (hnint _ _ h).elim
      · obtain ⟨j, hj⟩ := List.getElem?_of_mem h
        rcases hv with h9 | h9
        · exact .inr (.inr ⟨j, v, hj, h9⟩)
        · subst h9
          obtain ⟨a, c, e⟩ := own_shape (h1.row j _ hj)
          cases e
      · obtain ⟨f, _, h⟩ := List.mem_map.1 h
        exact (hnint _ _ h.symm).elim
      · subst h
        rcases hv with h9 | h9
        · simp [Value.ownBlock] at h9
        · cases h9
          exact .inr (.inl rfl)
  · rcases hk with rfl | rfl | ⟨i, v, hv, e⟩
    · exact ⟨_, h1.blk, rfl⟩
    · exact absurd rfl hkm
    · rcases (h1.row i v hv).2 with ⟨rfl, _⟩ | ⟨g, cap, cur, rfl, _, hg, _⟩
      · simp [Value.ownBlock] at e
      · have e2 : g = k := by simpa [Value.ownBlock] using e
        subst e2
        exact ⟨_, hg, rfl⟩
section
variable {w w' : World} {b m : Nat} {C D : Ck} {T S' : Nat → Prop}
/-- It lies as it lay when something that is no cells turns, behind its map. -/
theorem Exact.grown (h : Exact w b C m T) {row : Option Nat} {B : Nat} (hg : w.grownBy w' row) (hm : m < B) (hr : ∀ r, row = some r → B ≤ r ∧ ∃ o : Obj, w.heap[r]? = some o ∧ o.isCells = false) : CkAt w' T b C ∧ w'.cell? ⟨b, 457, none⟩ = some (.map (some m)) := by
  have hst : Stay (fun k => row = some k) w w' := Stay.of_grown hg (fun k _ e => e)
  have key : ∀ k, T k → ¬ row = some k := fun k hk e => by
    obtain ⟨hB, o, ho, hc⟩ := hr k e
    obtain ⟨o', ho', hc'⟩ := h.cells k hk (by omega)
    rw [ho] at ho'
    cases ho'
    rw [hc] at hc'
    cases hc'
  exact ⟨h.at_.stay hst key, hst.cell h.mp (key b h.at_.inb)⟩
theorem Exact.reach {q : Nat} {u : Int} (h : Exact w b C m T) (hq : Blk w q 3 [.int .i64 u]) (k : Nat) : Reach w (fun j => j = q ∨ j = b) k ↔ k = q ∨ T k := by
  constructor
  · rintro ((rfl | rfl) | ⟨b', i, v, (rfl | rfl), hc, hv⟩)
    · exact .inl rfl
    · exact .inr (h.inw _ (.inl rfl))
    · rw [hq.cell] at hc
      have hi : i = 0 := by have := (List.getElem?_eq_some_iff.1 hc).1; simpa using this
      subst hi
      simp at hc
      subst hc
      rcases hv with h1 | h1
      · simp [Value.ownBlock] at h1
      · cases h1
    · exact .inr (h.inw _ (.inr ⟨_, i, v, rfl, hc, hv⟩))
  · rintro (rfl | hk)
    · exact .inl (.inl rfl)
    · rcases h.outw k hk with rfl | ⟨b', i, v, rfl, hc, hv⟩
      · exact .inl (.inr rfl)
      · exact .inr ⟨_, i, v, .inr rfl, hc, hv⟩
/-- What a call on the clock turns, the loop's iterator may bear. -/
theorem Exact.kp {q : Nat} {u u' : Int} (h : Exact w b C m T) (hq : Blk w q 3 [.int .i64 u]) (hq' : Blk w' q 3 [.int .i64 u']) (hC' : CkAt w' S' b D) (hsub : ∀ k, S' k → T k ∨ w.heap.size ≤ k) (hst : Stay (fun j => T j ∨ j = q) w w') : Kp (fun j => j = q ∨ j = b) w w' := by
  obtain ⟨m', T', hE', hT'⟩ := hC'.exact
  refine ⟨hst.size, fun k o ho _ hn => ?_, fun k hk => ?_⟩
  · rw [hst.block k (Array.getElem?_eq_some_iff.1 ho).1 (fun hk => hn ((h.reach hq k).2 (hk.symm)))]
    exact ho
  · rcases (hE'.reach hq' k).1 hk with rfl | hk
    · exact .inl (.inl (.inl rfl))
    · rcases hsub k (hT' k hk) with h1 | h1
      · exact .inl ((h.reach hq k).2 (.inr h1))
      · exact .inr h1
/-- Behind a call: one for one again, the map the same. -/
theorem Exact.next (h : Exact w b C m T) (hC' : CkAt w' S' b D) (hsub : ∀ k, S' k → T k ∨ w.heap.size ≤ k) (hs : SameMap w w' b) : ∃ T', Exact w' b D m T' ∧ ∀ k, T' k → T k ∨ w.heap.size ≤ k := by
  obtain ⟨m', T', hE', hT'⟩ := hC'.exact
  obtain ⟨m0, e1, e2⟩ := hs
  have h1 := h.mp
  rw [e1] at h1
  have h2 := hE'.mp
  rw [e2] at h2
  have e3 : m0 = m := by simpa using h1
  have e4 : m0 = m' := by simpa using h2
  subst e3 e4
  exact ⟨T', hE', fun k hk => hsub k (hT' k hk)⟩
theorem Exact.stay {X : Nat → Prop} (h : Exact w b C m T) (hx : Stay X w w') (hX : ∀ k, X k → ¬ T k) : ∃ T', Exact w' b C m T' ∧ ∀ k, T' k → T k := by
  obtain ⟨m', T', hE', hT'⟩ := (h.at_.stay hx (fun k hk e => hX k e hk)).exact
  have h1 := hx.cell h.mp (fun e => hX _ e h.at_.inb)
  have h2 := hE'.mp
  rw [h1] at h2
  have e4 : m = m' := by simpa using h2
  subst e4
  exact ⟨T', hE', hT'⟩
end
theorem Exact.turned {w w' : World} {b m : Nat} {C : Ck} {T : Nat → Prop} (h : Exact w b C m T) {row : Option Nat} {B : Nat} (hg : w.grownBy w' row) (hm : m < B) (hr : ∀ r, row = some r → B ≤ r ∧ ∃ o : Obj, w.heap[r]? = some o ∧ o.isCells = false) : ∃ T', Exact w' b C m T' ∧ ∀ k, T' k → T k :=
  h.stay (Stay.of_grown (S := fun k => row = some k) hg (fun k _ e => e)) (fun k e hk => by
    obtain ⟨hB, o, ho, hc⟩ := hr k e
    obtain ⟨o', ho', hc'⟩ := h.cells k hk (by omega)
    rw [ho] at ho'
    cases ho'
    rw [hc] at hc'
    cases hc')
/-- The boxes of the law's own, and the list of timers. -/
structure LB (w W : World) (q7 q8 q9 qb b k seen : Nat) (Aw : Option Addr) (cw nn B : Nat) (L : List Tm) : Prop where
  b4 : Blk W w.heap.size 3 [.int .i64 k]
  b6 : Blk W (w.heap.size + 1) 4 [.bool false]
  b7 : Blk W q7 22 [.pointer (some ⟨b, 0, none⟩)]
  b8 : Blk W q8 29 [.slice Aw nn cw]
  b9 : Blk W q9 3 [.int .i64 seen]
  b10 : Blk W qb 22 [.pointer (some ⟨b, 0, none⟩)]
  row : W.ownsRow B 39 2 (.slice Aw nn cw) nn (L.flatMap Tm.cells)
  ne : w.heap.size < q9
def LBS (w : World) (q7 q8 q9 qb : Nat) (Aw : Option Addr) (cw nn : Nat) (j : Nat) : Prop := j = w.heap.size ∨ j = w.heap.size + 1 ∨ j = q7 ∨ j = q8 ∨ j = q9 ∨ j = qb ∨ (Value.slice Aw nn cw).ownBlock = some j
section
variable {w W W' : World} {q7 q8 q9 qb b k seen : Nat} {Aw : Option Addr} {cw nn B : Nat} {L : List Tm} {X : Nat → Prop}
theorem LB.lt (h : LB w W q7 q8 q9 qb b k seen Aw cw nn B L) (j : Nat) (hj : LBS w q7 q8 q9 qb Aw cw nn j) : j < W.heap.size := by
  rcases hj with rfl | rfl | rfl | rfl | rfl | rfl | e
  · exact h.b4.lt
  · exact h.b6.lt
  · exact h.b7.lt
  · exact h.b8.lt
  · exact h.b9.lt
  · exact h.b10.lt
  · exact (own_lt h.row j e).2
theorem LB.cells (h : LB w W q7 q8 q9 qb b k seen Aw cw nn B L) (j : Nat) (hj : LBS w q7 q8 q9 qb Aw cw nn j) : ∃ o, W.heap[j]? = some o ∧ o.isCells = true := by
  rcases hj with rfl | rfl | rfl | rfl | rfl | rfl | e
  · exact ⟨_, h.b4, rfl⟩
  · exact ⟨_, h.b6, rfl⟩
  · exact ⟨_, h.b7, rfl⟩
  · exact ⟨_, h.b8, rfl⟩
  · exact ⟨_, h.b9, rfl⟩
  · exact ⟨_, h.b10, rfl⟩
  · rcases h.row.2 with ⟨h0, _⟩ | ⟨g, cap, cur, h0, _, hg, _⟩
    · rw [h0] at e
      simp [Value.ownBlock] at e
    · rw [h0] at e
      have e2 : g = j := by simpa [Value.ownBlock] using e
      subst e2
      exact ⟨_, hg, rfl⟩
theorem LB.stay (h : LB w W q7 q8 q9 qb b k seen Aw cw nn B L) (hx : Stay X W W') (hX : ∀ j, LBS w q7 q8 q9 qb Aw cw nn j → ¬ X j) : LB w W' q7 q8 q9 qb b k seen Aw cw nn B L :=
  ⟨hx.blk h.b4 (hX _ (.inl rfl)), hx.blk h.b6 (hX _ (.inr (.inl rfl))), hx.blk h.b7 (hX _ (.inr (.inr (.inl rfl)))), hx.blk h.b8 (hX _ (.inr (.inr (.inr (.inl rfl))))), hx.blk h.b9 (hX _ (.inr (.inr (.inr (.inr (.inl rfl)))))), hx.blk h.b10 (hX _ (.inr (.inr (.inr (.inr (.inr (.inl rfl))))))), own_stay hx h.row (fun g hg => hX g (.inr (.inr (.inr (.inr (.inr (.inr hg))))))), h.ne⟩
theorem LB.only (h : LB w W q7 q8 q9 qb b k seen Aw cw nn B L) (ho : Only W W') : LB w W' q7 q8 q9 qb b k seen Aw cw nn B L := h.stay ho (fun _ _ h => h)
theorem LB.grown (h : LB w W q7 q8 q9 qb b k seen Aw cw nn B L) {row : Option Nat} (hg : W.grownBy W' row) (hr : ∀ r, row = some r → ∃ o : Obj, W.heap[r]? = some o ∧ o.isCells = false) : LB w W' q7 q8 q9 qb b k seen Aw cw nn B L :=
  h.stay (Stay.of_grown (S := fun k => row = some k) hg (fun k _ e => e)) (fun j hj e => by
    obtain ⟨o, ho, hc⟩ := hr j e
    obtain ⟨o', ho', hc'⟩ := h.cells j hj
    rw [ho] at ho'
    cases ho'
    rw [hc] at hc'
    cases hc')
theorem LB.put9 (h : LB w W q7 q8 q9 qb b k seen Aw cw nn B L) (s : Nat) : LB w (W.setCell ⟨q9, 0, none⟩ (.int .i64 s)) q7 q8 q9 qb b k s Aw cw nn B L :=
  ⟨h.b4.set_other (fun e => Nat.ne_of_lt h.ne e.symm) _, h.b6.set_other (blk_ne h.b9 h.b6 (by decide)) _, h.b7.set_other (blk_ne h.b9 h.b7 (by decide)) _, h.b8.set_other (blk_ne h.b9 h.b8 (by decide)) _, h.b9.set 0 _, h.b10.set_other (blk_ne h.b9 h.b10 (by decide)) _, own_set h.row _ (own_ne_blk h.row h.b9 (by decide)), h.ne⟩
end
end Go.Proofs.YtbkbcpnpbfnmgaaDoor
