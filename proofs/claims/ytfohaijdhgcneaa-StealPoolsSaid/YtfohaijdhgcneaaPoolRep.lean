/- A pool's queues in memory: slices of its own, wherever they begin. -/
import Derived.Test.YtfohaijdhgcneaaIntSl
import Derived.Test.YtfohaijdhgcneaaStealRep
import Derived.ArgAppend
import Derived.Deep.AppendLies
set_option linter.unusedVariables false
set_option linter.unusedSimpArgs false
namespace Go.Proofs.Ytfohaijdhgcneaa
open Go Go.RowKit

/-- A slice of ints of the pool's own. -/
def Qu (w : World) (base : Nat) (v : Value) (l : List Int) : Prop :=
  (v = .slice none 0 0 ∧ l = []) ∨ ∃ (g off cap : Nat) (vs : List Value), v = .slice (some ⟨g, off, none⟩) l.length cap ∧ base ≤ g ∧ Blk w g 3 vs ∧ l.length ≤ cap ∧ off + cap ≤ vs.length ∧ cap ≤ maxLen ∧ ∀ (j : Nat) (x : Int), l[j]? = some x → vs[off + j]? = some (.int .i64 x)
section
variable {w w' : World} {base base' : Nat} {v : Value} {l : List Int} {X : Nat → Prop}
theorem Qu.nil (w : World) (base : Nat) : Qu w base (.slice none 0 0) [] := .inl ⟨rfl, rfl⟩
theorem Qu.shape (h : Qu w base v l) : ∃ A c, v = .slice A l.length c := by
  rcases h with ⟨rfl, rfl⟩ | ⟨g, off, cap, vs, rfl, _⟩
  · exact ⟨none, 0, rfl⟩
  · exact ⟨_, _, rfl⟩
theorem Qu.form (h : Qu w base v l) (hl : 0 < l.length) : ∃ (g off cap : Nat), v = .slice (some ⟨g, off, none⟩) l.length cap ∧ g < w.heap.size ∧ l.length ≤ cap ∧ cap ≤ maxLen ∧ ∀ (j : Nat) (x : Int), l[j]? = some x → w.cell? ⟨g, off + j, none⟩ = some (.int .i64 x) := by
  rcases h with ⟨rfl, rfl⟩ | ⟨g, off, cap, vs, rfl, hb, hB, h1, h2, h3, h4⟩
  · simp at hl
  · exact ⟨g, off, cap, rfl, hB.lt, h1, h3, fun j x hx => by rw [hB.cell]; exact h4 j x hx⟩
theorem Qu.lt (h : Qu w base v l) : ∀ g, v.ownBlock = some g → base ≤ g ∧ g < w.heap.size := fun g hg => by
  rcases h with ⟨rfl, rfl⟩ | ⟨g', off, cap, vs, rfl, hb, hB, _⟩
  · simp [Value.ownBlock] at hg
  · have e : g' = g := by simpa [Value.ownBlock] using hg
    subst e
    exact ⟨hb, hB.lt⟩
theorem Qu.stay (h : Qu w base v l) (hx : Stay X w w') (hX : ∀ g, v.ownBlock = some g → ¬ X g) : Qu w' base v l := by
  rcases h with ⟨rfl, rfl⟩ | ⟨g, off, cap, vs, rfl, hb, hB, hr⟩
  · exact Qu.nil _ _
  · exact .inr ⟨g, off, cap, vs, rfl, hb, hx.blk hB (hX g rfl), hr⟩
theorem Qu.only (h : Qu w base v l) (ho : Only w w') : Qu w' base v l := h.stay ho (fun _ _ h => h)
theorem Qu.rebase (h : Qu w base v l) (hb : base' ≤ base) : Qu w base' v l := by
  rcases h with ⟨rfl, rfl⟩ | ⟨g, off, cap, vs, rfl, hbb, hr⟩
  · exact Qu.nil _ _
  · exact .inr ⟨g, off, cap, vs, rfl, by omega, hr⟩
theorem Qu.ne_blk (h : Qu w base v l) {k : Nat} {T : TypeId} {vs : List Value} (hb : Blk w k T vs) (hne : 3 ≠ T) : ∀ g, v.ownBlock = some g → g ≠ k := fun g hg e => by
  rcases h with ⟨rfl, rfl⟩ | ⟨g', off, cap, us, rfl, _, hB, _⟩
  · simp [Value.ownBlock] at hg
  · have e2 : g' = g := by simpa [Value.ownBlock] using hg
    subst e2 e
    exact hne (hB.inj hb).1
theorem Qu.sl {A : Option Addr} {c : Nat} (h : Qu w base (.slice A l.length c) l) : Sl w w.heap.size A l.length c 1 (ints l) := by
  rcases h with ⟨e, rfl⟩ | ⟨g, off, cap, vs, e, hb, hB, h1, h2, h3, h4⟩
  · simp at e
    obtain ⟨rfl, rfl⟩ := e
    exact ⟨rfl, Nat.le_refl _, by omega, fun _ => rfl, fun h => absurd h (by simp)⟩
  · simp only [Value.slice.injEq, true_and] at e
    obtain ⟨rfl, rfl⟩ := e
    refine ⟨by simp [ints], h1, by simp only [maxLen] at h3; omega, fun e => (by cases e), fun hl => ⟨g, off, rfl, hB.lt, fun j u hu => ?_⟩⟩
    rw [hB.cell]
    unfold ints at hu
    rw [List.getElem?_map, Option.map_eq_some_iff] at hu
    obtain ⟨x, hx, rfl⟩ := hu
    exact h4 j x hx
/-- A row is a queue. -/
theorem Qu.of_row (h : w.ownsRow base 3 1 v l.length (ints l)) : Qu w base v l := by
  rcases h.2 with ⟨rfl, h0⟩ | ⟨g, cap, cur, rfl, hb, hg, h1, h2, h3, h4⟩
  · exact .inl ⟨rfl, List.eq_nil_of_length_eq_zero h0⟩
  · refine .inr ⟨g, 0, cap, cur.toList, rfl, hb, by unfold Blk; rw [Array.toArray_toList]; exact hg, h1, by simp; omega, h2, fun j x hx => ?_⟩
    have hj : j < l.length := (List.getElem?_eq_some_iff.1 hx).1
    have : (ints l)[j]? = some (.int .i64 x) := by unfold ints; rw [List.getElem?_map, hx]; rfl
    rw [Nat.mul_one] at h4
    rw [← h4, List.getElem?_take, if_pos hj] at this
    rw [Nat.zero_add]
    exact this
/-- Without the first. -/
theorem Qu.tail {g off cap : Nat} {x : Int} (h : Qu w base (.slice (some ⟨g, off, none⟩) (x :: l).length cap) (x :: l)) : Qu w base (.slice (some (if cap = 1 then ⟨g, off, none⟩ else ⟨g, off + 1, none⟩)) l.length (cap - 1)) l := by
  rcases h with ⟨e, _⟩ | ⟨g', off', cap', vs, e, hb, hB, h1, h2, h3, h4⟩
  · simp at e
  · simp only [Value.slice.injEq, Option.some.injEq, Addr.mk.injEq, and_true, true_and] at e
    obtain ⟨⟨rfl, rfl⟩, rfl⟩ := e
    simp only [List.length_cons] at h1
    by_cases hc : cap = 1
    · subst hc
      obtain rfl : l = [] := List.eq_nil_of_length_eq_zero (by omega)
      exact .inr ⟨g, off, 0, vs, rfl, hb, hB, Nat.le_refl _, by omega, by omega, fun j y hy => by simp at hy⟩
    · rw [if_neg hc]
      refine .inr ⟨g, off + 1, cap - 1, vs, rfl, hb, hB, by omega, by omega, by omega, fun j y hy => ?_⟩
      rw [show off + 1 + j = off + (j + 1) by omega]
      exact h4 (j + 1) y (by simpa using hy)
end
/-- Append onto a queue. -/
theorem run_append_qu {P : Program} (w : World) (t ty : TypeId) (base : Nat) (i : TypeInfo) (z : Value) (ht : P.underlying t = some (.slice 3)) (hi : P.info? 3 = some i) (hz : i.zero = some z)
    (hsize : i.size = 1) (hby : i.bytes = 8) (hzs : z.cells.size = 1) (v : Value) (l : List Int) (hq : Qu w base v l) (hbase : base ≤ w.heap.size) (ad : Addr) (c : Nat) (x : Int) (hnews : w.cell? ad = some (.int .i64 x)) (hl : l.length ≤ 1000000) :
    ∃ A c' w', (Builtin.append_ #[t, t] ty #[v, .slice (some ad) 1 c]).run P w = .ok (.slice A (l.length + 1) c') w' ∧ Qu w' base (.slice A (l.length + 1) c') (l ++ [x]) ∧ Stay (fun k => v.ownBlock = some k) w w' ∧ ∀ g, (Value.slice A (l.length + 1) c').ownBlock = some g → v.ownBlock = some g ∨ w.heap.size ≤ g := by
  have hn1 : ∀ j u, [Value.int .i64 x][j]? = some u → w.cell? (ad.add j) = some u := fun j u hu => by
    have hj : j = 0 := by have := (List.getElem?_eq_some_iff.1 hu).1; simp at this; exact this
    subst hj
    simp at hu
    subst hu
    rw [show ad.add 0 = ad from by unfold Addr.add; split <;> simp_all]
    exact hnews
  have one : ∀ u ∈ [Value.int .i64 x], u.oneCell' = true := fun u hu => by simp at hu; subst hu; rfl
  have fresh : ∀ {v' : Value} {w' : World}, w'.ownsRow w.heap.size 3 1 v' (l.length + 1) (ints l ++ [.int .i64 x]) → w.grownBy w' none → ∃ A c', v' = .slice A (l.length + 1) c' ∧ Qu w' base (.slice A (l.length + 1) c') (l ++ [x]) ∧ Stay (fun k => v.ownBlock = some k) w w' ∧ ∀ g, (Value.slice A (l.length + 1) c').ownBlock = some g → v.ownBlock = some g ∨ w.heap.size ≤ g := fun {v' w'} ho hg => by
    obtain ⟨A, c', rfl⟩ := own_shape ho
    have hr : w'.ownsRow w.heap.size 3 1 (.slice A (l.length + 1) c') (l ++ [x]).length (ints (l ++ [x])) := by
      rw [List.length_append]
      unfold ints at ho ⊢
      rw [List.map_append]
      exact ho
    have hqq := (Qu.of_row hr).rebase hbase
    exact ⟨A, c', rfl, hqq, Stay.of_grown hg (fun k _ e => by cases e), fun g hgg => .inr (own_lt ho g hgg).1⟩
  rcases hq with ⟨rfl, rfl⟩ | ⟨g, off, cap, vs, rfl, hb, hB, h1, h2, h3, h4⟩
  · obtain ⟨v', w', hr, h2, h3, h4, h5⟩ := run_append_own_at (P := P) w w.heap.size t ty 3 i z 1 8 ht hi hz hsize hby hzs (by omega) (.slice none 0 0) 0 [] (World.ownsRow_nil _ _ _ _) ad 1 c [.int .i64 x] rfl hn1 one (by simp only [maxLen]; omega) (by omega) (Nat.le_refl _)
    obtain ⟨A, c', e, k⟩ := fresh (v' := v') (w' := w') (by simpa [ints] using h2) (by simpa [Value.ownBlock] using h3)
    subst e
    exact ⟨A, c', w', hr, k⟩
  · have holds : ∀ j u, (ints l)[j]? = some u → w.cell? ((⟨g, off, none⟩ : Addr).add j) = some u := fun j u hu => by
      rw [show (⟨g, off, none⟩ : Addr).add j = ⟨g, off + j, none⟩ from by unfold Addr.add; split <;> simp_all, hB.cell]
      unfold ints at hu
      rw [List.getElem?_map, Option.map_eq_some_iff] at hu
      obtain ⟨y, hy, rfl⟩ := hu
      exact h4 j y hy
    by_cases hroom : l.length + 1 ≤ cap
    · have hr := run_append_room_cells (P := P) w t ty 3 i ht hi g off l.length cap ad 1 c [.int .i64 x] (by rw [hsize]; rfl) hn1 one hroom (fun j hj => by
        have hj0 : j = 0 := by simpa using hj
        rw [hB.cell, List.getElem?_eq_getElem (by rw [hsize]; omega)]
        rfl) (fun j hj => hB.free _)
      rw [hsize, Nat.mul_one] at hr
      have hset : w.setCells g (off + l.length) [.int .i64 x] = w.setCell ⟨g, off + l.length, none⟩ (.int .i64 x) := rfl
      rw [hset] at hr
      refine ⟨_, _, _, hr, .inr ⟨g, off, cap, vs.set (off + l.length) (.int .i64 x), by simp, hb, hB.set _ _, by simpa using hroom, by simpa using h2, h3, fun j y hy => ?_⟩, (Stay.refl (fun k => (Value.slice (some ⟨g, off, none⟩) l.length cap).ownBlock = some k) w).put rfl _ _, fun g' hg' => .inl hg'⟩
      rw [List.getElem?_set]
      by_cases hj : j < l.length
      · rw [List.getElem?_append_left hj] at hy
        rw [if_neg (by omega)]
        exact h4 j y hy
      · have hj2 : j = l.length := by have := (List.getElem?_eq_some_iff.1 hy).1; simp at this; omega
        subst hj2
        rw [List.getElem?_append_right (Nat.le_refl _), Nat.sub_self] at hy
        simp at hy
        subst hy
        rw [if_pos rfl, if_pos (by omega)]
    · obtain ⟨v', w', hr, h5, h6⟩ := run_append_arg_grows (P := P) w t ty 3 i z 1 8 ht hi hz hsize hby hzs (by omega) ⟨g, off, none⟩ l.length cap (ints l) (by simp [ints]) holds ad 1 c [.int .i64 x] rfl hn1 (by omega) (by simp only [maxLen]; omega) (by omega)
      obtain ⟨A, c', e, k⟩ := fresh (v' := v') (w' := w') h5 h6
      subst e
      exact ⟨A, c', w', hr, k⟩
section
variable {P : Program} (w : World)
/-- At the operation. -/
theorem wp_append_qu {o : Oper} {a : Go.Act} {K : Go.Act → World → Prop} {Q : Exit → Go.Act → World → Prop} (s x : Operand) (t : TypeId)
    (ho : o.op = .call { callee := .builtin .append, args := #[s, x], argTypes := #[t, t] }) (base : Nat) (i : TypeInfo) (z : Value) (ht : P.underlying t = some (.slice 3)) (hi : P.info? 3 = some i) (hz : i.zero = some z)
    (hsize : i.size = 1) (hby : i.bytes = 8) (hzs : z.cells.size = 1) (v : Value) (l : List Int) (hs : a.eval s = v) (hq : Qu w base v l) (hbase : base ≤ w.heap.size) (ad : Addr) (c : Nat) (y : Int) (hx : a.eval x = .slice (some ad) 1 c) (hnews : w.cell? ad = some (.int .i64 y)) (hl : l.length ≤ 1000000)
    (h : ∀ A c' w', Qu w' base (.slice A (l.length + 1) c') (l ++ [y]) → Stay (fun k => v.ownBlock = some k) w w' → (∀ g, (Value.slice A (l.length + 1) c').ownBlock = some g → v.ownBlock = some g ∨ w.heap.size ≤ g) → K (a.put o.dst (.slice A (l.length + 1) c')) w') : o.wp P a w K Q := by
  obtain ⟨A, c', w', hr, h2, h3, h4⟩ := run_append_qu (P := P) w t o.type base i z ht hi hz hsize hby hzs v l hq hbase ad c y hnews hl
  unfold Oper.wp execOp
  simp only [ho, resolve, invoke, builtin, Sem.run_bind, Sem.run_pure, Result.andThen_ok, List.map_toArray, List.map_cons, List.map_nil, hs, hx, hr]
  exact h A c' w' h2 h3 h4
/-- At a step of a region that draws its order. -/
theorem step_append_qu {ops : Array Oper} {o : Oper} {a : Go.Act} {K : Go.Act → World → Prop} {Q : Exit → Go.Act → World → Prop} {E : Prop} (hgd : o.guard = none) (s x : Operand) (t : TypeId)
    (ho : o.op = .call { callee := .builtin .append, args := #[s, x], argTypes := #[t, t] }) (base : Nat) (i : TypeInfo) (z : Value) (ht : P.underlying t = some (.slice 3)) (hi : P.info? 3 = some i) (hz : i.zero = some z)
    (hsize : i.size = 1) (hby : i.bytes = 8) (hzs : z.cells.size = 1) (v : Value) (l : List Int) (hs : a.eval s = v) (hq : Qu w base v l) (hbase : base ≤ w.heap.size) (ad : Addr) (c : Nat) (y : Int) (hx : a.eval x = .slice (some ad) 1 c) (hnews : w.cell? ad = some (.int .i64 y)) (hl : l.length ≤ 1000000)
    (h : ∀ A c' w', Qu w' base (.slice A (l.length + 1) c') (l ++ [y]) → Stay (fun k => v.ownBlock = some k) w w' → (∀ g, (Value.slice A (l.length + 1) c').ownBlock = some g → v.ownBlock = some g ∨ w.heap.size ≤ g) → K (a.put o.dst (.slice A (l.length + 1) c')) w') :
    if Region.wanted o (yielded ops a.tmps) = true then Oper.wp P o a w K Q else E := by
  have hw : Region.wanted o (yielded ops a.tmps) = true := by simp [Region.wanted, hgd]
  rw [if_pos hw]
  exact wp_append_qu w s x t ho base i z ht hi hz hsize hby hzs v l hs hq hbase ad c y hx hnews hl h
end
end Go.Proofs.Ytfohaijdhgcneaa
