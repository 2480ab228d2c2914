/- A pool: Queue, Put. -/
import Derived.Test.YtfohaijdhgcneaaPoolAt
import Derived.Deep.RegionHeld3
set_option linter.unusedVariables false
set_option linter.unusedSimpArgs false
namespace Go.Proofs.Ytfohaijdhgcneaa
open Go Go.RowKit

theorem dr_heap' (w : World) : w.drew.heap = w.heap := rfl
/-- A worker's queue, as the code meets it. -/
theorem PoolAt.at {w0 w : World} {b : Nat} {qs : List (List Int)} {qv : Value} {vs : List Value} (h : PoolAt w0 w b qs qv vs) {i : Nat} (hi : i < qs.length) :
    ∃ g cap A c, qv = .slice (some ⟨g, 0, none⟩) qs.length cap ∧ g < w.heap.size ∧ vs[i]? = some (.slice A (qs.getD i []).length c) ∧ w.cell? ⟨g, i, none⟩ = some (.slice A (qs.getD i []).length c) ∧ Qu w w0.heap.size (.slice A (qs.getD i []).length c) (qs.getD i []) ∧ w.frozen? ⟨g, i, none⟩ = false := by
  obtain ⟨g, cap, e, _, hlt⟩ := h.row.form (by omega)
  have hv : i < vs.length := by rw [h.len]; exact hi
  have hq := h.q i vs[i] (qs.getD i []) (List.getElem?_eq_getElem hv) (by rw [List.getD_eq_getElem?_getD, List.getElem?_eq_getElem hi]; rfl)
  obtain ⟨A, c, e2⟩ := hq.shape
  rw [e2] at hq
  have hr := h.row
  rw [e] at hr
  have hc := hr.cellAt i (by omega)
  rw [List.getElem?_eq_getElem hv, e2] at hc
  exact ⟨g, cap, A, c, e, hlt, by rw [List.getElem?_eq_getElem hv, e2], hc, hq, hr.frozenAt i⟩
set_option maxRecDepth 100000 in
set_option maxHeartbeats 4000000 in
theorem queue_in {w0 w : World} {b : Nat} {qs : List (List Int)} {qv : Value} {vs : List Value} (h : PoolAt w0 w b qs qv vs) {i : Nat} (hi : i < qs.length) (h8 : qs.length ≤ 8) (hl : (qs.getD i []).length ≤ 100000) :
    Calls Try.prog 33 #[.pointer (some ⟨b, 0, none⟩), .int .i64 ((i : Int) + 1)] w fun e w' => ∃ v', e = .returned v' ∧ w'.ownsRow w.heap.size 3 1 v' (qs.getD i []).length (ints (qs.getD i [])) ∧ Only w w' := by
  obtain ⟨l, hll⟩ : ∃ l, l = qs.getD i [] := ⟨_, rfl⟩
  rw [← hll] at hl ⊢
  have HLL := Lib.hid hll
  clear hll
  have H := Lib.hid h
  clear h
  go_enter Try.func33, Try.ntmps33
  go_wp2_with fail
  refine (has_any H.out ((i : Int) + 1)).mono ?_
  rintro e w1 ⟨rfl, h1⟩
  rw [decide_eq_true (p := 1 ≤ (i : Int) + 1 ∧ (i : Int) + 1 ≤ (qs.length : Int)) (by omega)]
  have hP := H.out.only h1
  obtain ⟨g, cap, A, c, e1, hg, hv, hc, hq, _⟩ := hP.at hi
  have cb := hP.blk.cell
  have lb := hP.blk.lt
  rw [e1] at cb
  have hw3 : IntKind.i64.wrap (i : Int) = (i : Int) := IntWalk.i64_in _ (by omega)
  have u1 : (0 : Int) ≤ (i : Int) := by omega
  have u2 : (i : Int) < (qs.length : Int) := by omega
  rw [← HLL.out] at hc hq
  have H1 := Lib.hid (And.intro h1 hq)
  clear h1 hP hv hq e1
  go_wp2_with fail
  refine (cloneI_any w1 A c l H1.out.2.sl (by omega)).mono ?_
  rintro e w2 ⟨v, rfl, hr, h2⟩
  have H2 := Lib.hid (And.intro hr (H1.out.1.trans' h2))
  have hz := H1.out.1.size
  clear hr h2
  go_wp2_with fail
  go_ret
  exact ⟨_, rfl, owns_base H2.out.1 hz, H2.out.2⟩
set_option maxRecDepth 100000 in
set_option maxHeartbeats 4000000 in
theorem queue_out {w0 w : World} {b : Nat} {qs : List (List Int)} {qv : Value} {vs : List Value} (h : PoolAt w0 w b qs qv vs) (x : Int) (hx : ¬ (1 ≤ x ∧ x ≤ (qs.length : Int))) :
    Calls Try.prog 33 #[.pointer (some ⟨b, 0, none⟩), .int .i64 x] w fun e w' => e = .returned (.slice none 0 0) ∧ Only w w' := by
  have H := Lib.hid h
  clear h
  go_enter Try.func33, Try.ntmps33
  go_wp2_with fail
  refine (has_any H.out x).mono ?_
  rintro e w1 ⟨rfl, h1⟩
  rw [decide_eq_false hx]
  have H1 := Lib.hid h1
  clear h1 hx
  go_wp2_with fail
  go_ret
  exact ⟨rfl, H1.out⟩
set_option maxRecDepth 100000 in
set_option maxHeartbeats 4000000 in
theorem put_out {w0 w : World} {b : Nat} {qs : List (List Int)} {qv : Value} {vs : List Value} (h : PoolAt w0 w b qs qv vs) (x y : Int) (hx : ¬ (1 ≤ x ∧ x ≤ (qs.length : Int))) :
    Calls Try.prog 27 #[.pointer (some ⟨b, 0, none⟩), .int .i64 x, .int .i64 y] w fun e w' => e = .returned (.int .i64 2) ∧ Only w w' := by
  have H := Lib.hid h
  clear h
  go_enter Try.func27, Try.ntmps27
  go_wp2_with fail
  refine (has_any H.out x).mono ?_
  rintro e w1 ⟨rfl, h1⟩
  rw [decide_eq_false hx]
  have H1 := Lib.hid h1
  clear h1 hx
  go_wp2_with fail
  go_ret
  exact ⟨rfl, H1.out⟩
/-- A pool behind a call: its queues, what has turned. -/
def PoolPost (w0 w : World) (b : Nat) (qv : Value) (vs : List Value) (qs' : List (List Int)) (w' : World) : Prop :=
  ∃ vs', PoolAt w0 w' b qs' qv vs' ∧ Stay (PBlk b qv vs) w w' ∧ ∀ k, PBlk b qv vs' k → PBlk b qv vs k ∨ w.heap.size ≤ k
set_option maxRecDepth 100000 in
set_option maxHeartbeats 4000000 in
theorem put_in {w0 w : World} {b : Nat} {qs : List (List Int)} {qv : Value} {vs : List Value} (h : PoolAt w0 w b qs qv vs) {i : Nat} (hi : i < qs.length) (h8 : qs.length ≤ 8) (hl : (qs.getD i []).length ≤ 100000) (hw0 : w0.heap.size ≤ w.heap.size) (y : Int) :
    Calls Try.prog 27 #[.pointer (some ⟨b, 0, none⟩), .int .i64 ((i : Int) + 1), .int .i64 y] w fun e w' => e = .returned (.int .i64 0) ∧ PoolPost w0 w b qv vs (qs.set i (qs.getD i [] ++ [y])) w' := by
  obtain ⟨ii, hii0, hii1, hii2, hii3⟩ := info_parts infoI
  obtain ⟨l, hll⟩ : ∃ l, l = qs.getD i [] := ⟨_, rfl⟩
  rw [← hll] at hl ⊢
  have HLL := Lib.hid hll
  clear hll
  have H := Lib.hid h
  clear h
  go_enter Try.func27, Try.ntmps27
  go_wp2_with fail
  refine (has_any H.out ((i : Int) + 1)).mono ?_
  rintro e w1 ⟨rfl, h1⟩
  rw [decide_eq_true (p := 1 ≤ (i : Int) + 1 ∧ (i : Int) + 1 ≤ (qs.length : Int)) (by omega)]
  have hP := H.out.only h1
  obtain ⟨g, cap, A, c, e1, hg, hv, hc, hq, hf⟩ := hP.at hi
  subst e1
  have cb := hP.blk.cell
  have lb := hP.blk.lt
  have hw3 : IntKind.i64.wrap (i : Int) = (i : Int) := IntWalk.i64_in _ (by omega)
  have u1 : (0 : Int) ≤ (i : Int) := by omega
  have u2 : (i : Int) < (qs.length : Int) := by omega
  have hz1 : w0.heap.size ≤ w1.heap.size := Nat.le_trans hw0 h1.size
  rw [← HLL.out] at hc hq hv
  have hgo : (Value.slice (some ⟨g, 0, none⟩) qs.length cap).ownBlock = some g := rfl
  have hgA : ∀ k, (Value.slice A l.length c).ownBlock = some k → k ≠ g ∧ k ≠ b := fun k hk => ⟨fun e => (hP.apart hv k hk).1 (by rw [hgo, e]), (hP.apart hv k hk).2⟩
  have hgb : g ≠ b := own_ne_blk hP.row hP.blk (by decide) g rfl
  have H1 := Lib.hid (And.intro h1 (And.intro hq (And.intro hP (And.intro hv hgA))))
  clear h1 hP hv hq hgo hgA
  go_upto_region 3 with fail
  go_region_law (refine step_append_qu _ (by rfl) _ _ _ (by rfl) w0.heap.size ii _ Try.underlying22 hii0 hii1 hii2 hii3 rfl (.slice A l.length c) l (by rfl) (by first | exact Qu.only H1.out.2.1 (((Stay.refl _ w1).alloc _).drew) | exact Qu.only H1.out.2.1 (((Stay.refl _ w1).drew).alloc _)) (by simp; omega) ⟨w1.heap.size, 0, none⟩ 1 y (by rfl) (by simp [World.cell?_alloc_at]) (by omega) ?_; intro A5 c5 w5 hq5 hst5 hn5; have hS : Stay (fun k => (Value.slice A l.length c).ownBlock = some k) w1 w5 := (by first | exact Stay.trans (((Stay.refl _ w1).alloc _).drew) hst5 (fun _ _ h => h) | exact Stay.trans (((Stay.refl _ w1).drew).alloc _) hst5 (fun _ _ h => h)); have hc5 := hS.cell hc (fun e => (H1.out.2.2.2.2 _ e).1 rfl); have hf5 := hS.free hc hf (fun e => (H1.out.2.2.2.2 _ e).1 rfl); have cb5 := (hS.blk H1.out.2.2.1.blk (fun e => (H1.out.2.2.2.2 _ e).2 rfl)).cell; have lb5 := (hS.blk H1.out.2.2.1.blk (fun e => (H1.out.2.2.2.2 _ e).2 rfl)).lt; have H5 := Lib.hid (And.intro hq5 (And.intro hS hn5)); clear hq5 hst5 hn5 hS)
  all_goals
    go_wp2_with fail
    go_ret
    have hn : ∀ k, (Value.slice A5 (l.length + 1) c5).ownBlock = some k → (Value.slice A l.length c).ownBlock = some k ∨ w1.heap.size ≤ k := fun k hk => (H5.out.2.2 k hk).imp id (fun h => Nat.le_trans (by simp [dr_heap']) h)
    have hq5 : Qu w5 w0.heap.size (.slice A5 (l.length + 1) c5) (l ++ [y]) := H5.out.1
    have hp := H1.out.2.2.1.put H5.out.2.1 H1.out.2.2.2.1 (fun k e => e) hq5 hn rfl
    have ht := H1.out.2.2.1.turns H5.out.2.1 (.slice A5 (l.length + 1) c5) H1.out.2.2.2.1 (fun k e => e) hn rfl
    exact ⟨rfl, _, hp, (H1.out.1.mono (fun _ _ h => h.elim)).trans ht.1 (fun _ _ h => h), fun k hk => (ht.2 k hk).imp id (fun h => Nat.le_trans H1.out.1.size h)⟩
end Go.Proofs.Ytfohaijdhgcneaa
