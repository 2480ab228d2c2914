/- The reference's released. -/
import Derived.Test.YtgjicobfbdikmaaLedRefA
set_option linter.unusedVariables false
set_option linter.unusedSimpArgs false
namespace Go.Proofs.Ytgjicobfbdikmaa
open Go Go.RowKit

theorem ent_one (l : List Ent) : ∀ u ∈ l.flatMap Ent.cells, u.oneCell' = true := by
  intro u hu
  obtain ⟨x, _, hx⟩ := List.mem_flatMap.1 hu
  simp only [Ent.cells, List.mem_cons, List.not_mem_nil, or_false] at hx
  rcases hx with rfl | rfl | rfl | rfl <;> rfl
theorem bools_one (l : List Bool) : ∀ u ∈ bools l, u.oneCell' = true := by
  intro u hu
  obtain ⟨x, _, rfl⟩ := List.mem_map.1 hu
  rfl
theorem none_only {w w' : World} (h : Stay (fun k => (Value.slice none 0 0).ownBlock = some k) w w') : Only w w' := h.mono (fun _ _ e => by cases e)

/-- The structs of a call of the reference: what came in, the result. -/
structure T2 (w W : World) (l1 l2 : List Value) : Prop where
  o : Only w W
  b1 : Blk W w.heap.size 49 l1
  b2 : Blk W (w.heap.size + 1) 49 l2
theorem T2.only {w W W' : World} {l1 l2 : List Value} (h : T2 w W l1 l2) (ho : Only W W') : T2 w W' l1 l2 := ⟨h.o.trans' ho, ho.blk h.b1, ho.blk h.b2⟩
theorem T2.put2 {w W : World} {l1 l2 : List Value} (h : T2 w W l1 l2) (i : Nat) (v : Value) : T2 w (W.setCell ⟨w.heap.size + 1, i, none⟩ v) l1 (l2.set i v) :=
  ⟨h.o.new (by omega) i v, h.b1.set_other (by simp) v, h.b2.set i v⟩
theorem T2.put1 {w W : World} {l1 l2 : List Value} (h : T2 w W l1 l2) (i : Nat) (v : Value) : T2 w (W.setCell ⟨w.heap.size, i, none⟩ v) (l1.set i v) l2 :=
  ⟨h.o.new (by omega) i v, h.b1.set i v, h.b2.set_other (by simp) v⟩
theorem T2.lt {w W : World} {l1 l2 : List Value} (h : T2 w W l1 l2) : w.heap.size + 1 < W.heap.size := h.b2.lt
/-- And the local one. -/
structure T3 (w W : World) (n : Nat) (l1 l2 l3 : List Value) : Prop extends T2 w W l1 l2 where
  b3 : Blk W n 49 l3
  lt3 : w.heap.size + 1 < n
theorem T3.only {w W W' : World} {n : Nat} {l1 l2 l3 : List Value} (h : T3 w W n l1 l2 l3) (ho : Only W W') : T3 w W' n l1 l2 l3 := ⟨h.toT2.only ho, ho.blk h.b3, h.lt3⟩
theorem T3.put3 {w W : World} {n : Nat} {l1 l2 l3 : List Value} (h : T3 w W n l1 l2 l3) (i : Nat) (v : Value) : T3 w (W.setCell ⟨n, i, none⟩ v) n l1 l2 (l3.set i v) :=
  ⟨⟨h.o.new (by have := h.lt3; omega) i v, h.b1.set_other (by have := h.lt3; simp; omega) v, h.b2.set_other (by have := h.lt3; simp; omega) v⟩, h.b3.set i v, h.lt3⟩
theorem T3.put2 {w W : World} {n : Nat} {l1 l2 l3 : List Value} (h : T3 w W n l1 l2 l3) (i : Nat) (v : Value) : T3 w (W.setCell ⟨w.heap.size + 1, i, none⟩ v) n l1 (l2.set i v) l3 :=
  ⟨h.toT2.put2 i v, h.b3.set_other (by have := h.lt3; simp; omega) v, h.lt3⟩
theorem T3.row {w W : World} {n3 : Nat} {l1 l2 l3 : List Value} (h : T3 w W n3 l1 l2 l3) {e : TypeId} {s n m : Nat} {v u : Value} {xs : List Value} (hr : W.ownsRow w.heap.size e s v n xs) (he : e ≠ 49) {g : Nat} (hg : v.ownBlock = some g) : T3 w (W.setCell ⟨g, m, none⟩ u) n3 l1 l2 l3 := by
  have h1 := own_ne_blk hr h.b1 he g hg
  have h2 := own_ne_blk hr h.b2 he g hg
  have h3 := own_ne_blk hr h.b3 he g hg
  have h4 := (own_lt hr g hg).1
  exact ⟨⟨h.o.new h4 m u, h.b1.set_other h1 u, h.b2.set_other h2 u⟩, h.b3.set_other h3 u, h.lt3⟩
/-- Behind an append onto a row of the call's own. -/
theorem T3.grown {w W W' : World} {n3 : Nat} {l1 l2 l3 : List Value} (h : T3 w W n3 l1 l2 l3) {e : TypeId} {s n : Nat} {v : Value} {xs : List Value} (hr : W.ownsRow w.heap.size e s v n xs) (he : e ≠ 49) (hx : Stay (fun k => v.ownBlock = some k) W W') : T3 w W' n3 l1 l2 l3 :=
  ⟨⟨h.o.trans hx (fun i hi e => by have := (own_lt hr i e).1; omega), hx.blk h.b1 (fun e => own_ne_blk hr h.b1 he _ e rfl), hx.blk h.b2 (fun e => own_ne_blk hr h.b2 he _ e rfl)⟩, hx.blk h.b3 (fun e => own_ne_blk hr h.b3 he _ e rfl), h.lt3⟩

set_option maxRecDepth 100000 in
set_option maxHeartbeats 4000000 in
theorem rel_any (w : World) (a b : Value) (R : RL) (k : Nat) (lb : Bool) (h : RAt w a b R) (hn : R.es.length ≤ 400) (hl : R.lkd.length = R.es.length) (ht : 0 ≤ R.time ∧ R.time ≤ 100000) (hk : k < R.es.length) :
    Calls Try.prog 70 #[.agg #[a, b, .int .i64 R.time], .int .i64 k, .bool lb] w fun e w' => ∃ a' b', e = .returned (.agg #[a', b', .int .i64 (R.rel k lb).time]) ∧ RPost w a b a' b' (R.rel k lb) w' := by
  obtain ⟨ie, hie0, hie1, hie2, hie3⟩ := info_parts infoE
  obtain ⟨ib, hib0, hib1, hib2, hib3⟩ := info_parts infoB
  obtain ⟨Aa, ca, rfl⟩ := own_shape h.er
  obtain ⟨Ab, cb, rfl⟩ := own_shape h.br
  have hlk : k < R.lkd.length := by omega
  have hl4 : R.lkd.length ≤ 400 := by omega
  have H := Lib.hid h
  clear h hl
  go_enter Try.func70, Try.ntmps70
  go_upto_region 2 with fail
  obtain ⟨W0, hW0⟩ : ∃ W0 : World, W0 = ((w.alloc (.cells #[.slice Aa R.es.length ca, .slice Ab R.lkd.length cb, .int .i64 R.time] 49)).alloc (.cells #[.slice none 0 0, .slice none 0 0, .int .i64 0] 49)).alloc (.cells #[.slice none 0 0, .slice none 0 0, .int .i64 (R.time + 1)] 49) := ⟨_, rfl⟩
  have hT0 : T3 w W0 (w.heap.size + 1 + 1) [.slice Aa R.es.length ca, .slice Ab R.lkd.length cb, .int .i64 R.time] [.slice none 0 0, .slice none 0 0, .int .i64 0] [.slice none 0 0, .slice none 0 0, .int .i64 (R.time + 1)] := by
    rw [hW0]
    exact ⟨⟨(((Stay.refl _ w).alloc _).alloc _).alloc _, ((Blk.new w [.slice Aa R.es.length ca, .slice Ab R.lkd.length cb, .int .i64 R.time] _).alloc _).alloc _, (Blk.newAt _ [.slice none 0 0, .slice none 0 0, .int .i64 0] _ _ (by simp)).alloc _⟩, Blk.newAt _ [.slice none 0 0, .slice none 0 0, .int .i64 (R.time + 1)] _ _ (by simp), by omega⟩
  have hz0 : w.heap.size ≤ W0.heap.size := hT0.o.size
  rw [← hW0]
  have c1 := hT0.b1.cell
  have c3 := hT0.b3.cell
  have H0 := Lib.hid hT0
  clear hT0 hW0
  go_upto_region 3 with (at_builtin; refine wpList_append_sl _ rfl _ _ _ rfl w.heap.size 36 ie _ 4 32 Try.underlying27 hie0 hie1 hie2 hie3 rfl (by omega) (.slice none 0 0) 0 [] (by rfl) (World.ownsRow_nil _ _ _ _) _ Aa R.es.length ca (R.es.flatMap Ent.cells) (by rfl) (own_sl H.out.er H0.out.o) (ent_one _) (by simp only [maxLen]; omega) (by omega) (by omega) ?_; intro A1 d1 w1 hown hst hnx; have hT1 := H0.out.only (none_only hst); have c1 := hT1.b1.cell; have c3 := hT1.b3.cell; have f3 := hT1.b3.free; have l3 := hT1.b3.lt; have HA := Lib.hid (And.intro hown hT1); clear hown hst hnx hT1)
  simp only [Nat.zero_add, List.nil_append] at HA
  have hr1 := own_set HA.out.1 (A := ⟨w.heap.size + 1 + 1, 0, none⟩) (.slice A1 R.es.length d1) (own_ne_blk HA.out.1 HA.out.2.b3 (by decide))
  have hT1 := HA.out.2.put3 0 (.slice A1 R.es.length d1)
  simp only [List.set_cons_zero] at hT1
  obtain ⟨gA, dA, e1, _, _⟩ := hr1.form (by omega)
  obtain ⟨rfl, rfl⟩ : A1 = some ⟨gA, 0, none⟩ ∧ d1 = dA := by simpa using e1
  obtain ⟨W1, hW1⟩ : ∃ W1, W1 = w1.setCell ⟨w.heap.size + 1 + 1, 0, none⟩ (.slice (some ⟨gA, 0, none⟩) R.es.length d1) := ⟨_, rfl⟩
  rw [← hW1] at hr1 hT1 ⊢
  obtain ⟨u, hu⟩ : ∃ u, (R.es.flatMap Ent.cells)[k * 4 + 3]? = some u := ⟨_, List.getElem?_eq_getElem (by rw [ents_length]; omega)⟩
  have z := hr1.cellAt (k * 4 + 3) (by omega)
  rw [hu] at z
  have fz := hr1.frozenAt
  have hgl := (own_lt hr1 gA rfl).2
  have u1 : (0 : Int) ≤ (k : Int) := by omega
  have u2 : (k : Int) < (R.es.length : Int) := by omega
  have u3 : (k : Int) < (R.lkd.length : Int) := by omega
  have c1 := hT1.b1.cell
  have c3 := hT1.b3.cell
  have H1 := Lib.hid (And.intro hr1 hT1)
  clear hr1 hT1 e1 hu HA hW1
  go_upto_region 4 with fail
  have hr2 := (H1.out.1.stored (k * 4 + 3) (.int .i64 (R.time + 1))).1
  have hT2 := H1.out.2.row H1.out.1 (by decide) (g := gA) (m := k * 4 + 3) (u := .int .i64 (R.time + 1)) rfl
  rw [flat_shut R.es k (R.time + 1) hk] at hr2
  have hT2s := hT2
  obtain ⟨W2, hW2⟩ : ∃ W2, W2 = W1.setCell ⟨gA, k * 4 + 3, none⟩ (.int .i64 (R.time + 1)) := ⟨_, rfl⟩
  rw [← hW2] at hr2 hT2 ⊢
  have hz2 : w.heap.size ≤ W2.heap.size := hT2.o.size
  have c1 := hT2.b1.cell
  have c3 := hT2.b3.cell
  have H2 := Lib.hid (And.intro hr2 hT2)
  clear hr2 hT2 hT2s hW2 z fz hgl
  go_upto_region 5 with (at_builtin; refine wpList_append_sl _ rfl _ _ _ rfl w.heap.size 4 ib _ 1 1 Try.underlying47 hib0 hib1 hib2 hib3 rfl (by omega) (.slice none 0 0) 0 [] (by rfl) (World.ownsRow_nil _ _ _ _) _ Ab R.lkd.length cb (bools R.lkd) (by rfl) (own_sl H.out.br H2.out.2.o) (bools_one _) (by simp only [maxLen]; omega) (by omega) (by omega) ?_; intro A3 d3 w3 hown hst hnx; have hT3 := H2.out.2.only (none_only hst); have c1 := hT3.b1.cell; have c3 := hT3.b3.cell; have f3 := hT3.b3.free; have l3 := hT3.b3.lt; have HB := Lib.hid (And.intro hown (And.intro hT3 (own_only (none_only hst) H2.out.1))); clear hown hst hnx hT3)
  simp only [Nat.zero_add, List.nil_append] at HB
  have hr3 := own_set HB.out.1 (A := ⟨w.heap.size + 1 + 1, 1, none⟩) (.slice A3 R.lkd.length d3) (own_ne_blk HB.out.1 HB.out.2.1.b3 (by decide))
  have hr3a := own_set HB.out.2.2 (A := ⟨w.heap.size + 1 + 1, 1, none⟩) (.slice A3 R.lkd.length d3) (own_ne_blk HB.out.2.2 HB.out.2.1.b3 (by decide))
  have hT3 := HB.out.2.1.put3 1 (.slice A3 R.lkd.length d3)
  simp only [List.set_cons_zero, List.set_cons_succ] at hT3
  obtain ⟨gB, dB, e1, _, _⟩ := hr3.form (by omega)
  obtain ⟨rfl, rfl⟩ : A3 = some ⟨gB, 0, none⟩ ∧ d3 = dB := by simpa using e1
  obtain ⟨W3, hW3⟩ : ∃ W3, W3 = w3.setCell ⟨w.heap.size + 1 + 1, 1, none⟩ (.slice (some ⟨gB, 0, none⟩) R.lkd.length d3) := ⟨_, rfl⟩
  rw [← hW3] at hr3 hr3a hT3 ⊢
  obtain ⟨u', hu'⟩ : ∃ u', (bools R.lkd)[k]? = some u' := ⟨_, List.getElem?_eq_getElem (by simpa using hlk)⟩
  have z := hr3.cellAt k (by omega)
  rw [hu'] at z
  have fz := hr3.frozenAt
  have hgl := (own_lt hr3 gB rfl).2
  have c1 := hT3.b1.cell
  have c3 := hT3.b3.cell
  have H3 := Lib.hid (And.intro hr3 (And.intro hr3a hT3))
  clear hr3 hr3a hT3 e1 hu' HB hW3
  go_upto_region 6 with fail
  have hr4 := (H3.out.1.stored k (.bool lb)).1
  have hr4a := own_set H3.out.2.1 (A := ⟨gB, k, none⟩) (.bool lb) (fun g hg e => (own_off H3.out.2.1 H3.out.1 (by decide)) g hg (by simp [Value.ownBlock, e]))
  have hT4 := H3.out.2.2.row H3.out.1 (by decide) (g := gB) (m := k) (u := .bool lb) rfl
  obtain ⟨W4, hW4⟩ : ∃ W4, W4 = W3.setCell ⟨gB, k, none⟩ (.bool lb) := ⟨_, rfl⟩
  rw [← hW4] at hr4 hr4a hT4 ⊢
  have c2 := hT4.b2.cell
  have f2 := hT4.b2.free
  have l2 := hT4.b2.lt
  have c3 := hT4.b3.cell
  have H4 := Lib.hid (And.intro hr4 (And.intro hr4a hT4))
  clear hr4 hr4a hT4 hW4 z fz hgl
  go_wp2_with fail
  have hT5 := ((H4.out.2.2.put2 0 (.slice (some ⟨gA, 0, none⟩) R.es.length d1)).put2 1 (.slice (some ⟨gB, 0, none⟩) R.lkd.length d3)).put2 2 (.int .i64 (R.time + 1))
  have r0 := hT5.b2.cell 0
  have r1 := hT5.b2.cell 1
  have r2 := hT5.b2.cell 2
  simp only [List.set_cons_zero, List.set_cons_succ, List.getElem?_cons_zero, List.getElem?_cons_succ] at r0 r1 r2
  refine bodyPost_ret (v := .agg #[.slice (some ⟨gA, 0, none⟩) R.es.length d1, .slice (some ⟨gB, 0, none⟩) R.lkd.length d3, .int .i64 (R.time + 1)]) (by simp [results, Try.results70, go_sem, r0, r1, r2]) rfl ?_
  refine ⟨_, _, rfl, ⟨?_, ?_⟩, fun g hg => .inr (own_lt H4.out.2.1 g hg).1, fun g hg => .inr (own_lt H4.out.1 g hg).1, hT5.o⟩
  · have := H4.out.2.1
    have n2 := own_ne_blk this H4.out.2.2.b2 (by decide)
    have := owns_base (own_set (own_set (own_set this (A := ⟨w.heap.size + 1, 0, none⟩) (.slice (some ⟨gA, 0, none⟩) R.es.length d1) n2) (A := ⟨w.heap.size + 1, 1, none⟩) (.slice (some ⟨gB, 0, none⟩) R.lkd.length d3) n2) (A := ⟨w.heap.size + 1, 2, none⟩) (.int .i64 (R.time + 1)) n2) (Nat.zero_le _)
    simpa [RL.rel, shut, List.length_modify] using this
  · have := H4.out.1
    have n2 := own_ne_blk this H4.out.2.2.b2 (by decide)
    have := owns_base (own_set (own_set (own_set this (A := ⟨w.heap.size + 1, 0, none⟩) (.slice (some ⟨gA, 0, none⟩) R.es.length d1) n2) (A := ⟨w.heap.size + 1, 1, none⟩) (.slice (some ⟨gB, 0, none⟩) R.lkd.length d3) n2) (A := ⟨w.heap.size + 1, 2, none⟩) (.int .i64 (R.time + 1)) n2) (Nat.zero_le _)
    simpa [RL.rel, bools, List.map_set] using this

end Go.Proofs.Ytgjicobfbdikmaa
