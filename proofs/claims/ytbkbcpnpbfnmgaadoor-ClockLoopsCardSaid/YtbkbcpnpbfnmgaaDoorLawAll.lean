/- The law's own 'all': the timers as a list. -/
import Derived.Test.YtbkbcpnpbfnmgaaDoorClockAll
import Derived.RangeFuncNested
import Derived.RangeFuncBound
import Derived.RangeFuncCalls
import Derived.RangeFuncLeaves
import Derived.OwnWalkIn
import Derived.Maps.OwnIn
import Derived.TacticsInMore
set_option linter.unusedVariables false
set_option linter.unusedSimpArgs false
namespace Go.Proofs.YtbkbcpnpbfnmgaaDoor
open Go Go.RowKit
attribute [local go_sem] Oper.semAt_some

theorem wpListIn_append_lies {F : Fence} {nF : Nat} {P : Program} (w : World) {ops : Array Oper} {rest : List Oper} {o : Oper} {a : Go.Act} {Q : Exit → Go.Act → World → Prop} (hgd : o.guard = none) (s x : Operand) (t : TypeId)
    (ho : o.op = .call { callee := .builtin .append, args := #[s, x], argTypes := #[t, t] })
    (base : Nat) (e : TypeId) (i : TypeInfo) (z : Value) (size bytes : Nat) (ht : P.underlying t = some (.slice e)) (hi : P.info? e = some i) (hz : i.zero = some z)
    (hsize : i.size = size) (hby : i.bytes = bytes) (hzs : z.cells.size = size) (hsz : 0 < size)
    (v : Value) (n : Nat) (xs : List Value) (hs : a.eval s = v) (hown : w.ownsRow base e size v n xs)
    (ad : Addr) (m c : Nat) (news : List Value) (hx : a.eval x = .slice (some ad) m c) (hl : news.length = m * size) (hnews : ∀ j u, news[j]? = some u → w.cell? (ad.add j) = some u) (h1 : ∀ u ∈ news, u.oneCell' = true)
    (hm : 0 < m) (h63 : n + m ≤ maxLen) (hbytes : (n + m) * bytes ≤ 140737488355328) (hbase : base ≤ w.heap.size) (H : Nat) (hH : w.heap.size = H)
    (h : ∀ g cap w', w'.ownsRow base e size (.slice (some ⟨g, 0, none⟩) (n + m) cap) (n + m) (xs ++ news) → w.grownBy w' v.ownBlock → (v.ownBlock = some g ∨ g = H) → g < w'.heap.size → wpListIn F nF P ops Q rest (a.put o.dst (.slice (some ⟨g, 0, none⟩) (n + m) cap)) w') : wpListIn F nF P ops Q (o :: rest) a w := by
  refine wpListIn_append_own_at w hgd s x t ho base e i z size bytes ht hi hz hsize hby hzs hsz v n xs hs hown ad m c news hx hl hnews h1 h63 hbytes hbase (fun v' w' h2 h3 _ h5 => ?_)
  obtain ⟨g, cap, rfl, _, hg⟩ := h2.form (by omega)
  refine h g cap w' h2 h3 ?_ hg
  rcases h5 with h5 | h5
  · exact .inl h5.symm
  · have : g = w.heap.size := by simpa [Value.ownBlock] using h5
    exact .inr (this.trans hH)
theorem KeepsFrom.of_stay {B : Nat} {S : Nat → Prop} {W W' : World} (h : Stay S W W') (hS : ∀ k, B ≤ k → S k → ∃ o, W.heap[k]? = some o ∧ o.isCells = true) : KeepsFrom B W W' := by
  refine ⟨h.size, fun k o hk ho hc => ?_⟩
  rw [h.block k (Array.getElem?_eq_some_iff.1 ho).1 (fun hs => ?_)]
  · exact ho
  · obtain ⟨o', ho', hc'⟩ := hS k hk hs
    rw [ho] at ho'
    cases ho'
    rw [hc] at hc'
    cases hc'
theorem Only.grownBy {w W W' : World} {row : Option Nat} (h : Only w W) (hg : W.grownBy W' row) (hr : ∀ r, row = some r → w.heap.size ≤ r) : Only w W' :=
  h.trans (Stay.of_grown (S := fun k => row = some k) hg (fun k _ e => e)) (fun k hk e => by have := hr k e; omega)
set_option maxRecDepth 100000 in
set_option maxHeartbeats 4000000 in
theorem lall_any {w : World} {S : Nat → Prop} {b : Nat} {C : Ck} (h : CkAt w S b C) :
    Calls Tryd.prog 14 #[.pointer (some ⟨b, 0, none⟩)] w fun e w' => ∃ v, e = .returned v ∧ w'.ownsRow w.heap.size 39 2 v C.all.length (C.all.flatMap Tm.cells) ∧ Only w w' := by
  obtain ⟨ii, hii0, hii1, hii2, hii3⟩ := info_parts infoTm
  have H := Lib.hid h
  clear h
  refine (callsIn_wide (n := 5)).1 (callsIn_of_wp_marks Tryd.func14 rfl trivial ?_ rfl)
  simp only [Tryd.ntmps14, List.size_toArray, List.length_cons, List.length_nil, Nat.reduceAdd, Nat.reduceSub, Array.replicate_succ, Array.replicate_zero, List.push_toArray, List.append_toArray, List.nil_append, List.cons_append]
  refine wpIn_wide.2 ?_
  go_wp2_with fail
  refine (all_any _ _).mono ?_
  rintro e w2 ⟨rfl, hw2⟩
  have hB2 : Blk w2 w.heap.size 29 [.slice none 0 0] := by rw [hw2]; exact (Blk.new w [_] _).alloc _
  have hX2 : w2.cell? ⟨w.heap.size + 1, 0, none⟩ = some (.pointer (some ⟨b, 0, none⟩)) := by rw [hw2]; exact (Blk.newAt _ [_] _ _ (by simp)).at rfl
  have hO2 : Only w w2 := by rw [hw2]; exact ((Stay.refl _ w).alloc _).alloc _
  have hz2 : w2.heap.size = w.heap.size + 1 + 1 := by rw [hw2]; simp
  simp only [World.size_alloc]
  have H2 := Lib.hid (And.intro hB2 (And.intro hX2 (And.intro hO2 hz2)))
  clear hw2 hB2 hX2 hO2 hz2
  go_wp2_with fail
  have hlenC : C.all.length ≤ 400 := by show (tsort C.ts).length ≤ 400; rw [tsort_length]; exact H.out.ok.len
  have hRr : ∀ k, Reach w2 (fun k => k = w.heap.size) k → k < w2.heap.size := fun k hk => by
    rcases hk with rfl | ⟨b', i, v, rfl, hc, hv⟩
    · exact H2.out.1.lt
    · rw [H2.out.1.cell] at hc
      have hi : i = 0 := by
        have := (List.getElem?_eq_some_iff.1 hc).1
        simpa using this
      subst hi
      simp at hc
      subst hc
      rcases hv with h1 | h1
      · simp [Value.ownBlock] at h1
      · cases h1
  refine (wpIn_wide (n := 5)).1 ?_
  refine wpIn_rangeFunc_ownH rfl (by omega) (gf := 33) (lb := #[.pointer (some ⟨w.heap.size + 1, 0, none⟩)]) rfl trivial (enters_of Tryd.func33 (by kernel_rfl) rfl)
    (alls_stops (H.out.only H2.out.2.2.1) H2.out.2.1 (fun k => k = w.heap.size) hRr 4) (fun h k => h.trans k) (kp_b (fun b hb => by subst hb; have := H2.out.2.2.2; omega)) (Below.refl _ _) (fun _ => rfl)
    (fun pre W => (∃ v, Blk W w.heap.size 29 [v] ∧ W.ownsRow w2.heap.size 39 2 v pre.length (pre.flatMap Tm.cells)) ∧ Only w W ∧ w2.heap.size ≤ W.heap.size)
    (fun _ _ _ => False) ?hI (fun _ _ _ _ _ h _ _ => h) ⟨⟨_, H2.out.1, World.ownsRow_nil _ _ _ _⟩, H2.out.2.2.1, Nat.le_refl _⟩
    (fun x a' W => ∃ Bx, w2.heap.size ≤ Bx ∧ Blk W Bx 39 x.cells ∧ a' = { tmps := #[.pointer (some ⟨b, 0, none⟩), undef, .slice none 0 0, .pointer (some ⟨w.heap.size, 0, none⟩), .pointer (some ⟨Bx, 0, none⟩), .pointer (some ⟨b, 0, none⟩), .func (.func 33) #[] #[.pointer (some ⟨w.heap.size + 1, 0, none⟩)], .agg #[.int .i64 x.id, .int .i64 x.due], undef, undef, undef, undef, undef, undef, undef, undef], defers := [] }) ?hAx ?assign ?body ?done ?stop
  case hI =>
    rintro pre W W' row ⟨⟨v, hb, hr⟩, ho, hz⟩ hg hrow
    have hst : Stay (fun k => row = some k) W W' := Stay.of_grown hg (fun k _ e => e)
    refine ⟨⟨v, hst.blk hb (fun e => ?_), own_stay hst hr (fun g hgg e => ?_)⟩, ho.grownBy hg (fun r e => by have := (hrow r e).1; have := H2.out.2.2.2; omega), Nat.le_trans hz hg.size⟩
    · have := (hrow _ e).1; have := H2.out.2.2.2; omega
    · obtain ⟨_, o, ho2, hc⟩ := hrow _ e
      rcases hr.2 with ⟨rfl, _⟩ | ⟨g', cap, cur, rfl, _, hh, _⟩
      · simp [Value.ownBlock] at hgg
      · have e3 : g' = g := by simpa [Value.ownBlock] using hgg
        subst e3
        rw [hh] at ho2
        cases ho2
        cases hc
  case hAx =>
    rintro x a' _ W W' row ⟨Bx, h1, hb, ha⟩ hg hrow
    have hst : Stay (fun k => row = some k) W W' := Stay.of_grown hg (fun k _ e => e)
    refine ⟨Bx, h1, hst.blk hb (fun e => ?_), ha⟩
    obtain ⟨_, o, ho2, hc⟩ := hrow _ e
    unfold Blk at hb
    rw [hb] at ho2
    cases ho2
    cases hc
  case assign =>
    intro l pre x W K hi hK
    gi_wp2
    have hO : Only W (W.alloc (.cells #[.int .i64 x.id, .int .i64 x.due] 39)) := (Stay.refl _ W).alloc _
    have hzW := hi.2.1.size
    refine hK _ _ (KeepsFrom.of_stay hO (fun k _ h => h.elim)) (Kp.stay hO (fun k hk => ⟨?_, id⟩) (fun k _ h => h.elim)) ⟨?_, hi.2.1.trans' hO, Nat.le_trans hi.2.2 hO.size⟩ ⟨W.heap.size, hi.2.2, Blk.new W [_, _] _, rfl⟩
    · obtain ⟨v, hb, hr⟩ := hi.1
      subst hk
      exact hb.lt
    · obtain ⟨v, hb, hr⟩ := hi.1
      exact ⟨v, hb.alloc _, own_alloc hr _⟩
  case body =>
    rintro l pre x a' W hl hloop ⟨⟨v, hb, hr⟩, ho, hzz⟩ ⟨Bx, hBx, hbx, rfl⟩ hlen
    obtain ⟨A, c, rfl⟩ := own_shape hr
    obtain ⟨n, hn⟩ : ∃ n, n = pre.length := ⟨_, rfl⟩
    obtain ⟨xi, xd⟩ := x
    have c0 := hb.cell 0
    have x0 := hbx.cell 0
    have x1 := hbx.cell 1
    simp only [List.getElem?_cons_zero, List.getElem?_cons_succ, Tm.cells] at c0 x0 x1
    have lb := hb.lt
    have lx := hbx.lt
    have fb := hb.free 0
    rw [← hn] at hr hb c0 hlen
    have hn4 : n < 400 := by omega
    have b1 : ¬ (n : Int) > 400 := by omega
    have b2 : decide ((n : Int) > 400) = false := decide_eq_false b1
    have HX := Lib.hid (And.intro hb (And.intro hr (And.intro ho (And.intro hbx (And.intro hn hloop)))))
    clear hb hr ho hbx hn hloop hlen
    gi_wp2_with (gi_at_builtin; refine wpListIn_append_lies _ rfl _ _ _ rfl w2.heap.size 39 ii _ 2 16 Tryd.underlying29 hii0 hii1 hii2 hii3 rfl (by omega) _ n _ (by rfl) (own_alloc HX.out.2.1 _) ⟨W.heap.size, 0, none⟩ 1 1 [.int .i64 xi, .int .i64 xd] (by rfl) (by rfl) (World.news_of_block (cs := [Value.int .i64 xi, Value.int .i64 xd].toArray) (t := 39) (fr := (0, 0)) (heap_alloc_at' _ _ _ (by simp))) (by simp [Value.oneCell']) (by omega) (by simp only [maxLen]; omega) (by omega) (by simp; omega) (W.heap.size + 1) (by simp) ?_; intro g5 cap5 w5 hown5 hgrow5 hat5 hlt5; have st5 := grown_stay hgrow5; have hB5 := st5.blk (HX.out.1.alloc (.cells #[.int .i64 xi, .int .i64 xd] 39)) (fun e => own_ne_blk HX.out.2.1 HX.out.1 (by decide) _ e rfl); have c5 := hB5.cell 0; simp only [List.getElem?_cons_zero] at c5; have f5 := hB5.free 0; have l5 := hB5.lt; have HG5 := Lib.hid (And.intro hown5 (And.intro st5 hat5)); clear hown5 hgrow5 hat5 hlt5 st5 hB5)
    have hsw : Stay (fun k => k = w.heap.size ∨ (Value.slice A n c).ownBlock = some k) W (w5.setCell ⟨w.heap.size, 0, none⟩ (.slice (some ⟨g5, 0, none⟩) (n + 1) cap5)) :=
      ((((Stay.refl (fun k => k = w.heap.size ∨ (Value.slice A n c).ownBlock = some k) W).alloc _).trans HG5.out.2.1 (fun _ _ e => .inr e))).put (.inl rfl) _ _
    have hB5 := HG5.out.2.1.blk (HX.out.1.alloc (.cells #[.int .i64 xi, .int .i64 xd] 39)) (fun e => own_ne_blk HX.out.2.1 HX.out.1 (by decide) _ e rfl)
    have hB6 := hB5.set 0 (.slice (some ⟨g5, 0, none⟩) (n + 1) cap5)
    have hr6 := own_set (A := ⟨w.heap.size, 0, none⟩) HG5.out.1 (.slice (some ⟨g5, 0, none⟩) (n + 1) cap5) (own_ne_blk HG5.out.1 hB5 (by decide))
    have hrow0 := HX.out.2.1
    have hw2 := H2.out.2.2.2
    refine ⟨KeepsFrom.of_stay hsw (fun k hk hs => ?_), ⟨hsw.size, fun k o ho hc hn => ?_, fun k hk => ?_⟩, ⟨_, hB6, ?_⟩, HX.out.2.2.1.trans hsw (fun k hk hs => ?_), Nat.le_trans hzz hsw.size⟩
    · rcases hs with e | e
      · omega
      · rcases hrow0.2 with ⟨h0, _⟩ | ⟨g', cap', cur, h0, _, hh, _⟩
        · rw [h0] at e
          simp [Value.ownBlock] at e
        · rw [h0] at e
          have e3 : g' = k := by simpa [Value.ownBlock] using e
          exact ⟨_, by rw [← e3]; exact hh, rfl⟩
    · rw [hsw.block k (Array.getElem?_eq_some_iff.1 ho).1 (fun hs => hn ?_)]
      · exact ho
      · rcases hs with e | e
        · exact .inl e
        · exact .inr ⟨w.heap.size, 0, _, rfl, HX.out.1.cell 0, .inl e⟩
    · rcases hk with e | ⟨b', i, v, rfl, hcv, hv⟩
      · exact .inl (.inl e)
      · rw [hB6.cell] at hcv
        have hi0 : i = 0 := by
          have := (List.getElem?_eq_some_iff.1 hcv).1
          simpa using this
        subst hi0
        simp at hcv
        subst hcv
        rcases hv with h1 | h1
        · have e3 : g5 = k := by simpa [Value.ownBlock] using h1
          subst e3
          rcases HG5.out.2.2 with h2 | h2
          · exact .inl (.inr ⟨w.heap.size, 0, _, rfl, HX.out.1.cell 0, .inl h2⟩)
          · exact .inr (by omega)
        · cases h1
    · rw [List.length_append, List.flatMap_append, ← HX.out.2.2.2.2.1]
      simpa [Tm.cells] using hr6
    · rcases hs with e | e
      · omega
      · have := (own_lt hrow0 k e).1; omega
  case done =>
    rintro D xs W hD rfl ⟨⟨v, hb, hr⟩, ho, hzz⟩ hK
    obtain ⟨A, c, rfl⟩ := own_shape hr
    have c0 := hb.cell 0
    simp only [List.getElem?_cons_zero] at c0
    have lb := hb.lt
    have HX := Lib.hid (And.intro hr ho)
    have hz := H2.out.2.2.2
    clear hr ho hb hzz
    obtain ⟨nn, hnn⟩ : ∃ nn, nn = C.all.length := ⟨_, rfl⟩
    rw [← hnn] at c0
    have HN := Lib.hid hnn
    clear hnn
    go_wp2_with fail
    refine ⟨by simp, .inl ⟨_, _, rfl, run_takeDeferred hK, ?_⟩⟩
    have hg := grownBy_putObj' W D (.deferred none)
    have hst : Stay (fun k => k = D) W (W.putObj D (.deferred none)) := Stay.of_grown hg (fun k _ e => by cases e; rfl)
    refine ⟨_, results_tmp rfl _ _ _, _, rfl, ?_, HX.out.2.trans hst (fun k hk e => by omega)⟩
    have hr := HX.out.1
    rw [← HN.out] at hr ⊢
    refine own_stay hst (owns_base hr (by omega)) (fun g hgg e => ?_)
    subst e
    rcases hr.2 with ⟨h0, _⟩ | ⟨g', cap', cur, h0, _, hh, _⟩
    · rw [h0] at hgg
      simp [Value.ownBlock] at hgg
    · rw [h0] at hgg
      have e3 : g' = g := by simpa [Value.ownBlock] using hgg
      subst e3
      rw [hh] at hK
      cases hK
  case stop =>
    rintro D c pre W _ _ h _
    exact h.elim
end Go.Proofs.YtbkbcpnpbfnmgaaDoor
