/- The law's calls of a clock that is nil. -/
import Derived.Test.YtbkbcpnpbfnmgaaDoorLawAll
set_option linter.unusedVariables false
set_option linter.unusedSimpArgs false
namespace Go.Proofs.YtbkbcpnpbfnmgaaDoor
open Go Go.RowKit
attribute [local go_sem] Oper.semAt_some

set_option maxRecDepth 100000 in
set_option maxHeartbeats 4000000 in
theorem alls_nil {w : World} {bx : Nat} (hbx : w.cell? ⟨bx, 0, none⟩ = some (.pointer none)) (R : Nat → Prop) (n : Nat) :
    SeqStopsK Fence.wide n Tryd.prog 33 #[.pointer (some ⟨bx, 0, none⟩)] encT (Kp R) (fun xs => xs = []) (fun pre => pre <+: []) 0 w := by
  intro l J Jx W hB hJ hJx hY h0
  refine callsIn_wide.2 ?_
  show Calls Tryd.prog 33 #[.func (.yield l) #[] #[], .pointer (some ⟨bx, 0, none⟩)] W _
  have hO := Only.of_belowN hB
  have hbW := hO.cell hbx
  have HJ := Lib.hid h0
  clear hJ hJx hY h0 hO hB hbx
  go_enter Tryd.func33, Tryd.ntmps33
  go_wp2_with fail
  refine bodyPost_ret (results_none rfl _ _ _) rfl ?_
  exact ⟨⟨_, rfl⟩, .inl ⟨_, rfl, HJ.out⟩⟩
theorem now_nil (w : World) : Calls Tryd.prog 19 #[.pointer none] w fun e w' => e = .returned (.int .i64 0) ∧ w' = w := by
  go_enter Tryd.func19, Tryd.ntmps19
  go_wp2_with fail
  go_ret
  exact ⟨rfl, rfl⟩
theorem arm_nil (w : World) (n : Int) : Calls Tryd.prog 12 #[.pointer none, .int .i64 n] w fun e w' => e = .returned (.tuple #[.int .i64 0, .int .i64 2]) ∧ w' = w := by
  go_enter Tryd.func12, Tryd.ntmps12
  go_wp2_with fail
  go_ret2
  exact ⟨rfl, rfl⟩
theorem advance_nil (w : World) (n : Int) : Calls Tryd.prog 20 #[.pointer none, .int .i64 n] w fun e w' => e = .returned (.tuple #[.slice none 0 0, .int .i64 2]) ∧ w' = w := by
  go_enter Tryd.func20, Tryd.ntmps20
  go_wp2_with fail
  go_ret2
  exact ⟨rfl, rfl⟩
theorem tick_nil (w : World) : Calls Tryd.prog 23 #[.pointer none] w fun e w' => e = .returned (.tuple #[.slice none 0 0, .int .i64 2]) ∧ w' = w := by
  go_enter Tryd.func23, Tryd.ntmps23
  go_wp2_with fail
  go_ret2
  exact ⟨rfl, rfl⟩
theorem next_nil (w : World) : Calls Tryd.prog 21 #[.pointer none] w fun e w' => e = .returned (.tuple #[.int .i64 0, .bool false]) ∧ w' = w := by
  go_enter Tryd.func21, Tryd.ntmps21
  go_wp2_with fail
  go_ret2
  exact ⟨rfl, rfl⟩
theorem disarm_nil (w : World) (n : Int) : Calls Tryd.prog 13 #[.pointer none, .int .i64 n] w fun e w' => e = .returned (.int .i64 2) ∧ w' = w := by
  go_enter Tryd.func13, Tryd.ntmps13
  go_wp2_with fail
  go_ret
  exact ⟨rfl, rfl⟩
theorem copy_nil (w : World) : Calls Tryd.prog 24 #[.pointer none] w fun e w' => e = .returned (.pointer none) ∧ w' = w := by
  go_enter Tryd.func24, Tryd.ntmps24
  go_wp2_with fail
  go_ret
  exact ⟨rfl, rfl⟩
set_option maxRecDepth 100000 in
set_option maxHeartbeats 4000000 in
theorem lall_nil (w : World) :
    Calls Tryd.prog 14 #[.pointer none] w fun e w' => ∃ v, e = .returned v ∧ w'.ownsRow w.heap.size 39 2 v (0) [] ∧ Only w w' := by
  obtain ⟨ii, hii0, hii1, hii2, hii3⟩ := info_parts infoTm
  refine (callsIn_wide (n := 5)).1 (callsIn_of_wp_marks Tryd.func14 rfl trivial ?_ rfl)
  simp only [Tryd.ntmps14, List.size_toArray, List.length_cons, List.length_nil, Nat.reduceAdd, Nat.reduceSub, Array.replicate_succ, Array.replicate_zero, List.push_toArray, List.append_toArray, List.nil_append, List.cons_append]
  refine wpIn_wide.2 ?_
  go_wp2_with fail
  refine (all_any _ _).mono ?_
  rintro e w2 ⟨rfl, hw2⟩
  have hB2 : Blk w2 w.heap.size 29 [.slice none 0 0] := by rw [hw2]; exact (Blk.new w [_] _).alloc _
  have hX2 : w2.cell? ⟨w.heap.size + 1, 0, none⟩ = some (.pointer none) := by rw [hw2]; exact (Blk.newAt _ [_] _ _ (by simp)).at rfl
  have hO2 : Only w w2 := by rw [hw2]; exact ((Stay.refl _ w).alloc _).alloc _
  have hz2 : w2.heap.size = w.heap.size + 1 + 1 := by rw [hw2]; simp
  simp only [World.size_alloc]
  have H2 := Lib.hid (And.intro hB2 (And.intro hX2 (And.intro hO2 hz2)))
  clear hw2 hB2 hX2 hO2 hz2
  go_wp2_with fail
  have hRr : ∀ k, Reach w2 (fun k => k = w.heap.size) k → k < w2.heap.size := fun k hk => by
    rcases hk with rfl | ⟨b', i, v, rfl, hc, hv⟩
    · exact H2.out.1.lt
    · rw [H2.out.1.cell] at hc
      have hi : i = 0 := by
        have := (List.getElem?_eq_some_iff.1 hc).1
        simpa using this
      subst hi
      simp at hc
      subst hc
      rcases hv with h1 | h1
      · simp [Value.ownBlock] at h1
      · cases h1
  refine (wpIn_wide (n := 5)).1 ?_
  refine wpIn_rangeFunc_ownH rfl (by omega) (gf := 33) (lb := #[.pointer (some ⟨w.heap.size + 1, 0, none⟩)]) rfl trivial (enters_of Tryd.func33 (by kernel_rfl) rfl)
    (alls_nil H2.out.2.1 (fun k => k = w.heap.size) 4) (fun h k => h.trans k) (kp_b (fun b hb => by subst hb; have := H2.out.2.2.2; omega)) (Below.refl _ _) (fun _ => rfl)
    (fun pre W => (∃ v, Blk W w.heap.size 29 [v] ∧ W.ownsRow w2.heap.size 39 2 v pre.length (pre.flatMap Tm.cells)) ∧ Only w W ∧ w2.heap.size ≤ W.heap.size)
    (fun _ _ _ => False) ?hI (fun _ _ _ _ _ h _ _ => h) ⟨⟨_, H2.out.1, World.ownsRow_nil _ _ _ _⟩, H2.out.2.2.1, Nat.le_refl _⟩
    (fun x a' W => ∃ Bx, w2.heap.size ≤ Bx ∧ Blk W Bx 39 x.cells ∧ a' = { tmps := #[.pointer none, undef, .slice none 0 0, .pointer (some ⟨w.heap.size, 0, none⟩), .pointer (some ⟨Bx, 0, none⟩), .pointer none, .func (.func 33) #[] #[.pointer (some ⟨w.heap.size + 1, 0, none⟩)], .agg #[.int .i64 x.id, .int .i64 x.due], undef, undef, undef, undef, undef, undef, undef, undef], defers := [] }) ?hAx ?assign ?body ?done ?stop
  case hI =>
    rintro pre W W' row ⟨⟨v, hb, hr⟩, ho, hz⟩ hg hrow
    have hst : Stay (fun k => row = some k) W W' := Stay.of_grown hg (fun k _ e => e)
    refine ⟨⟨v, hst.blk hb (fun e => ?_), own_stay hst hr (fun g hgg e => ?_)⟩, ho.grownBy hg (fun r e => by have := (hrow r e).1; have := H2.out.2.2.2; omega), Nat.le_trans hz hg.size⟩
    · have := (hrow _ e).1; have := H2.out.2.2.2; omega
    · obtain ⟨_, o, ho2, hc⟩ := hrow _ e
      rcases hr.2 with ⟨rfl, _⟩ | ⟨g', cap, cur, rfl, _, hh, _⟩
      · simp [Value.ownBlock] at hgg
      · have e3 : g' = g := by simpa [Value.ownBlock] using hgg
        subst e3
        rw [hh] at ho2
        cases ho2
        cases hc
  case hAx =>
    rintro x a' _ W W' row ⟨Bx, h1, hb, ha⟩ hg hrow
    have hst : Stay (fun k => row = some k) W W' := Stay.of_grown hg (fun k _ e => e)
    refine ⟨Bx, h1, hst.blk hb (fun e => ?_), ha⟩
    obtain ⟨_, o, ho2, hc⟩ := hrow _ e
    unfold Blk at hb
    rw [hb] at ho2
    cases ho2
    cases hc
  case assign =>
    intro l pre x W K hi hK
    gi_wp2
    have hO : Only W (W.alloc (.cells #[.int .i64 x.id, .int .i64 x.due] 39)) := (Stay.refl _ W).alloc _
    have hzW := hi.2.1.size
    refine hK _ _ (KeepsFrom.of_stay hO (fun k _ h => h.elim)) (Kp.stay hO (fun k hk => ⟨?_, id⟩) (fun k _ h => h.elim)) ⟨?_, hi.2.1.trans' hO, Nat.le_trans hi.2.2 hO.size⟩ ⟨W.heap.size, hi.2.2, Blk.new W [_, _] _, rfl⟩
    · obtain ⟨v, hb, hr⟩ := hi.1
      subst hk
      exact hb.lt
    · obtain ⟨v, hb, hr⟩ := hi.1
      exact ⟨v, hb.alloc _, own_alloc hr _⟩
  case body =>
    intro l pre x a' W hl hloop _ _ hlen
    exact absurd hlen (Nat.not_lt_zero _)
  case done =>
    rintro D xs W hD rfl ⟨⟨v, hb, hr⟩, ho, hzz⟩ hK
    simp only [List.length_nil, List.flatMap_nil] at hr
    obtain ⟨A, c, rfl⟩ := own_shape hr
    have c0 := hb.cell 0
    simp only [List.getElem?_cons_zero] at c0
    have lb := hb.lt
    have HX := Lib.hid (And.intro hr ho)
    have hz := H2.out.2.2.2
    clear hr ho hb hzz
    go_wp2_with fail
    refine ⟨by simp, .inl ⟨_, _, rfl, run_takeDeferred hK, ?_⟩⟩
    have hg := grownBy_putObj' W D (.deferred none)
    have hst : Stay (fun k => k = D) W (W.putObj D (.deferred none)) := Stay.of_grown hg (fun k _ e => by cases e; rfl)
    refine ⟨_, results_tmp rfl _ _ _, _, rfl, ?_, HX.out.2.trans hst (fun k hk e => by omega)⟩
    have hr := HX.out.1
    refine own_stay hst (owns_base hr (by omega)) (fun g hgg e => ?_)
    subst e
    rcases hr.2 with ⟨h0, _⟩ | ⟨g', cap', cur, h0, _, hh, _⟩
    · rw [h0] at hgg
      simp [Value.ownBlock] at hgg
    · rw [h0] at hgg
      have e3 : g' = g := by simpa [Value.ownBlock] using hgg
      subst e3
      rw [hh] at hK
      cases hK
  case stop =>
    rintro D c pre W _ _ h _
    exact h.elim
end Go.Proofs.YtbkbcpnpbfnmgaaDoor
