/- ClockLoops walked. -/
import Derived.Test.YtbkbcpnpbfnmgaaDoorLoopsRep
import Derived.Test.YtbkbcpnpbfnmgaaDoorStillIn
import Derived.Deep.RegionHeld3
set_option linter.unusedVariables false
set_option linter.unusedSimpArgs false
namespace Go.Proofs.YtbkbcpnpbfnmgaaDoor
open Go Go.RowKit
attribute [local go_sem] Oper.semAt_some

theorem wrap_one (i : Nat) (h : i < 400) : wrap64 ((i : Int) + 1) = (i : Int) + 1 := IntWalk.wrap64_in _ ⟨by omega, by omega⟩
/-- What follows a loop over an iterator, once for both ways out of it. -/
theorem join_wp {P : Program} {c : Code} {Q : Exit → Go.Act → World → Prop} {a : Go.Act} {w : World} (R : Nat → World → Prop) (k : (∀ D W, R D W → Q .normal { a with defers := { target := .collected D, args := #[] } :: a.defers } W) → c.wp P Q a w) (h : ∀ D W, R D W → Q .normal { a with defers := { target := .collected D, args := #[] } :: a.defers } W) : c.wp P Q a w := k h
set_option maxRecDepth 100000 in
set_option maxHeartbeats 4000000 in
theorem clockLoops_any (w : World) (hT : Tab w) (A : Option Addr) (n ca : Nat) (ops : List KOp) (hl : Sl w w.heap.size A n ca 2 (ops.flatMap KOp.cells)) (hlen : ops.length = n) (x y : Int) (hx : (Lit.int .i64 x).wf = true) :
    Calls Tryd.prog 4 #[.slice A n ca, .int .i64 x, .int .i64 y] w fun e w' => e = .returned (.bool true) ∧ Only w w' := by
  have hma := fun (W : World) (ho : Only w W) => made_any W (hT.only ho) A n ca ops (hl.later ho ho.size) hlen
  obtain ⟨C, hC⟩ : ∃ C, C = Ck.new.runs (ops.take 60) := ⟨_, rfl⟩
  have hm60 : C.made ≤ 60 := by
    have h1 := (Ck.runs_ok (ops.take 60) Ck.new_ok (by have : (ops.take 60).length ≤ 60 := (by rw [List.length_take]; omega); simp [Ck.new, maxT]; omega)).2
    have : (ops.take 60).length ≤ 60 := by rw [List.length_take]; omega
    rw [hC]
    simp only [Ck.new] at h1 ⊢
    omega
  rw [← hC] at hma
  have HT0 := Lib.hid hT
  clear hl hlen hC
  have HM := Lib.hid hma
  clear hma
  refine (callsIn_wide (n := 5)).1 (callsIn_of_wp_marks Tryd.func4 rfl trivial ?_ rfl)
  simp only [Tryd.ntmps4, List.size_toArray, List.length_cons, List.length_nil, Nat.reduceAdd, Nat.reduceSub, Array.replicate_succ, Array.replicate_zero, List.push_toArray, List.append_toArray, List.nil_append, List.cons_append]
  refine wpIn_wide.2 ?_
  go_wp2_with fail
  refine (HM.out _ (((Stay.refl _ w).alloc _).alloc _)).mono ?_
  clear HM
  rintro e w1 ⟨b, S1, rfl, hOC1⟩
  have hs4 := hOC1.only.blk ((Blk.new w [.int .i64 x] 3).alloc (.cells #[.bool false] 4))
  have hr6 := hOC1.only.blk (Blk.newAt (w.alloc (.cells #[.int .i64 x] 3)) [.bool false] 4 (w.heap.size + 1) (by simp))
  have hO1 : Only w w1 := (show Only w ((w.alloc (.cells #[.int .i64 x] 3)).alloc (.cells #[.bool false] 4)) from ((Stay.refl _ w).alloc _).alloc _).trans' hOC1.only
  obtain ⟨q7, hq7⟩ : ∃ q7, q7 = w1.heap.size := ⟨_, rfl⟩
  obtain ⟨wa, hwa⟩ : ∃ wa, wa = w1.alloc (.cells #[.pointer (some ⟨b, 0, none⟩)] 22) := ⟨_, rfl⟩
  have hoa : Only w1 wa := by rw [hwa]; exact (Stay.refl _ w1).alloc _
  have h7 : Blk wa q7 22 [.pointer (some ⟨b, 0, none⟩)] := by rw [hwa, hq7]; exact Blk.new w1 [_] _
  have H1 := Lib.hid (And.intro (hOC1.then hoa) (And.intro (hoa.blk hs4) (And.intro (hoa.blk hr6) (And.intro h7 (And.intro (hO1.trans' hoa) (And.intro hwa hq7))))))
  have c7 := h7.cell
  have l7 := h7.lt
  have hSlt : ∀ k, S1 k → w.heap.size + 2 ≤ k ∧ k < q7 := fun k hk => ⟨by have := hOC1.ge k hk; simpa using this, by rw [hq7]; exact hOC1.ck.lt hk⟩
  have HS := Lib.hid hSlt
  clear hs4 hr6 hO1 hOC1 h7 hwa hoa hSlt hq7
  go_upto_region 2 with fail
  rw [← H1.out.2.2.2.2.2.1, ← H1.out.2.2.2.2.2.2]
  go_wp2_with fail
  refine (lall_any H1.out.1.ck).mono ?_
  rintro e w2 ⟨v2, rfl, hr2, hO2⟩
  obtain ⟨Aw, cw, rfl⟩ := own_shape hr2
  obtain ⟨nn, hnn⟩ : ∃ nn, nn = C.all.length := ⟨_, rfl⟩
  have hn4 : nn ≤ 400 := by rw [hnn]; exact all_len H1.out.1.ck.ok
  rw [← hnn] at hr2 ⊢
  obtain ⟨k, hk⟩ : ∃ k : Nat, k = (x % 18446744073709551616 % 20).toNat := ⟨_, rfl⟩
  have e19 : wrap64 ((IntKind.u64.wrap x).tmod 20) = (k : Int) := by
    rw [IntKind.wrap_u64, Int.tmod_eq_emod_of_nonneg (by omega), IntWalk.wrap64_in _ ⟨by omega, by omega⟩]
    omega
  have hk20 : k < 20 := by omega
  have hs4 := hO2.blk H1.out.2.1
  have c4 := hs4.cell
  have l4 := hs4.lt
  have f4 := hs4.free
  have H2 := Lib.hid (And.intro (H1.out.1.then hO2) (And.intro hs4 (And.intro (hO2.blk H1.out.2.2.1) (And.intro (hO2.blk H1.out.2.2.2.1) (And.intro hr2 (And.intro (H1.out.2.2.2.2.1.trans' hO2) hnn))))))
  clear hs4 hO2 hr2 hnn hk c7 l7
  go_upto_region 5 with fail
  rw [e19]
  obtain ⟨q8, hq8⟩ : ∃ q8, q8 = w2.heap.size := ⟨_, rfl⟩
  obtain ⟨q9, hq9⟩ : ∃ q9, q9 = w2.heap.size + 1 := ⟨_, rfl⟩
  obtain ⟨W3, hW3⟩ : ∃ W3, W3 = ((w2.setCell ⟨w.heap.size, 0, none⟩ (.int .i64 k)).alloc (.cells #[.slice Aw nn cw] 29)).alloc (.cells #[.int .i64 0] 3) := ⟨_, rfl⟩
  have hn6 := blk_ne H2.out.2.1 H2.out.2.2.1 (by decide)
  have hn7 := blk_ne H2.out.2.1 H2.out.2.2.2.1 (by decide)
  have hnr := own_ne_blk H2.out.2.2.2.2.1 H2.out.2.1 (by decide)
  have hB7 : Blk W3 q7 22 [.pointer (some ⟨b, 0, none⟩)] := by rw [hW3]; exact ((H2.out.2.2.2.1.set_other hn7 _).alloc _).alloc _
  have hLB : ∀ W, Only W3 W → Blk W W3.heap.size 22 [.pointer (some ⟨b, 0, none⟩)] → LB w W q7 q8 q9 W3.heap.size b k 0 Aw cw nn wa.heap.size C.all := fun W ho hb => by
    refine ⟨ho.blk ?_, ho.blk ?_, ho.blk hB7, ho.blk ?_, ho.blk ?_, hb, own_only ho ?_, by have := H2.out.2.1.lt; omega⟩
    · rw [hW3]; exact ((H2.out.2.1.set 0 (.int .i64 k)).alloc _).alloc _
    · rw [hW3]; exact ((H2.out.2.2.1.set_other hn6 _).alloc _).alloc _
    · rw [hW3]; exact (Blk.newAt _ [.slice Aw nn cw] _ _ (by rw [hq8]; simp)).alloc _
    · rw [hW3]; exact Blk.newAt _ [.int .i64 ((0 : Nat) : Int)] _ _ (by rw [hq9]; simp)
    · rw [hW3]; exact own_alloc (own_alloc (own_set H2.out.2.2.2.2.1 _ hnr) _) _
  have hst3 : Stay (fun j => j = w.heap.size) w2 W3 := by
    rw [hW3]
    exact (((Stay.refl (fun j => j = w.heap.size) w2).put rfl _ _).alloc _).alloc _
  have hO3 : Only w W3 := H2.out.2.2.2.2.2.1.trans hst3 (fun j hj e => by omega)
  obtain ⟨m, T0, hE0, hT0⟩ := H2.out.1.ck.exact
  obtain ⟨T, hE, hTT⟩ := hE0.stay hst3 (fun j e hj => by have := (HS.out j (hT0 j hj)).1; omega)
  have hTq : ∀ j, T j → w.heap.size + 2 ≤ j ∧ j < q7 := fun j hj => HS.out j (hT0 j (hTT j hj))
  have hoff : ∀ j, T j → ¬ LBS w q7 q8 q9 W3.heap.size Aw cw nn j := fun j hj hl => by
    have h1 := hTq j hj
    have h7 := H2.out.2.2.2.1.lt
    have h8 := hB7.lt
    rcases hl with e | e | e | e | e | e | e
    · omega
    · omega
    · omega
    · omega
    · omega
    · omega
    · have h2 := (own_lt H2.out.2.2.2.2.1 j e).1
      have := H1.out.2.2.2.1.lt
      omega
  have hmW : m < W3.heap.size := hE.at_.lt (hE.inw m (.inr ⟨b, 457, _, rfl, hE.mp, .inr rfl⟩))
  have hTw : Tab W3 := hT.only hO3
  have hTm : ∀ j, T j → w.heap.size ≤ j := fun j hj => by have := (hTq j hj).1; omega
  rw [← hW3, ← hq9, ← hq8]
  have H3 := Lib.hid (And.intro hLB (And.intro hO3 (And.intro hE (And.intro hoff (And.intro hmW (And.intro hTw hTm))))))
  have c7 := hB7.cell
  have l7 := hB7.lt
  clear hLB hB7 hTq hst3 hO3 hE hoff hmW hTw hTm hE0 hT0 hTT hn6 hn7 hnr hW3 hq8 hq9 c4 l4 f4 e19 hx hT
  go_wp2_with fail
  refine (all_any _ _).mono ?_
  rintro e w4 ⟨rfl, hw4⟩
  have hX4 : Blk w4 W3.heap.size 22 [.pointer (some ⟨b, 0, none⟩)] := by rw [hw4]; exact Blk.new W3 [_] _
  have hO4 : Only W3 w4 := by rw [hw4]; exact (Stay.refl _ W3).alloc _
  have hLB4 := H3.out.1 w4 hO4 hX4
  obtain ⟨T4, hE4, hT4⟩ := H3.out.2.2.1.stay hO4 (fun j h => h.elim)
  obtain ⟨qb, hqb⟩ : ∃ qb, qb = W3.heap.size := ⟨_, rfl⟩
  have hoff4 : ∀ j, T4 j → ¬ LBS w q7 q8 q9 W3.heap.size Aw cw nn j := fun j hj => H3.out.2.2.2.1 j (hT4 j hj)
  have hmW := H3.out.2.2.2.2.1
  have hz4 := hO4.size
  rw [← hqb] at hLB4 hoff4 hmW hz4 ⊢
  have H4 := Lib.hid (And.intro hLB4 (And.intro (H3.out.2.1.trans' hO4) (And.intro hE4 (And.intro hoff4 (And.intro (Nat.lt_of_lt_of_le hmW hz4) (And.intro (fun j hj => H3.out.2.2.2.2.2.2 j (hT4 j hj)) H2.out.2.2.2.2.2.2))))))
  clear hw4 hX4 hO4 hqb c7 l7 hLB4 hE4 hT4 hoff4 hmW hz4
  go_wp2_with fail
  obtain ⟨L, hL⟩ : ∃ L, L = C.all := ⟨_, rfl⟩
  have hck4 := H4.out.2.2.1.at_
  have hb4 := H4.out.1.b9
  have hbx4 := H4.out.1.b10.cell 0
  simp only [List.getElem?_cons_zero] at hbx4
  refine join_wp (fun D W => ∃ seen T', seen = min nn (k + 1) ∧ LB w W q7 q8 q9 qb b k seen Aw cw nn wa.heap.size C.all ∧ Exact W b C m T' ∧ (∀ j, T' j → ¬ LBS w q7 q8 q9 qb Aw cw nn j) ∧ (∀ j, T' j → w.heap.size ≤ j) ∧ Only w W ∧ w4.heap.size ≤ D ∧ w4.heap.size ≤ W.heap.size ∧ W.heap[D]? = some (.deferred (some []))) ?_ ?_
  · intro hjoin
    refine (wpIn_wide (n := 5)).1 ?_
    refine wpIn_rangeFunc_ownH rfl (by omega) (gf := 33) (lb := #[.pointer (some ⟨qb, 0, none⟩)]) rfl trivial (enters_of Tryd.func33 (by kernel_rfl) rfl)
      (alls_stops hck4 hbx4 (fun j => j = q9 ∨ j = b) (fun j hj => by rcases (H4.out.2.2.1.reach hb4 j).1 hj with rfl | h; exact hb4.lt; exact hck4.lt h) 4) (fun h k => h.trans k) (kp_b (fun j hj => by rcases hj with rfl | rfl; exact hb4.lt; exact hck4.lt hck4.inb)) (Below.refl _ _) (fun _ => rfl)
      (fun pre W => pre <+: C.all ∧ pre.length ≤ k ∧ LB w W q7 q8 q9 qb b k pre.length Aw cw nn wa.heap.size C.all ∧ (∃ T', Exact W b C m T' ∧ (∀ j, T' j → ¬ LBS w q7 q8 q9 qb Aw cw nn j) ∧ (∀ j, T' j → w.heap.size ≤ j)) ∧ Only w W ∧ w4.heap.size ≤ W.heap.size)
      (fun c pre W => (c = .ret ∧ ¬ pre <+: C.all) ∨ (c = .exit 0 ∧ pre.length = k + 1 ∧ LB w W q7 q8 q9 qb b k (k + 1) Aw cw nn wa.heap.size C.all ∧ (∃ T', Exact W b C m T' ∧ (∀ j, T' j → ¬ LBS w q7 q8 q9 qb Aw cw nn j) ∧ (∀ j, T' j → w.heap.size ≤ j)) ∧ Only w W ∧ w4.heap.size ≤ W.heap.size))
      ?hI ?hIx ⟨List.nil_prefix, Nat.zero_le _, H4.out.1, ⟨_, H4.out.2.2.1, H4.out.2.2.2.1, H4.out.2.2.2.2.2.1⟩, H4.out.2.1, Nat.le_refl _⟩
      (fun tt a' W => ∃ Bx, w4.heap.size ≤ Bx ∧ Blk W Bx 39 tt.cells ∧ a' = { tmps := #[.slice A n ca, .int .i64 x, .int .i64 y, undef, .pointer (some ⟨w.heap.size, 0, none⟩), undef, .pointer (some ⟨w.heap.size + 1, 0, none⟩), .pointer (some ⟨q7, 0, none⟩), .pointer (some ⟨q8, 0, none⟩), .pointer (some ⟨q9, 0, none⟩),
        .func (.func 33) #[] #[.pointer (some ⟨qb, 0, none⟩)], .pointer (some ⟨Bx, 0, none⟩), undef, .slice A n ca, .pointer (some ⟨b, 0, none⟩), .pointer (some ⟨b, 0, none⟩), .slice Aw nn cw, .int .i64 x, .int .u64 (IntKind.u64.wrap x), .int .u64 ((IntKind.u64.wrap x).tmod 20), .int .i64 k, .pointer (some ⟨b, 0, none⟩),
        .func (.func 33) #[] #[.pointer (some ⟨qb, 0, none⟩)], .func (.func 33) #[] #[.pointer (some ⟨qb, 0, none⟩)], .agg #[.int .i64 tt.id, .int .i64 tt.due], undef, undef, undef, undef, undef, undef, undef, undef, undef, undef, undef, undef, undef, undef, undef, undef, undef, undef, undef, undef, undef, undef, undef, undef, undef, undef, undef, undef, undef, undef, undef, undef, undef, undef, undef, undef, undef, undef, undef, undef, undef, undef, undef, undef, undef, undef, undef, undef, undef, undef, undef, undef, undef, undef, undef, undef, undef, undef, undef, undef, undef, undef, undef, undef, undef], defers := [] }) ?hAx ?assign ?body ?done ?stop
    case hI =>
      rintro pre W W' row ⟨hp, hk, hlb, ⟨T', hE, ho, hw⟩, hO, hz⟩ hg hrow
      obtain ⟨T2, hE2, hT2⟩ := hE.turned hg H4.out.2.2.2.2.1 hrow
      exact ⟨hp, hk, hlb.grown hg (fun r e => (hrow r e).2), ⟨T2, hE2, fun j hj => ho j (hT2 j hj), fun j hj => hw j (hT2 j hj)⟩, hO.grownBy hg (fun r e => Nat.le_trans H4.out.2.1.size (hrow r e).1), Nat.le_trans hz hg.size⟩
    case hIx =>
      rintro c pre W W' row (h | ⟨hc, hk, hlb, ⟨T', hE, ho, hw⟩, hO, hz⟩) hg hrow
      · exact .inl h
      · obtain ⟨T2, hE2, hT2⟩ := hE.turned hg H4.out.2.2.2.2.1 hrow
        exact .inr ⟨hc, hk, hlb.grown hg (fun r e => (hrow r e).2), ⟨T2, hE2, fun j hj => ho j (hT2 j hj), fun j hj => hw j (hT2 j hj)⟩, hO.grownBy hg (fun r e => Nat.le_trans H4.out.2.1.size (hrow r e).1), Nat.le_trans hz hg.size⟩
    case hAx =>
      rintro tt a' _ W W' row ⟨Bx, h1, hb, ha⟩ hg hrow
      have hst : Stay (fun k => row = some k) W W' := Stay.of_grown hg (fun k _ e => e)
      refine ⟨Bx, h1, hst.blk hb (fun e => ?_), ha⟩
      obtain ⟨_, o, ho2, hc⟩ := hrow _ e
      unfold Blk at hb
      rw [hb] at ho2
      cases ho2
      cases hc
    case assign =>
      intro l pre tt W K hi hK
      gi_wp2
      have hO : Only W (W.alloc (.cells #[.int .i64 tt.id, .int .i64 tt.due] 39)) := (Stay.refl _ W).alloc _
      obtain ⟨hp, hk, hlb, ⟨T', hE, ho, hw⟩, hO', hz⟩ := hi
      obtain ⟨T2, hE2, hT2⟩ := hE.stay hO (fun j h => h.elim)
      refine hK _ _ (KeepsFrom.of_stay hO (fun k _ h => h.elim)) (hE.kp hlb.b9 (hlb.only hO).b9 hE2.at_ (fun j hj => .inl (hT2 j hj)) (hO.mono (fun _ _ h => h.elim))) ⟨hp, hk, hlb.only hO, ⟨T2, hE2, fun j hj => ho j (hT2 j hj), fun j hj => hw j (hT2 j hj)⟩, hO'.trans' hO, Nat.le_trans hz hO.size⟩ ⟨W.heap.size, hz, Blk.new W [_, _] _, rfl⟩
    case done =>
      rintro D xs W hD rfl ⟨hp, hk, hlb, ⟨T', hE, ho, hw⟩, hO, hz⟩ hdef
      refine hjoin D W ⟨nn, T', by rw [H4.out.2.2.2.2.2.2]; omega, by rw [← H4.out.2.2.2.2.2.2] at hlb; exact hlb, hE, ho, hw, hO, hD, hz, hdef⟩
    case stop =>
      rintro D c pre W hD hpre (⟨rfl, h⟩ | ⟨rfl, hk, hlb, ⟨T', hE, ho, hw⟩, hO, hz⟩) hdef
      · exact absurd hpre h
      · have hle : k + 1 ≤ nn := by rw [← hk, H4.out.2.2.2.2.2.2]; exact hpre.length_le
        exact wpIn_exit (hjoin D W ⟨k + 1, T', by omega, hlb, hE, ho, hw, hO, hD, hz, hdef⟩)
    case body =>
      rintro l pre tt a' W hl hloop ⟨hp, hk, hlb, ⟨T', hE, ho, hw⟩, hO, hzz⟩ ⟨Bx, hBx, hbx, rfl⟩ hlen
      obtain ⟨i, hi⟩ : ∃ i, i = pre.length := ⟨_, rfl⟩
      have hin : i < nn := by rw [hi, H4.out.2.2.2.2.2.2]; exact hlen
      obtain ⟨s, hs⟩ : ∃ s, C.all[i]? = some s := ⟨_, List.getElem?_eq_getElem (by have := H4.out.2.2.2.2.2.2; omega)⟩
      have hmore : (pre ++ [tt] <+: C.all) ↔ tt = s := by
        obtain ⟨suf, hsuf⟩ := hp
        have hs' : C.all[i]? = suf[0]? := by rw [← hsuf, hi, List.getElem?_append_right (Nat.le_refl _), Nat.sub_self]
        rw [hs] at hs'
        cases suf with
        | nil => simp at hs'
        | cons a suf =>
          simp at hs'
          subst hs'
          rw [← hsuf]
          constructor
          · intro h
            have h2 := (List.prefix_append_right_inj pre).1 h
            exact (List.cons_prefix_cons.1 h2).1
          · rintro rfl
            exact (List.prefix_append_right_inj pre).2 ⟨suf, rfl⟩
      obtain ⟨g, c3, e1, _, hg⟩ := hlb.row.form (by omega)
      have e1' : Aw = some ⟨g, 0, none⟩ ∧ cw = c3 := by simpa using e1
      obtain ⟨rfl, rfl⟩ := e1'
      obtain ⟨z0, z1⟩ := row_cells (owns_base hlb.row (Nat.zero_le _)) H4.out.2.2.2.2.2.2.symm hs
      rw [← hi] at hlb hk
      have x0 := hbx.cell 0
      have x1 := hbx.cell 1
      have c9 := hlb.b9.cell 0
      have c8 := hlb.b8.cell 0
      have c4 := hlb.b4.cell 0
      simp only [List.getElem?_cons_zero, List.getElem?_cons_succ, Tm.cells] at c9 c8 c4 x0 x1
      have l9 := hlb.b9.lt
      have l8 := hlb.b8.lt
      have l4 := hlb.b4.lt
      have lx := hbx.lt
      have f9 := hlb.b9.free 0
      have u0 : (0 : Int) ≤ (i : Int) := by omega
      have u1 : (i : Int) < (nn : Int) := by omega
      have u2 : ¬ (i : Int) ≥ (nn : Int) := by omega
      have u3 : decide ((i : Int) ≥ (nn : Int)) = false := decide_eq_false u2
      have u4 : ¬ nn ≤ i := Nat.not_le.2 hin
      have u5 : decide (nn ≤ i) = false := decide_eq_false u4
      have HX := Lib.hid (And.intro hlb (And.intro hk (And.intro hE (And.intro ho (And.intro hw (And.intro hO (And.intro hzz (And.intro hbx (And.intro hi hmore)))))))))
      by_cases hts : tt = s
      · subst hts
        obtain ⟨ti, td⟩ := tt
        simp only at x0 x1 z0 z1
        clear hp hlb hk hE ho hw hO hzz hbx hi hmore hl hloop hlen hs e1 hg
        gi_wp2
        have w10h : Hid (wrap64 ((i : Int) + 1) = (i : Int) + 1) := Lib.hid (wrap_one i (Nat.lt_of_lt_of_le hin hn4))
        have hput := (HX.out.1.only ((Stay.refl _ W).drew)).put9 (i + 1)
        have hstp : Stay (fun j => j = q9) W (W.drew.setCell ⟨q9, 0, none⟩ (.int .i64 ((i + 1 : Nat) : Int))) := ((Stay.refl (fun j => j = q9) W).drew).put rfl _ _
        obtain ⟨T2, hE2, hT2⟩ := HX.out.2.2.1.stay hstp (fun j e hj => HX.out.2.2.2.1 j hj (.inr (.inr (.inr (.inr (.inl e))))))
        have hkf : KeepsFrom w4.heap.size W (W.drew.setCell ⟨q9, 0, none⟩ (.int .i64 ((i + 1 : Nat) : Int))) := KeepsFrom.of_stay hstp (fun j _ e => by subst e; exact ⟨_, HX.out.1.b9, rfl⟩)
        have hkp : Kp (fun j => j = q9 ∨ j = b) W (W.drew.setCell ⟨q9, 0, none⟩ (.int .i64 ((i + 1 : Nat) : Int))) := HX.out.2.2.1.kp HX.out.1.b9 hput.b9 hE2.at_ (fun j hj => .inl (hT2 j hj)) (hstp.mono (fun _ _ e => .inr e))
        have hq9w : w.heap.size ≤ q9 := Nat.le_of_lt HX.out.1.ne
        have hOs : Only w (W.drew.setCell ⟨q9, 0, none⟩ (.int .i64 ((i + 1 : Nat) : Int))) := HX.out.2.2.2.2.2.1.trans hstp (fun j hj e => absurd (show q9 < w.heap.size by rw [← e]; exact hj) (Nat.not_lt.2 hq9w))
        have HF := Lib.hid (And.intro hput (And.intro hE2 (And.intro hT2 (And.intro hkf (And.intro hkp (And.intro hOs hstp.size))))))
        clear hput hstp hE2 hT2 hkf hkp hOs hq9w hjoin
        by_cases hik : i + 1 > k
        · have b1 : (i : Int) + 1 > (k : Int) := by omega
          have b2 : decide ((i : Int) + 1 > (k : Int)) = true := decide_eq_true b1
          have b3 : k < i + 1 := hik
          have b4 : decide (k < i + 1) = true := decide_eq_true b3
          have w10 := w10h.out
          clear hik
          refine wpIn_region_still (by kernel_rfl) (by kernel_rfl) (by kernel_rfl) ?_
          iterate 12 still_step
          refine wpStill_nil ?_
          obtain ⟨Wd, hWd⟩ : ∃ Wd, Wd = W.drew := ⟨_, rfl⟩
          rw [← hWd] at HF ⊢
          have d9 : Wd.cell? ⟨q9, 0, none⟩ = some (.int .i64 i) := by rw [hWd]; exact c9
          have d4 : Wd.cell? ⟨w.heap.size, 0, none⟩ = some (.int .i64 k) := by rw [hWd]; exact c4
          have m9 : q9 < Wd.heap.size := by rw [hWd]; exact l9
          have m4 : w.heap.size < Wd.heap.size := by rw [hWd]; exact l4
          have g9 : Wd.frozen? ⟨q9, 0, none⟩ = false := by rw [hWd]; exact f9
          have d4' : (Wd.setCell ⟨q9, 0, none⟩ (.int .i64 ((i : Int) + 1))).cell? ⟨w.heap.size, 0, none⟩ = some (.int .i64 k) := cell_off d4 (Nat.ne_of_gt HX.out.1.ne)
          clear hWd c9 c8 c4 l9 l8 l4 lx f9 x0 x1 z0 z1
          gi_wp2
          have hik : i = k := Nat.le_antisymm HX.out.2.1 (Nat.lt_succ_iff.1 b3)
          refine ⟨HF.out.2.2.2.1, .inr ⟨rfl, by rw [List.length_append, ← HX.out.2.2.2.2.2.2.2.2.1, hik]; rfl, by have := HF.out.1; rw [hik] at this ⊢; exact this, ⟨T2, HF.out.2.1, fun j hj => HX.out.2.2.2.1 j (HF.out.2.2.1 j hj), fun j hj => HX.out.2.2.2.2.1 j (HF.out.2.2.1 j hj)⟩, HF.out.2.2.2.2.2.1, Nat.le_trans HX.out.2.2.2.2.2.2.1 HF.out.2.2.2.2.2.2⟩⟩
        · have b1 : ¬ (i : Int) + 1 > (k : Int) := by omega
          have b2 : decide ((i : Int) + 1 > (k : Int)) = false := decide_eq_false b1
          have b3 : ¬ k < i + 1 := hik
          have b4 : decide (k < i + 1) = false := decide_eq_false b3
          have w10 := w10h.out
          clear hik
          refine wpIn_region_still (by kernel_rfl) (by kernel_rfl) (by kernel_rfl) ?_
          iterate 12 still_step
          refine wpStill_nil ?_
          obtain ⟨Wd, hWd⟩ : ∃ Wd, Wd = W.drew := ⟨_, rfl⟩
          rw [← hWd] at HF ⊢
          have d9 : Wd.cell? ⟨q9, 0, none⟩ = some (.int .i64 i) := by rw [hWd]; exact c9
          have d4 : Wd.cell? ⟨w.heap.size, 0, none⟩ = some (.int .i64 k) := by rw [hWd]; exact c4
          have m9 : q9 < Wd.heap.size := by rw [hWd]; exact l9
          have m4 : w.heap.size < Wd.heap.size := by rw [hWd]; exact l4
          have g9 : Wd.frozen? ⟨q9, 0, none⟩ = false := by rw [hWd]; exact f9
          have d4' : (Wd.setCell ⟨q9, 0, none⟩ (.int .i64 ((i : Int) + 1))).cell? ⟨w.heap.size, 0, none⟩ = some (.int .i64 k) := cell_off d4 (Nat.ne_of_gt HX.out.1.ne)
          clear hWd c9 c8 c4 l9 l8 l4 lx f9 x0 x1 z0 z1
          gi_wp2
          have hl1 : (pre ++ [(⟨ti, td⟩ : Tm)]).length = i + 1 := by rw [List.length_append, ← HX.out.2.2.2.2.2.2.2.2.1]; rfl
          refine ⟨HF.out.2.2.2.1, HF.out.2.2.2.2.1, (by first | exact HX.out.2.2.2.2.2.2.2.2.2.2 rfl | exact HX.out.2.2.2.2.2.2.2.2.2.2 trivial), by rw [hl1]; exact Nat.not_lt.1 b3, by rw [hl1]; exact HF.out.1, ⟨T2, HF.out.2.1, fun j hj => HX.out.2.2.2.1 j (HF.out.2.2.1 j hj), fun j hj => HX.out.2.2.2.2.1 j (HF.out.2.2.1 j hj)⟩, HF.out.2.2.2.2.2.1, Nat.le_trans HX.out.2.2.2.2.2.2.1 HF.out.2.2.2.2.2.2⟩
      · have hno : ¬ pre ++ [tt] <+: C.all := fun h => hts (HX.out.2.2.2.2.2.2.2.2.2.1 h)
        have hkf : ∀ (Wd : World), Wd = W.drew → KeepsFrom w4.heap.size W (Wd.setCell ⟨w.heap.size + 1, 0, none⟩ (.bool false)) := fun Wd e => by
          subst e
          exact KeepsFrom.of_stay (((Stay.refl (fun j => j = w.heap.size + 1) W).drew).put rfl _ _) (fun j _ e => by subst e; exact ⟨_, HX.out.1.b6, rfl⟩)
        have HB := Lib.hid (And.intro hno hkf)
        have l6 := hlb.b6.lt
        have f6 := hlb.b6.free 0
        have c6 := hlb.b6.cell 0
        simp only [List.getElem?_cons_zero] at c6
        have key := Tm.parts hts
        obtain ⟨ti, td⟩ := tt
        obtain ⟨si, sd⟩ := s
        simp only at x0 x1 z0 z1 key
        clear hp hlb hk hE ho hw hO hzz hbx hi hmore hl hloop hlen hs e1 hg hts hno hkf hjoin c4 l4 f9
        rcases key with q1 | ⟨q0, q1⟩
        all_goals
          have q2 := q1
          simp only [Int.natCast_inj] at q2
          gi_wp2
          refine wpIn_region_still (by kernel_rfl) (by kernel_rfl) (by kernel_rfl) ?_
          iterate 12 still_step
          refine wpStill_nil ?_
          obtain ⟨Wd, hWd⟩ : ∃ Wd, Wd = W.drew := ⟨_, rfl⟩
          rw [← hWd]
          have m6 : w.heap.size + 1 < Wd.heap.size := by rw [hWd]; exact l6
          have g6 : Wd.frozen? ⟨w.heap.size + 1, 0, none⟩ = false := by rw [hWd]; exact f6
          have d6 : Wd.cell? ⟨w.heap.size + 1, 0, none⟩ = some (.bool false) := by rw [hWd]; exact c6
          have HK := Lib.hid (HB.out.2 Wd hWd)
          clear hWd c9 c8 l9 l8 lx x0 x1 z0 z1 l6 f6 c6
          gi_wp2
          exact ⟨HK.out, .inl ⟨rfl, HB.out.1⟩⟩
  · intro D W hJ
    obtain ⟨seen, T', hseen, hlb, hE, ho, hw, hO, hD, hz, hdef⟩ := hJ
    have c9 := hlb.b9.cell 0
    have c8 := hlb.b8.cell 0
    have c4 := hlb.b4.cell 0
    have c7 := hlb.b7.cell 0
    simp only [List.getElem?_cons_zero] at c9 c8 c4 c7
    have l9 := hlb.b9.lt
    have l8 := hlb.b8.lt
    have l4 := hlb.b4.lt
    have l7 := hlb.b7.lt
    have hks : (k : Int) ≤ 1000 := by clear hseen; omega
    have e1 : min (nn : Int) ((k : Int) + 1) = (seen : Int) := by rw [hseen]; clear hks; omega
    have e2 : IntKind.i64.wrap ((k : Int) + 1) = (k : Int) + 1 := by
      have : (k : Int) + 1 = ((k + 1 : Nat) : Int) := rfl
      rw [this]
      exact IntWalk.i64_in _ ⟨by omega, by omega⟩
    have e3 : ((seen : Int) != (seen : Int)) = false := by simp
    have hall : ∀ W', Only W W' → Calls Tryd.prog 14 #[.pointer (some ⟨b, 0, none⟩)] W' fun e w' => ∃ v, e = .returned v ∧ w'.ownsRow W'.heap.size 39 2 v nn (C.all.flatMap Tm.cells) ∧ Only W' w' := fun W' h => by
      have := lall_any (hE.at_.only h)
      rw [← H4.out.2.2.2.2.2.2] at this
      exact this
    have heq : ∀ W' v B', Only W W' → W'.ownsRow B' 39 2 v nn (C.all.flatMap Tm.cells) → Calls Tryd.prog 18 #[v, .slice Aw nn cw] W' fun e w' => e = .returned (.bool true) ∧ Only W' w' := fun W' v B' h hv => by
      have := eqT_own (w := W') (xs := C.all) (ys := C.all) (v := v) (u := .slice Aw nn cw) (base := B') (base' := wa.heap.size) (by rw [← H4.out.2.2.2.2.2.2]; exact hv) (by rw [← H4.out.2.2.2.2.2.2]; exact own_only h hlb.row)
      rw [decide_eq_true (rfl : C.all = C.all)] at this
      exact this
    have HW := Lib.hid (And.intro hlb (And.intro hE (And.intro ho (And.intro hw (And.intro hO (And.intro hD (And.intro hz (And.intro hdef (And.intro hall heq)))))))))
    clear hlb hE ho hw hO hD hz hdef hall heq hseen hks
    go_wp2_with fail
    have hOd : Only W W.drew := (Stay.refl _ W).drew
    go_region_held3 (fun w' => w'.cell? ⟨q9, 0, none⟩ = some (.int .i64 seen) ∧ w'.cell? ⟨q8, 0, none⟩ = some (.slice Aw nn cw) ∧ w'.cell? ⟨w.heap.size, 0, none⟩ = some (.int .i64 k) ∧ w'.cell? ⟨q7, 0, none⟩ = some (.pointer (some ⟨b, 0, none⟩)))
      (first
        | go_keep
        | (go_split_ands; refine ⟨?_, ?_, ?_, ?_⟩ <;> (first | (apply Only.cell o6; assumption) | (apply Only.cell o5; assumption))))
      (first
        | (go_at_call 14; refine (HW.out.2.2.2.2.2.2.2.2.1 _ hOd).mono ?_; rintro e w5 ⟨v5, rfl, hr5, o5⟩; obtain ⟨A5, c5, rfl⟩ := own_shape hr5)
        | (go_at_call 18; refine (HW.out.2.2.2.2.2.2.2.2.2 _ _ _ (hOd.trans' o5) hr5).mono ?_; rintro e w6 ⟨rfl, o6⟩))
    have hO6 : Only W w6 := (hOd.trans' o5).trans' o6
    have hlb6 := HW.out.1.only hO6
    obtain ⟨T6, hE6, hT6⟩ := HW.out.2.1.stay hO6 (fun j h => h.elim)
    have hdef6 : w6.heap[D]? = some (.deferred (some [])) := (hO6.block D (Array.getElem?_eq_some_iff.1 HW.out.2.2.2.2.2.2.2.1).1 id).trans HW.out.2.2.2.2.2.2.2.1
    have c9a := hlb6.b9.cell 0
    simp only [List.getElem?_cons_zero] at c9a
    have l9a := hlb6.b9.lt
    have f9a := hlb6.b9.free 0
    have H6 := Lib.hid (And.intro hlb6 (And.intro hE6 (And.intro hT6 (And.intro hdef6 hO6))))
    clear hlb6 hE6 hT6 hdef6 hO6 o5 o6 hr5 c9 c8 c4 c7 l9 l8 l4 l7 e1 e2 e3 hOd
    go_wp2_with fail
    obtain ⟨W5, hW5⟩ : ∃ W5, W5 = w6.setCell ⟨q9, 0, none⟩ (.int .i64 0) := ⟨_, rfl⟩
    have hst5 : Stay (fun j => j = q9) w6 W5 := by rw [hW5]; exact (Stay.refl (fun j => j = q9) w6).put rfl _ _
    have hlb5 : LB w W5 q7 q8 q9 qb b k 0 Aw cw nn wa.heap.size C.all := by rw [hW5]; exact H6.out.1.put9 0
    have hq9w : w.heap.size ≤ q9 := Nat.le_of_lt H6.out.1.ne
    have hoff6 : ∀ j, T6 j → ¬ LBS w q7 q8 q9 qb Aw cw nn j := fun j hj => HW.out.2.2.1 j (H6.out.2.2.1 j hj)
    obtain ⟨T5, hE5, hT5⟩ := H6.out.2.1.stay hst5 (fun j e hj => hoff6 j hj (.inr (.inr (.inr (.inr (.inl e))))))
    have hO5 : Only w W5 := (HW.out.2.2.2.2.1.trans' H6.out.2.2.2.2).trans hst5 (fun j hj e => absurd (show q9 < w.heap.size by rw [← e]; exact hj) (Nat.not_lt.2 hq9w))
    have hDq : D ≠ q9 := fun e => by
      have h1 := H6.out.2.2.2.1
      rw [e] at h1
      have h2 := H6.out.1.b9
      unfold Blk at h2
      rw [h2] at h1
      cases h1
    have hdef5 : W5.heap[D]? = some (.deferred (some [])) := (hst5.block D (Array.getElem?_eq_some_iff.1 H6.out.2.2.2.1).1 hDq).trans H6.out.2.2.2.1
    have hoff5 : ∀ j, T5 j → ¬ LBS w q7 q8 q9 qb Aw cw nn j := fun j hj => hoff6 j (hT5 j hj)
    have hTm5 : ∀ j, T5 j → w.heap.size ≤ j := fun j hj => HW.out.2.2.2.1 j (H6.out.2.2.1 j (hT5 j hj))
    have hDlt : D < W5.heap.size := (Array.getElem?_eq_some_iff.1 hdef5).1
    have hmW5 : m < W5.heap.size := hE5.at_.lt (hE5.inw m (.inr ⟨b, 457, _, rfl, hE5.mp, .inr rfl⟩))
    rw [← hW5]
    have H5 := Lib.hid (And.intro hlb5 (And.intro hE5 (And.intro hoff5 (And.intro hTm5 (And.intro hO5 (And.intro hdef5 (And.intro hDlt hmW5)))))))
    have hck5 := hE5.at_
    have hb5 := hlb5.b9
    have hbx5 := hlb5.b10.cell 0
    simp only [List.getElem?_cons_zero] at hbx5
    clear hst5 hlb5 hE5 hT5 hoff5 hTm5 hO5 hdef5 hDlt hmW5 hDq hq9w hoff6 hW5 c9a l9a f9a
    refine (wpIn_wide (n := 5)).1 ?_
    refine wpIn_rangeFunc_ownH rfl (by omega) (gf := 33) (lb := #[.pointer (some ⟨qb, 0, none⟩)]) rfl trivial (enters_of Tryd.func33 (by kernel_rfl) rfl)
      (alls_stops hck5 hbx5 (fun j => j = q9 ∨ j = b) (fun j hj => by rcases (H5.out.2.1.reach hb5 j).1 hj with rfl | h; exact hb5.lt; exact hck5.lt h) 4) (fun h k => h.trans k) (kp_b (fun j hj => by rcases hj with rfl | rfl; exact hb5.lt; exact hck5.lt hck5.inb)) (Below.refl _ _) (fun _ => rfl)
      (fun pre W => pre <+: C.all ∧ LB w W q7 q8 q9 qb b k pre.length Aw cw nn wa.heap.size C.all ∧ (∃ T' Dk, Exact W b Dk m T' ∧ Dk.made ≤ 60 + pre.length ∧ (∀ j, T' j → ¬ LBS w q7 q8 q9 qb Aw cw nn j) ∧ (∀ j, T' j → w.heap.size ≤ j)) ∧ Only w W ∧ W5.heap.size ≤ W.heap.size ∧ W.heap[D]? = some (.deferred (some [])))
      (fun c pre W => c = .ret ∧ ¬ pre <+: C.all)
      ?hI ?hIx ⟨List.nil_prefix, H5.out.1, ⟨_, C, H5.out.2.1, hm60, H5.out.2.2.1, H5.out.2.2.2.1⟩, H5.out.2.2.2.2.1, Nat.le_refl _, H5.out.2.2.2.2.2.1⟩
      (fun tt a' W => ∃ Bx, W5.heap.size ≤ Bx ∧ Blk W Bx 39 tt.cells ∧ a' = { tmps := #[.slice A n ca, .int .i64 x, .int .i64 y, undef, .pointer (some ⟨w.heap.size, 0, none⟩), undef, .pointer (some ⟨w.heap.size + 1, 0, none⟩), .pointer (some ⟨q7, 0, none⟩), .pointer (some ⟨q8, 0, none⟩), .pointer (some ⟨q9, 0, none⟩),
        .func (.func 33) #[] #[.pointer (some ⟨qb, 0, none⟩)], undef, .pointer (some ⟨Bx, 0, none⟩), .slice A n ca, .pointer (some ⟨b, 0, none⟩), .pointer (some ⟨b, 0, none⟩), .slice Aw nn cw, .int .i64 x, .int .u64 (IntKind.u64.wrap x), .int .u64 ((IntKind.u64.wrap x).tmod 20), .int .i64 k, .pointer (some ⟨b, 0, none⟩),
        .func (.func 33) #[] #[.pointer (some ⟨qb, 0, none⟩)], .func (.func 33) #[] #[.pointer (some ⟨qb, 0, none⟩)], undef, undef, undef, undef, undef, undef, undef, undef, undef, undef, undef, undef, undef, undef, undef, undef, undef, undef, .int .i64 seen, .slice Aw nn cw, .int .i64 nn, .int .i64 k, .int .i64 ((k : Int) + 1), .int .i64 seen, .bool false, .bool false, .pointer (some ⟨b, 0, none⟩), .slice A5 nn c5, .slice Aw nn cw, .bool true, .bool false, .bool false,
        .func (.func 33) #[] #[.pointer (some ⟨qb, 0, none⟩)], .agg #[.int .i64 tt.id, .int .i64 tt.due], undef, undef, undef, undef, undef, undef, undef, undef, undef, undef, undef, undef, undef, undef, undef, undef, undef, undef, undef, undef, undef, undef, undef, undef, undef, undef, undef, undef, undef, undef, undef, undef], defers := [] }) ?hAx ?assign ?body ?done ?stop
    case hI =>
      rintro pre W W' row ⟨hp, hlb, ⟨T', Dk, hE, hmd, ho, hw⟩, hO, hz, hdf⟩ hg hrow
      obtain ⟨T2, hE2, hT2⟩ := hE.turned hg H5.out.2.2.2.2.2.2.2 hrow
      refine ⟨hp, hlb.grown hg (fun r e => (hrow r e).2), ⟨T2, Dk, hE2, hmd, fun j hj => ho j (hT2 j hj), fun j hj => hw j (hT2 j hj)⟩, hO.grownBy hg (fun r e => Nat.le_trans H5.out.2.2.2.2.1.size (hrow r e).1), Nat.le_trans hz hg.size, ?_⟩
      exact ((Stay.of_grown (S := fun k => row = some k) hg (fun k _ e => e)).block D (Array.getElem?_eq_some_iff.1 hdf).1 (fun e => by have := (hrow D e).1; have := H5.out.2.2.2.2.2.2.1; omega)).trans hdf
    case hIx =>
      intro c pre W W' row h hg hrow
      exact h
    case hAx =>
      rintro tt a' _ W W' row ⟨Bx, h1, hb, ha⟩ hg hrow
      have hst : Stay (fun k => row = some k) W W' := Stay.of_grown hg (fun k _ e => e)
      refine ⟨Bx, h1, hst.blk hb (fun e => ?_), ha⟩
      obtain ⟨_, o, ho2, hc⟩ := hrow _ e
      unfold Blk at hb
      rw [hb] at ho2
      cases ho2
      cases hc
    case assign =>
      intro l pre tt W K hi hK
      gi_wp2
      have hO : Only W (W.alloc (.cells #[.int .i64 tt.id, .int .i64 tt.due] 39)) := (Stay.refl _ W).alloc _
      obtain ⟨hp, hlb, ⟨T', Dk, hE, hmd, ho, hw⟩, hO', hz, hdf⟩ := hi
      obtain ⟨T2, hE2, hT2⟩ := hE.stay hO (fun j h => h.elim)
      refine hK _ _ (KeepsFrom.of_stay hO (fun k _ h => h.elim)) (hE.kp hlb.b9 (hlb.only hO).b9 hE2.at_ (fun j hj => .inl (hT2 j hj)) (hO.mono (fun _ _ h => h.elim))) ⟨hp, hlb.only hO, ⟨T2, Dk, hE2, hmd, fun j hj => ho j (hT2 j hj), fun j hj => hw j (hT2 j hj)⟩, hO'.trans' hO, Nat.le_trans hz hO.size, (hO.block D (Array.getElem?_eq_some_iff.1 hdf).1 id).trans hdf⟩ ⟨W.heap.size, hz, Blk.new W [_, _] _, rfl⟩
    case stop =>
      rintro D' c pre W hD' hpre ⟨rfl, h⟩ hdf'
      exact absurd hpre h
    case body =>
      rintro l pre tt a' W hl hloop ⟨hp, hlb, ⟨T', Dk, hE, hmd, ho, hw⟩, hO, hzz, hdf⟩ ⟨Bx, hBx, hbx, rfl⟩ hlen
      obtain ⟨i, hi⟩ : ∃ i, i = pre.length := ⟨_, rfl⟩
      have hin : i < nn := by rw [hi, H4.out.2.2.2.2.2.2]; exact hlen
      obtain ⟨s, hs⟩ : ∃ s, C.all[i]? = some s := ⟨_, List.getElem?_eq_getElem (by have := H4.out.2.2.2.2.2.2; omega)⟩
      have hmore : (pre ++ [tt] <+: C.all) ↔ tt = s := by
        obtain ⟨suf, hsuf⟩ := hp
        have hs' : C.all[i]? = suf[0]? := by rw [← hsuf, hi, List.getElem?_append_right (Nat.le_refl _), Nat.sub_self]
        rw [hs] at hs'
        cases suf with
        | nil => simp at hs'
        | cons a suf =>
          simp at hs'
          subst hs'
          rw [← hsuf]
          constructor
          · intro h
            have h2 := (List.prefix_append_right_inj pre).1 h
            exact (List.cons_prefix_cons.1 h2).1
          · rintro rfl
            exact (List.prefix_append_right_inj pre).2 ⟨suf, rfl⟩
      obtain ⟨g, c3, e1, _, hg⟩ := hlb.row.form (by omega)
      have e1' : Aw = some ⟨g, 0, none⟩ ∧ cw = c3 := by simpa using e1
      obtain ⟨rfl, rfl⟩ := e1'
      obtain ⟨z0, z1⟩ := row_cells (owns_base hlb.row (Nat.zero_le _)) H4.out.2.2.2.2.2.2.symm hs
      rw [← hi] at hlb hmd
      have x0 := hbx.cell 0
      have x1 := hbx.cell 1
      have c9 := hlb.b9.cell 0
      have c8 := hlb.b8.cell 0
      have c7 := hlb.b7.cell 0
      simp only [List.getElem?_cons_zero, List.getElem?_cons_succ, Tm.cells] at c9 c8 c7 x0 x1
      have l9 := hlb.b9.lt
      have l8 := hlb.b8.lt
      have l7 := hlb.b7.lt
      have lx := hbx.lt
      have f9 := hlb.b9.free 0
      have u0 : (0 : Int) ≤ (i : Int) := by omega
      have u1 : (i : Int) < (nn : Int) := by omega
      have u2 : ¬ (i : Int) ≥ (nn : Int) := by omega
      have u3 : decide ((i : Int) ≥ (nn : Int)) = false := decide_eq_false u2
      have u4 : ¬ nn ≤ i := Nat.not_le.2 hin
      have u5 : decide (nn ≤ i) = false := decide_eq_false u4
      have HX := Lib.hid (And.intro hlb (And.intro hmd (And.intro hE (And.intro ho (And.intro hw (And.intro hO (And.intro hzz (And.intro hbx (And.intro hi (And.intro hmore hdf))))))))))
      by_cases hts : tt = s
      · subst hts
        obtain ⟨ti, td⟩ := tt
        simp only at x0 x1 z0 z1
        have hn97 := blk_ne hlb.b9 hlb.b7 (by decide)
        have hn9x := blk_ne hlb.b9 hbx (by decide)
        clear hp hlb hmd hE ho hw hO hzz hdf hbx hi hmore hl hloop hlen hs e1 hg
        gi_wp2
        have hput := (HX.out.1.only ((Stay.refl _ W).drew)).put9 (i + 1)
        have hstp : Stay (fun j => j = q9) W (W.drew.setCell ⟨q9, 0, none⟩ (.int .i64 ((i + 1 : Nat) : Int))) := ((Stay.refl (fun j => j = q9) W).drew).put rfl _ _
        obtain ⟨T2, hE2, hT2⟩ := HX.out.2.2.1.stay hstp (fun j e hj => HX.out.2.2.2.1 j hj (.inr (.inr (.inr (.inr (.inl e))))))
        have HF := Lib.hid (And.intro hput (And.intro hE2 (And.intro hT2 hstp)))
        clear hput hstp hE2 hT2
        have w10 := wrap_one i (Nat.lt_of_lt_of_le hin hn4)
        refine wpIn_region_still (by kernel_rfl) (by kernel_rfl) (by kernel_rfl) ?_
        iterate 12 still_step
        refine wpStill_nil ?_
        obtain ⟨Wd, hWd⟩ : ∃ Wd, Wd = W.drew := ⟨_, rfl⟩
        rw [← hWd] at HF ⊢
        have d9 : Wd.cell? ⟨q9, 0, none⟩ = some (.int .i64 i) := by rw [hWd]; exact c9
        have d7 : Wd.cell? ⟨q7, 0, none⟩ = some (.pointer (some ⟨b, 0, none⟩)) := by rw [hWd]; exact c7
        have dx : Wd.cell? ⟨Bx, 0, none⟩ = some (.int .i64 ti) := by rw [hWd]; exact x0
        have m9 : q9 < Wd.heap.size := by rw [hWd]; exact l9
        have m7 : q7 < Wd.heap.size := by rw [hWd]; exact l7
        have mx : Bx < Wd.heap.size := by rw [hWd]; exact lx
        have g9 : Wd.frozen? ⟨q9, 0, none⟩ = false := by rw [hWd]; exact f9
        have d7' : (Wd.setCell ⟨q9, 0, none⟩ (.int .i64 ((i : Int) + 1))).cell? ⟨q7, 0, none⟩ = some (.pointer (some ⟨b, 0, none⟩)) := cell_off d7 hn97
        have dx' : (Wd.setCell ⟨q9, 0, none⟩ (.int .i64 ((i : Int) + 1))).cell? ⟨Bx, 0, none⟩ = some (.int .i64 ti) := cell_off dx hn9x
        clear hWd c9 c8 c7 l9 l8 l7 lx f9 x0 x1 z0 z1 hn97 hn9x
        gi_wp2_with fail
        refine ⟨trivial, ?_⟩
        obtain ⟨W2, hW2⟩ : ∃ W2, W2 = Wd.setCell ⟨q9, 0, none⟩ (.int .i64 ((i : Int) + 1)) := ⟨_, rfl⟩
        have hlb2 : LB w W2 q7 q8 q9 qb b k (i + 1) (some ⟨g, 0, none⟩) cw nn wa.heap.size C.all := by rw [hW2]; exact HF.out.1
        have hE2 : Exact W2 b Dk m T2 := by rw [hW2]; exact HF.out.2.1
        have hst2 : Stay (fun j => j = q9) W W2 := by rw [hW2]; exact HF.out.2.2.2
        rw [← hW2]
        have hT2 := HF.out.2.2.1
        have hnD : ∀ (W' : World) (E : Ck) (T'' : Nat → Prop), Exact W' b E m T'' → W'.heap[D]? = some (.deferred (some [])) → ¬ T'' D := fun W' E T'' hE' hd hT => by
          obtain ⟨o, ho, hc⟩ := hE'.cells D hT (by have := HW.out.2.2.2.2.2.1; have := H4.out.2.2.2.2.1; omega)
          rw [hd] at ho
          cases ho
          cases hc
        have hdf2 : W2.heap[D]? = some (.deferred (some [])) := (hst2.block D (Array.getElem?_eq_some_iff.1 HX.out.2.2.2.2.2.2.2.2.2.2).1 (fun e => by
          have h1 := HX.out.2.2.2.2.2.2.2.2.2.2
          rw [e] at h1
          have h2 := HX.out.1.b9
          unfold Blk at h2
          rw [h2] at h1
          cases h1)).trans HX.out.2.2.2.2.2.2.2.2.2.2
        have hmd2 : Dk.made ≤ 60 + i := HX.out.2.1
        have H2' := Lib.hid (And.intro hlb2 (And.intro hE2 (And.intro hst2 (And.intro hT2 (And.intro hnD (And.intro hdf2 hmd2))))))
        clear hlb2 hE2 hst2 hT2 hnD hdf2 hmd2 hW2 d9 d7 dx m9 m7 mx g9 d7' dx' HF w10
        refine (CallsIn.inRound l (callsIn_wide.2 (dise_anyM H2'.out.2.1.at_ (ti : Int)))).mono ?_
        rintro e w3 ⟨rfl, ⟨S3, hC3, hS3, hst3⟩, hsame3⟩
        obtain ⟨T3, hE3, hT3⟩ := H2'.out.2.1.next hC3 hS3 hsame3
        obtain ⟨D1, hD1⟩ : ∃ D1, D1 = (Dk.dise (ti : Int)).1 := ⟨_, rfl⟩
        have hD1m : D1.made ≤ 60 + i := by rw [hD1]; exact H2'.out.2.2.2.2.2.2
        rw [← hD1] at hE3
        have hoff2 : ∀ j, T2 j → ¬ LBS w q7 q8 q9 qb (some ⟨g, 0, none⟩) cw nn j := fun j hj => HX.out.2.2.2.1 j (H2'.out.2.2.2.1 j hj)
        have hlb3 := H2'.out.1.stay hst3 (fun j hj ht => hoff2 j ht hj)
        have hdf3 : w3.heap[D]? = some (.deferred (some [])) := (hst3.block D (Array.getElem?_eq_some_iff.1 H2'.out.2.2.2.2.2.1).1 (H2'.out.2.2.2.2.1 _ _ _ H2'.out.2.1 H2'.out.2.2.2.2.2.1)).trans H2'.out.2.2.2.2.2.1
        have c7 := hlb3.b7.cell 0
        simp only [List.getElem?_cons_zero] at c7
        have l7 := hlb3.b7.lt
        obtain ⟨dz, hdz⟩ : ∃ a : Int, a = D1.now := ⟨_, rfl⟩
        have hnow : ∀ W', Only w3 W' → Calls Tryd.prog 19 #[.pointer (some ⟨b, 0, none⟩)] W' fun e w' => e = .returned (.int .i64 dz) ∧ Only W' w' := fun W' h => by rw [hdz]; exact now_any (hE3.at_.only h)
        have harm : ∀ W', Only w3 W' → ∃ T4, Exact W' b D1 m T4 ∧ (∀ j, T4 j → T3 j) ∧ Calls Tryd.prog 12 #[.pointer (some ⟨b, 0, none⟩), .int .i64 dz] W' fun e w' => e = .returned (.tuple #[.int .i64 (D1.arme dz).2.1, .int .i64 (D1.arme dz).2.2]) ∧ CkThen W' T4 b (D1.arme dz).1 w' ∧ SameMap W' w' b := fun W' h => by
          obtain ⟨T4, hE4, hT4⟩ := hE3.stay h (fun j h => h.elim)
          exact ⟨T4, hE4, hT4, arme_anyM hE4.at_ (Nat.lt_of_le_of_lt hD1m (by have : i < 400 := Nat.lt_of_lt_of_le hin hn4; simp only [maxT]; omega)) dz⟩
        have H3' := Lib.hid (And.intro hE3 (And.intro hT3 (And.intro hD1m (And.intro hlb3 (And.intro hdf3 (And.intro hst3 (And.intro hnow harm)))))))
        clear hC3 hS3 hst3 hsame3 hE3 hT3 hD1 hD1m hoff2 hlb3 hdf3 hdz hnow harm
        have hfin : ∀ (W' w5 : World) (T4 : Nat → Prop), Only w3 W' → Exact W' b D1 m T4 → (∀ j, T4 j → T3 j) → CkThen W' T4 b (D1.arme dz).1 w5 → SameMap W' w5 b →
            KeepsFrom W5.heap.size W w5 ∧ Kp (fun j => j = q9 ∨ j = b) W w5 ∧ (pre ++ [(⟨ti, td⟩ : Tm)] <+: C.all ∧ LB w w5 q7 q8 q9 qb b k (pre ++ [(⟨ti, td⟩ : Tm)]).length (some ⟨g, 0, none⟩) cw nn wa.heap.size C.all ∧ (∃ T' Dk, Exact w5 b Dk m T' ∧ Dk.made ≤ 60 + (pre ++ [(⟨ti, td⟩ : Tm)]).length ∧ (∀ j, T' j → ¬ LBS w q7 q8 q9 qb (some ⟨g, 0, none⟩) cw nn j) ∧ (∀ j, T' j → w.heap.size ≤ j)) ∧ Only w w5 ∧ W5.heap.size ≤ w5.heap.size ∧ w5.heap[D]? = some (.deferred (some []))) := by
          intro W' w5 T4 hO' hE4 hT4 hthen hsame
          obtain ⟨S5, hC5, hS5, hst5⟩ := hthen
          obtain ⟨T5', hE5', hT5'⟩ := hE4.next hC5 hS5 hsame
          have hl1 : (pre ++ [(⟨ti, td⟩ : Tm)]).length = i + 1 := by rw [List.length_append, ← HX.out.2.2.2.2.2.2.2.2.1]; rfl
          have z2 := H2'.out.2.2.1.size
          have z3 := H3'.out.2.2.2.2.2.1.size
          have z4 := hO'.size
          have z5 := hst5.size
          have hsub2 : ∀ j, T2 j → T' j := H2'.out.2.2.2.1
          have hsub3 : ∀ j, T3 j → T' j ∨ W.heap.size ≤ j := fun j hj => (H3'.out.2.1 j hj).imp (hsub2 j) (fun h => Nat.le_trans z2 h)
          have hsubS : ∀ j, S5 j → T' j ∨ W.heap.size ≤ j := fun j hj => by
            rcases hS5 j hj with h | h
            · exact hsub3 j (hT4 j h)
            · exact .inr (Nat.le_trans z2 (Nat.le_trans z3 (Nat.le_trans z4 h)))
          have hsub5 : ∀ j, T5' j → T' j ∨ W.heap.size ≤ j := fun j hj => by
            rcases hT5' j hj with h | h
            · exact hsub3 j (hT4 j h)
            · exact .inr (Nat.le_trans z2 (Nat.le_trans z3 (Nat.le_trans z4 h)))
          have hstW : Stay (fun j => T' j ∨ j = q9) W w5 := by
            refine (((H2'.out.2.2.1.mono (fun _ _ e => .inr e)).trans H3'.out.2.2.2.2.2.1 (fun j hj h => .inl (hsub2 j h))).trans hO' (fun j hj h => h.elim)).trans hst5 (fun j hj h => ?_)
            rcases hsub3 j (hT4 j h) with h | h
            · exact .inl h
            · omega
          have hoff5 : ∀ j, T5' j → ¬ LBS w q7 q8 q9 qb (some ⟨g, 0, none⟩) cw nn j := fun j hj hl => by
            rcases hsub5 j hj with h | h
            · exact HX.out.2.2.2.1 j h hl
            · have := HX.out.1.lt j hl
              omega
          have hoff4 : ∀ j, T4 j → ¬ LBS w q7 q8 q9 qb (some ⟨g, 0, none⟩) cw nn j := fun j hj hl => by
            rcases hsub3 j (hT4 j hj) with h | h
            · exact HX.out.2.2.2.1 j h hl
            · have := HX.out.1.lt j hl
              omega
          have hlb5 := (H3'.out.2.2.2.1.only hO').stay hst5 (fun j hj ht => hoff4 j ht hj)
          have hdf4 : W'.heap[D]? = some (.deferred (some [])) := (hO'.block D (Array.getElem?_eq_some_iff.1 H3'.out.2.2.2.2.1).1 id).trans H3'.out.2.2.2.2.1
          have hdf5 : w5.heap[D]? = some (.deferred (some [])) := (hst5.block D (Array.getElem?_eq_some_iff.1 hdf4).1 (H2'.out.2.2.2.2.1 _ _ _ hE4 hdf4)).trans hdf4
          refine ⟨KeepsFrom.of_stay hstW (fun j hj h => ?_), HX.out.2.2.1.kp HX.out.1.b9 hlb5.b9 hC5 hsubS hstW, HX.out.2.2.2.2.2.2.2.2.2.1.2 (by first | rfl | trivial), by rw [hl1]; exact hlb5, ⟨T5', (D1.arme dz).1, hE5', ?_, hoff5, fun j hj => ?_⟩, HX.out.2.2.2.2.2.1.trans hstW (fun j hj h => ?_), by have := HX.out.2.2.2.2.2.2.1; omega, hdf5⟩
          · rcases h with h | h
            · exact HX.out.2.2.1.cells j h (by have := H5.out.2.2.2.2.2.2.2; omega)
            · subst h; exact ⟨_, HX.out.1.b9, rfl⟩
          · rw [hl1]
            have := Ck.made_arme (C := D1) dz
            have := H3'.out.2.2.1
            omega
          · rcases hsub5 j hj with h | h
            · exact HX.out.2.2.2.2.1 j h
            · have := HX.out.2.2.2.2.2.1.size; omega
          · rcases h with h | h
            · exact absurd hj (Nat.not_lt.2 (HX.out.2.2.2.2.1 j h))
            · have := HX.out.1.ne; omega
        have HFIN := Lib.hid hfin
        clear hfin
        gi_wp2_with fail
        refine wpIn_region_plain (by kernel_rfl) (by kernel_rfl) ?_
        refine wpAny_ready (rs := [0, 1]) (by kernel_rfl) (by simp) ?_
        refine AllReady.cons rfl (fun K hK => ?_) ?_
        · go_simp
          refine hK _ _ ?_; clear hK K
          refine wpAny_ready (rs := [1]) (by kernel_rfl) (by simp) ?_
          refine AllReady.cons rfl (fun K hK => ?_) ?_
          · go_simp
            refine hK _ _ ?_; clear hK K
            refine wpAny_ready (rs := [2]) (by kernel_rfl) (by simp) ?_
            refine AllReady.cons rfl (fun K hK => ?_) ?_
            · go_simp
              refine (H3'.out.2.2.2.2.2.2.1 _ (Stay.refl _ w3).drew).mono ?_
              rintro e w4 ⟨rfl, o4⟩
              have c7b := o4.cell c7
              have l7b := Nat.lt_of_lt_of_le l7 o4.size
              refine hK _ _ ?_; clear hK K
              refine wpAny_ready (rs := [3]) (by kernel_rfl) (by simp) ?_
              refine AllReady.cons rfl (fun K hK => ?_) ?_
              · go_simp
                obtain ⟨T4, hE4, hT4, hcall⟩ := H3'.out.2.2.2.2.2.2.2 w4 ((show Only w3 w3.drew from (Stay.refl _ w3).drew).trans' o4)
                refine hcall.mono ?_
                rintro e w5 ⟨rfl, hthen, hsame⟩
                refine hK _ _ ?_; clear hK K
                refine wpAny_done (by kernel_rfl) ?_ _
                refine ⟨rfl, ?_⟩
                gi_wp2_with fail
                exact HFIN.out _ _ _ ((show Only w3 w3.drew from (Stay.refl _ w3).drew).trans' o4) hE4 hT4 hthen hsame
              exact AllReady.nil
            exact AllReady.nil
          exact AllReady.nil
        refine AllReady.cons rfl (fun K hK => ?_) ?_
        · go_simp
          refine hK _ _ ?_; clear hK K
          refine wpAny_ready (rs := [0, 2]) (by kernel_rfl) (by simp) ?_
          refine AllReady.cons rfl (fun K hK => ?_) ?_
          · go_simp
            refine hK _ _ ?_; clear hK K
            refine wpAny_ready (rs := [2]) (by kernel_rfl) (by simp) ?_
            refine AllReady.cons rfl (fun K hK => ?_) ?_
            · go_simp
              refine (H3'.out.2.2.2.2.2.2.1 _ (Stay.refl _ w3).drew).mono ?_
              rintro e w4 ⟨rfl, o4⟩
              have c7b := o4.cell c7
              have l7b := Nat.lt_of_lt_of_le l7 o4.size
              refine hK _ _ ?_; clear hK K
              refine wpAny_ready (rs := [3]) (by kernel_rfl) (by simp) ?_
              refine AllReady.cons rfl (fun K hK => ?_) ?_
              · go_simp
                obtain ⟨T4, hE4, hT4, hcall⟩ := H3'.out.2.2.2.2.2.2.2 w4 ((show Only w3 w3.drew from (Stay.refl _ w3).drew).trans' o4)
                refine hcall.mono ?_
                rintro e w5 ⟨rfl, hthen, hsame⟩
                refine hK _ _ ?_; clear hK K
                refine wpAny_done (by kernel_rfl) ?_ _
                refine ⟨rfl, ?_⟩
                gi_wp2_with fail
                exact HFIN.out _ _ _ ((show Only w3 w3.drew from (Stay.refl _ w3).drew).trans' o4) hE4 hT4 hthen hsame
              exact AllReady.nil
            exact AllReady.nil
          refine AllReady.cons rfl (fun K hK => ?_) ?_
          · go_simp
            refine (H3'.out.2.2.2.2.2.2.1 _ (Stay.refl _ w3).drew).mono ?_
            rintro e w4 ⟨rfl, o4⟩
            have c7b := o4.cell c7
            have l7b := Nat.lt_of_lt_of_le l7 o4.size
            refine hK _ _ ?_; clear hK K
            refine wpAny_ready (rs := [0]) (by kernel_rfl) (by simp) ?_
            refine AllReady.cons rfl (fun K hK => ?_) ?_
            · go_simp
              refine hK _ _ ?_; clear hK K
              refine wpAny_ready (rs := [3]) (by kernel_rfl) (by simp) ?_
              refine AllReady.cons rfl (fun K hK => ?_) ?_
              · go_simp
                obtain ⟨T4, hE4, hT4, hcall⟩ := H3'.out.2.2.2.2.2.2.2 w4 ((show Only w3 w3.drew from (Stay.refl _ w3).drew).trans' o4)
                refine hcall.mono ?_
                rintro e w5 ⟨rfl, hthen, hsame⟩
                refine hK _ _ ?_; clear hK K
                refine wpAny_done (by kernel_rfl) ?_ _
                refine ⟨rfl, ?_⟩
                gi_wp2_with fail
                exact HFIN.out _ _ _ ((show Only w3 w3.drew from (Stay.refl _ w3).drew).trans' o4) hE4 hT4 hthen hsame
              exact AllReady.nil
            exact AllReady.nil
          exact AllReady.nil
        exact AllReady.nil
      · have hno : ¬ pre ++ [tt] <+: C.all := fun h => hts (HX.out.2.2.2.2.2.2.2.2.2.1.1 h)
        have hkf : ∀ (Wd : World), Wd = W.drew → KeepsFrom W5.heap.size W (Wd.setCell ⟨w.heap.size + 1, 0, none⟩ (.bool false)) := fun Wd e => by
          subst e
          exact KeepsFrom.of_stay (((Stay.refl (fun j => j = w.heap.size + 1) W).drew).put rfl _ _) (fun j _ e => by subst e; exact ⟨_, HX.out.1.b6, rfl⟩)
        have HB := Lib.hid (And.intro hno hkf)
        have l6 := hlb.b6.lt
        have f6 := hlb.b6.free 0
        have c6 := hlb.b6.cell 0
        simp only [List.getElem?_cons_zero] at c6
        have key := Tm.parts hts
        obtain ⟨ti, td⟩ := tt
        obtain ⟨si, sd⟩ := s
        simp only at x0 x1 z0 z1 key
        clear hp hlb hmd hE ho hw hO hzz hdf hbx hi hmore hl hloop hlen hs e1 hg hts hno hkf c7 l7 f9
        rcases key with q1 | ⟨q0, q1⟩
        all_goals
          have q2 := q1
          simp only [Int.natCast_inj] at q2
          gi_wp2
          refine wpIn_region_still (by kernel_rfl) (by kernel_rfl) (by kernel_rfl) ?_
          iterate 12 still_step
          refine wpStill_nil ?_
          obtain ⟨Wd, hWd⟩ : ∃ Wd, Wd = W.drew := ⟨_, rfl⟩
          rw [← hWd]
          have m6 : w.heap.size + 1 < Wd.heap.size := by rw [hWd]; exact l6
          have g6 : Wd.frozen? ⟨w.heap.size + 1, 0, none⟩ = false := by rw [hWd]; exact f6
          have d6 : Wd.cell? ⟨w.heap.size + 1, 0, none⟩ = some (.bool false) := by rw [hWd]; exact c6
          have HK := Lib.hid (HB.out.2 Wd hWd)
          clear hWd c9 c8 l9 l8 lx x0 x1 z0 z1 l6 f6 c6
          gi_wp2
          exact ⟨HK.out, rfl, HB.out.1⟩
    case done =>
      rintro D' xs W7 hD' rfl ⟨hp, hlb, ⟨T', Dk, hE, hmd, ho, hw⟩, hO, hz, hdf⟩ hdf'
      have hlen : C.all.length = nn := H4.out.2.2.2.2.2.2.symm
      rw [hlen] at hlb
      have c7 := hlb.b7.cell 0
      simp only [List.getElem?_cons_zero] at c7
      have l7 := hlb.b7.lt
      have hTw : Tab W7 := HT0.out.only hO
      have hgT : ¬ T' 0 := fun h => by have := hw _ h; have := HT0.out.lt; omega
      have hnD : ∀ j, m < j → W7.heap[j]? = some (.deferred (some [])) → ¬ T' j := fun j hj hd hT => by
        obtain ⟨o, ho, hc⟩ := hE.cells j hT (by omega)
        rw [hd] at ho
        cases ho
        cases hc
      have hadv := adve_any hE.at_ hTw hgT y
      have hDm : m < D := Nat.lt_of_lt_of_le H4.out.2.2.2.2.1 HW.out.2.2.2.2.2.1
      have hDm' : m < D' := Nat.lt_of_lt_of_le H5.out.2.2.2.2.2.2.2 hD'
      have hne : D < D' := Nat.lt_of_lt_of_le H5.out.2.2.2.2.2.2.1 hD'
      have HZ := Lib.hid (And.intro hlb (And.intro hO (And.intro ho (And.intro hw (And.intro hdf (And.intro hdf' (And.intro (hnD D hDm hdf) (And.intro (hnD D' hDm' hdf') hne))))))))
      clear hp hlb hE hmd ho hw hO hz hdf hdf' hnD hTw hgT hDm hDm' hne hlen
      go_wp2_with fail
      refine hadv.mono ?_
      clear hadv
      rintro e w8 ⟨v8, rfl, S8, hr8, hC8, hS8, hst8, hn8⟩
      obtain ⟨A8, c8', rfl⟩ := own_shape hr8
      have hlb8 := HZ.out.1.stay hst8 (fun j hj ht => HZ.out.2.2.1 j ht hj)
      have hdf8 := (hst8.block D (Array.getElem?_eq_some_iff.1 HZ.out.2.2.2.2.1).1 HZ.out.2.2.2.2.2.2.1).trans HZ.out.2.2.2.2.1
      have hdf8' := (hst8.block D' (Array.getElem?_eq_some_iff.1 HZ.out.2.2.2.2.2.1).1 HZ.out.2.2.2.2.2.2.2.1).trans HZ.out.2.2.2.2.2.1
      have hO8 : Only w w8 := HZ.out.2.1.trans hst8 (fun j hj h => absurd hj (Nat.not_lt.2 (HZ.out.2.2.2.1 j h)))
      have c9 := hlb8.b9.cell 0
      have c8 := hlb8.b8.cell 0
      simp only [List.getElem?_cons_zero] at c9 c8
      have l9 := hlb8.b9.lt
      have l8 := hlb8.b8.lt
      have e1 : ((nn : Int) == (nn : Int)) = true := by simp
      have H8 := Lib.hid (And.intro hlb8 (And.intro hdf8 (And.intro hdf8' hO8)))
      clear hr8 hC8 hS8 hst8 hn8 hlb8 hdf8 hdf8' hO8 c7 l7
      go_wp2_with fail
      refine (awake_any w8 (HT0.out.only H8.out.2.2.2)).mono ?_
      rintro e w9 ⟨rfl, hO9⟩
      have hlb9 := H8.out.1.only hO9
      have c6 := hlb9.b6.cell 0
      simp only [List.getElem?_cons_zero] at c6
      have l6 := hlb9.b6.lt
      have f6 := hlb9.b6.free 0
      have hdf9 := (hO9.block D (Array.getElem?_eq_some_iff.1 H8.out.2.1).1 id).trans H8.out.2.1
      have hdf9' := (hO9.block D' (Array.getElem?_eq_some_iff.1 H8.out.2.2.1).1 id).trans H8.out.2.2.1
      have H9 := Lib.hid (And.intro hlb9 (And.intro hdf9 (And.intro hdf9' (H8.out.2.2.2.trans' hO9))))
      clear hO9 hlb9 hdf9 hdf9' c9 c8 l9 l8 e1
      go_wp2_with fail
      have s10 : Stay (fun j => j = w.heap.size + 1) w9 (w9.setCell ⟨w.heap.size + 1, 0, none⟩ (.bool true)) := (Stay.refl (fun j => j = w.heap.size + 1) w9).put rfl _ _
      have hb10 : Blk (w9.setCell ⟨w.heap.size + 1, 0, none⟩ (.bool true)) (w.heap.size + 1) 4 [.bool true] := H9.out.1.b6.set 0 (.bool true)
      have hnc : ∀ j, w9.heap[j]? = some (.deferred (some [])) → ¬ j = w.heap.size + 1 := fun j hj e => by
        have h2 := H9.out.1.b6
        unfold Blk at h2
        rw [← e, hj] at h2
        cases h2
      have k1 : (w9.setCell ⟨w.heap.size + 1, 0, none⟩ (.bool true)).heap[D']? = some (.deferred (some [])) := (s10.block D' (Array.getElem?_eq_some_iff.1 H9.out.2.2.1).1 (hnc D' H9.out.2.2.1)).trans H9.out.2.2.1
      have k2 : (w9.setCell ⟨w.heap.size + 1, 0, none⟩ (.bool true)).heap[D]? = some (.deferred (some [])) := (s10.block D (Array.getElem?_eq_some_iff.1 H9.out.2.1).1 (hnc D H9.out.2.1)).trans H9.out.2.1
      obtain ⟨W10, hW10⟩ : ∃ W10, W10 = w9.setCell ⟨w.heap.size + 1, 0, none⟩ (.bool true) := ⟨_, rfl⟩
      rw [← hW10] at s10 hb10 k1 k2 ⊢
      have hO10 : Only w W10 := H9.out.2.2.2.trans s10 (fun j hj e => by omega)
      have s11 : Stay (fun j => j = D') W10 (W10.putObj D' (.deferred none)) := Stay.of_grown (grownBy_putObj' W10 D' _) (fun k _ e => by cases e; rfl)
      have n1 : ¬ w.heap.size + 1 = D' := fun e => hnc D' H9.out.2.2.1 e.symm
      have n2 : ¬ w.heap.size + 1 = D := fun e => hnc D H9.out.2.1 e.symm
      have k3 : (W10.putObj D' (.deferred none)).heap[D]? = some (.deferred (some [])) := (s11.block D (Array.getElem?_eq_some_iff.1 k2).1 (fun e => by have := HZ.out.2.2.2.2.2.2.2.2; omega)).trans k2
      have s12 : Stay (fun j => j = D) (W10.putObj D' (.deferred none)) ((W10.putObj D' (.deferred none)).putObj D (.deferred none)) := Stay.of_grown (grownBy_putObj' _ D _) (fun k _ e => by cases e; rfl)
      have hb12 := s12.blk (s11.blk hb10 n1) n2
      have hwD : w.heap.size ≤ D := Nat.le_trans H4.out.2.1.size HW.out.2.2.2.2.2.1
      have hwD' : w.heap.size ≤ D' := Nat.le_trans H5.out.2.2.2.2.1.size hD'
      have hO12 : Only w ((W10.putObj D' (.deferred none)).putObj D (.deferred none)) := (hO10.trans s11 (fun j hj e => by omega)).trans s12 (fun j hj e => by omega)
      have r0 := hb12.cell 0
      simp only [List.getElem?_cons_zero] at r0
      refine ⟨by simp, .inl ⟨_, _, rfl, run_takeDeferred k1, ⟨by simp, .inl ⟨_, _, rfl, run_takeDeferred k3, ?_⟩⟩⟩⟩
      refine ⟨.bool true, by simp [results, Tryd.results4, go_sem, r0], rfl, hO12⟩
end Go.Proofs.YtbkbcpnpbfnmgaaDoor
