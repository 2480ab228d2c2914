/- The reference's Acquire. -/
import Derived.Test.YtgjicobfbdikmaaLedRefB
set_option linter.unusedVariables false
set_option linter.unusedSimpArgs false
namespace Go.Proofs.Ytgjicobfbdikmaa
open Go Go.RowKit

/-- What the reference's ledgers keep. -/
structure RL.Fit (R : RL) : Prop where
  n : R.es.length ≤ 400
  l : R.lkd.length = R.es.length
  t : 0 ≤ R.time ∧ R.time ≤ 800
theorem Ref.fit {L : Lg} {R : RL} (h : Ref L R) (hok : L.Ok) : R.Fit := ⟨by rw [h.es]; exact hok.n, by rw [h.len, h.es], by rw [h.time]; exact ⟨hok.t0, hok.time_le⟩⟩
/-- The ledger as it came in, handed back through the result's struct. -/
theorem RPost.same {w W : World} {a b : Value} {R : RL} (h : RAt w a b R) (ho : Only w W) : RPost w a b a b R W := ⟨h.only ho, Next.refl _ _, Next.refl _ _, ho⟩

set_option maxRecDepth 100000 in
set_option maxHeartbeats 4000000 in
theorem racq_any (w : World) (a b : Value) (R : RL) (t x : Int) (h : RAt w a b R) (hf : R.Fit) :
    Calls Try.prog 43 #[.agg #[a, b, .int .i64 R.time], .int .i64 t, .int .i64 x] w fun e w' => ∃ a' b', e = .returned (.tuple #[.agg #[a', b', .int .i64 (R.acq t x).1.time], .int .i64 (R.acq t x).2]) ∧ RPost w a b a' b' (R.acq t x).1 w' := by
  obtain ⟨ie, hie0, hie1, hie2, hie3⟩ := info_parts infoE
  obtain ⟨ib, hib0, hib1, hib2, hib3⟩ := info_parts infoB
  obtain ⟨Aa, ca, rfl⟩ := own_shape h.er
  obtain ⟨Ab, cb, rfl⟩ := own_shape h.br
  have hn := hf.n
  have hl4 : R.lkd.length ≤ 400 := by rw [hf.l]; exact hf.n
  have ht := hf.t
  have H := Lib.hid (And.intro h hf)
  clear h hf
  go_enter Try.func43, Try.ntmps43
  go_upto_region 1 with fail
  obtain ⟨W0, hW0⟩ : ∃ W0 : World, W0 = (w.alloc (.cells #[.slice Aa R.es.length ca, .slice Ab R.lkd.length cb, .int .i64 R.time] 49)).alloc (.cells #[.slice none 0 0, .slice none 0 0, .int .i64 0] 49) := ⟨_, rfl⟩
  have hT0 : T2 w W0 [.slice Aa R.es.length ca, .slice Ab R.lkd.length cb, .int .i64 R.time] [.slice none 0 0, .slice none 0 0, .int .i64 0] := by
    rw [hW0]
    exact ⟨((Stay.refl _ w).alloc _).alloc _, (Blk.new w [.slice Aa R.es.length ca, .slice Ab R.lkd.length cb, .int .i64 R.time] _).alloc _, Blk.newAt _ [.slice none 0 0, .slice none 0 0, .int .i64 0] _ _ (by simp)⟩
  have hz0 : w.heap.size ≤ W0.heap.size := hT0.o.size
  rw [← hW0]
  have c1 := hT0.b1.cell
  have c2 := hT0.b2.cell
  have f2 := hT0.b2.free
  have l2 := hT0.b2.lt
  have H0 := Lib.hid hT0
  clear hT0 hW0
  have hputs : Hid (∀ (W : World) (l2 : List Value) (u0 u1 u2 : Value), l2.length = 3 → T2 w W [.slice Aa R.es.length ca, .slice Ab R.lkd.length cb, .int .i64 R.time] l2 → T2 w (((W.setCell ⟨w.heap.size + 1, 0, none⟩ u0).setCell ⟨w.heap.size + 1, 1, none⟩ u1).setCell ⟨w.heap.size + 1, 2, none⟩ u2) [.slice Aa R.es.length ca, .slice Ab R.lkd.length cb, .int .i64 R.time] [u0, u1, u2]) := by
    intro W l2 u0 u1 u2 hl hT
    match l2, hl with
    | [x0, x1, x2], _ => exact ((hT.put2 0 u0).put2 1 u1).put2 2 u2
  by_cases hb : Bad t x
  · have hR : R.acq t x = (R, 2) := by unfold RL.acq; rw [if_pos hb]
    have HR := Lib.hid hR
    by_cases ht1 : 1 ≤ t ∧ t ≤ 64
    · have hx1 : ¬ (0 ≤ x ∧ x ≤ 999) := by unfold Bad at hb; omega
      clear hR hb
      go_wp2_with fail
      refine (rtask_any W0 t).mono ?_
      rintro e w1 ⟨rfl, rfl⟩
      rw [decide_eq_true ht1]
      go_wp2_with fail
      refine (rwhat_any w1 x).mono ?_
      rintro e w2 ⟨rfl, rfl⟩
      rw [decide_eq_false hx1]
      clear ht1 hx1
      go_wp2_with fail
      have hT5 := hputs.out _ _ (.slice Aa R.es.length ca) (.slice Ab R.lkd.length cb) (.int .i64 R.time) rfl H0.out
      have r0 := hT5.b2.cell 0
      have r1 := hT5.b2.cell 1
      have r2 := hT5.b2.cell 2
      simp only [List.getElem?_cons_zero, List.getElem?_cons_succ] at r0 r1 r2
      refine bodyPost_ret (v := .tuple #[.agg #[.slice Aa R.es.length ca, .slice Ab R.lkd.length cb, .int .i64 R.time], .int .i64 2]) (by simp [results, Try.results43, go_sem, r0, r1, r2]) rfl (by rw [HR.out]; exact ⟨_, _, rfl, RPost.same H.out.1 hT5.o⟩)
    · clear hR hb
      go_wp2_with fail
      refine (rtask_any W0 t).mono ?_
      rintro e w1 ⟨rfl, rfl⟩
      rw [decide_eq_false ht1]
      clear ht1
      go_wp2_with fail
      have hT5 := hputs.out _ _ (.slice Aa R.es.length ca) (.slice Ab R.lkd.length cb) (.int .i64 R.time) rfl H0.out
      have r0 := hT5.b2.cell 0
      have r1 := hT5.b2.cell 1
      have r2 := hT5.b2.cell 2
      simp only [List.getElem?_cons_zero, List.getElem?_cons_succ] at r0 r1 r2
      refine bodyPost_ret (v := .tuple #[.agg #[.slice Aa R.es.length ca, .slice Ab R.lkd.length cb, .int .i64 R.time], .int .i64 2]) (by simp [results, Try.results43, go_sem, r0, r1, r2]) rfl (by rw [HR.out]; exact ⟨_, _, rfl, RPost.same H.out.1 hT5.o⟩)
  · have ht1 : 1 ≤ t ∧ t ≤ 64 := by unfold Bad at hb; omega
    have hx1 : 0 ≤ x ∧ x ≤ 999 := by unfold Bad at hb; omega
    go_wp2_with fail
    refine (rtask_any W0 t).mono ?_
    rintro e w1 ⟨rfl, rfl⟩
    rw [decide_eq_true ht1]
    go_wp2_with fail
    refine (rwhat_any w1 x).mono ?_
    rintro e w2 ⟨rfl, rfl⟩
    rw [decide_eq_true hx1]
    have HTX := Lib.hid (And.intro ht1 hx1)
    clear ht1 hx1
    go_wp2_with fail
    refine (rheld0_any w2 _ _ R t (H.out.1.only H0.out.o) H.out.2.n).mono ?_
    rintro e w3 ⟨v3, rfl, hr3, hO3⟩
    obtain ⟨A3, c3, rfl⟩ := own_shape hr3
    have hT3 := H0.out.only hO3
    have c1 := hT3.b1.cell
    have c2 := hT3.b2.cell
    have f2 := hT3.b2.free
    have l2 := hT3.b2.lt
    have hz3 : w.heap.size ≤ w3.heap.size := hT3.o.size
    obtain ⟨q, hq⟩ : ∃ q, q = (opn t 0 R.es).length := ⟨_, rfl⟩
    rw [← hq] at hr3 ⊢
    have H3 := Lib.hid hT3
    clear hr3 hO3 hT3
    by_cases hfull : 40 ≤ q ∨ 400 ≤ R.es.length
    · have hR : R.acq t x = (R, 5) := by unfold RL.acq; rw [if_neg hb, if_pos (by rw [← hq]; exact hfull)]
      have HR := Lib.hid hR
      clear hR hb hq
      by_cases h40 : 40 ≤ q
      · have d40 : decide (40 ≤ q) = true := decide_eq_true h40
        clear hfull
        go_wp2_with fail
        have hT5 := hputs.out _ _ (.slice Aa R.es.length ca) (.slice Ab R.lkd.length cb) (.int .i64 R.time) rfl H3.out
        have r0 := hT5.b2.cell 0
        have r1 := hT5.b2.cell 1
        have r2 := hT5.b2.cell 2
        simp only [List.getElem?_cons_zero, List.getElem?_cons_succ] at r0 r1 r2
        refine bodyPost_ret (v := .tuple #[.agg #[.slice Aa R.es.length ca, .slice Ab R.lkd.length cb, .int .i64 R.time], .int .i64 5]) (by simp [results, Try.results43, go_sem, r0, r1, r2]) rfl (by rw [HR.out]; exact ⟨_, _, rfl, RPost.same H.out.1 hT5.o⟩)
      · have h400 : 400 ≤ R.es.length := by omega
        have d400 : decide (400 ≤ R.es.length) = true := decide_eq_true h400
        have d40 : ¬ 40 ≤ q := h40
        clear hfull
        go_wp2_with fail
        have hT5 := hputs.out _ _ (.slice Aa R.es.length ca) (.slice Ab R.lkd.length cb) (.int .i64 R.time) rfl H3.out
        have r0 := hT5.b2.cell 0
        have r1 := hT5.b2.cell 1
        have r2 := hT5.b2.cell 2
        simp only [List.getElem?_cons_zero, List.getElem?_cons_succ] at r0 r1 r2
        refine bodyPost_ret (v := .tuple #[.agg #[.slice Aa R.es.length ca, .slice Ab R.lkd.length cb, .int .i64 R.time], .int .i64 5]) (by simp [results, Try.results43, go_sem, r0, r1, r2]) rfl (by rw [HR.out]; exact ⟨_, _, rfl, RPost.same H.out.1 hT5.o⟩)
    · have hR : R.acq t x = (⟨R.es ++ [⟨x, t, R.time + 1, 0⟩], R.lkd ++ [false], R.time + 1⟩, 0) := by unfold RL.acq; rw [if_neg hb, if_neg (by rw [← hq]; exact hfull)]
      have HR := Lib.hid hR
      have h40 : ¬ 40 ≤ q := by omega
      have h400 : ¬ 400 ≤ R.es.length := by omega
      clear hR hb hq hfull
      go_upto_region 6 with fail
      obtain ⟨Wa, hWa⟩ : ∃ Wa : World, Wa = w3.alloc (.cells #[.slice none 0 0, .slice none 0 0, .int .i64 (R.time + 1)] 49) := ⟨_, rfl⟩
      obtain ⟨n3, hn3⟩ : ∃ n3, n3 = w3.heap.size := ⟨_, rfl⟩
      have hTa : T3 w Wa n3 [.slice Aa R.es.length ca, .slice Ab R.lkd.length cb, .int .i64 R.time] [.slice none 0 0, .slice none 0 0, .int .i64 0] [.slice none 0 0, .slice none 0 0, .int .i64 (R.time + 1)] := by
        rw [hWa, hn3]
        exact ⟨H3.out.only ((Stay.refl _ _).alloc _), Blk.new w3 [.slice none 0 0, .slice none 0 0, .int .i64 (R.time + 1)] _, H3.out.lt⟩
      rw [← hWa, ← hn3]
      have hza : w.heap.size ≤ Wa.heap.size := hTa.o.size
      have c1 := hTa.b1.cell
      have c3 := hTa.b3.cell
      have H4 := Lib.hid hTa
      clear hTa hWa hn3 c2 f2 l2
      go_upto_region 7 with (at_builtin; refine wpList_append_sl _ rfl _ _ _ rfl w.heap.size 36 ie _ 4 32 Try.underlying27 hie0 hie1 hie2 hie3 rfl (by omega) (.slice none 0 0) 0 [] (by rfl) (World.ownsRow_nil _ _ _ _) _ Aa R.es.length ca (R.es.flatMap Ent.cells) (by rfl) (own_sl H.out.1.er H4.out.o) (ent_one _) (by simp only [maxLen]; omega) (by omega) (by omega) ?_; intro A1 d1 w4 hown hst hnx; have hT1 := H4.out.only (none_only hst); have c1 := hT1.b1.cell; have c3 := hT1.b3.cell; have f3 := hT1.b3.free; have l3 := hT1.b3.lt; have HA := Lib.hid (And.intro hown hT1); clear hown hst hnx hT1)
      simp only [Nat.zero_add, List.nil_append] at HA
      have hr5 := own_set HA.out.1 (A := ⟨n3, 0, none⟩) (.slice A1 R.es.length d1) (own_ne_blk HA.out.1 HA.out.2.b3 (by decide))
      have hT5 := HA.out.2.put3 0 (.slice A1 R.es.length d1)
      simp only [List.set_cons_zero] at hT5
      obtain ⟨W5, hW5⟩ : ∃ W5, W5 = w4.setCell ⟨n3, 0, none⟩ (.slice A1 R.es.length d1) := ⟨_, rfl⟩
      rw [← hW5] at hr5 hT5 ⊢
      have hz5 : w.heap.size ≤ W5.heap.size := hT5.o.size
      have c1 := hT5.b1.cell
      have c3 := hT5.b3.cell
      have l3 := hT5.b3.lt
      have H5 := Lib.hid (And.intro hr5 hT5)
      clear hr5 hT5 HA hW5 f3
      go_upto_region 8 with (at_builtin; refine wpList_append_lies _ rfl _ _ _ rfl w.heap.size 36 ie _ 4 32 Try.underlying27 hie0 hie1 hie2 hie3 rfl (by omega) _ R.es.length _ (by rfl) (own_alloc H5.out.1 _) ⟨W5.heap.size, 0, none⟩ 1 1 (⟨x, t, R.time + 1, 0⟩ : Ent).cells (by rfl) (by rfl) (World.news_of_block (cs := (⟨x, t, R.time + 1, 0⟩ : Ent).cells.toArray) (t := 36) (fr := (0, 0)) (heap_alloc_at' _ _ _ (by simp))) (by simp [Ent.cells, Value.oneCell']) (by omega) (by simp only [maxLen]; omega) (by omega) (by simp; omega) (W5.heap.size + 1) (by simp) ?_; intro gA d5 w5 hown hgrow hat hlt5; have hT6 := (H5.out.2.only ((Stay.refl (fun _ => False) _).alloc _)).grown (own_alloc H5.out.1 _) (by decide) (grown_stay hgrow); have c1 := hT6.b1.cell; have c3 := hT6.b3.cell; have f3 := hT6.b3.free; have l3 := hT6.b3.lt; have HB := Lib.hid (And.intro hown hT6); clear hown hgrow hat hlt5 hT6)
      have hr6 := own_set HB.out.1 (A := ⟨n3, 0, none⟩) (.slice (some ⟨gA, 0, none⟩) (R.es.length + 1) d5) (own_ne_blk HB.out.1 HB.out.2.b3 (by decide))
      have hT6 := HB.out.2.put3 0 (.slice (some ⟨gA, 0, none⟩) (R.es.length + 1) d5)
      simp only [List.set_cons_zero] at hT6
      obtain ⟨W6, hW6⟩ : ∃ W6, W6 = w5.setCell ⟨n3, 0, none⟩ (.slice (some ⟨gA, 0, none⟩) (R.es.length + 1) d5) := ⟨_, rfl⟩
      rw [← hW6] at hr6 hT6 ⊢
      have hz6 : w.heap.size ≤ W6.heap.size := hT6.o.size
      have c1 := hT6.b1.cell
      have c3 := hT6.b3.cell
      have H6 := Lib.hid (And.intro hr6 hT6)
      clear hr6 hT6 HB hW6 f3 l3
      go_upto_region 9 with (at_builtin; refine wpList_append_sl _ rfl _ _ _ rfl w.heap.size 4 ib _ 1 1 Try.underlying47 hib0 hib1 hib2 hib3 rfl (by omega) (.slice none 0 0) 0 [] (by rfl) (World.ownsRow_nil _ _ _ _) _ Ab R.lkd.length cb (bools R.lkd) (by rfl) (own_sl H.out.1.br H6.out.2.o) (bools_one _) (by simp only [maxLen]; omega) (by omega) (by omega) ?_; intro A7 d7 w7 hown hst hnx; have hT7 := H6.out.2.only (none_only hst); have c1 := hT7.b1.cell; have c3 := hT7.b3.cell; have f3 := hT7.b3.free; have l3 := hT7.b3.lt; have HC := Lib.hid (And.intro hown (And.intro hT7 (own_only (none_only hst) H6.out.1))); clear hown hst hnx hT7)
      simp only [Nat.zero_add, List.nil_append] at HC
      have hr7 := own_set HC.out.1 (A := ⟨n3, 1, none⟩) (.slice A7 R.lkd.length d7) (own_ne_blk HC.out.1 HC.out.2.1.b3 (by decide))
      have hr7a := own_set HC.out.2.2 (A := ⟨n3, 1, none⟩) (.slice A7 R.lkd.length d7) (own_ne_blk HC.out.2.2 HC.out.2.1.b3 (by decide))
      have hT7 := HC.out.2.1.put3 1 (.slice A7 R.lkd.length d7)
      simp only [List.set_cons_zero, List.set_cons_succ] at hT7
      obtain ⟨W7, hW7⟩ : ∃ W7, W7 = w7.setCell ⟨n3, 1, none⟩ (.slice A7 R.lkd.length d7) := ⟨_, rfl⟩
      rw [← hW7] at hr7 hr7a hT7 ⊢
      have hz7 : w.heap.size ≤ W7.heap.size := hT7.o.size
      have c1 := hT7.b1.cell
      have c3 := hT7.b3.cell
      have l3 := hT7.b3.lt
      have H7 := Lib.hid (And.intro hr7 (And.intro hr7a hT7))
      clear hr7 hr7a hT7 HC hW7 f3
      go_upto_region 10 with (at_builtin; refine wpList_append_lies _ rfl _ _ _ rfl w.heap.size 4 ib _ 1 1 Try.underlying47 hib0 hib1 hib2 hib3 rfl (by omega) _ R.lkd.length _ (by rfl) (own_alloc H7.out.1 _) ⟨W7.heap.size, 0, none⟩ 1 1 [.bool false] (by rfl) (by rfl) (World.news_of_block (cs := [Value.bool false].toArray) (t := 4) (fr := (0, 0)) (heap_alloc_at' _ _ _ (by simp))) (by simp [Value.oneCell']) (by omega) (by simp only [maxLen]; omega) (by omega) (by simp; omega) (W7.heap.size + 1) (by simp) ?_; intro gB d8 w8 hown hgrow hat hlt5; have hx8 := grown_stay hgrow; have hT8 := (H7.out.2.2.only ((Stay.refl (fun _ => False) _).alloc _)).grown (own_alloc H7.out.1 _) (by decide) hx8; have hra8 := own_stay hx8 (own_alloc H7.out.2.1 (.cells #[Value.bool false] 4)) (fun g hg e => own_off H7.out.2.1 H7.out.1 (by decide) g hg e); have c1 := hT8.b1.cell; have c3 := hT8.b3.cell; have f3 := hT8.b3.free; have l3 := hT8.b3.lt; have HD := Lib.hid (And.intro hown (And.intro hra8 hT8)); clear hown hgrow hat hlt5 hT8 hx8 hra8)
      have hr8 := own_set HD.out.1 (A := ⟨n3, 1, none⟩) (.slice (some ⟨gB, 0, none⟩) (R.lkd.length + 1) d8) (own_ne_blk HD.out.1 HD.out.2.2.b3 (by decide))
      have hr8a := own_set HD.out.2.1 (A := ⟨n3, 1, none⟩) (.slice (some ⟨gB, 0, none⟩) (R.lkd.length + 1) d8) (own_ne_blk HD.out.2.1 HD.out.2.2.b3 (by decide))
      have hT8 := HD.out.2.2.put3 1 (.slice (some ⟨gB, 0, none⟩) (R.lkd.length + 1) d8)
      simp only [List.set_cons_zero, List.set_cons_succ] at hT8
      obtain ⟨W8, hW8⟩ : ∃ W8, W8 = w8.setCell ⟨n3, 1, none⟩ (.slice (some ⟨gB, 0, none⟩) (R.lkd.length + 1) d8) := ⟨_, rfl⟩
      rw [← hW8] at hr8 hr8a hT8 ⊢
      have c2 := hT8.b2.cell
      have f2 := hT8.b2.free
      have l2 := hT8.b2.lt
      have c3 := hT8.b3.cell
      have H8 := Lib.hid (And.intro hr8 (And.intro hr8a hT8))
      clear hr8 hr8a hT8 HD hW8 f3 l3
      go_wp2_with fail
      have hT9 := hputs.out _ _ (.slice (some ⟨gA, 0, none⟩) (R.es.length + 1) d5) (.slice (some ⟨gB, 0, none⟩) (R.lkd.length + 1) d8) (.int .i64 (R.time + 1)) rfl H8.out.2.2.toT2
      have r0 := hT9.b2.cell 0
      have r1 := hT9.b2.cell 1
      have r2 := hT9.b2.cell 2
      simp only [List.getElem?_cons_zero, List.getElem?_cons_succ] at r0 r1 r2
      refine bodyPost_ret (v := .tuple #[.agg #[.slice (some ⟨gA, 0, none⟩) (R.es.length + 1) d5, .slice (some ⟨gB, 0, none⟩) (R.lkd.length + 1) d8, .int .i64 (R.time + 1)], .int .i64 0]) (by simp [results, Try.results43, go_sem, r0, r1, r2]) rfl ?_
      rw [HR.out]
      have n2 := own_ne_blk H8.out.1 H8.out.2.2.b2 (by decide)
      have n2a := own_ne_blk H8.out.2.1 H8.out.2.2.b2 (by decide)
      refine ⟨_, _, rfl, ⟨?_, ?_⟩, fun g hg => .inr (own_lt H8.out.2.1 g hg).1, fun g hg => .inr (own_lt H8.out.1 g hg).1, hT9.o⟩
      · have := owns_base (own_set (own_set (own_set H8.out.2.1 (A := ⟨w.heap.size + 1, 0, none⟩) (.slice (some ⟨gA, 0, none⟩) (R.es.length + 1) d5) n2a) (A := ⟨w.heap.size + 1, 1, none⟩) (.slice (some ⟨gB, 0, none⟩) (R.lkd.length + 1) d8) n2a) (A := ⟨w.heap.size + 1, 2, none⟩) (.int .i64 (R.time + 1)) n2a) (Nat.zero_le _)
        simpa using this
      · have := owns_base (own_set (own_set (own_set H8.out.1 (A := ⟨w.heap.size + 1, 0, none⟩) (.slice (some ⟨gA, 0, none⟩) (R.es.length + 1) d5) n2) (A := ⟨w.heap.size + 1, 1, none⟩) (.slice (some ⟨gB, 0, none⟩) (R.lkd.length + 1) d8) n2) (A := ⟨w.heap.size + 1, 2, none⟩) (.int .i64 (R.time + 1)) n2) (Nat.zero_le _)
        simpa [bools] using this

end Go.Proofs.Ytgjicobfbdikmaa
