/- The reference's Release. -/
import Derived.Test.YtgjicobfbdikmaaLedRefC
set_option linter.unusedVariables false
set_option linter.unusedSimpArgs false
namespace Go.Proofs.Ytgjicobfbdikmaa
open Go Go.RowKit

theorem puts3 {w W : World} {l1 l2 : List Value} (u0 u1 u2 : Value) (hl : l2.length = 3) (hT : T2 w W l1 l2) : T2 w (((W.setCell ⟨w.heap.size + 1, 0, none⟩ u0).setCell ⟨w.heap.size + 1, 1, none⟩ u1).setCell ⟨w.heap.size + 1, 2, none⟩ u2) l1 [u0, u1, u2] := by
  match l2, hl with
  | [x0, x1, x2], _ => exact ((hT.put2 0 u0).put2 1 u1).put2 2 u2
theorem opn_range {es : List Ent} {t x : Int} {i : Nat} (h : (opn t 0 es)[i]? = some x) : ∃ (k : Nat) (e : Ent), x = (k : Int) ∧ k < es.length ∧ es[k]? = some e ∧ whatAt es x = e.what := by
  have hm := List.mem_of_getElem? h
  rw [opn_mem] at hm
  obtain ⟨j, e, rfl, he, _⟩ := hm
  refine ⟨j, e, by simp, (List.getElem?_eq_some_iff.1 he).1, he, ?_⟩
  unfold whatAt
  simp [he]

theorem RAt.put {W : World} {a b : Value} {R : RL} {n : Nat} {l : List Value} (h : RAt W a b R) (hb : Blk W n 49 l) (i : Nat) (v : Value) : RAt (W.setCell ⟨n, i, none⟩ v) a b R :=
  ⟨own_set h.er v (own_ne_blk h.er hb (by decide)), own_set h.br v (own_ne_blk h.br hb (by decide))⟩
theorem Next.base {w w1 : World} {u v : Value} (h : Next w1 u v) (hz : w.heap.size ≤ w1.heap.size) : Next w u v := fun g hg => (h g hg).imp id (Nat.le_trans hz)
/-- A result laid into the result's struct. -/
theorem RPost.laid {w W : World} {a b a' b' : Value} {R : RL} {l1 l2 : List Value} (u0 u1 u2 : Value) (hl : l2.length = 3) (hT : T2 w W l1 l2) (hA : RAt W a' b' R) (h1 : Next w a a') (h2 : Next w b b') :
    RPost w a b a' b' R (((W.setCell ⟨w.heap.size + 1, 0, none⟩ u0).setCell ⟨w.heap.size + 1, 1, none⟩ u1).setCell ⟨w.heap.size + 1, 2, none⟩ u2) := by
  refine ⟨?_, h1, h2, (puts3 u0 u1 u2 hl hT).o⟩
  exact ((hA.put hT.b2 0 u0).put (hT.put2 0 u0).b2 1 u1).put ((hT.put2 0 u0).put2 1 u1).b2 2 u2

set_option maxRecDepth 100000 in
set_option maxHeartbeats 4000000 in
theorem rrel_any (w : World) (a b : Value) (R : RL) (t x : Int) (h : RAt w a b R) (hf : R.Fit) :
    Calls Try.prog 44 #[.agg #[a, b, .int .i64 R.time], .int .i64 t, .int .i64 x] w fun e w' => ∃ a' b', e = .returned (.tuple #[.agg #[a', b', .int .i64 (R.release t x).1.time], .int .i64 (R.release t x).2]) ∧ RPost w a b a' b' (R.release t x).1 w' := by
  obtain ⟨Aa, ca, rfl⟩ := own_shape h.er
  obtain ⟨Ab, cb, rfl⟩ := own_shape h.br
  have hn := hf.n
  have hl4 : R.lkd.length ≤ 400 := by rw [hf.l]; exact hf.n
  have ht := hf.t
  have H := Lib.hid (And.intro h hf)
  clear h hf
  go_enter Try.func44, Try.ntmps44
  go_upto_region 1 with fail
  obtain ⟨W0, hW0⟩ : ∃ W0 : World, W0 = (w.alloc (.cells #[.slice Aa R.es.length ca, .slice Ab R.lkd.length cb, .int .i64 R.time] 49)).alloc (.cells #[.slice none 0 0, .slice none 0 0, .int .i64 0] 49) := ⟨_, rfl⟩
  have hT0 : T2 w W0 [.slice Aa R.es.length ca, .slice Ab R.lkd.length cb, .int .i64 R.time] [.slice none 0 0, .slice none 0 0, .int .i64 0] := by
    rw [hW0]
    exact ⟨((Stay.refl _ w).alloc _).alloc _, (Blk.new w [.slice Aa R.es.length ca, .slice Ab R.lkd.length cb, .int .i64 R.time] _).alloc _, Blk.newAt _ [.slice none 0 0, .slice none 0 0, .int .i64 0] _ _ (by simp)⟩
  have hz0 : w.heap.size ≤ W0.heap.size := hT0.o.size
  rw [← hW0]
  have c1 := hT0.b1.cell
  have c2 := hT0.b2.cell
  have f2 := hT0.b2.free
  have l2 := hT0.b2.lt
  have H0 := Lib.hid hT0
  clear hT0 hW0
  by_cases hb : Bad t x
  · have hR : R.release t x = (R, 2) := by unfold RL.release; rw [if_pos hb]
    have HR := Lib.hid hR
    by_cases ht1 : 1 ≤ t ∧ t ≤ 64
    · have hx1 : ¬ (0 ≤ x ∧ x ≤ 999) := by unfold Bad at hb; omega
      clear hR hb
      go_wp2_with fail
      refine (rtask_any W0 t).mono ?_
      rintro e w1 ⟨rfl, rfl⟩
      rw [decide_eq_true ht1]
      go_wp2_with fail
      refine (rwhat_any w1 x).mono ?_
      rintro e w2 ⟨rfl, rfl⟩
      rw [decide_eq_false hx1]
      clear ht1 hx1
      go_wp2_with fail
      have hT5 := puts3 (.slice Aa R.es.length ca) (.slice Ab R.lkd.length cb) (.int .i64 R.time) rfl H0.out
      have r0 := hT5.b2.cell 0
      have r1 := hT5.b2.cell 1
      have r2 := hT5.b2.cell 2
      simp only [List.getElem?_cons_zero, List.getElem?_cons_succ] at r0 r1 r2
      refine bodyPost_ret (v := .tuple #[.agg #[.slice Aa R.es.length ca, .slice Ab R.lkd.length cb, .int .i64 R.time], .int .i64 2]) (by simp [results, Try.results44, go_sem, r0, r1, r2]) rfl (by rw [HR.out]; exact ⟨_, _, rfl, RPost.same H.out.1 hT5.o⟩)
    · clear hR hb
      go_wp2_with fail
      refine (rtask_any W0 t).mono ?_
      rintro e w1 ⟨rfl, rfl⟩
      rw [decide_eq_false ht1]
      clear ht1
      go_wp2_with fail
      have hT5 := puts3 (.slice Aa R.es.length ca) (.slice Ab R.lkd.length cb) (.int .i64 R.time) rfl H0.out
      have r0 := hT5.b2.cell 0
      have r1 := hT5.b2.cell 1
      have r2 := hT5.b2.cell 2
      simp only [List.getElem?_cons_zero, List.getElem?_cons_succ] at r0 r1 r2
      refine bodyPost_ret (v := .tuple #[.agg #[.slice Aa R.es.length ca, .slice Ab R.lkd.length cb, .int .i64 R.time], .int .i64 2]) (by simp [results, Try.results44, go_sem, r0, r1, r2]) rfl (by rw [HR.out]; exact ⟨_, _, rfl, RPost.same H.out.1 hT5.o⟩)
  · have ht1 : 1 ≤ t ∧ t ≤ 64 := by unfold Bad at hb; omega
    have hx1 : 0 ≤ x ∧ x ≤ 999 := by unfold Bad at hb; omega
    have HNB := Lib.hid hb
    clear hb
    go_wp2_with fail
    refine (rtask_any W0 t).mono ?_
    rintro e w1 ⟨rfl, rfl⟩
    rw [decide_eq_true ht1]
    go_wp2_with fail
    refine (rwhat_any w1 x).mono ?_
    rintro e w2 ⟨rfl, rfl⟩
    rw [decide_eq_true hx1]
    clear ht1 hx1
    go_wp2_with fail
    refine (rheld0_any w2 _ _ R t (H.out.1.only H0.out.o) H.out.2.n).mono ?_
    rintro e w3 ⟨v3, rfl, hr3, hO3⟩
    obtain ⟨A3, c3, rfl⟩ := own_shape hr3
    have hT3 := H0.out.only hO3
    obtain ⟨p, hp⟩ : ∃ p, p = opn t 0 R.es := ⟨_, rfl⟩
    have hp4 : p.length ≤ 400 := by rw [hp]; have := opn_len t R.es 0; omega
    obtain ⟨n, hnp⟩ : ∃ n, n = p.length := ⟨_, rfl⟩
    rw [← hp, ← hnp] at hr3
    rw [← hp, ← hnp]
    rw [← hnp] at hp4
    have H3 := Lib.hid (And.intro hT3 (And.intro hr3 (And.intro hp hnp)))
    clear hr3 hO3 hT3 hp hnp c1 c2 f2 l2
    go_wp2_with fail
    go_loopg [9] n (fun kk vi wr => ∃ (i : Nat), i ≤ n ∧ kk = i ∧ vi = .int .i64 ((i : Int) - 1) ∧ T2 w wr [.slice Aa R.es.length ca, .slice Ab R.lkd.length cb, .int .i64 R.time] [.slice none 0 0, .slice none 0 0, .int .i64 0] ∧ Only w3 wr ∧ seek (fun k => whatAt R.es k == x) p n = seek (fun k => whatAt R.es k == x) p i)
    case atStart => exact ⟨n, Nat.le_refl _, rfl, by go_num, H3.out.1, Stay.refl _ _, rfl⟩
    case round =>
      obtain ⟨i, hi, hk, rfl, hT, hO, hsk⟩ := hrel
      have c1 := hT.b1.cell
      have c2 := hT.b2.cell
      have f2 := hT.b2.free
      have l2 := hT.b2.lt
      by_cases hi0 : i = 0
      · subst hi0
        have HX := Lib.hid (And.intro hT hsk)
        clear hT hO hsk hk
        go_wp2_with fail
        have hT5 := puts3 (.slice Aa R.es.length ca) (.slice Ab R.lkd.length cb) (.int .i64 R.time) rfl HX.out.1
        have r0 := hT5.b2.cell 0
        have r1 := hT5.b2.cell 1
        have r2 := hT5.b2.cell 2
        simp only [List.getElem?_cons_zero, List.getElem?_cons_succ] at r0 r1 r2
        have hR : R.release t x = (R, 6) := by
          unfold RL.release
          rw [if_neg HNB.out, ← H3.out.2.2.1, ← H3.out.2.2.2, HX.out.2]
          rfl
        refine bodyPost_ret (v := .tuple #[.agg #[.slice Aa R.es.length ca, .slice Ab R.lkd.length cb, .int .i64 R.time], .int .i64 6]) (by simp [results, Try.results44, go_sem, r0, r1, r2]) rfl (by rw [hR]; exact ⟨_, _, rfl, RPost.same H.out.1 hT5.o⟩)
      · obtain ⟨j, rfl⟩ : ∃ j, i = j + 1 := ⟨i - 1, by omega⟩
        have e1 : ((j + 1 : Nat) : Int) - 1 = (j : Int) := by omega
        rw [e1]
        obtain ⟨k0, hk0⟩ : ∃ k0, p[j]? = some k0 := ⟨_, List.getElem?_eq_getElem (by have := H3.out.2.2.2; omega)⟩
        obtain ⟨k, en, rfl, hkn, hen, hwa⟩ := opn_range (by rw [← H3.out.2.2.1]; exact hk0)
        have hrp := own_only hO H3.out.2.1
        obtain ⟨gp, cp, e2, _, _⟩ := hrp.form (by omega)
        obtain ⟨rfl, rfl⟩ : A3 = some ⟨gp, 0, none⟩ ∧ c3 = cp := by simpa using e2
        have z1 := hrp.cellAt j (by omega)
        rw [show (ints p)[j]? = some (.int .i64 (k : Int)) by unfold ints; rw [List.getElem?_map, hk0]; rfl] at z1
        obtain ⟨ge, oe, rfl, hge, hec⟩ := (own_sl H.out.1.er hT.o).elem Ent.cells_length hen (by omega)
        have z2 := hec 0 _ rfl
        simp only [Nat.add_zero] at z2
        have lgp := (own_lt hrp gp rfl).2
        have u1 : (0 : Int) ≤ (j : Int) := by omega
        have u2 : (j : Int) < (n : Int) := by omega
        have u3 : (0 : Int) ≤ (k : Int) := by omega
        have u4 : (k : Int) < (R.es.length : Int) := by omega
        have hsk2 : seek (fun k => whatAt R.es k == x) p (j + 1) = if (en.what == x) = true then some j else seek (fun k => whatAt R.es k == x) p j := by
          have e : (whatAt R.es (p.getD j 0) == x) = (en.what == x) := by rw [show p.getD j 0 = (k : Int) by rw [List.getD_eq_getElem?_getD, hk0]; rfl, hwa]
          simp only [seek, e]
        have HX := Lib.hid (And.intro hT (And.intro hO (And.intro hsk (And.intro hsk2 (And.intro hk hk0)))))
        clear hT hO hsk hsk2 hk hk0 hrp e2 hec hen hwa e1
        by_cases hw : en.what = x
        · have hww : (en.what == x) = true := by simp [hw]
          have HWW := Lib.hid hww
          clear hw
          go_upto_region 7 with fail
          go_quiet (fail)
          go_upto_region 8 with fail
          have hOd : Only wr (wr.drewN nq) := (Stay.refl _ wr).drewN nq
          have hTd := HX.out.1.only hOd
          obtain ⟨wd, hwd⟩ : ∃ wd, wd = wr.drewN nq := ⟨_, rfl⟩
          rw [← hwd] at hTd hOd ⊢
          have c1 := hTd.b1.cell
          have z1 := hOd.cell z1
          have HD := Lib.hid (And.intro hTd hOd)
          clear c2 f2 l2 z2 hwd hTd hOd
          go_region_with (go_at_call 70; refine (rel_any _ (.slice (some ⟨ge, oe, none⟩) R.es.length ca) (.slice Ab R.lkd.length cb) R k false (H.out.1.only (HD.out.1.o.trans' ((Stay.refl _ wd).drew))) H.out.2.n H.out.2.l ⟨H.out.2.t.1, by have := H.out.2.t.2; omega⟩ hkn).mono ?_; rintro e w5 ⟨a5, b5, rfl, hP⟩; have hT5 := HD.out.1.only (Only.trans' ((Stay.refl _ wd).drew) hP.2.2.2); have c2 := hT5.b2.cell; have f2 := hT5.b2.free; have l2 := hT5.b2.lt; have hsa := own_shape hP.1.er; obtain ⟨A5, d5, rfl⟩ := hsa; obtain ⟨B5, g5, rfl⟩ := own_shape hP.1.br; have HP := Lib.hid (And.intro hP hT5); clear hP hT5)
          all_goals
            go_wp2_with fail
            have hT5 := puts3 (.slice A5 (R.rel k false).es.length d5) (.slice B5 (R.rel k false).lkd.length g5) (.int .i64 (R.rel k false).time) rfl HP.out.2
            have r0 := hT5.b2.cell 0
            have r1 := hT5.b2.cell 1
            have r2 := hT5.b2.cell 2
            simp only [List.getElem?_cons_zero, List.getElem?_cons_succ] at r0 r1 r2
            have hR : R.release t x = (R.rel k false, 0) := by
              unfold RL.release
              rw [if_neg HNB.out, ← H3.out.2.2.1, ← H3.out.2.2.2, HX.out.2.2.1, HX.out.2.2.2.1, if_pos HWW.out]
              simp only
              rw [List.getD_eq_getElem?_getD, HX.out.2.2.2.2.2]
              rfl
            refine bodyPost_ret (v := .tuple #[.agg #[.slice A5 (R.rel k false).es.length d5, .slice B5 (R.rel k false).lkd.length g5, .int .i64 (R.rel k false).time], .int .i64 0]) (by simp [results, Try.results44, go_sem, r0, r1, r2]) rfl ?_
            rw [hR]
            exact ⟨_, _, rfl, RPost.laid _ _ _ rfl HP.out.2 HP.out.1.1 (HP.out.1.2.1.base HD.out.1.o.size) (HP.out.1.2.2.1.base HD.out.1.o.size)⟩
        · have hww : (en.what == x) = false := by simp [hw]
          have HWW := Lib.hid hww
          clear hw
          go_upto_region 7 with fail
          go_quiet (fail)
          go_wp2_with fail
          have hOd : Only wr (wr.drewN nq) := (Stay.refl _ wr).drewN nq
          go_roundg j
          case measure => have := HX.out.2.2.2.2.1; omega
          case rel => exact ⟨j, by omega, rfl, by go_num, HX.out.1.only hOd, HX.out.2.1.trans' hOd, by rw [HX.out.2.2.1, HX.out.2.2.2.1, HWW.out]; rfl⟩

end Go.Proofs.Ytgjicobfbdikmaa
