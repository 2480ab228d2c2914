/- The reference's End. -/
import Derived.Test.YtgjicobfbdikmaaLedRefD
set_option linter.unusedVariables false
set_option linter.unusedSimpArgs false
namespace Go.Proofs.Ytgjicobfbdikmaa
open Go Go.RowKit

theorem puts1 {w W : World} {l1 l2 : List Value} (u0 u1 u2 : Value) (hl : l1.length = 3) (hT : T2 w W l1 l2) : T2 w (((W.setCell ⟨w.heap.size, 0, none⟩ u0).setCell ⟨w.heap.size, 1, none⟩ u1).setCell ⟨w.heap.size, 2, none⟩ u2) [u0, u1, u2] l2 := by
  match l1, hl with
  | [x0, x1, x2], _ => exact ((hT.put1 0 u0).put1 1 u1).put1 2 u2
theorem RAt.puts {w W : World} {a' b' : Value} {R : RL} {l1 l2 : List Value} (u0 u1 u2 : Value) (hl : l1.length = 3) (hT : T2 w W l1 l2) (hA : RAt W a' b' R) : RAt (((W.setCell ⟨w.heap.size, 0, none⟩ u0).setCell ⟨w.heap.size, 1, none⟩ u1).setCell ⟨w.heap.size, 2, none⟩ u2) a' b' R :=
  ((hA.put hT.b1 0 u0).put (hT.put1 0 u0).b1 1 u1).put ((hT.put1 0 u0).put1 1 u1).b1 2 u2
theorem ends_facts (R : RL) (p : List Int) : ∀ m : Nat, (R.ends p m).es.length = R.es.length ∧ (R.ends p m).lkd.length = R.lkd.length ∧ (R.ends p m).time = R.time + m ∧ ∀ k, whatAt (R.ends p m).es k = whatAt R.es k
  | 0 => ⟨rfl, rfl, by simp [RL.ends], fun _ => rfl⟩
  | m + 1 => by
    obtain ⟨a, b, c, d⟩ := ends_facts R p m
    refine ⟨by simp [RL.ends, RL.rel, shut_length, a], by simp [RL.ends, RL.rel, b], by simp only [RL.ends, RL.rel, c]; push_cast; omega, fun k => ?_⟩
    simp only [RL.ends, RL.rel]
    rw [whatAt_shut, d]
theorem heap_alloc_drew (w : World) (o : Obj) (k : Nat) (hk : k = w.heap.size) : (w.drew.alloc o).heap[k]? = some o := by
  subst hk
  exact heap_alloc_new w.drew o

theorem Next.trans {w w1 : World} {u v x : Value} (h : Next w u v) (k : Next w1 v x) (hz : w.heap.size ≤ w1.heap.size) : Next w u x := fun g hg => by
  rcases k g hg with h1 | h1
  · exact h g h1
  · exact .inr (Nat.le_trans hz h1)

set_option maxRecDepth 100000 in
set_option maxHeartbeats 4000000 in
theorem rend_any (w : World) (a b : Value) (R : RL) (t : Int) (h : RAt w a b R) (hf : R.Fit) :
    Calls Try.prog 45 #[.agg #[a, b, .int .i64 R.time], .int .i64 t] w fun e w' => ∃ a' b' v, e = .returned (.tuple #[.agg #[a', b', .int .i64 (R.fin t).1.time], v, .int .i64 (R.fin t).2.2]) ∧ RPost w a b a' b' (R.fin t).1 w' ∧ w'.ownsRow w.heap.size 3 1 v (R.fin t).2.1.length (ints (R.fin t).2.1) := by
  obtain ⟨ii, hii0, hii1, hii2, hii3⟩ := info_parts infoI
  obtain ⟨Aa, ca, rfl⟩ := own_shape h.er
  obtain ⟨Ab, cb, rfl⟩ := own_shape h.br
  have hn := hf.n
  have hl4 : R.lkd.length ≤ 400 := by rw [hf.l]; exact hf.n
  have ht := hf.t
  have H := Lib.hid (And.intro h hf)
  clear h hf
  go_enter Try.func45, Try.ntmps45
  go_upto_region 1 with fail
  obtain ⟨W0, hW0⟩ : ∃ W0 : World, W0 = (w.alloc (.cells #[.slice Aa R.es.length ca, .slice Ab R.lkd.length cb, .int .i64 R.time] 49)).alloc (.cells #[.slice none 0 0, .slice none 0 0, .int .i64 0] 49) := ⟨_, rfl⟩
  have hT0 : T2 w W0 [.slice Aa R.es.length ca, .slice Ab R.lkd.length cb, .int .i64 R.time] [.slice none 0 0, .slice none 0 0, .int .i64 0] := by
    rw [hW0]
    exact ⟨((Stay.refl _ w).alloc _).alloc _, (Blk.new w [.slice Aa R.es.length ca, .slice Ab R.lkd.length cb, .int .i64 R.time] _).alloc _, Blk.newAt _ [.slice none 0 0, .slice none 0 0, .int .i64 0] _ _ (by simp)⟩
  have hz0 : w.heap.size ≤ W0.heap.size := hT0.o.size
  rw [← hW0]
  have c1 := hT0.b1.cell
  have c2 := hT0.b2.cell
  have f2 := hT0.b2.free
  have l2 := hT0.b2.lt
  have H0 := Lib.hid hT0
  clear hT0 hW0
  by_cases hb : Bad t 0
  · have hR : R.fin t = (R, [], 2) := by unfold RL.fin; rw [if_pos hb]
    have HR := Lib.hid hR
    have ht1 : ¬ (1 ≤ t ∧ t ≤ 64) := by unfold Bad at hb; omega
    clear hR hb
    go_wp2_with fail
    refine (rtask_any W0 t).mono ?_
    rintro e w1 ⟨rfl, rfl⟩
    rw [decide_eq_false ht1]
    clear ht1
    go_wp2_with fail
    have hT5 := puts3 (.slice Aa R.es.length ca) (.slice Ab R.lkd.length cb) (.int .i64 R.time) rfl H0.out
    have r0 := hT5.b2.cell 0
    have r1 := hT5.b2.cell 1
    have r2 := hT5.b2.cell 2
    simp only [List.getElem?_cons_zero, List.getElem?_cons_succ] at r0 r1 r2
    refine bodyPost_ret (v := .tuple #[.agg #[.slice Aa R.es.length ca, .slice Ab R.lkd.length cb, .int .i64 R.time], .slice none 0 0, .int .i64 2]) (by simp [results, Try.results45, go_sem, r0, r1, r2]) rfl (by rw [HR.out]; exact ⟨_, _, _, rfl, RPost.same H.out.1 hT5.o, World.ownsRow_nil _ _ _ _⟩)
  · have ht1 : 1 ≤ t ∧ t ≤ 64 := by unfold Bad at hb; omega
    have HNB := Lib.hid hb
    clear hb
    go_wp2_with fail
    refine (rtask_any W0 t).mono ?_
    rintro e w1 ⟨rfl, rfl⟩
    rw [decide_eq_true ht1]
    clear ht1
    go_wp2_with fail
    refine (rheld0_any w1 _ _ R t (H.out.1.only H0.out.o) H.out.2.n).mono ?_
    rintro e w3 ⟨v3, rfl, hr3, hO3⟩
    obtain ⟨A3, c3, rfl⟩ := own_shape hr3
    have hT3 := H0.out.only hO3
    obtain ⟨p, hp⟩ : ∃ p, p = opn t 0 R.es := ⟨_, rfl⟩
    have hp4 : p.length ≤ 400 := by rw [hp]; have := opn_len t R.es 0; omega
    obtain ⟨n, hnp⟩ : ∃ n, n = p.length := ⟨_, rfl⟩
    rw [← hp, ← hnp] at hr3
    rw [← hp, ← hnp]
    rw [← hnp] at hp4
    have hW2 : w.heap.size + 1 < w1.heap.size := l2
    have hW3 : w.heap.size ≤ w3.heap.size := hT3.o.size
    have H3 := Lib.hid (And.intro hT3 (And.intro hr3 (And.intro hp hnp)))
    clear hr3 hO3 hT3 hp hnp c1 c2 f2 l2
    go_wp2_with fail
    go_loopg [7, 9] n (fun kk vo vi wr => ∃ (m : Nat) (a' b' : Value), m ≤ n ∧ kk = n - m ∧ vi = .int .i64 ((n : Int) - 1 - m) ∧ T2 w wr [a', b', .int .i64 (R.ends p m).time] [.slice none 0 0, .slice none 0 0, .int .i64 0] ∧ Stay (fun k => k = w.heap.size) w3 wr ∧ RAt wr a' b' (R.ends p m) ∧
      Next w (.slice Aa R.es.length ca) a' ∧ Next w (.slice Ab R.lkd.length cb) b' ∧ wr.ownsRow w3.heap.size 3 1 vo m (ints ((p.map (whatAt R.es)).reverse.take m)))
    case atStart => exact ⟨0, _, _, Nat.zero_le _, rfl, by go_num, H3.out.1, Stay.refl _ _, H.out.1.only H3.out.1.o, Next.refl _ _, Next.refl _ _, World.ownsRow_nil _ _ _ _⟩
    case round =>
      obtain ⟨m, a', b', hm, hk, rfl, hT, hO, hA, hn1, hn2, hr⟩ := hrel
      obtain ⟨A', ca', rfl⟩ := own_shape hA.er
      obtain ⟨B', cb', rfl⟩ := own_shape hA.br
      obtain ⟨Ao, co, rfl⟩ := own_shape hr
      have hef := ends_facts R p m
      have c1 := hT.b1.cell
      have c2 := hT.b2.cell
      have f2 := hT.b2.free
      have l2 := hT.b2.lt
      by_cases hlt : m < n
      · obtain ⟨j, hj⟩ : ∃ j, j = n - 1 - m := ⟨_, rfl⟩
        have e1 : (n : Int) - 1 - m = (j : Int) := by omega
        rw [e1]
        obtain ⟨k0, hk0⟩ : ∃ k0, p[j]? = some k0 := ⟨_, List.getElem?_eq_getElem (by have := H3.out.2.2.2; omega)⟩
        obtain ⟨k, en, rfl, hkn, hen, hwa⟩ := opn_range (by rw [← H3.out.2.2.1]; exact hk0)
        have hrp := own_stay hO H3.out.2.1 (fun g hg e => by have := (own_lt H3.out.2.1 g hg).1; omega)
        obtain ⟨gp, cp, e2, _, _⟩ := hrp.form (by omega)
        obtain ⟨rfl, rfl⟩ : A3 = some ⟨gp, 0, none⟩ ∧ c3 = cp := by simpa using e2
        have z1 := hrp.cellAt j (by omega)
        rw [show (ints p)[j]? = some (.int .i64 (k : Int)) by unfold ints; rw [List.getElem?_map, hk0]; rfl] at z1
        have lgp := (own_lt hrp gp rfl).2
        have u1 : (0 : Int) ≤ (j : Int) := by omega
        have u2 : (j : Int) < (n : Int) := by omega
        have hrl : R.ends p (m + 1) = (R.ends p m).rel k true := by
          simp only [RL.ends]
          rw [show p.length - 1 - m = j by rw [hj, H3.out.2.2.2], List.getD_eq_getElem?_getD, hk0]
          rfl
        have hrv : (p.map (whatAt R.es)).reverse.take (m + 1) = (p.map (whatAt R.es)).reverse.take m ++ [en.what] := by
          rw [rev_take _ m (by rw [List.length_map, ← H3.out.2.2.2]; exact hlt)]
          congr 2
          rw [List.getElem_map]
          have e5 : p[(p.map (whatAt R.es)).length - 1 - m]? = some (k : Int) := by rw [List.length_map, ← H3.out.2.2.2, show n - 1 - m = j by omega]; exact hk0
          obtain ⟨_, e6⟩ := List.getElem?_eq_some_iff.1 e5
          rw [e6, hwa]
        obtain ⟨Rm, hRm⟩ : ∃ Rm, Rm = R.ends p m := ⟨_, rfl⟩
        rw [← hRm] at hef hT hA hrl c1 hn1 hn2
        have hm4 : m ≤ 400 := by omega
        have HX := Lib.hid (And.intro hT (And.intro hO (And.intro hA (And.intro hn1 (And.intro hn2 (And.intro hr (And.intro hk (And.intro hrl (And.intro hrv (And.intro hrp (And.intro hef hj)))))))))))
        have HE := Lib.hid (And.intro hen (And.intro hwa hkn))
        have HN := Lib.hid (show Rm.es.length ≤ 400 ∧ Rm.lkd.length = Rm.es.length ∧ (0 ≤ Rm.time ∧ Rm.time ≤ 100000) ∧ k < Rm.es.length from ⟨by rw [hef.1]; exact hn, by rw [hef.1, hef.2.1]; exact H.out.2.l, by rw [hef.2.2.1]; omega, by rw [hef.1]; exact hkn⟩)
        have f1 := HX.out.1.b1.free
        have l1 := HX.out.1.b1.lt
        clear hT hO hA hn1 hn2 hr hk hrl hrv hrp e1 e2 hen hwa hkn hef hk0 hRm hj c2 f2 l2
        go_upto_region 8 with fail
        go_cut [24] from 24 to 29 (fun v24 wc => ∃ a5 b5, T2 w wc [a5, b5, .int .i64 (Rm.rel k true).time] [.slice none 0 0, .slice none 0 0, .int .i64 0] ∧ Stay (fun k => k = w.heap.size) wr wc ∧ RAt wc a5 b5 (Rm.rel k true) ∧ Next w (.slice Aa R.es.length ca) a5 ∧ Next w (.slice Ab R.lkd.length cb) b5)
        case first =>
          go_region_with (go_at_call 70; refine (rel_any _ (.slice A' Rm.es.length ca') (.slice B' Rm.lkd.length cb') Rm k true (HX.out.2.2.1.only ((Stay.refl _ wr).drew)) HN.out.1 HN.out.2.1 HN.out.2.2.1 HN.out.2.2.2).mono ?_; rintro e w5 ⟨a5, b5, rfl, hP⟩; have hT5 := HX.out.1.only (Only.trans' ((Stay.refl _ wr).drew) hP.2.2.2); have c5 := hT5.b1.cell; have f5 := hT5.b1.free; have l5 := hT5.b1.lt; have hsa := own_shape hP.1.er; obtain ⟨A5, d5, rfl⟩ := hsa; obtain ⟨B5, g5, rfl⟩ := own_shape hP.1.br; have HP := Lib.hid (And.intro hP hT5); clear hP hT5)
          all_goals
            go_wp2_with fail
            go_meet
            case rel =>
              have hzr := HX.out.1.o.size
              exact ⟨_, _, puts1 _ _ _ rfl HP.out.2, ((((((Stay.refl (fun k => k = w.heap.size) wr).drew).trans HP.out.1.2.2.2 (fun _ _ h => h.elim)).put rfl _ _).put rfl _ _).put rfl _ _), RAt.puts _ _ _ rfl HP.out.2 HP.out.1.1, HX.out.2.2.2.1.trans HP.out.1.2.1 hzr, HX.out.2.2.2.2.1.trans HP.out.1.2.2.1 hzr⟩
        case rest =>
          obtain ⟨a5, b5, hT5, hx5, hA5, hm1, hm2⟩ := hcut
          obtain ⟨A5, d5, rfl⟩ := own_shape hA5.er
          obtain ⟨B5, g5, rfl⟩ := own_shape hA5.br
          have hrp5 := own_stay hx5 HX.out.2.2.2.2.2.2.2.2.2.1 (fun g hg e => by have := (own_lt HX.out.2.2.2.2.2.2.2.2.2.1 g hg).1; omega)
          have z1 := hrp5.cellAt j (by omega)
          have hz1 := HX.out.2.2.2.2.2.2.2.2.2.1.cellAt j (by omega)
          rw [show (ints p)[j]? = some (.int .i64 (k : Int)) from (hz1.symm.trans ‹_›)] at z1
          have hr5 := own_stay hx5 HX.out.2.2.2.2.2.1 (fun g hg e => own_ne_blk HX.out.2.2.2.2.2.1 HX.out.1.b1 (by decide) g hg e)
          obtain ⟨e5, he5⟩ : ∃ e5, (Rm.rel k true).es[k]? = some e5 := ⟨_, List.getElem?_eq_getElem (by rw [show (Rm.rel k true).es.length = Rm.es.length by simp [RL.rel, shut_length]]; exact HN.out.2.2.2)⟩
          have hw5 : e5.what = en.what := by
            have h1 : whatAt (Rm.rel k true).es (k : Int) = e5.what := by unfold whatAt; simp [he5]
            rw [← h1, ← HE.out.2.1, ← HX.out.2.2.2.2.2.2.2.2.2.2.1.2.2.2]
            exact whatAt_shut _ _ _ _
          obtain ⟨ge, oe, hAe, hge, hec⟩ := (own_sl' hA5.er).elem Ent.cells_length he5 (by rw [show (Rm.rel k true).es.length = Rm.es.length by simp [RL.rel, shut_length]]; have := HN.out.2.2.2; omega)
          subst hAe
          have z2 := hec 0 _ rfl
          simp only [Nat.add_zero] at z2
          rw [hw5] at z2
          have u3 : (0 : Int) ≤ (k : Int) := by omega
          have u4 : (k : Int) < ((Rm.rel k true).es.length : Int) := by rw [show (Rm.rel k true).es.length = Rm.es.length by simp [RL.rel, shut_length]]; have := HN.out.2.2.2; omega
          have c1 := hT5.b1.cell
          have l1 := hT5.b1.lt
          have lgp := (own_lt hrp5 gp rfl).2
          have hz5 : w.heap.size ≤ wc.heap.size := hT5.o.size
          have hz53 : w3.heap.size ≤ wc.heap.size := Nat.le_trans HX.out.2.1.size hx5.size
          have H5 := Lib.hid (And.intro hT5 (And.intro hx5 (And.intro hA5 (And.intro hm1 (And.intro hm2 hr5)))))
          clear hT5 hx5 hA5 hm1 hm2 hr5 hz1 hrp5 he5 hec hw5 f1
          go_upto_region 9 with fail
          go_region_law (refine step_append_lies _ (by rfl) _ _ _ (by rfl) w3.heap.size 3 ii _ 1 8 Try.underlying37 hii0 hii1 hii2 hii3 rfl (by omega) _ m _ (by rfl) (own_alloc (own_only ((Stay.refl _ wc).drew) H5.out.2.2.2.2.2) _) ⟨wc.heap.size, 0, none⟩ 1 1 [.int .i64 en.what] (by rfl) (by rfl) (World.news_of_block (cs := [Value.int .i64 en.what].toArray) (t := 3) (fr := (0, 0)) (heap_alloc_drew _ _ _ (by rfl))) (by simp [Value.oneCell']) (by omega) (by simp only [maxLen]; omega) (by omega) (by simp; omega) (wc.heap.size + 1) (by simp) ?_; intro g8 cap8 w8 hown hgrow hat hlt8; have HG8 := Lib.hid (And.intro hown (grown_stay hgrow)); clear hown hgrow hat hlt8)
          all_goals
            go_wp2_with fail
            have hx8 : Stay (fun j => (Value.slice Ao m co).ownBlock = some j) wc w8 := (((Stay.refl _ wc).drew).alloc _).trans HG8.out.2 (fun _ _ h => h)
            have hro := H5.out.2.2.2.2.2
            go_roundg (n - (m + 1))
            case measure => have := HX.out.2.2.2.2.2.2.1; omega
            case rel =>
              refine ⟨m + 1, _, _, by omega, rfl, ?_, ?_, ?_, ?_, H5.out.2.2.2.1, H5.out.2.2.2.2.1, ?_⟩
              · have := HX.out.2.2.2.2.2.2.2.2.2.2.2
                go_num
              · rw [HX.out.2.2.2.2.2.2.2.1]
                exact ⟨H5.out.1.o.trans hx8 (fun i hi e => by have := (own_lt hro i e).1; omega), hx8.blk H5.out.1.b1 (fun e => own_ne_blk hro H5.out.1.b1 (by decide) _ e rfl), hx8.blk H5.out.1.b2 (fun e => own_ne_blk hro H5.out.1.b2 (by decide) _ e rfl)⟩
              · refine (HX.out.2.1.trans H5.out.2.1 (fun _ _ h => h)).trans hx8 (fun i hi e => ?_)
                have := (own_lt hro i e).1
                omega
              · rw [HX.out.2.2.2.2.2.2.2.1]
                refine H5.out.2.2.1.stay hx8 (fun g hg e => ?_) (fun g hg e => ?_)
                · exact own_off H5.out.2.2.1.er hro (by decide) g hg e
                · exact own_off H5.out.2.2.1.br hro (by decide) g hg e
              · rw [HX.out.2.2.2.2.2.2.2.2.1]
                have := HG8.out.1
                simpa [ints] using this
      · obtain rfl : m = n := by omega
        have e1 : (m : Int) - 1 - m = -1 := by omega
        rw [e1]
        have HX := Lib.hid (And.intro hT (And.intro hA (And.intro hn1 (And.intro hn2 hr))))
        have hef2 := Lib.hid hef
        clear hT hO hA hn1 hn2 hr hk e1 hef
        go_wp2_with fail
        have hT5 := puts3 (.slice A' (R.ends p m).es.length ca') (.slice B' (R.ends p m).lkd.length cb') (.int .i64 (R.ends p m).time) rfl HX.out.1
        have r0 := hT5.b2.cell 0
        have r1 := hT5.b2.cell 1
        have r2 := hT5.b2.cell 2
        simp only [List.getElem?_cons_zero, List.getElem?_cons_succ] at r0 r1 r2
        have hR : R.fin t = (R.ends p m, (p.map (whatAt R.es)).reverse, 0) := by
          unfold RL.fin
          rw [if_neg HNB.out, ← H3.out.2.2.1, ← H3.out.2.2.2]
        refine bodyPost_ret (v := .tuple #[.agg #[.slice A' (R.ends p m).es.length ca', .slice B' (R.ends p m).lkd.length cb', .int .i64 (R.ends p m).time], .slice Ao m co, .int .i64 0]) (by simp [results, Try.results45, go_sem, r0, r1, r2]) rfl ?_
        rw [hR]
        refine ⟨_, _, _, rfl, RPost.laid _ _ _ rfl HX.out.1 HX.out.2.1 HX.out.2.2.1 HX.out.2.2.2.1, ?_⟩
        have hro := HX.out.2.2.2.2
        have hlr : ((p.map (whatAt R.es)).reverse).length = m := by rw [List.length_reverse, List.length_map, H3.out.2.2.2]
        rw [List.take_of_length_le (by omega)] at hro
        simp only
        rw [hlr]
        have n2 := own_ne_blk hro HX.out.1.b2 (by decide)
        exact owns_base (own_set (own_set (own_set hro (A := ⟨w.heap.size + 1, 0, none⟩) _ n2) (A := ⟨w.heap.size + 1, 1, none⟩) _ n2) (A := ⟨w.heap.size + 1, 2, none⟩) _ n2) hW3

end Go.Proofs.Ytgjicobfbdikmaa
