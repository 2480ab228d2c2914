/- The reference's Held, Crossed, Leaks, Sound. -/
import Derived.Test.YtgjicobfbdikmaaLedRefE
set_option linter.unusedVariables false
set_option linter.unusedSimpArgs false
namespace Go.Proofs.Ytgjicobfbdikmaa
open Go Go.RowKit

def RL.held (R : RL) (t : Int) : List Int := (opn t 0 R.es).map (whatAt R.es)

set_option maxRecDepth 100000 in
set_option maxHeartbeats 4000000 in
theorem rheld_any (w : World) (a b : Value) (R : RL) (t : Int) (h : RAt w a b R) (hf : R.Fit) :
    Calls Try.prog 49 #[.agg #[a, b, .int .i64 R.time], .int .i64 t] w fun e w' => ∃ v, e = .returned (.tuple #[v, .int .i64 (if Bad t 0 then 2 else 0)]) ∧ w'.ownsRow w.heap.size 3 1 v (if Bad t 0 then [] else R.held t).length (ints (if Bad t 0 then [] else R.held t)) ∧ Only w w' := by
  obtain ⟨ii, hii0, hii1, hii2, hii3⟩ := info_parts infoI
  obtain ⟨Aa, ca, rfl⟩ := own_shape h.er
  obtain ⟨Ab, cb, rfl⟩ := own_shape h.br
  have hn := hf.n
  have H := Lib.hid (And.intro h hf)
  clear h hf
  go_enter Try.func49, Try.ntmps49
  go_upto_region 1 with fail
  obtain ⟨W0, hW0⟩ : ∃ W0 : World, W0 = w.alloc (.cells #[.slice Aa R.es.length ca, .slice Ab R.lkd.length cb, .int .i64 R.time] 49) := ⟨_, rfl⟩
  have hO0 : Only w W0 := by rw [hW0]; exact (Stay.refl _ w).alloc _
  have hB0 : Blk W0 w.heap.size 49 [.slice Aa R.es.length ca, .slice Ab R.lkd.length cb, .int .i64 R.time] := by rw [hW0]; exact Blk.new w [.slice Aa R.es.length ca, .slice Ab R.lkd.length cb, .int .i64 R.time] _
  rw [← hW0]
  have c1 := hB0.cell
  have l1 := hB0.lt
  have H0 := Lib.hid (And.intro hO0 hB0)
  clear hO0 hB0 hW0
  by_cases hb : Bad t 0
  · have HB := Lib.hid hb
    have ht1 : ¬ (1 ≤ t ∧ t ≤ 64) := by unfold Bad at hb; omega
    clear hb
    go_wp2_with fail
    refine (rtask_any W0 t).mono ?_
    rintro e w1 ⟨rfl, rfl⟩
    rw [decide_eq_false ht1]
    clear ht1
    go_wp2_with fail
    go_ret2
    exact ⟨.slice none 0 0, by first | rfl | (rw [if_pos HB.out]; rfl), by first | exact World.ownsRow_nil _ _ _ _ | (rw [if_pos HB.out]; exact World.ownsRow_nil _ _ _ _), H0.out.1⟩
  · have ht1 : 1 ≤ t ∧ t ≤ 64 := by unfold Bad at hb; omega
    have HNB := Lib.hid hb
    clear hb
    go_wp2_with fail
    refine (rtask_any W0 t).mono ?_
    rintro e w1 ⟨rfl, rfl⟩
    rw [decide_eq_true ht1]
    clear ht1
    go_wp2_with fail
    refine (rheld0_any w1 _ _ R t (H.out.1.only H0.out.1) H.out.2.n).mono ?_
    rintro e w3 ⟨v3, rfl, hr3, hO3⟩
    obtain ⟨A3, c3, rfl⟩ := own_shape hr3
    obtain ⟨p, hp⟩ : ∃ p, p = opn t 0 R.es := ⟨_, rfl⟩
    have hp4 : p.length ≤ 400 := by rw [hp]; have := opn_len t R.es 0; omega
    obtain ⟨n, hnp⟩ : ∃ n, n = p.length := ⟨_, rfl⟩
    rw [← hp, ← hnp] at hr3
    rw [← hp, ← hnp]
    rw [← hnp] at hp4
    have hz3 : w.heap.size ≤ w3.heap.size := (H0.out.1.trans' hO3).size
    have H3 := Lib.hid (And.intro (H0.out.1.trans' hO3) (And.intro (hO3.blk H0.out.2) (And.intro hr3 (And.intro hp hnp))))
    clear hr3 hO3 hp hnp c1 l1
    go_wp2_with fail
    go_loopg [6, 16] n (fun kk vo vi wr => ∃ (i : Nat), i ≤ n ∧ kk = n - i ∧ vi = .int .i64 (i : Nat) ∧ wr.ownsRow w3.heap.size 3 1 vo i (ints ((p.map (whatAt R.es)).take i)) ∧ Only w3 wr)
    case atStart => exact ⟨0, Nat.zero_le _, rfl, rfl, World.ownsRow_nil _ _ _ _, Stay.refl _ _⟩
    case round =>
      obtain ⟨i, hi, hk, rfl, hr, hO⟩ := hrel
      obtain ⟨Ao, co, rfl⟩ := own_shape hr
      by_cases hlt : i < n
      · obtain ⟨k0, hk0⟩ : ∃ k0, p[i]? = some k0 := ⟨_, List.getElem?_eq_getElem (by have := H3.out.2.2.2.2; omega)⟩
        obtain ⟨k, en, rfl, hkn, hen, hwa⟩ := opn_range (by rw [← H3.out.2.2.2.1]; exact hk0)
        have hrp := own_only hO H3.out.2.2.1
        obtain ⟨gp, cp, e2, _, _⟩ := hrp.form (by omega)
        obtain ⟨rfl, rfl⟩ : A3 = some ⟨gp, 0, none⟩ ∧ c3 = cp := by simpa using e2
        have z1 := hrp.cellAt i (by omega)
        rw [show (ints p)[i]? = some (.int .i64 (k : Int)) by unfold ints; rw [List.getElem?_map, hk0]; rfl] at z1
        obtain ⟨ge, oe, rfl, hge, hec⟩ := (own_sl H.out.1.er (H3.out.1.trans' hO)).elem Ent.cells_length hen (by omega)
        have z2 := hec 0 _ rfl
        simp only [Nat.add_zero] at z2
        have lgp := (own_lt hrp gp rfl).2
        have c1 := (hO.blk H3.out.2.1).cell
        have l1 := (hO.blk H3.out.2.1).lt
        have u1 : (0 : Int) ≤ (i : Int) := by omega
        have u2 : (i : Int) < (n : Int) := by omega
        have u3 : (0 : Int) ≤ (k : Int) := by omega
        have u4 : (k : Int) < (R.es.length : Int) := by omega
        have hwz := hO.size
        have hrv : (p.map (whatAt R.es)).take (i + 1) = (p.map (whatAt R.es)).take i ++ [en.what] := by rw [List.take_add_one, List.getElem?_map, hk0]; simp [hwa]
        have HX := Lib.hid (And.intro hk (And.intro hr (And.intro hO hrv)))
        clear hk hr hO hrv hrp hk0 e2 hec hen hwa
        go_wp2_with (at_builtin; refine wpList_append_lies _ rfl _ _ _ rfl w3.heap.size 3 ii _ 1 8 Try.underlying37 hii0 hii1 hii2 hii3 rfl (by omega) _ i _ (by rfl) (own_alloc HX.out.2.1 _) ⟨wr.heap.size, 0, none⟩ 1 1 [.int .i64 en.what] (by rfl) (by rfl) (World.news_of_block (cs := [Value.int .i64 en.what].toArray) (t := 3) (fr := (0, 0)) (heap_alloc_at' _ _ _ (by simp))) (by simp [Value.oneCell']) (by omega) (by simp only [maxLen]; omega) (by omega) (by simp; omega) (wr.heap.size + 1) (by simp) ?_; intro g' cap w5 hown hgrow hat hlt2; have HG := Lib.hid (And.intro hown (grown_stay hgrow)); clear hown hgrow hat hlt2)
        go_roundg (n - (i + 1))
        case measure => have := HX.out.1; omega
        case rel =>
          refine ⟨i + 1, by omega, rfl, by go_num, ?_, ?_⟩
          · rw [HX.out.2.2.2]
            have := HG.out.1
            simpa [ints] using this
          · exact (HX.out.2.2.1.trans' ((Stay.refl (fun _ => False) wr).alloc _)).trans HG.out.2 (fun j hj e => by
              have := (own_lt HX.out.2.1 j e).1
              omega)
      · obtain rfl : i = n := by omega
        have HX := Lib.hid (And.intro hr hO)
        clear hk hr hO
        go_wp2_with fail
        go_ret2
        refine ⟨_, by first | rfl | (rw [if_neg HNB.out]; rfl), ?_, H3.out.1.trans' HX.out.2⟩
        try rw [if_neg HNB.out]
        have hl : (R.held t).length = i := by unfold RL.held; rw [List.length_map, ← H3.out.2.2.2.1, H3.out.2.2.2.2]
        rw [hl]
        have := HX.out.1
        rw [List.take_of_length_le (by rw [List.length_map, H3.out.2.2.2.2]; exact Nat.le_refl _)] at this
        unfold RL.held
        rw [← H3.out.2.2.2.1]
        exact owns_base this hz3

set_option maxRecDepth 100000 in
set_option maxHeartbeats 4000000 in
theorem rleaks_any (w : World) (a b : Value) (R : RL) (h : RAt w a b R) (hf : R.Fit) :
    Calls Try.prog 47 #[.agg #[a, b, .int .i64 R.time]] w fun e w' => ∃ v, e = .returned v ∧ w'.ownsRow w.heap.size 3 1 v (lkL R.lkd R.lkd.length).length (ints (lkL R.lkd R.lkd.length)) ∧ Only w w' := by
  obtain ⟨ii, hii0, hii1, hii2, hii3⟩ := info_parts infoI
  obtain ⟨Aa, ca, rfl⟩ := own_shape h.er
  obtain ⟨Ab, cb, rfl⟩ := own_shape h.br
  have hl4 : R.lkd.length ≤ 400 := by rw [hf.l]; exact hf.n
  have H := Lib.hid h
  clear h hf
  go_enter Try.func47, Try.ntmps47
  go_wp2_with fail
  go_loopg [3, 9] (R.lkd.length) (fun kk vt vi wr => ∃ (i : Nat), i ≤ R.lkd.length ∧ kk = R.lkd.length - i ∧ vi = .int .i64 (i : Nat) ∧ wr.ownsRow w.heap.size 3 1 vt (lkL R.lkd i).length (ints (lkL R.lkd i)) ∧ Only w wr)
  case atStart => exact ⟨0, Nat.zero_le _, rfl, rfl, World.ownsRow_nil _ _ _ _, (Stay.refl _ w).alloc _⟩
  case round =>
    obtain ⟨i, hi, hk2, rfl, hr4, hO4⟩ := hrel
    obtain ⟨wz, rfl⟩ : ∃ wz : World, wz = wr := ⟨_, rfl⟩
    have ht8 : (lkL R.lkd i).length ≤ 400 := by
      unfold lkL
      rw [List.length_map]
      have := List.length_filter_le (fun i => R.lkd[i]? == some true) (List.range i)
      rw [List.length_range] at this
      omega
    obtain ⟨tl, htl⟩ : ∃ tl, tl = lkL R.lkd i := ⟨_, rfl⟩
    have htk := lkL_succ R.lkd i
    rw [← htl] at hr4 htk ht8
    obtain ⟨q, hq⟩ : ∃ q, q = tl.length := ⟨_, rfl⟩
    rw [← hq] at hr4 ht8
    obtain ⟨At, ct, rfl⟩ := own_shape hr4
    by_cases hlt2 : i < R.lkd.length
    · obtain ⟨x, hx⟩ : ∃ x, R.lkd[i]? = some x := ⟨_, List.getElem?_eq_getElem hlt2⟩
      obtain ⟨xb, xo, rfl, hxb, hxc⟩ := (own_sl H.out.br hO4).2.2.2.2 (by omega)
      have e0 := hxc i (.bool x) (by rw [List.getElem?_map, hx]; rfl)
      rw [hx] at htk
      have u1 : (0 : Int) ≤ (i : Int) := by omega
      have u2 : (i : Int) < (R.lkd.length : Int) := by omega
      have hz4 := hO4.size
      have HI := Lib.hid (And.intro hk2 (And.intro hO4 (And.intro hr4 (And.intro htk hq))))
      clear hxc hx hk2 hO4 hr4 htk htl hq
      cases x with
      | true =>
        go_wp2_with (at_builtin; refine wpList_append_lies _ rfl _ _ _ rfl w.heap.size 3 ii _ 1 8 Try.underlying37 hii0 hii1 hii2 hii3 rfl (by omega) _ q _ (by rfl) (own_alloc HI.out.2.2.1 _) ⟨wz.heap.size, 0, none⟩ 1 1 [.int .i64 (i : Int)] (by rfl) (by rfl) (World.news_of_block (cs := [Value.int .i64 (i : Int)].toArray) (t := 3) (fr := (0, 0)) (heap_alloc_at' _ _ _ (by simp))) (by simp [Value.oneCell']) (by omega) (by simp only [maxLen]; omega) (by omega) (by simp; omega) (wz.heap.size + 1) (by simp) ?_; intro g8 cap8 w8 hown hgrow hat hlt2; have HG8 := Lib.hid (And.intro hown (And.intro hgrow hat)); clear hown hgrow hat hlt2)
        have hx8 : Stay (fun j => (Value.slice At q ct).ownBlock = some j) wz w8 := ((Stay.refl _ wz).alloc _).trans (grown_stay HG8.out.2.1) (fun _ _ h => h)
        go_roundg (R.lkd.length - (i + 1))
        case measure => have := HI.out.1; omega
        case rel =>
          refine ⟨i + 1, by omega, rfl, by go_num, ?_, HI.out.2.1.trans hx8 (fun k hk e => ?_)⟩
          · rw [HI.out.2.2.2.1, if_pos trivial, List.length_append, ← HI.out.2.2.2.2]
            have := HG8.out.1
            simpa [ints] using this
          · have := (own_lt HI.out.2.2.1 k e).1
            omega
      | false =>
        go_wp2_with fail
        go_roundg (R.lkd.length - (i + 1))
        case measure => have := HI.out.1; omega
        case rel =>
          refine ⟨i + 1, by omega, rfl, by go_num, ?_, HI.out.2.1⟩
          rw [HI.out.2.2.2.1, if_neg (by simp), List.append_nil, ← HI.out.2.2.2.2]
          exact HI.out.2.2.1
    · obtain rfl : i = R.lkd.length := by omega
      have HI := Lib.hid (And.intro hO4 (And.intro hr4 (And.intro htl hq)))
      clear hk2 hO4 hr4 htk htl hq
      go_wp2_with fail
      go_ret
      refine ⟨_, rfl, ?_, HI.out.1⟩
      rw [← HI.out.2.2.1, ← HI.out.2.2.2]
      exact HI.out.2.1

end Go.Proofs.Ytgjicobfbdikmaa
