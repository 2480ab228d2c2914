/- Release. -/
import Derived.Test.YtgjicobfbdikmaaLedRows
import Derived.Test.YtgjicobfbdikmaaLift
import Derived.Sort.CutIn
set_option linter.unusedVariables false
set_option linter.unusedSimpArgs false
namespace Go.Proofs.Ytgjicobfbdikmaa
open Go Go.Proofs Go.RowKit Go.Shelf
attribute [local go_sem] Oper.semAt_some

/-- The ledger behind a release at a place. -/
def Lg.rel (L : Lg) (t : Int) (i : Nat) : Lg := { L.cut t i with cr := if i + 1 < (L.stk t).length then L.cr ++ [(L.stk t).getD i 0] else L.cr }

theorem seek_none {p : Int → Bool} {l : List Int} : ∀ {n : Nat}, (∀ i, i < n → p (l.getD i 0) = false) → seek p l n = none
  | 0, _ => rfl
  | n + 1, h => by
    simp only [seek]
    rw [h n (by omega)]
    exact seek_none (fun i hi => h i (by omega))
theorem seek_some {p : Int → Bool} {l : List Int} : ∀ {n i : Nat}, i < n → p (l.getD i 0) = true → (∀ j, i < j → j < n → p (l.getD j 0) = false) → seek p l n = some i
  | n + 1, i, hi, h1, h2 => by
    simp only [seek]
    by_cases e : i = n
    · subst e; rw [h1]; rfl
    · rw [h2 n (by omega) (by omega)]
      exact seek_some (by omega) h1 (fun j hj hj2 => h2 j hj (by omega))

set_option maxRecDepth 100000 in
set_option maxHeartbeats 4000000 in
theorem release_any (w : World) (S : Nat → Prop) (b : Nat) (L : Lg) (t x : Int) (h : LgAt w S b L) (hok : L.Ok) :
    Calls Try.prog 13 #[.pointer (some ⟨b, 0, none⟩), .int .i64 t, .int .i64 x] w (LgPost w S b (.int .i64 (L.release t x).2) (L.release t x).1) := by
  have HH := Lib.hid (And.intro h hok)
  obtain ⟨w0, hw0⟩ : ∃ w0 : World, w0 = ((w.alloc (.cells #[.pointer (some ⟨b, 0, none⟩)] 22)).alloc (.cells #[.int .i64 x] 3)).alloc (.cells #[.int .i64 0] 25) := ⟨_, rfl⟩
  have hO0 : Only w w0 := by rw [hw0]; exact (((Stay.refl _ w).alloc _).alloc _).alloc _
  have hz0 : w0.heap.size = w.heap.size + 3 := by rw [hw0]; simp
  have hB3 : Blk w0 w.heap.size 22 [.pointer (some ⟨b, 0, none⟩)] := by rw [hw0]; exact ((Blk.newAt w [.pointer (some ⟨b, 0, none⟩)] _ _ rfl).alloc _).alloc _
  have hB5 : Blk w0 (w.heap.size + 1) 3 [.int .i64 x] := by rw [hw0]; exact (Blk.newAt (w.alloc (.cells #[.pointer (some ⟨b, 0, none⟩)] 22)) [.int .i64 x] 3 (w.heap.size + 1) (by simp)).alloc _
  have hB6 : Blk w0 (w.heap.size + 2) 25 [.int .i64 0] := by rw [hw0]; exact Blk.newAt ((w.alloc (.cells #[.pointer (some ⟨b, 0, none⟩)] 22)).alloc (.cells #[.int .i64 x] 3)) [.int .i64 0] 25 (w.heap.size + 2) (by simp)
  have H0 := Lib.hid (And.intro hO0 (And.intro hB3 (And.intro hB5 hB6)))
  clear h hok hO0 hB3 hB5 hB6
  refine (callsIn_wide (n := 8)).1 ?_
  refine callsIn_of_wp_marks Try.func13 rfl trivial ?_ rfl
  simp only [Try.ntmps13, List.size_toArray, List.length_cons, List.length_nil, Nat.reduceAdd, Nat.reduceSub, Array.replicate_succ, Array.replicate_zero, List.push_toArray, List.append_toArray, List.nil_append, List.cons_append]
  gi_upto_region 1 with fail
  rw [← hw0]
  clear hw0
  have k3 := H0.out.2.1.cell
  have k5 := H0.out.2.2.1.cell
  have k6 := H0.out.2.2.2.cell
  have l3 := H0.out.2.1.lt
  have l5 := H0.out.2.2.1.lt
  have l6 := H0.out.2.2.2.lt
  have f6 := H0.out.2.2.2.free
  gi_wp2_with fail
  refine ⟨trivial, ?_⟩
  refine (callsIn_wide.2 (bad_any w0 b t x)).mono ?_
  rintro e w1 ⟨rfl, hO1⟩
  by_cases hb : Bad t x
  · have HF := Lib.hid (show L.release t x = (L, 2) by unfold Lg.release; rw [if_pos hb])
    rw [decide_eq_true hb]
    have q6 := hO1.blk H0.out.2.2.2
    have j6 := q6.cell
    have m6 := q6.lt
    have g6 := q6.free
    have HO := Lib.hid (And.intro (H0.out.1.trans' hO1) (And.intro (hO1.blk H0.out.2.2.2) hO1))
    clear hb hO1 q6 k3 k5 k6 l3 l5 l6 f6
    gi_wp2_with fail
    refine ⟨.int .i64 2, by simp [results, Try.f13, go_sem, j6], ?_⟩
    exact LgPost.same HH.out.1 (Mine.stay ((Mine.only HO.out.1).put (by omega) _ _)) (by rw [HF.out]) (by rw [HF.out])
  · rw [decide_eq_false hb]
    obtain ⟨m, ev, cv, kv, hs, hT⟩ := HH.out.1
    have HBd := Lib.hid hb
    have q3 := hO1.blk H0.out.2.1
    have q5 := hO1.blk H0.out.2.2.1
    have q6 := hO1.blk H0.out.2.2.2
    have H1 := Lib.hid (And.intro (hT.only (H0.out.1.trans' hO1)) (And.intro (H0.out.1.trans' hO1) (And.intro q3 (And.intro q5 q6))))
    clear hb hT k3 k5 k6 l3 l5 l6 f6
    have k3 := q3.cell
    have l3 := q3.lt
    clear q3 q5 q6 hO1
    gi_wp2_with fail
    refine ⟨trivial, ?_⟩
    refine (callsIn_wide.2 (of_any w1 S b L m ev cv kv hs t H1.out.1 (by have := HBd.out; unfold Bad at this; omega))).mono ?_
    rintro e w2 ⟨hs2, h2, rfl, hT2, hg2, hx2⟩
    have hH := hT2.get hg2
    obtain ⟨Ah, ch, hvh⟩ := own_shape hH.row
    obtain ⟨hl, hb, hv⟩ := h2
    simp only at hvh hH ⊢
    subst hvh
    have hls := hT2.stk hg2
    simp only at hls
    have hSw : ∀ k, S k → k < w.heap.size := HH.out.1.lt
    have q3 := hx2.blk H1.out.2.2.1 (fun e => by have := hSw _ e; omega)
    have q5 := hx2.blk H1.out.2.2.2.1 (fun e => by have := hSw _ e; omega)
    have q6 := hx2.blk H1.out.2.2.2.2 (fun e => by have := hSw _ e; omega)
    have c1 : ∀ i, w2.cell? ⟨hb, i, none⟩ = [Value.slice Ah hl.length ch][i]? := hH.blk.cell
    have l1 : hb < w2.heap.size := hH.blk.lt
    have hz2 := hx2.size
    have hz1 := H1.out.2.1.size
    obtain ⟨w4, hw4⟩ : ∃ w4 : World, w4 = (w2.alloc (.cells #[.pointer (some ⟨hb, 0, none⟩)] 59)).alloc (.cells #[.slice Ah hl.length ch] 37) := ⟨_, rfl⟩
    have hO24 : Only w2 w4 := by rw [hw4]; exact ((Stay.refl _ w2).alloc _).alloc _
    have hz4 : w4.heap.size = w2.heap.size + 2 := by rw [hw4]; simp
    have q7 : Blk w4 w2.heap.size 59 [.pointer (some ⟨hb, 0, none⟩)] := by rw [hw4]; exact (Blk.new w2 [.pointer (some ⟨hb, 0, none⟩)] 59).alloc _
    have q8 : Blk w4 (w2.heap.size + 1) 37 [.slice Ah hl.length ch] := by rw [hw4]; exact Blk.newAt (w2.alloc (.cells #[.pointer (some ⟨hb, 0, none⟩)] 59)) [.slice Ah hl.length ch] 37 (w2.heap.size + 1) (by simp)
    have H2 := Lib.hid (And.intro (hT2.only hO24) (And.intro hg2 (And.intro (hx2.trans hO24 (fun _ _ h => h.elim)) (And.intro hls (And.intro (hO24.blk q3) (And.intro (hO24.blk q5) (And.intro (hO24.blk q6) (And.intro q7 q8))))))))
    clear k3 l3 hH hT2 hg2 hx2 hls q3 q5 q6 q7 q8 hO24
    gi_wp2_with fail
    refine ⟨trivial, ?_⟩
    refine (back_in Fence.wide _ trivial rfl Ah hl.length ch _).mono ?_
    rintro e wx ⟨rfl, rfl⟩
    rw [← hw4]
    clear hw4 c1 l1
    have hbx : (w2.alloc (.cells #[.pointer (some ⟨hb, 0, none⟩)] 59)).heap.size = w2.heap.size + 1 := by simp
    rw [hbx]
    clear hbx
    have hHI : HInts w4.heap.size w4 (.slice Ah hl.length ch) hl := ⟨Ah, ch, rfl, fun h0 => by
      have hr := (H2.out.1.get H2.out.2.1).row
      simp only at hr
      obtain ⟨g, cp, e, _, _⟩ := hr.form h0
      cases e
      refine ⟨g, 0, rfl, (own_lt hr g rfl).2, fun j hj => ?_⟩
      have := hr.cellAt j (by omega)
      rw [Nat.zero_add, this]
      unfold ints
      rw [List.getElem?_map, List.getElem?_eq_getElem hj]
      rfl⟩
    have hl40 : hl.length ≤ 40 := by rw [← H2.out.2.2.2.1]; exact HH.out.2.hl t
    have hq8 := H2.out.2.2.2.2.2.2.2.2
    gi_wp2_with fail
    refine wpIn_rangeFunc_ownG rfl (by omega) (gf := 51) (lb := #[.pointer (some ⟨w2.heap.size + 1, 0, none⟩)]) rfl trivial (enters_of Try.func51 (by kernel_rfl) rfl)
      (back_stops Fence.wide _ trivial rfl (by omega) (w2.heap.size + 1) w4.heap.size _ hl (by omega) w4 (by omega) (Nat.le_refl _) (hq8.cell 0) hHI) belowK_t (belowK_b (Nat.le_refl _)) (Below.refl _ _) (fun _ => rfl)
      (fun (pre : List (BK hl)) W => (∀ y ∈ pre, whatAt L.es y.1.2 ≠ x) ∧ Below w4.heap.size w4 W)
      (fun c (pre : List (BK hl)) W => (c = .ret ∧ ∃ ini last, pre = ini ++ [last] ∧ (∀ y ∈ ini, whatAt L.es y.1.2 ≠ x) ∧ whatAt L.es last.1.2 = x ∧ RelAt w S b (L.rel t last.1.1) w4.heap.size W))
      (OwnFrom.and (ownFrom_pure _ _) (ownFrom_below (Nat.le_refl _) (Nat.le_refl _)))
      (fun c pre W W' row hs hg hr => by
        obtain ⟨hc, ini, last, e1, e2, e3, e4⟩ := hs
        exact ⟨hc, ini, last, e1, e2, e3, e4.turn (by omega) hg hr⟩)
      ⟨by simp, Below.refl _ _⟩
      (fun (y : BK hl) => { tmps := #[.pointer (some ⟨b, 0, none⟩), .int .i64 t, .int .i64 x, .pointer (some ⟨w.heap.size, 0, none⟩), undef, .pointer (some ⟨w.heap.size + 1, 0, none⟩), .pointer (some ⟨w.heap.size + 1 + 1, 0, none⟩), .pointer (some ⟨w2.heap.size, 0, none⟩), .int .i64 (y.1.1 : Int), .int .i64 y.1.2, .pointer (some ⟨b, 0, none⟩), .int .i64 t, .int .i64 x, .bool false, .pointer (some ⟨b, 0, none⟩), .int .i64 t, .pointer (some ⟨hb, 0, none⟩), .pointer (some ⟨hb, 0, none⟩), .pointer (some ⟨hb, 0, none⟩), .pointer (some ⟨hb, 0, none⟩), .pointer (some ⟨hb, 0, none⟩), .slice Ah hl.length ch, .func (.func 51) #[] #[.pointer (some ⟨w2.heap.size + 1, 0, none⟩)], .int .i64 (y.1.1 : Int), .int .i64 y.1.2, undef, undef, undef, undef, undef, undef, undef, undef, undef, undef, undef, undef, undef, undef, undef, undef, undef, undef, undef, undef, undef, undef, undef, undef, undef, undef, undef, undef, undef, undef, undef, undef, undef], defers := [] }) ?assign ?body ?done ?stop
    case assign =>
      intro l y W K hK
      gi_wp2
      exact hK
    case body =>
      rintro l pre y W ⟨hp, hB⟩ _
      obtain ⟨⟨i, v⟩, hy⟩ := y
      simp only at hy ⊢
      have hil : i < hl.length := (List.getElem?_eq_some_iff.1 hy).1
      have hvr := HH.out.2.hin t v (by rw [H2.out.2.2.2.1]; exact List.mem_of_getElem? hy)
      obtain ⟨k, rfl⟩ : ∃ k : Nat, v = (k : Int) := ⟨v.toNat, by omega⟩
      have hkn : k < L.es.length := by omega
      have hOW : Only w4 W := Stay.of_below hB
      have hTW := H2.out.1.only hOW
      obtain ⟨g, ce, hev, _, _⟩ := hTW.er.form (by omega)
      have q3 := hOW.blk H2.out.2.2.2.2.1
      have q5 := hOW.blk H2.out.2.2.2.2.2.1
      have q6 := hOW.blk H2.out.2.2.2.2.2.2.1
      have q7 := hOW.blk H2.out.2.2.2.2.2.2.2.1
      have hbW := hTW.blk
      rw [hev] at hbW
      have k3 := q3.cell
      have k5 := q5.cell
      have k6 := q6.cell
      have k7 := q7.cell
      have l3 := q3.lt
      have l5 := q5.lt
      have l6 := q6.lt
      have l7 := q7.lt
      have f6 := q6.free
      have kb := hbW.cell
      have lb := hbW.lt
      obtain ⟨en, hen⟩ : ∃ en, L.es[k]? = some en := ⟨_, List.getElem?_eq_getElem hkn⟩
      have hwa : whatAt L.es (k : Int) = en.what := by unfold whatAt; simp [hen]
      have her := hTW.er
      rw [hev] at her
      have z := her.cellAt (k * 4) (by omega)
      have hek : (L.es.flatMap Ent.cells)[k * 4]? = some (.int .i64 en.what) := by
        have := flat_at Ent.cells 4 Ent.cells_length L.es k en 0 hen (by omega)
        rw [Nat.add_zero] at this
        exact this
      rw [hek] at z
      have hgl := (own_lt her g rfl).2
      have hk1 : (0 : Int) ≤ (k : Int) := by omega
      have hk2 : (k : Int) < (L.es.length : Int) := by omega
      have HW := Lib.hid (And.intro hp (And.intro hB (And.intro hy (And.intro hTW (And.intro hev (And.intro hwa (And.intro her (And.intro hOW q6))))))))
      clear hp hB hTW hev hwa her hOW q3 q5 q6 q7 hbW hek hen hvr hHI hq8
      have hHW := HW.out.2.2.2.1.get H2.out.2.1
      have kh : ∀ j, W.cell? ⟨hb, j, none⟩ = [Value.slice Ah hl.length ch][j]? := hHW.blk.cell
      have lh : hb < W.heap.size := hHW.blk.lt
      have HHW := Lib.hid hHW
      clear hHW
      gi_upto_region 7 with fail
      gi_cut [34] from 25 (fun v34 wx => v34 = .bool (en.what != x) ∧ wx = W.drew)
      case first =>
        gi_region
        all_goals
          gi_wp2_with fail
          gi_meet
          case rel => exact ⟨rfl, rfl⟩
      case rest =>
        obtain ⟨rfl, rfl⟩ := hcut
        by_cases hxw : en.what = x
        · have hxb : (en.what != x) = false := by simp [hxw]
          rw [hxb]
          have hzW := HW.out.2.2.2.2.2.2.2.1.size
          have hOd : Only W W.drew := (Stay.refl _ W).drew
          gi_upto_if 43 with fail
          gi_cut [] from 25 (fun wx => ∃ cv', LTab wx (grow (Own1 b m ev cv kv hs2) W wx) b { L with cr := if i + 1 < hl.length then L.cr ++ [(k : Int)] else L.cr } m ev cv' kv hs2 ∧ Stay (Own1 b m ev cv kv hs2) W wx ∧ Blk wx w.heap.size 22 [.pointer (some ⟨b, 0, none⟩)] ∧ Blk wx (w.heap.size + 2) 25 [.int .i64 0] ∧ Blk wx w2.heap.size 59 [.pointer (some ⟨hb, 0, none⟩)])
          case first =>
            by_cases hcr : i + 1 < hl.length
            · have hci : (i : Int) < (hl.length : Int) - 1 := by omega
              have hdd : Only W W.drew.drew := ((Stay.refl _ W).drew).drew
              have hcwW := own_only hdd HW.out.2.2.2.1.cw
              obtain ⟨Ac, cc, rfl⟩ := own_shape hcwW
              have hcl : L.cr.length ≤ 800 := by have := HH.out.2.cl; have := HH.out.2.time_le; omega
              obtain ⟨ii, hii0, hii1, hii2, hii3⟩ := info_parts infoI
              have HCW := Lib.hid hcwW
              clear hcwW
              have HST := Lib.hid (show ∀ (g' cap : Nat) (w5 : World), w5.ownsRow 0 3 1 (.slice (some ⟨g', 0, none⟩) (L.cr.length + 1) cap) (L.cr.length + 1) (ints L.cr ++ [.int .i64 (k : Int)]) → (W.drew.drew.alloc (.cells #[.int .i64 (k : Int)] 3)).grownBy w5 (Value.slice Ac L.cr.length cc).ownBlock → ((Value.slice Ac L.cr.length cc).ownBlock = some g' ∨ g' = W.heap.size + 1) → g' < w5.heap.size →
                  w5.ownsRow 0 3 1 (.slice (some ⟨g', 0, none⟩) (L.cr.length + 1) cap) (L.cr.length + 1) (ints L.cr ++ [.int .i64 (k : Int)]) ∧ ((Value.slice Ac L.cr.length cc).ownBlock = some g' ∨ W.heap.size ≤ g') ∧ Blk w5 b 58 [.slice (some ⟨g, 0, none⟩) L.es.length ce, .int .i64 L.time, .map (some m), .slice Ac L.cr.length cc, kv] ∧
                    Blk w5 w.heap.size 22 [.pointer (some ⟨b, 0, none⟩)] ∧ Stay (fun j => (Value.slice Ac L.cr.length cc).ownBlock = some j) W w5 from fun g' cap w5 hown hgrow hat hlt5 => by
                have st := grown_stay hgrow
                have hbb := HW.out.2.2.2.1.blk
                rw [HW.out.2.2.2.2.1] at hbb
                have hq3 := HW.out.2.2.2.2.2.2.2.1.blk H2.out.2.2.2.2.1
                refine ⟨hown, hat.imp id (fun e => by omega), st.blk ((hdd.blk hbb).alloc _) (fun e => own_ne_blk HW.out.2.2.2.1.cw HW.out.2.2.2.1.blk (by decide) _ e rfl), st.blk ((hdd.blk hq3).alloc _) (fun e => own_ne_blk HW.out.2.2.2.1.cw hq3 (by decide) _ e rfl), ?_⟩
                exact ((hdd.mono (fun _ _ h => h.elim)).alloc _).trans st (fun _ _ h => h))
              have HLF := Lib.hid (show ∀ (g' cap : Nat) (w5 : World), (w5.ownsRow 0 3 1 (.slice (some ⟨g', 0, none⟩) (L.cr.length + 1) cap) (L.cr.length + 1) (ints L.cr ++ [.int .i64 (k : Int)]) ∧ ((Value.slice Ac L.cr.length cc).ownBlock = some g' ∨ W.heap.size ≤ g') ∧ Blk w5 b 58 [.slice (some ⟨g, 0, none⟩) L.es.length ce, .int .i64 L.time, .map (some m), .slice Ac L.cr.length cc, kv] ∧
                    Blk w5 w.heap.size 22 [.pointer (some ⟨b, 0, none⟩)] ∧ Stay (fun j => (Value.slice Ac L.cr.length cc).ownBlock = some j) W w5) → 
                  ∃ cv', LTab (w5.setCell ⟨b, 3, none⟩ (.slice (some ⟨g', 0, none⟩) (L.cr.length + 1) cap)) (grow (Own1 b m ev (Value.slice Ac L.cr.length cc) kv hs2) W (w5.setCell ⟨b, 3, none⟩ (.slice (some ⟨g', 0, none⟩) (L.cr.length + 1) cap))) b { L with cr := if i + 1 < hl.length then L.cr ++ [(k : Int)] else L.cr } m ev cv' kv hs2 ∧ Stay (Own1 b m ev (Value.slice Ac L.cr.length cc) kv hs2) W (w5.setCell ⟨b, 3, none⟩ (.slice (some ⟨g', 0, none⟩) (L.cr.length + 1) cap)) ∧ Blk (w5.setCell ⟨b, 3, none⟩ (.slice (some ⟨g', 0, none⟩) (L.cr.length + 1) cap)) w.heap.size 22 [.pointer (some ⟨b, 0, none⟩)] ∧ Blk (w5.setCell ⟨b, 3, none⟩ (.slice (some ⟨g', 0, none⟩) (L.cr.length + 1) cap)) (w.heap.size + 2) 25 [.int .i64 0] ∧ Blk (w5.setCell ⟨b, 3, none⟩ (.slice (some ⟨g', 0, none⟩) (L.cr.length + 1) cap)) w2.heap.size 59 [.pointer (some ⟨hb, 0, none⟩)] from fun g' cap w5 hG => by
                obtain ⟨hown, hat, hBb, hB3, hst⟩ := hG
                have n1 : ∀ j, (Value.slice (some ⟨g', 0, none⟩) (L.cr.length + 1) cap).ownBlock = some j → j ≠ b := own_ne_blk hown hBb (by decide)
                have hx : Stay (fun j => j = b ∨ (Value.slice Ac L.cr.length cc).ownBlock = some j) W (w5.setCell ⟨b, 3, none⟩ (.slice (some ⟨g', 0, none⟩) (L.cr.length + 1) cap)) := (hst.mono (fun _ _ h => .inr h)).put (.inl rfl) _ _
                have hxO : Stay (Own1 b m ev (Value.slice Ac L.cr.length cc) kv hs2) W (w5.setCell ⟨b, 3, none⟩ (.slice (some ⟨g', 0, none⟩) (L.cr.length + 1) cap)) := hx.mono (fun j _ e => by
                  rcases e with e | e
                  · exact .inl e
                  · exact .inr (.inr (.inr (.inl e))))
                have hT := HW.out.2.2.2.1
                have q3 := HW.out.2.2.2.2.2.2.2.1.blk H2.out.2.2.2.2.1
                have q6 := HW.out.2.2.2.2.2.2.2.2
                have q7 := HW.out.2.2.2.2.2.2.2.1.blk H2.out.2.2.2.2.2.2.2.1
                have hBs := hBb.set 3 (.slice (some ⟨g', 0, none⟩) (L.cr.length + 1) cap)
                rw [← HW.out.2.2.2.2.1] at hBs
                have hl1 : (L.cr ++ [(k : Int)]).length = L.cr.length + 1 := by simp
                have hown' : w5.ownsRow 0 3 1 (.slice (some ⟨g', 0, none⟩) (L.cr.length + 1) cap) (L.cr ++ [(k : Int)]).length (ints (L.cr ++ [(k : Int)])) := by
                  rw [hl1]
                  simpa [ints] using hown
                have hTc := hT.tight.crs hx hBs (own_set hown' _ n1) (fun j hj => by
                  have e : g' = j := by simpa [Value.ownBlock] using hj
                  subst e
                  exact hat)
                rw [if_pos hcr]
                exact ⟨_, hTc, hxO, hxO.blk q3 (hT.none q3 (by decide) (by decide) (by decide) (by decide)), hxO.blk q6 (hT.none q6 (by decide) (by decide) (by decide) (by decide)), hxO.blk q7 (hT.none q7 (by decide) (by decide) (by decide) (by decide))⟩)
              gi_upto_region 9 with fail
              refine wpIn_region_plain (by kernel_rfl) (by kernel_rfl) ?_
              refine wpAny_take (i := 5) (v := ?v1) rfl (by kernel_rfl) (by kernel_rfl) (by kernel_rfl) (fun _ _ _ h => by cases h.1) (Or.inl ⟨by rfl, ?hy1⟩) ?rest1
              case hy1 => (intro w; go_simp; first | done | with_reducible rfl)
              refine wpAny_ready (rs := [0, 1, 6]) (by kernel_rfl) (by simp) ?_
              refine AllReady.cons rfl (fun K hK => ?_) ?_
              · go_simp
                refine hK _ _ ?_; clear hK K
                refine wpAny_ready (rs := [1, 6]) (by kernel_rfl) (by simp) ?_
                refine AllReady.cons rfl (fun K hK => ?_) ?_
                · go_simp
                  refine hK _ _ ?_; clear hK K
                  refine wpAny_take (i := 2) (v := ?v2) rfl (by kernel_rfl) (by kernel_rfl) (by kernel_rfl) (fun _ _ _ h => by cases h.1) (Or.inl ⟨by rfl, ?hy2⟩) ?rest2
                  case hy2 => (intro w; go_simp; first | done | with_reducible rfl)
                  refine wpAny_take (i := 3) (v := ?v3) rfl (by kernel_rfl) (by kernel_rfl) (by kernel_rfl) (fun _ _ _ h => by cases h.1) (Or.inl ⟨by rfl, ?hy3⟩) ?rest3
                  case hy3 => (intro w; go_simp; first | done | with_reducible rfl)
                  refine wpAny_ready (rs := [4, 6]) (by kernel_rfl) (by simp) ?_
                  refine AllReady.cons rfl (fun K hK => ?_) ?_
                  · go_simp
                    refine hK _ _ ?_; clear hK K
                    refine wpAny_ready (rs := [6]) (by kernel_rfl) (by simp) ?_
                    refine AllReady.cons rfl (fun K hK => ?_) ?_
                    · go_simp
                      refine hK _ _ ?_; clear hK K
                      refine wpAny_ready (rs := [7]) (by kernel_rfl) (by simp) ?_
                      refine AllReady.cons rfl (fun K hK => ?_) ?_
                      · (refine step_append_lies _ (by rfl) _ _ _ (by rfl) 0 3 ii _ 1 8 Try.underlying37 hii0 hii1 hii2 hii3 rfl (by omega) _ L.cr.length _ (by rfl) (HCW.out.alloc _) ⟨W.heap.size, 0, none⟩ 1 1 [.int .i64 (k : Int)] (by rfl) (by rfl) (World.news_of_block (cs := [Value.int .i64 (k : Int)].toArray) (t := 3) (fr := (0, 0)) (heap_alloc_new W.drew.drew _)) (by simp [Value.oneCell']) (by omega) (by simp only [maxLen]; omega) (by omega) (by simp) (W.heap.size + 1) (by simp) ?_; intro g' cap w5 hown hgrow hat hlt5; have HG := Lib.hid (HST g' cap w5 hown hgrow hat hlt5); clear hown hgrow hat hlt5; have c5 := HG.out.2.2.1.cell; have f5 := HG.out.2.2.1.free; have l5 := HG.out.2.2.1.lt; have b5 := HG.out.2.2.2.1.cell; have m5 := HG.out.2.2.2.1.lt); (try go_simp)
                        refine hK _ _ ?_; clear hK K
                        refine wpAny_take (i := 8) (v := ?v4) rfl (by kernel_rfl) (by kernel_rfl) (by kernel_rfl) (fun _ _ _ h => by cases h.1) (Or.inl ⟨by rfl, ?hy4⟩) ?rest4
                        case hy4 => (intro w; go_simp; first | done | with_reducible rfl)
                        refine wpAny_take (i := 9) (v := ?v5) rfl (by kernel_rfl) (by kernel_rfl) (by kernel_rfl) (fun _ _ _ h => by cases h.1) (Or.inl ⟨by rfl, ?hy5⟩) ?rest5
                        case hy5 => (intro w; go_simp; first | done | with_reducible rfl)
                        refine wpAny_ready (rs := [10]) (by kernel_rfl) (by simp) ?_
                        refine AllReady.cons rfl (fun K hK => ?_) ?_
                        · go_simp
                          refine hK _ _ ?_; clear hK K
                          refine wpAny_done (by kernel_rfl) ?_ _
                          refine ⟨rfl, ?_⟩
                          gi_wp2_with fail
                          gi_meet
                          case rel => exact HLF.out g' cap w5 HG.out
                        exact AllReady.nil
                      exact AllReady.nil
                    exact AllReady.nil
                  refine AllReady.cons rfl (fun K hK => ?_) ?_
                  · go_simp
                    refine hK _ _ ?_; clear hK K
                    refine wpAny_ready (rs := [4]) (by kernel_rfl) (by simp) ?_
                    refine AllReady.cons rfl (fun K hK => ?_) ?_
                    · go_simp
                      refine hK _ _ ?_; clear hK K
                      refine wpAny_ready (rs := [7]) (by kernel_rfl) (by simp) ?_
                      refine AllReady.cons rfl (fun K hK => ?_) ?_
                      · (refine step_append_lies _ (by rfl) _ _ _ (by rfl) 0 3 ii _ 1 8 Try.underlying37 hii0 hii1 hii2 hii3 rfl (by omega) _ L.cr.length _ (by rfl) (HCW.out.alloc _) ⟨W.heap.size, 0, none⟩ 1 1 [.int .i64 (k : Int)] (by rfl) (by rfl) (World.news_of_block (cs := [Value.int .i64 (k : Int)].toArray) (t := 3) (fr := (0, 0)) (heap_alloc_new W.drew.drew _)) (by simp [Value.oneCell']) (by omega) (by simp only [maxLen]; omega) (by omega) (by simp) (W.heap.size + 1) (by simp) ?_; intro g' cap w5 hown hgrow hat hlt5; have HG := Lib.hid (HST g' cap w5 hown hgrow hat hlt5); clear hown hgrow hat hlt5; have c5 := HG.out.2.2.1.cell; have f5 := HG.out.2.2.1.free; have l5 := HG.out.2.2.1.lt; have b5 := HG.out.2.2.2.1.cell; have m5 := HG.out.2.2.2.1.lt); (try go_simp)
                        refine hK _ _ ?_; clear hK K
                        refine wpAny_take (i := 8) (v := ?v6) rfl (by kernel_rfl) (by kernel_rfl) (by kernel_rfl) (fun _ _ _ h => by cases h.1) (Or.inl ⟨by rfl, ?hy6⟩) ?rest6
                        case hy6 => (intro w; go_simp; first | done | with_reducible rfl)
                        refine wpAny_take (i := 9) (v := ?v7) rfl (by kernel_rfl) (by kernel_rfl) (by kernel_rfl) (fun _ _ _ h => by cases h.1) (Or.inl ⟨by rfl, ?hy7⟩) ?rest7
                        case hy7 => (intro w; go_simp; first | done | with_reducible rfl)
                        refine wpAny_ready (rs := [10]) (by kernel_rfl) (by simp) ?_
                        refine AllReady.cons rfl (fun K hK => ?_) ?_
                        · go_simp
                          refine hK _ _ ?_; clear hK K
                          refine wpAny_done (by kernel_rfl) ?_ _
                          refine ⟨rfl, ?_⟩
                          gi_wp2_with fail
                          gi_meet
                          case rel => exact HLF.out g' cap w5 HG.out
                        exact AllReady.nil
                      exact AllReady.nil
                    exact AllReady.nil
                  exact AllReady.nil
                refine AllReady.cons rfl (fun K hK => ?_) ?_
                · go_simp
                  refine hK _ _ ?_; clear hK K
                  refine wpAny_ready (rs := [1]) (by kernel_rfl) (by simp) ?_
                  refine AllReady.cons rfl (fun K hK => ?_) ?_
                  · go_simp
                    refine hK _ _ ?_; clear hK K
                    refine wpAny_take (i := 2) (v := ?v8) rfl (by kernel_rfl) (by kernel_rfl) (by kernel_rfl) (fun _ _ _ h => by cases h.1) (Or.inl ⟨by rfl, ?hy8⟩) ?rest8
                    case hy8 => (intro w; go_simp; first | done | with_reducible rfl)
                    refine wpAny_take (i := 3) (v := ?v9) rfl (by kernel_rfl) (by kernel_rfl) (by kernel_rfl) (fun _ _ _ h => by cases h.1) (Or.inl ⟨by rfl, ?hy9⟩) ?rest9
                    case hy9 => (intro w; go_simp; first | done | with_reducible rfl)
                    refine wpAny_ready (rs := [4]) (by kernel_rfl) (by simp) ?_
                    refine AllReady.cons rfl (fun K hK => ?_) ?_
                    · go_simp
                      refine hK _ _ ?_; clear hK K
                      refine wpAny_ready (rs := [7]) (by kernel_rfl) (by simp) ?_
                      refine AllReady.cons rfl (fun K hK => ?_) ?_
                      · (refine step_append_lies _ (by rfl) _ _ _ (by rfl) 0 3 ii _ 1 8 Try.underlying37 hii0 hii1 hii2 hii3 rfl (by omega) _ L.cr.length _ (by rfl) (HCW.out.alloc _) ⟨W.heap.size, 0, none⟩ 1 1 [.int .i64 (k : Int)] (by rfl) (by rfl) (World.news_of_block (cs := [Value.int .i64 (k : Int)].toArray) (t := 3) (fr := (0, 0)) (heap_alloc_new W.drew.drew _)) (by simp [Value.oneCell']) (by omega) (by simp only [maxLen]; omega) (by omega) (by simp) (W.heap.size + 1) (by simp) ?_; intro g' cap w5 hown hgrow hat hlt5; have HG := Lib.hid (HST g' cap w5 hown hgrow hat hlt5); clear hown hgrow hat hlt5; have c5 := HG.out.2.2.1.cell; have f5 := HG.out.2.2.1.free; have l5 := HG.out.2.2.1.lt; have b5 := HG.out.2.2.2.1.cell; have m5 := HG.out.2.2.2.1.lt); (try go_simp)
                        refine hK _ _ ?_; clear hK K
                        refine wpAny_take (i := 8) (v := ?v10) rfl (by kernel_rfl) (by kernel_rfl) (by kernel_rfl) (fun _ _ _ h => by cases h.1) (Or.inl ⟨by rfl, ?hy10⟩) ?rest10
                        case hy10 => (intro w; go_simp; first | done | with_reducible rfl)
                        refine wpAny_take (i := 9) (v := ?v11) rfl (by kernel_rfl) (by kernel_rfl) (by kernel_rfl) (fun _ _ _ h => by cases h.1) (Or.inl ⟨by rfl, ?hy11⟩) ?rest11
                        case hy11 => (intro w; go_simp; first | done | with_reducible rfl)
                        refine wpAny_ready (rs := [10]) (by kernel_rfl) (by simp) ?_
                        refine AllReady.cons rfl (fun K hK => ?_) ?_
                        · go_simp
                          refine hK _ _ ?_; clear hK K
                          refine wpAny_done (by kernel_rfl) ?_ _
                          refine ⟨rfl, ?_⟩
                          gi_wp2_with fail
                          gi_meet
                          case rel => exact HLF.out g' cap w5 HG.out
                        exact AllReady.nil
                      exact AllReady.nil
                    exact AllReady.nil
                  exact AllReady.nil
                exact AllReady.nil
              refine AllReady.cons rfl (fun K hK => ?_) ?_
              · go_simp
                refine hK _ _ ?_; clear hK K
                refine wpAny_take (i := 2) (v := ?v12) rfl (by kernel_rfl) (by kernel_rfl) (by kernel_rfl) (fun _ _ _ h => by cases h.1) (Or.inl ⟨by rfl, ?hy12⟩) ?rest12
                case hy12 => (intro w; go_simp; first | done | with_reducible rfl)
                refine wpAny_take (i := 3) (v := ?v13) rfl (by kernel_rfl) (by kernel_rfl) (by kernel_rfl) (fun _ _ _ h => by cases h.1) (Or.inl ⟨by rfl, ?hy13⟩) ?rest13
                case hy13 => (intro w; go_simp; first | done | with_reducible rfl)
                refine wpAny_ready (rs := [0, 4, 6]) (by kernel_rfl) (by simp) ?_
                refine AllReady.cons rfl (fun K hK => ?_) ?_
                · go_simp
                  refine hK _ _ ?_; clear hK K
                  refine wpAny_ready (rs := [4, 6]) (by kernel_rfl) (by simp) ?_
                  refine AllReady.cons rfl (fun K hK => ?_) ?_
                  · go_simp
                    refine hK _ _ ?_; clear hK K
                    refine wpAny_ready (rs := [6]) (by kernel_rfl) (by simp) ?_
                    refine AllReady.cons rfl (fun K hK => ?_) ?_
                    · go_simp
                      refine hK _ _ ?_; clear hK K
                      refine wpAny_ready (rs := [7]) (by kernel_rfl) (by simp) ?_
                      refine AllReady.cons rfl (fun K hK => ?_) ?_
                      · (refine step_append_lies _ (by rfl) _ _ _ (by rfl) 0 3 ii _ 1 8 Try.underlying37 hii0 hii1 hii2 hii3 rfl (by omega) _ L.cr.length _ (by rfl) (HCW.out.alloc _) ⟨W.heap.size, 0, none⟩ 1 1 [.int .i64 (k : Int)] (by rfl) (by rfl) (World.news_of_block (cs := [Value.int .i64 (k : Int)].toArray) (t := 3) (fr := (0, 0)) (heap_alloc_new W.drew.drew _)) (by simp [Value.oneCell']) (by omega) (by simp only [maxLen]; omega) (by omega) (by simp) (W.heap.size + 1) (by simp) ?_; intro g' cap w5 hown hgrow hat hlt5; have HG := Lib.hid (HST g' cap w5 hown hgrow hat hlt5); clear hown hgrow hat hlt5; have c5 := HG.out.2.2.1.cell; have f5 := HG.out.2.2.1.free; have l5 := HG.out.2.2.1.lt; have b5 := HG.out.2.2.2.1.cell; have m5 := HG.out.2.2.2.1.lt); (try go_simp)
                        refine hK _ _ ?_; clear hK K
                        refine wpAny_take (i := 8) (v := ?v14) rfl (by kernel_rfl) (by kernel_rfl) (by kernel_rfl) (fun _ _ _ h => by cases h.1) (Or.inl ⟨by rfl, ?hy14⟩) ?rest14
                        case hy14 => (intro w; go_simp; first | done | with_reducible rfl)
                        refine wpAny_take (i := 9) (v := ?v15) rfl (by kernel_rfl) (by kernel_rfl) (by kernel_rfl) (fun _ _ _ h => by cases h.1) (Or.inl ⟨by rfl, ?hy15⟩) ?rest15
                        case hy15 => (intro w; go_simp; first | done | with_reducible rfl)
                        refine wpAny_ready (rs := [10]) (by kernel_rfl) (by simp) ?_
                        refine AllReady.cons rfl (fun K hK => ?_) ?_
                        · go_simp
                          refine hK _ _ ?_; clear hK K
                          refine wpAny_done (by kernel_rfl) ?_ _
                          refine ⟨rfl, ?_⟩
                          gi_wp2_with fail
                          gi_meet
                          case rel => exact HLF.out g' cap w5 HG.out
                        exact AllReady.nil
                      exact AllReady.nil
                    exact AllReady.nil
                  refine AllReady.cons rfl (fun K hK => ?_) ?_
                  · go_simp
                    refine hK _ _ ?_; clear hK K
                    refine wpAny_ready (rs := [4]) (by kernel_rfl) (by simp) ?_
                    refine AllReady.cons rfl (fun K hK => ?_) ?_
                    · go_simp
                      refine hK _ _ ?_; clear hK K
                      refine wpAny_ready (rs := [7]) (by kernel_rfl) (by simp) ?_
                      refine AllReady.cons rfl (fun K hK => ?_) ?_
                      · (refine step_append_lies _ (by rfl) _ _ _ (by rfl) 0 3 ii _ 1 8 Try.underlying37 hii0 hii1 hii2 hii3 rfl (by omega) _ L.cr.length _ (by rfl) (HCW.out.alloc _) ⟨W.heap.size, 0, none⟩ 1 1 [.int .i64 (k : Int)] (by rfl) (by rfl) (World.news_of_block (cs := [Value.int .i64 (k : Int)].toArray) (t := 3) (fr := (0, 0)) (heap_alloc_new W.drew.drew _)) (by simp [Value.oneCell']) (by omega) (by simp only [maxLen]; omega) (by omega) (by simp) (W.heap.size + 1) (by simp) ?_; intro g' cap w5 hown hgrow hat hlt5; have HG := Lib.hid (HST g' cap w5 hown hgrow hat hlt5); clear hown hgrow hat hlt5; have c5 := HG.out.2.2.1.cell; have f5 := HG.out.2.2.1.free; have l5 := HG.out.2.2.1.lt; have b5 := HG.out.2.2.2.1.cell; have m5 := HG.out.2.2.2.1.lt); (try go_simp)
                        refine hK _ _ ?_; clear hK K
                        refine wpAny_take (i := 8) (v := ?v16) rfl (by kernel_rfl) (by kernel_rfl) (by kernel_rfl) (fun _ _ _ h => by cases h.1) (Or.inl ⟨by rfl, ?hy16⟩) ?rest16
                        case hy16 => (intro w; go_simp; first | done | with_reducible rfl)
                        refine wpAny_take (i := 9) (v := ?v17) rfl (by kernel_rfl) (by kernel_rfl) (by kernel_rfl) (fun _ _ _ h => by cases h.1) (Or.inl ⟨by rfl, ?hy17⟩) ?rest17
                        case hy17 => (intro w; go_simp; first | done | with_reducible rfl)
                        refine wpAny_ready (rs := [10]) (by kernel_rfl) (by simp) ?_
                        refine AllReady.cons rfl (fun K hK => ?_) ?_
                        · go_simp
                          refine hK _ _ ?_; clear hK K
                          refine wpAny_done (by kernel_rfl) ?_ _
                          refine ⟨rfl, ?_⟩
                          gi_wp2_with fail
                          gi_meet
                          case rel => exact HLF.out g' cap w5 HG.out
                        exact AllReady.nil
                      exact AllReady.nil
                    exact AllReady.nil
                  exact AllReady.nil
                refine AllReady.cons rfl (fun K hK => ?_) ?_
                · go_simp
                  refine hK _ _ ?_; clear hK K
                  refine wpAny_ready (rs := [0, 6]) (by kernel_rfl) (by simp) ?_
                  refine AllReady.cons rfl (fun K hK => ?_) ?_
                  · go_simp
                    refine hK _ _ ?_; clear hK K
                    refine wpAny_ready (rs := [6]) (by kernel_rfl) (by simp) ?_
                    refine AllReady.cons rfl (fun K hK => ?_) ?_
                    · go_simp
                      refine hK _ _ ?_; clear hK K
                      refine wpAny_ready (rs := [7]) (by kernel_rfl) (by simp) ?_
                      refine AllReady.cons rfl (fun K hK => ?_) ?_
                      · (refine step_append_lies _ (by rfl) _ _ _ (by rfl) 0 3 ii _ 1 8 Try.underlying37 hii0 hii1 hii2 hii3 rfl (by omega) _ L.cr.length _ (by rfl) (HCW.out.alloc _) ⟨W.heap.size, 0, none⟩ 1 1 [.int .i64 (k : Int)] (by rfl) (by rfl) (World.news_of_block (cs := [Value.int .i64 (k : Int)].toArray) (t := 3) (fr := (0, 0)) (heap_alloc_new W.drew.drew _)) (by simp [Value.oneCell']) (by omega) (by simp only [maxLen]; omega) (by omega) (by simp) (W.heap.size + 1) (by simp) ?_; intro g' cap w5 hown hgrow hat hlt5; have HG := Lib.hid (HST g' cap w5 hown hgrow hat hlt5); clear hown hgrow hat hlt5; have c5 := HG.out.2.2.1.cell; have f5 := HG.out.2.2.1.free; have l5 := HG.out.2.2.1.lt; have b5 := HG.out.2.2.2.1.cell; have m5 := HG.out.2.2.2.1.lt); (try go_simp)
                        refine hK _ _ ?_; clear hK K
                        refine wpAny_take (i := 8) (v := ?v18) rfl (by kernel_rfl) (by kernel_rfl) (by kernel_rfl) (fun _ _ _ h => by cases h.1) (Or.inl ⟨by rfl, ?hy18⟩) ?rest18
                        case hy18 => (intro w; go_simp; first | done | with_reducible rfl)
                        refine wpAny_take (i := 9) (v := ?v19) rfl (by kernel_rfl) (by kernel_rfl) (by kernel_rfl) (fun _ _ _ h => by cases h.1) (Or.inl ⟨by rfl, ?hy19⟩) ?rest19
                        case hy19 => (intro w; go_simp; first | done | with_reducible rfl)
                        refine wpAny_ready (rs := [10]) (by kernel_rfl) (by simp) ?_
                        refine AllReady.cons rfl (fun K hK => ?_) ?_
                        · go_simp
                          refine hK _ _ ?_; clear hK K
                          refine wpAny_done (by kernel_rfl) ?_ _
                          refine ⟨rfl, ?_⟩
                          gi_wp2_with fail
                          gi_meet
                          case rel => exact HLF.out g' cap w5 HG.out
                        exact AllReady.nil
                      exact AllReady.nil
                    exact AllReady.nil
                  refine AllReady.cons rfl (fun K hK => ?_) ?_
                  · go_simp
                    refine hK _ _ ?_; clear hK K
                    refine wpAny_ready (rs := [0, 7]) (by kernel_rfl) (by simp) ?_
                    refine AllReady.cons rfl (fun K hK => ?_) ?_
                    · go_simp
                      refine hK _ _ ?_; clear hK K
                      refine wpAny_ready (rs := [7]) (by kernel_rfl) (by simp) ?_
                      refine AllReady.cons rfl (fun K hK => ?_) ?_
                      · (refine step_append_lies _ (by rfl) _ _ _ (by rfl) 0 3 ii _ 1 8 Try.underlying37 hii0 hii1 hii2 hii3 rfl (by omega) _ L.cr.length _ (by rfl) (HCW.out.alloc _) ⟨W.heap.size, 0, none⟩ 1 1 [.int .i64 (k : Int)] (by rfl) (by rfl) (World.news_of_block (cs := [Value.int .i64 (k : Int)].toArray) (t := 3) (fr := (0, 0)) (heap_alloc_new W.drew.drew _)) (by simp [Value.oneCell']) (by omega) (by simp only [maxLen]; omega) (by omega) (by simp) (W.heap.size + 1) (by simp) ?_; intro g' cap w5 hown hgrow hat hlt5; have HG := Lib.hid (HST g' cap w5 hown hgrow hat hlt5); clear hown hgrow hat hlt5; have c5 := HG.out.2.2.1.cell; have f5 := HG.out.2.2.1.free; have l5 := HG.out.2.2.1.lt; have b5 := HG.out.2.2.2.1.cell; have m5 := HG.out.2.2.2.1.lt); (try go_simp)
                        refine hK _ _ ?_; clear hK K
                        refine wpAny_take (i := 8) (v := ?v20) rfl (by kernel_rfl) (by kernel_rfl) (by kernel_rfl) (fun _ _ _ h => by cases h.1) (Or.inl ⟨by rfl, ?hy20⟩) ?rest20
                        case hy20 => (intro w; go_simp; first | done | with_reducible rfl)
                        refine wpAny_take (i := 9) (v := ?v21) rfl (by kernel_rfl) (by kernel_rfl) (by kernel_rfl) (fun _ _ _ h => by cases h.1) (Or.inl ⟨by rfl, ?hy21⟩) ?rest21
                        case hy21 => (intro w; go_simp; first | done | with_reducible rfl)
                        refine wpAny_ready (rs := [10]) (by kernel_rfl) (by simp) ?_
                        refine AllReady.cons rfl (fun K hK => ?_) ?_
                        · go_simp
                          refine hK _ _ ?_; clear hK K
                          refine wpAny_done (by kernel_rfl) ?_ _
                          refine ⟨rfl, ?_⟩
                          gi_wp2_with fail
                          gi_meet
                          case rel => exact HLF.out g' cap w5 HG.out
                        exact AllReady.nil
                      exact AllReady.nil
                    refine AllReady.cons rfl (fun K hK => ?_) ?_
                    · (refine step_append_lies _ (by rfl) _ _ _ (by rfl) 0 3 ii _ 1 8 Try.underlying37 hii0 hii1 hii2 hii3 rfl (by omega) _ L.cr.length _ (by rfl) (HCW.out.alloc _) ⟨W.heap.size, 0, none⟩ 1 1 [.int .i64 (k : Int)] (by rfl) (by rfl) (World.news_of_block (cs := [Value.int .i64 (k : Int)].toArray) (t := 3) (fr := (0, 0)) (heap_alloc_new W.drew.drew _)) (by simp [Value.oneCell']) (by omega) (by simp only [maxLen]; omega) (by omega) (by simp) (W.heap.size + 1) (by simp) ?_; intro g' cap w5 hown hgrow hat hlt5; have HG := Lib.hid (HST g' cap w5 hown hgrow hat hlt5); clear hown hgrow hat hlt5; have c5 := HG.out.2.2.1.cell; have f5 := HG.out.2.2.1.free; have l5 := HG.out.2.2.1.lt; have b5 := HG.out.2.2.2.1.cell; have m5 := HG.out.2.2.2.1.lt); (try go_simp)
                      refine hK _ _ ?_; clear hK K
                      refine wpAny_ready (rs := [0]) (by kernel_rfl) (by simp) ?_
                      refine AllReady.cons rfl (fun K hK => ?_) ?_
                      · go_simp
                        refine hK _ _ ?_; clear hK K
                        refine wpAny_take (i := 8) (v := ?v22) rfl (by kernel_rfl) (by kernel_rfl) (by kernel_rfl) (fun _ _ _ h => by cases h.1) (Or.inl ⟨by rfl, ?hy22⟩) ?rest22
                        case hy22 => (intro w; go_simp; first | done | with_reducible rfl)
                        refine wpAny_take (i := 9) (v := ?v23) rfl (by kernel_rfl) (by kernel_rfl) (by kernel_rfl) (fun _ _ _ h => by cases h.1) (Or.inl ⟨by rfl, ?hy23⟩) ?rest23
                        case hy23 => (intro w; go_simp; first | done | with_reducible rfl)
                        refine wpAny_ready (rs := [10]) (by kernel_rfl) (by simp) ?_
                        refine AllReady.cons rfl (fun K hK => ?_) ?_
                        · go_simp
                          refine hK _ _ ?_; clear hK K
                          refine wpAny_done (by kernel_rfl) ?_ _
                          refine ⟨rfl, ?_⟩
                          gi_wp2_with fail
                          gi_meet
                          case rel => exact HLF.out g' cap w5 HG.out
                        exact AllReady.nil
                      exact AllReady.nil
                    exact AllReady.nil
                  exact AllReady.nil
                refine AllReady.cons rfl (fun K hK => ?_) ?_
                · go_simp
                  refine hK _ _ ?_; clear hK K
                  refine wpAny_ready (rs := [0, 4]) (by kernel_rfl) (by simp) ?_
                  refine AllReady.cons rfl (fun K hK => ?_) ?_
                  · go_simp
                    refine hK _ _ ?_; clear hK K
                    refine wpAny_ready (rs := [4]) (by kernel_rfl) (by simp) ?_
                    refine AllReady.cons rfl (fun K hK => ?_) ?_
                    · go_simp
                      refine hK _ _ ?_; clear hK K
                      refine wpAny_ready (rs := [7]) (by kernel_rfl) (by simp) ?_
                      refine AllReady.cons rfl (fun K hK => ?_) ?_
                      · (refine step_append_lies _ (by rfl) _ _ _ (by rfl) 0 3 ii _ 1 8 Try.underlying37 hii0 hii1 hii2 hii3 rfl (by omega) _ L.cr.length _ (by rfl) (HCW.out.alloc _) ⟨W.heap.size, 0, none⟩ 1 1 [.int .i64 (k : Int)] (by rfl) (by rfl) (World.news_of_block (cs := [Value.int .i64 (k : Int)].toArray) (t := 3) (fr := (0, 0)) (heap_alloc_new W.drew.drew _)) (by simp [Value.oneCell']) (by omega) (by simp only [maxLen]; omega) (by omega) (by simp) (W.heap.size + 1) (by simp) ?_; intro g' cap w5 hown hgrow hat hlt5; have HG := Lib.hid (HST g' cap w5 hown hgrow hat hlt5); clear hown hgrow hat hlt5; have c5 := HG.out.2.2.1.cell; have f5 := HG.out.2.2.1.free; have l5 := HG.out.2.2.1.lt; have b5 := HG.out.2.2.2.1.cell; have m5 := HG.out.2.2.2.1.lt); (try go_simp)
                        refine hK _ _ ?_; clear hK K
                        refine wpAny_take (i := 8) (v := ?v24) rfl (by kernel_rfl) (by kernel_rfl) (by kernel_rfl) (fun _ _ _ h => by cases h.1) (Or.inl ⟨by rfl, ?hy24⟩) ?rest24
                        case hy24 => (intro w; go_simp; first | done | with_reducible rfl)
                        refine wpAny_take (i := 9) (v := ?v25) rfl (by kernel_rfl) (by kernel_rfl) (by kernel_rfl) (fun _ _ _ h => by cases h.1) (Or.inl ⟨by rfl, ?hy25⟩) ?rest25
                        case hy25 => (intro w; go_simp; first | done | with_reducible rfl)
                        refine wpAny_ready (rs := [10]) (by kernel_rfl) (by simp) ?_
                        refine AllReady.cons rfl (fun K hK => ?_) ?_
                        · go_simp
                          refine hK _ _ ?_; clear hK K
                          refine wpAny_done (by kernel_rfl) ?_ _
                          refine ⟨rfl, ?_⟩
                          gi_wp2_with fail
                          gi_meet
                          case rel => exact HLF.out g' cap w5 HG.out
                        exact AllReady.nil
                      exact AllReady.nil
                    exact AllReady.nil
                  refine AllReady.cons rfl (fun K hK => ?_) ?_
                  · go_simp
                    refine hK _ _ ?_; clear hK K
                    refine wpAny_ready (rs := [0, 7]) (by kernel_rfl) (by simp) ?_
                    refine AllReady.cons rfl (fun K hK => ?_) ?_
                    · go_simp
                      refine hK _ _ ?_; clear hK K
                      refine wpAny_ready (rs := [7]) (by kernel_rfl) (by simp) ?_
                      refine AllReady.cons rfl (fun K hK => ?_) ?_
                      · (refine step_append_lies _ (by rfl) _ _ _ (by rfl) 0 3 ii _ 1 8 Try.underlying37 hii0 hii1 hii2 hii3 rfl (by omega) _ L.cr.length _ (by rfl) (HCW.out.alloc _) ⟨W.heap.size, 0, none⟩ 1 1 [.int .i64 (k : Int)] (by rfl) (by rfl) (World.news_of_block (cs := [Value.int .i64 (k : Int)].toArray) (t := 3) (fr := (0, 0)) (heap_alloc_new W.drew.drew _)) (by simp [Value.oneCell']) (by omega) (by simp only [maxLen]; omega) (by omega) (by simp) (W.heap.size + 1) (by simp) ?_; intro g' cap w5 hown hgrow hat hlt5; have HG := Lib.hid (HST g' cap w5 hown hgrow hat hlt5); clear hown hgrow hat hlt5; have c5 := HG.out.2.2.1.cell; have f5 := HG.out.2.2.1.free; have l5 := HG.out.2.2.1.lt; have b5 := HG.out.2.2.2.1.cell; have m5 := HG.out.2.2.2.1.lt); (try go_simp)
                        refine hK _ _ ?_; clear hK K
                        refine wpAny_take (i := 8) (v := ?v26) rfl (by kernel_rfl) (by kernel_rfl) (by kernel_rfl) (fun _ _ _ h => by cases h.1) (Or.inl ⟨by rfl, ?hy26⟩) ?rest26
                        case hy26 => (intro w; go_simp; first | done | with_reducible rfl)
                        refine wpAny_take (i := 9) (v := ?v27) rfl (by kernel_rfl) (by kernel_rfl) (by kernel_rfl) (fun _ _ _ h => by cases h.1) (Or.inl ⟨by rfl, ?hy27⟩) ?rest27
                        case hy27 => (intro w; go_simp; first | done | with_reducible rfl)
                        refine wpAny_ready (rs := [10]) (by kernel_rfl) (by simp) ?_
                        refine AllReady.cons rfl (fun K hK => ?_) ?_
                        · go_simp
                          refine hK _ _ ?_; clear hK K
                          refine wpAny_done (by kernel_rfl) ?_ _
                          refine ⟨rfl, ?_⟩
                          gi_wp2_with fail
                          gi_meet
                          case rel => exact HLF.out g' cap w5 HG.out
                        exact AllReady.nil
                      exact AllReady.nil
                    refine AllReady.cons rfl (fun K hK => ?_) ?_
                    · (refine step_append_lies _ (by rfl) _ _ _ (by rfl) 0 3 ii _ 1 8 Try.underlying37 hii0 hii1 hii2 hii3 rfl (by omega) _ L.cr.length _ (by rfl) (HCW.out.alloc _) ⟨W.heap.size, 0, none⟩ 1 1 [.int .i64 (k : Int)] (by rfl) (by rfl) (World.news_of_block (cs := [Value.int .i64 (k : Int)].toArray) (t := 3) (fr := (0, 0)) (heap_alloc_new W.drew.drew _)) (by simp [Value.oneCell']) (by omega) (by simp only [maxLen]; omega) (by omega) (by simp) (W.heap.size + 1) (by simp) ?_; intro g' cap w5 hown hgrow hat hlt5; have HG := Lib.hid (HST g' cap w5 hown hgrow hat hlt5); clear hown hgrow hat hlt5; have c5 := HG.out.2.2.1.cell; have f5 := HG.out.2.2.1.free; have l5 := HG.out.2.2.1.lt; have b5 := HG.out.2.2.2.1.cell; have m5 := HG.out.2.2.2.1.lt); (try go_simp)
                      refine hK _ _ ?_; clear hK K
                      refine wpAny_ready (rs := [0]) (by kernel_rfl) (by simp) ?_
                      refine AllReady.cons rfl (fun K hK => ?_) ?_
                      · go_simp
                        refine hK _ _ ?_; clear hK K
                        refine wpAny_take (i := 8) (v := ?v28) rfl (by kernel_rfl) (by kernel_rfl) (by kernel_rfl) (fun _ _ _ h => by cases h.1) (Or.inl ⟨by rfl, ?hy28⟩) ?rest28
                        case hy28 => (intro w; go_simp; first | done | with_reducible rfl)
                        refine wpAny_take (i := 9) (v := ?v29) rfl (by kernel_rfl) (by kernel_rfl) (by kernel_rfl) (fun _ _ _ h => by cases h.1) (Or.inl ⟨by rfl, ?hy29⟩) ?rest29
                        case hy29 => (intro w; go_simp; first | done | with_reducible rfl)
                        refine wpAny_ready (rs := [10]) (by kernel_rfl) (by simp) ?_
                        refine AllReady.cons rfl (fun K hK => ?_) ?_
                        · go_simp
                          refine hK _ _ ?_; clear hK K
                          refine wpAny_done (by kernel_rfl) ?_ _
                          refine ⟨rfl, ?_⟩
                          gi_wp2_with fail
                          gi_meet
                          case rel => exact HLF.out g' cap w5 HG.out
                        exact AllReady.nil
                      exact AllReady.nil
                    exact AllReady.nil
                  exact AllReady.nil
                exact AllReady.nil
              refine AllReady.cons rfl (fun K hK => ?_) ?_
              · go_simp
                refine hK _ _ ?_; clear hK K
                refine wpAny_ready (rs := [0, 1]) (by kernel_rfl) (by simp) ?_
                refine AllReady.cons rfl (fun K hK => ?_) ?_
                · go_simp
                  refine hK _ _ ?_; clear hK K
                  refine wpAny_ready (rs := [1]) (by kernel_rfl) (by simp) ?_
                  refine AllReady.cons rfl (fun K hK => ?_) ?_
                  · go_simp
                    refine hK _ _ ?_; clear hK K
                    refine wpAny_take (i := 2) (v := ?v30) rfl (by kernel_rfl) (by kernel_rfl) (by kernel_rfl) (fun _ _ _ h => by cases h.1) (Or.inl ⟨by rfl, ?hy30⟩) ?rest30
                    case hy30 => (intro w; go_simp; first | done | with_reducible rfl)
                    refine wpAny_take (i := 3) (v := ?v31) rfl (by kernel_rfl) (by kernel_rfl) (by kernel_rfl) (fun _ _ _ h => by cases h.1) (Or.inl ⟨by rfl, ?hy31⟩) ?rest31
                    case hy31 => (intro w; go_simp; first | done | with_reducible rfl)
                    refine wpAny_ready (rs := [4]) (by kernel_rfl) (by simp) ?_
                    refine AllReady.cons rfl (fun K hK => ?_) ?_
                    · go_simp
                      refine hK _ _ ?_; clear hK K
                      refine wpAny_ready (rs := [7]) (by kernel_rfl) (by simp) ?_
                      refine AllReady.cons rfl (fun K hK => ?_) ?_
                      · (refine step_append_lies _ (by rfl) _ _ _ (by rfl) 0 3 ii _ 1 8 Try.underlying37 hii0 hii1 hii2 hii3 rfl (by omega) _ L.cr.length _ (by rfl) (HCW.out.alloc _) ⟨W.heap.size, 0, none⟩ 1 1 [.int .i64 (k : Int)] (by rfl) (by rfl) (World.news_of_block (cs := [Value.int .i64 (k : Int)].toArray) (t := 3) (fr := (0, 0)) (heap_alloc_new W.drew.drew _)) (by simp [Value.oneCell']) (by omega) (by simp only [maxLen]; omega) (by omega) (by simp) (W.heap.size + 1) (by simp) ?_; intro g' cap w5 hown hgrow hat hlt5; have HG := Lib.hid (HST g' cap w5 hown hgrow hat hlt5); clear hown hgrow hat hlt5; have c5 := HG.out.2.2.1.cell; have f5 := HG.out.2.2.1.free; have l5 := HG.out.2.2.1.lt; have b5 := HG.out.2.2.2.1.cell; have m5 := HG.out.2.2.2.1.lt); (try go_simp)
                        refine hK _ _ ?_; clear hK K
                        refine wpAny_take (i := 8) (v := ?v32) rfl (by kernel_rfl) (by kernel_rfl) (by kernel_rfl) (fun _ _ _ h => by cases h.1) (Or.inl ⟨by rfl, ?hy32⟩) ?rest32
                        case hy32 => (intro w; go_simp; first | done | with_reducible rfl)
                        refine wpAny_take (i := 9) (v := ?v33) rfl (by kernel_rfl) (by kernel_rfl) (by kernel_rfl) (fun _ _ _ h => by cases h.1) (Or.inl ⟨by rfl, ?hy33⟩) ?rest33
                        case hy33 => (intro w; go_simp; first | done | with_reducible rfl)
                        refine wpAny_ready (rs := [10]) (by kernel_rfl) (by simp) ?_
                        refine AllReady.cons rfl (fun K hK => ?_) ?_
                        · go_simp
                          refine hK _ _ ?_; clear hK K
                          refine wpAny_done (by kernel_rfl) ?_ _
                          refine ⟨rfl, ?_⟩
                          gi_wp2_with fail
                          gi_meet
                          case rel => exact HLF.out g' cap w5 HG.out
                        exact AllReady.nil
                      exact AllReady.nil
                    exact AllReady.nil
                  exact AllReady.nil
                refine AllReady.cons rfl (fun K hK => ?_) ?_
                · go_simp
                  refine hK _ _ ?_; clear hK K
                  refine wpAny_take (i := 2) (v := ?v34) rfl (by kernel_rfl) (by kernel_rfl) (by kernel_rfl) (fun _ _ _ h => by cases h.1) (Or.inl ⟨by rfl, ?hy34⟩) ?rest34
                  case hy34 => (intro w; go_simp; first | done | with_reducible rfl)
                  refine wpAny_take (i := 3) (v := ?v35) rfl (by kernel_rfl) (by kernel_rfl) (by kernel_rfl) (fun _ _ _ h => by cases h.1) (Or.inl ⟨by rfl, ?hy35⟩) ?rest35
                  case hy35 => (intro w; go_simp; first | done | with_reducible rfl)
                  refine wpAny_ready (rs := [0, 4]) (by kernel_rfl) (by simp) ?_
                  refine AllReady.cons rfl (fun K hK => ?_) ?_
                  · go_simp
                    refine hK _ _ ?_; clear hK K
                    refine wpAny_ready (rs := [4]) (by kernel_rfl) (by simp) ?_
                    refine AllReady.cons rfl (fun K hK => ?_) ?_
                    · go_simp
                      refine hK _ _ ?_; clear hK K
                      refine wpAny_ready (rs := [7]) (by kernel_rfl) (by simp) ?_
                      refine AllReady.cons rfl (fun K hK => ?_) ?_
                      · (refine step_append_lies _ (by rfl) _ _ _ (by rfl) 0 3 ii _ 1 8 Try.underlying37 hii0 hii1 hii2 hii3 rfl (by omega) _ L.cr.length _ (by rfl) (HCW.out.alloc _) ⟨W.heap.size, 0, none⟩ 1 1 [.int .i64 (k : Int)] (by rfl) (by rfl) (World.news_of_block (cs := [Value.int .i64 (k : Int)].toArray) (t := 3) (fr := (0, 0)) (heap_alloc_new W.drew.drew _)) (by simp [Value.oneCell']) (by omega) (by simp only [maxLen]; omega) (by omega) (by simp) (W.heap.size + 1) (by simp) ?_; intro g' cap w5 hown hgrow hat hlt5; have HG := Lib.hid (HST g' cap w5 hown hgrow hat hlt5); clear hown hgrow hat hlt5; have c5 := HG.out.2.2.1.cell; have f5 := HG.out.2.2.1.free; have l5 := HG.out.2.2.1.lt; have b5 := HG.out.2.2.2.1.cell; have m5 := HG.out.2.2.2.1.lt); (try go_simp)
                        refine hK _ _ ?_; clear hK K
                        refine wpAny_take (i := 8) (v := ?v36) rfl (by kernel_rfl) (by kernel_rfl) (by kernel_rfl) (fun _ _ _ h => by cases h.1) (Or.inl ⟨by rfl, ?hy36⟩) ?rest36
                        case hy36 => (intro w; go_simp; first | done | with_reducible rfl)
                        refine wpAny_take (i := 9) (v := ?v37) rfl (by kernel_rfl) (by kernel_rfl) (by kernel_rfl) (fun _ _ _ h => by cases h.1) (Or.inl ⟨by rfl, ?hy37⟩) ?rest37
                        case hy37 => (intro w; go_simp; first | done | with_reducible rfl)
                        refine wpAny_ready (rs := [10]) (by kernel_rfl) (by simp) ?_
                        refine AllReady.cons rfl (fun K hK => ?_) ?_
                        · go_simp
                          refine hK _ _ ?_; clear hK K
                          refine wpAny_done (by kernel_rfl) ?_ _
                          refine ⟨rfl, ?_⟩
                          gi_wp2_with fail
                          gi_meet
                          case rel => exact HLF.out g' cap w5 HG.out
                        exact AllReady.nil
                      exact AllReady.nil
                    exact AllReady.nil
                  refine AllReady.cons rfl (fun K hK => ?_) ?_
                  · go_simp
                    refine hK _ _ ?_; clear hK K
                    refine wpAny_ready (rs := [0, 7]) (by kernel_rfl) (by simp) ?_
                    refine AllReady.cons rfl (fun K hK => ?_) ?_
                    · go_simp
                      refine hK _ _ ?_; clear hK K
                      refine wpAny_ready (rs := [7]) (by kernel_rfl) (by simp) ?_
                      refine AllReady.cons rfl (fun K hK => ?_) ?_
                      · (refine step_append_lies _ (by rfl) _ _ _ (by rfl) 0 3 ii _ 1 8 Try.underlying37 hii0 hii1 hii2 hii3 rfl (by omega) _ L.cr.length _ (by rfl) (HCW.out.alloc _) ⟨W.heap.size, 0, none⟩ 1 1 [.int .i64 (k : Int)] (by rfl) (by rfl) (World.news_of_block (cs := [Value.int .i64 (k : Int)].toArray) (t := 3) (fr := (0, 0)) (heap_alloc_new W.drew.drew _)) (by simp [Value.oneCell']) (by omega) (by simp only [maxLen]; omega) (by omega) (by simp) (W.heap.size + 1) (by simp) ?_; intro g' cap w5 hown hgrow hat hlt5; have HG := Lib.hid (HST g' cap w5 hown hgrow hat hlt5); clear hown hgrow hat hlt5; have c5 := HG.out.2.2.1.cell; have f5 := HG.out.2.2.1.free; have l5 := HG.out.2.2.1.lt; have b5 := HG.out.2.2.2.1.cell; have m5 := HG.out.2.2.2.1.lt); (try go_simp)
                        refine hK _ _ ?_; clear hK K
                        refine wpAny_take (i := 8) (v := ?v38) rfl (by kernel_rfl) (by kernel_rfl) (by kernel_rfl) (fun _ _ _ h => by cases h.1) (Or.inl ⟨by rfl, ?hy38⟩) ?rest38
                        case hy38 => (intro w; go_simp; first | done | with_reducible rfl)
                        refine wpAny_take (i := 9) (v := ?v39) rfl (by kernel_rfl) (by kernel_rfl) (by kernel_rfl) (fun _ _ _ h => by cases h.1) (Or.inl ⟨by rfl, ?hy39⟩) ?rest39
                        case hy39 => (intro w; go_simp; first | done | with_reducible rfl)
                        refine wpAny_ready (rs := [10]) (by kernel_rfl) (by simp) ?_
                        refine AllReady.cons rfl (fun K hK => ?_) ?_
                        · go_simp
                          refine hK _ _ ?_; clear hK K
                          refine wpAny_done (by kernel_rfl) ?_ _
                          refine ⟨rfl, ?_⟩
                          gi_wp2_with fail
                          gi_meet
                          case rel => exact HLF.out g' cap w5 HG.out
                        exact AllReady.nil
                      exact AllReady.nil
                    refine AllReady.cons rfl (fun K hK => ?_) ?_
                    · (refine step_append_lies _ (by rfl) _ _ _ (by rfl) 0 3 ii _ 1 8 Try.underlying37 hii0 hii1 hii2 hii3 rfl (by omega) _ L.cr.length _ (by rfl) (HCW.out.alloc _) ⟨W.heap.size, 0, none⟩ 1 1 [.int .i64 (k : Int)] (by rfl) (by rfl) (World.news_of_block (cs := [Value.int .i64 (k : Int)].toArray) (t := 3) (fr := (0, 0)) (heap_alloc_new W.drew.drew _)) (by simp [Value.oneCell']) (by omega) (by simp only [maxLen]; omega) (by omega) (by simp) (W.heap.size + 1) (by simp) ?_; intro g' cap w5 hown hgrow hat hlt5; have HG := Lib.hid (HST g' cap w5 hown hgrow hat hlt5); clear hown hgrow hat hlt5; have c5 := HG.out.2.2.1.cell; have f5 := HG.out.2.2.1.free; have l5 := HG.out.2.2.1.lt; have b5 := HG.out.2.2.2.1.cell; have m5 := HG.out.2.2.2.1.lt); (try go_simp)
                      refine hK _ _ ?_; clear hK K
                      refine wpAny_ready (rs := [0]) (by kernel_rfl) (by simp) ?_
                      refine AllReady.cons rfl (fun K hK => ?_) ?_
                      · go_simp
                        refine hK _ _ ?_; clear hK K
                        refine wpAny_take (i := 8) (v := ?v40) rfl (by kernel_rfl) (by kernel_rfl) (by kernel_rfl) (fun _ _ _ h => by cases h.1) (Or.inl ⟨by rfl, ?hy40⟩) ?rest40
                        case hy40 => (intro w; go_simp; first | done | with_reducible rfl)
                        refine wpAny_take (i := 9) (v := ?v41) rfl (by kernel_rfl) (by kernel_rfl) (by kernel_rfl) (fun _ _ _ h => by cases h.1) (Or.inl ⟨by rfl, ?hy41⟩) ?rest41
                        case hy41 => (intro w; go_simp; first | done | with_reducible rfl)
                        refine wpAny_ready (rs := [10]) (by kernel_rfl) (by simp) ?_
                        refine AllReady.cons rfl (fun K hK => ?_) ?_
                        · go_simp
                          refine hK _ _ ?_; clear hK K
                          refine wpAny_done (by kernel_rfl) ?_ _
                          refine ⟨rfl, ?_⟩
                          gi_wp2_with fail
                          gi_meet
                          case rel => exact HLF.out g' cap w5 HG.out
                        exact AllReady.nil
                      exact AllReady.nil
                    exact AllReady.nil
                  exact AllReady.nil
                exact AllReady.nil
              exact AllReady.nil

            · have hci : ¬ (i : Int) < (hl.length : Int) - 1 := by omega
              gi_wp2_with fail
              gi_meet
              case rel =>
                refine ⟨cv, ?_, hOd.mono (fun _ _ h => h.elim), hOd.blk (HW.out.2.2.2.2.2.2.2.1.blk H2.out.2.2.2.2.1), hOd.blk HW.out.2.2.2.2.2.2.2.2, hOd.blk (HW.out.2.2.2.2.2.2.2.1.blk H2.out.2.2.2.2.2.2.2.1)⟩
                rw [if_neg hcr]
                exact (HW.out.2.2.2.1.tight.only hOd).wide (fun _ => grow.old) (fun j hj => hj.lt HW.out.2.2.2.1.tight.lt hOd.size)
          case rest =>
            obtain ⟨cv', hTc, hsc, p3, p6, p7⟩ := hcut
            have k3' := p3.cell
            have l3' := p3.lt
            have k7' := p7.cell
            have l7' := p7.lt
            have hokc : Lg.Fit { L with cr := if i + 1 < hl.length then L.cr ++ [(k : Int)] else L.cr } := by
              have h0 := HH.out.2
              exact ⟨h0.n, h0.t0, h0.time_le, h0.hl, h0.hin⟩
            have HC := Lib.hid (And.intro hTc (And.intro hsc (And.intro hokc p6)))
            clear hTc hsc hokc p3 p6 p7 k3 k5 k6 k7 l3 l5 l6 l7 f6 kb lb z kh lh
            gi_wp2_with fail
            refine ⟨trivial, ?_⟩
            refine (CallsIn.inRound l (callsIn_wide.2 (release_in wc _ b _ m ev cv' kv hs2 t ⟨hl, hb, .slice Ah hl.length ch⟩ i HC.out.1 HC.out.2.2.1 H2.out.2.1 hil))).mono ?_
            rintro e w5 ⟨rfl, ⟨hs5, h5, hT5, hg5, hh5⟩, hx5⟩
            have hT := HW.out.2.2.2.1
            have q6 := HW.out.2.2.2.2.2.2.2.2
            have hw12 := H1.out.2.2.2.2.lt
            have p6 : Blk w5 (w.heap.size + 2) 25 [.int .i64 0] := hx5.blk HC.out.2.2.2 (by
              rintro (h | h)
              · exact hT.none q6 (by decide) (by decide) (by decide) (by decide) h
              · have := h.1; omega)
            have j6 := p6.cell
            have m6 := p6.lt
            have g6 := p6.free
            have hxx : Stay (Own1 b m ev cv kv hs2) W w5 := HC.out.2.1.trans hx5 (fun j hj h => by
              rcases h with h | h
              · exact h
              · have := h.1; omega)
            have hz5 := hx5.size
            have H5 := Lib.hid (And.intro hT5 (And.intro hxx p6))
            clear hT q6 p6 hT5 hg5 hh5 hx5 hxx
            gi_wp2_with fail
            have hT := HW.out.2.2.2.1
            have hm4 : m < w4.heap.size := H2.out.1.lt m H2.out.1.sm
            have hSW : Stay S w W := ((H1.out.2.1.mono (fun _ _ h => h.elim)).trans H2.out.2.2.1 (fun _ _ h => h)).trans HW.out.2.2.2.2.2.2.2.1 (fun _ _ h => h.elim)
            have hrel : L.rel t i = Lg.cut { L with cr := if i + 1 < hl.length then L.cr ++ [(k : Int)] else L.cr } t i := by
              have hgx : hl.getD i 0 = (k : Int) := by rw [List.getD_eq_getElem?_getD, hy]; rfl
              unfold Lg.rel Lg.cut
              simp only [H2.out.2.2.2.1, hgx]
            have hTw := H5.out.1.wide (S' := grow (Own1 b m ev cv kv hs2) W w5) (fun j hj => by
              rcases hj with (h | h) | h
              · exact .inl h
              · exact .inr ⟨h.1, Nat.lt_of_lt_of_le h.2 hz5⟩
              · exact .inr ⟨by have := HC.out.2.1.size; omega, h.2⟩) (fun j hj => hj.lt hT.tight.lt H5.out.2.1.size)
            refine ⟨keepsFrom_of (X := fun j => Own1 b m ev cv kv hs2 j ∨ j = w.heap.size + 2) ((H5.out.2.1.mono (fun _ _ h => .inl h)).put (.inr rfl) _ _) (fun j hj => ?_), rfl, pre, ⟨((i : Nat), (k : Int)), hy⟩, rfl, HW.out.1, ?_, ?_⟩
            · rcases hj with hj | rfl
              · rcases hT.cells j hj with rfl | h
                · exact .inl hm4
                · exact .inr h
              · exact .inl (by omega)
            · show whatAt L.es (k : Int) = x
              rw [HW.out.2.2.2.2.2.1]
              exact hxw
            · show RelAt w S b (L.rel t i) w4.heap.size (w5.setCell ⟨w.heap.size + 2, 0, none⟩ (.int .i64 0))
              rw [hrel]
              exact RelAt.mk' (by omega) hzW hSW (fun j hj => by
                rcases hT.sub j hj with h | h
                · exact .inl h
                · exact .inr (by have := h.1; omega)) hTw H5.out.2.1 hm4 H5.out.2.2
        · have hxb : (en.what != x) = true := by simp [hxw]
          rw [hxb]
          gi_wp2_with fail
          have hwk := HW.out.2.2.2.2.2.1
          refine ⟨(KeepsOthers.drew W).from _, Below.drew (Below.refl _ _), ⟨fun y' hy' => (List.mem_append.1 hy').elim (HW.out.1 y') (fun e => ?_), Below.drew HW.out.2.1⟩⟩
          obtain rfl : y' = ⟨((i : Nat), (k : Int)), hy⟩ := List.mem_singleton.1 e
          show whatAt L.es (k : Int) ≠ x
          rw [hwk]
          exact hxw
    case done =>
      rintro D ys W hD rfl ⟨hne, hB⟩ hK
      have hOW : Only w4 W := Stay.of_below hB
      have q6 := hOW.blk H2.out.2.2.2.2.2.2.1
      have k6 := q6.cell
      have l6 := q6.lt
      have f6 := q6.free
      have HD := Lib.hid (And.intro hne (And.intro hB (And.intro hK q6)))
      clear hne hB hK hOW q6 hHI hq8
      gi_wp2_with fail
      have hK' := (KeepsOthers.setCell W ⟨w.heap.size + 2, 0, none⟩ (.int .i64 6)).same D _ HD.out.2.2.1 rfl
      have hsD : Stay (fun j => j = D) (W.setCell ⟨w.heap.size + 2, 0, none⟩ (.int .i64 6)) ((W.setCell ⟨w.heap.size + 2, 0, none⟩ (.int .i64 6)).putObj D (.deferred none)) := Stay.of_grown (grownBy_putObj' _ D (.deferred none)) (fun k _ e => by cases e; rfl)
      have hsp : Stay (fun j => j = w.heap.size + 2) W (W.setCell ⟨w.heap.size + 2, 0, none⟩ (.int .i64 6)) := Stay.put (S := fun j => j = w.heap.size + 2) (Stay.refl _ W) rfl _ _
      have hOW : Only w4 W := Stay.of_below HD.out.2.1
      have hTW := H2.out.1.only hOW
      have hn6 := hTW.none HD.out.2.2.2 (by decide) (by decide) (by decide) (by decide)
      have hw12 := H1.out.2.2.2.2.lt
      have hdb := hsD.blk (HD.out.2.2.2.set 0 (.int .i64 6)) (fun e => by omega)
      have hc5 := hdb.cell 0
      simp only [List.set_cons_zero, List.getElem?_cons_zero] at hc5
      have HFi := Lib.hid (show L.release t x = (L, 6) by
        unfold Lg.release
        rw [if_neg HBd.out, H2.out.2.2.2.1, seek_none (fun j hj => by
          obtain ⟨y, hy, e⟩ := upto_mem hl hl.length (Nat.le_refl _) (hl.length - 1 - j) (by omega)
          have h1 := HD.out.1 y hy
          have h2 := y.2
          rw [e, show hl.length - 1 - (hl.length - 1 - j) = j by omega] at h2
          rw [List.getD_eq_getElem?_getD, h2]
          simpa using h1)])
      refine ⟨by simp, .inl ⟨_, _, rfl, run_takeDeferred hK', ?_⟩⟩
      refine ⟨.int .i64 6, by simp [results, Try.f13, go_sem, hc5], ?_⟩
      rw [HFi.out]
      have hSf : Stay S w ((W.setCell ⟨w.heap.size + 2, 0, none⟩ (.int .i64 6)).putObj D (.deferred none)) := ((((H1.out.2.1.mono (fun _ _ h => h.elim)).trans H2.out.2.2.1 (fun _ _ h => h)).trans hOW (fun _ _ h => h.elim)).trans hsp (fun j hj e => by omega)).trans hsD (fun j hj e => by omega)
      refine ⟨rfl, ⟨m, ev, cv, kv, hs2, ?_⟩, hSf⟩
      have hT1 := hTW.tight.stay hsp (fun j hj e => hn6 (e ▸ hj)) (fun _ h => h) (fun j hj => Nat.lt_of_lt_of_le (hTW.tight.lt j hj) hsp.size)
      exact hT1.stay hsD (fun j hj e => by
        have := H2.out.1.lt j (hTW.sub j hj)
        omega) (fun j hj => by
        rcases hTW.sub j hj with h | h
        · exact .inl h
        · have h3 := H2.out.1.lt j (.inr h)
          have h4 := hOW.size
          have h5 := hsp.size
          have h6 := hsD.size
          exact .inr ⟨by have := h.1; omega, Nat.lt_of_lt_of_le h3 (Nat.le_trans h4 (Nat.le_trans h5 h6))⟩) (fun j hj => hj.lt HH.out.1.lt hSf.size)
    case stop =>
      rintro D c pre W hD ⟨k, hk, rfl⟩ ⟨rfl, ini, last, e1, e2, e3, hR⟩ hK
      gi_wp2_with fail
      refine ⟨by simp, .inl ⟨_, _, rfl, run_takeDeferred hK, ?_⟩⟩
      have hw12 := H1.out.2.2.2.2.lt
      have hRD := hR.turn (W' := W.putObj D (.deferred none)) (row := some D) (by omega) (grownBy_putObj' _ D (.deferred none)) (fun r e => by cases e; exact ⟨hD, _, hK, rfl⟩)
      obtain ⟨k', rfl⟩ : ∃ k', k = k' + 1 := by
        cases k with
        | zero =>
          have := congrArg List.length e1
          simp [upto] at this
        | succ k' => exact ⟨k', rfl⟩
      simp only [upto] at e1
      obtain ⟨rfl, e5⟩ := List.append_inj' e1 rfl
      have hk' : k' < hl.length := Nat.lt_of_succ_le hk
      have e6 : last = bk hl k' hk' := (by simpa using e5 : bk hl k' hk' = last).symm
      subst e6
      have hc5 := hRD.box.cell 0
      simp only [List.getElem?_cons_zero] at hc5
      refine ⟨.int .i64 0, by simp [results, Try.f13, go_sem, hc5], ?_⟩
      have HFi : L.release t x = (L.rel t (hl.length - 1 - k'), 0) := by
        unfold Lg.release
        rw [if_neg HBd.out, H2.out.2.2.2.1, seek_some (i := hl.length - 1 - k') (by omega) (by
          have h2 := (bk hl k' hk').2
          rw [List.getD_eq_getElem?_getD, show hl[hl.length - 1 - k']? = some (bk hl k' hk').1.2 from h2]
          simpa using e3) (fun j hj1 hj2 => by
          obtain ⟨y, hy, e⟩ := upto_mem hl k' (by omega) (hl.length - 1 - j) (by omega)
          have h1 := e2 y hy
          have h2 := y.2
          rw [e, show hl.length - 1 - (hl.length - 1 - j) = j by omega] at h2
          rw [List.getD_eq_getElem?_getD, h2]
          simpa using h1)]
        unfold Lg.rel
        rw [H2.out.2.2.2.1]
      rw [HFi]
      obtain ⟨m', ev', cv', kv', hs', hT', hS', _⟩ := hRD.lies
      exact ⟨rfl, ⟨m', ev', cv', kv', hs', hT'.wide (fun j hj => (hS' j hj).elim .inl (fun h => .inr ⟨h, hT'.lt j hj⟩)) (fun j hj => hj.lt HH.out.1.lt hRD.stay.size)⟩, hRD.stay⟩

end Go.Proofs.Ytgjicobfbdikmaa
