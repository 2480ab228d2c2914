/- StealOnce: the walk. -/
import Derived.Test.YtfohaijdhgcneaaStealCount
import Derived.Test.YtfohaijdhgcneaaLawStealStack
import Derived.Test.YtfohaijdhgcneaaAppSl
import Derived.Test.YtfohaijdhgcneaaIntSort
import Derived.Lib.SlKeysI
set_option linter.unusedVariables false
set_option linter.unusedSimpArgs false
namespace Go.Proofs.Ytfohaijdhgcneaa
open Go Go.RowKit

theorem srt_same {l l' : List Int} (h : l.Perm l') : srt l = srt l' := mergeSort_of_perm_i h
set_option maxRecDepth 100000 in
set_option maxHeartbeats 4000000 in
theorem stealOnce_any (w : World) (room : Int) (own thv order : List Int) (A B C : Option Addr) (ca cb cc : Nat) (hA : Sl w w.heap.size A own.length ca 1 (ints own)) (hB : Sl w w.heap.size B thv.length cb 1 (ints thv)) (hC : Sl w w.heap.size C order.length cc 1 (ints order)) :
    Calls Try.prog 10 #[.agg #[.int .i64 room, .slice A own.length ca, .slice B thv.length cb], .slice C order.length cc] w fun e w' => e = .returned (.bool true) ∧ Only w w' := by
  obtain ⟨ii, hii0, hii1, hii2, hii3⟩ := info_parts infoI
  have HS := Lib.hid (And.intro hA (And.intro hB hC))
  clear hA hB hC
  go_enter Try.func10, Try.ntmps10
  go_wp2_with fail
  obtain ⟨w1, hw1⟩ : ∃ w1, w1 = w.alloc (.cells #[.int .i64 room, .slice A own.length ca, .slice B thv.length cb] 24) := ⟨_, rfl⟩
  rw [← hw1]
  have hO1 : Only w w1 := by rw [hw1]; exact (Stay.refl _ w).alloc _
  have hB1 : Blk w1 w.heap.size 24 [.int .i64 room, .slice A own.length ca, .slice B thv.length cb] := by rw [hw1]; exact Blk.newAt w [_, _, _] _ _ rfl
  have H1 := Lib.hid (And.intro hO1 hB1)
  clear hw1 hO1 hB1
  by_cases hv : Valid room (own.take 62) (thv.take 10)
  · refine (made_ok w1 w1 (Stay.refl _ w1) room own thv A B ca cb (Sl.up HS.out.1 H1.out.1) (Sl.up HS.out.2.1 H1.out.1) hv).mono ?_
    rintro e w2 ⟨b, L, rfl, h2, _, _⟩
    obtain ⟨rm, rfl⟩ : ∃ rm : Nat, room = (rm : Int) := ⟨room.toNat, by have := hv.r1; omega⟩
    simp only [Int.toNat_natCast] at h2
    have hC := play_count hv order
    have H2 := Lib.hid (And.intro h2 hC)
    clear h2 hC
    go_wp2_with fail
    refine (played_any H2.out.1 (start_got rm _ _) C cc order (Sl.up HS.out.2.2 H1.out.1)).mono ?_
    rintro e w3 ⟨L3, ov, rfl, h3, hr3, _⟩
    have hl1 : (own.take 62).length ≤ 62 := by rw [List.length_take]; omega
    have hC := H2.out.2
    have HV := Lib.hid hv
    clear hv
    have hclip := clipped_any w3 (rm : Int) own thv A B ca cb (Sl.up (Sl.up HS.out.1 H1.out.1) h3.only) (Sl.up (Sl.up HS.out.2.1 H1.out.1) h3.only)
    obtain ⟨out, hout⟩ : ∃ out, out = ((Rc.start rm (own.take 62) (thv.take 10) ((thv.take 10).map Int.toNat)).play order).2 := ⟨_, rfl⟩
    obtain ⟨rr, hrr⟩ : ∃ rr, rr = ((Rc.start rm (own.take 62) (thv.take 10) ((thv.take 10).map Int.toNat)).play order).1.rest := ⟨_, rfl⟩
    have hn1 := play_len (Rc.start rm (own.take 62) (thv.take 10) ((thv.take 10).map Int.toNat)) order
    obtain ⟨R, hR⟩ : ∃ R, R = ((Rc.start rm (own.take 62) (thv.take 10) ((thv.take 10).map Int.toNat)).play order).1 := ⟨_, rfl⟩
    rw [← hout] at hr3 hn1 hC
    rw [← hrr] at hC
    rw [← hR] at h3 hrr
    clear hR hout
    obtain ⟨o2, ho2⟩ : ∃ o, o = own.take 62 := ⟨_, rfl⟩
    rw [← ho2] at hl1 hC hclip
    obtain ⟨n, hn⟩ : ∃ n, n = out.length := ⟨_, rfl⟩
    rw [← hn] at hn1 hr3
    obtain ⟨Aq, cq, rfl⟩ := own_shape hr3
    have hB3 := h3.only.blk H1.out.2
    have cb3 := hB3.cell
    have lb3 := hB3.lt
    have fb3 := hB3.free
    have H3 := Lib.hid (And.intro h3 (And.intro hr3 (And.intro hC (And.intro hrr (And.intro hn (And.intro hclip hB3))))))
    clear h3 hr3 hC hrr hn hclip hB3 ho2
    go_wp2_with fail
    refine H3.out.2.2.2.2.2.1.mono ?_
    rintro e w4 ⟨ov, tv, rfl, ro, rt, hx4⟩
    obtain ⟨nn, hnn⟩ : ∃ nn, nn = o2.length := ⟨_, rfl⟩
    obtain ⟨lt, hlt⟩ : ∃ lt, lt = (thv.take 10).length := ⟨_, rfl⟩
    rw [← hnn] at hl1 ro
    rw [← hlt] at rt
    obtain ⟨Ao, co, rfl⟩ := own_shape ro
    obtain ⟨At, ct, rfl⟩ := own_shape rt
    have hB4 := hx4.blk H3.out.2.2.2.2.2.2
    have cb4 := hB4.cell
    have lb4 := hB4.lt
    have fb4 := hB4.free
    have H4 := Lib.hid (And.intro ro (And.intro hx4 (And.intro hnn hB4)))
    clear ro rt hx4 hnn hB4 hlt cb3 lb3 fb3
    go_wp2_with fail
    obtain ⟨w7, hw7⟩ : ∃ w7, w7 = ((w4.setCell ⟨w.heap.size, 0, none⟩ (.int .i64 (rm : Int))).setCell ⟨w.heap.size, 1, none⟩ (.slice Ao nn co)).setCell ⟨w.heap.size, 2, none⟩ (.slice At lt ct) := ⟨_, rfl⟩
    rw [← hw7]
    have hB7 : Blk w7 w.heap.size 24 [.int .i64 (rm : Int), .slice Ao nn co, .slice At lt ct] := by rw [hw7]; exact ((H4.out.2.2.2.set 0 _).set 1 _).set 2 _
    have hS7 : Stay (fun k => k = w.heap.size) w4 w7 := by rw [hw7]; exact Stay.put (S := fun k => k = w.heap.size) (Stay.put (S := fun k => k = w.heap.size) (Stay.put (S := fun k => k = w.heap.size) (Stay.refl _ w4) rfl _ _) rfl _ _) rfl _ _
    have hr7 : w7.ownsRow w3.heap.size 3 1 (.slice Ao nn co) nn (ints o2) := own_stay hS7 H4.out.1 (own_ne_blk H4.out.1 H4.out.2.2.2 (by decide))
    have hbw : w.heap.size < w1.heap.size := H1.out.2.lt
    have hq7 : w7.ownsRow w1.heap.size 34 2 (.slice Aq n cq) n (out.flatMap two) := own_stay hS7 (own_only H4.out.2.1 H3.out.2.1) (fun g hg e => by have := (own_lt H3.out.2.1 g hg).1; omega)
    have hSR7 : RaceOk w7 L3 b R := (H3.out.1.then H4.out.2.1).race.stay hS7 (fun k e => by
      by_cases h0 : L3 k = 0
      · exact h0
      · have := H3.out.1.new k h0
        omega)
    have hO7 : Only w w7 := ((H1.out.1.trans' H3.out.1.only).trans' H4.out.2.1).trans hS7 (fun k hk e => by omega)
    have H7 := Lib.hid (And.intro hB7 (And.intro hr7 (And.intro hq7 (And.intro hSR7 hO7))))
    clear hw7 hB7 hS7 hr7 hq7 hSR7 hO7 cb4 lb4 fb4
    go_loopg [9, 10, 11, 39] n (fun kk vs vw va vi wr => ∃ j : Nat, j ≤ n ∧ kk = n - j ∧ va = .int .i64 ((onAll o2 (out.take j)).1 : Nat) ∧ vi = .int .i64 (j : Nat) ∧ wr.ownsRow w7.heap.size 3 1 vs (onAll o2 (out.take j)).2.1.length (ints (onAll o2 (out.take j)).2.1) ∧ wr.ownsRow w7.heap.size 3 1 vw (onAll o2 (out.take j)).2.2.length (ints (onAll o2 (out.take j)).2.2) ∧ Off vs vw ∧ Only w7 wr)
    case atStart => exact ⟨0, by omega, rfl, rfl, rfl, World.ownsRow_nil _ _ _ _, World.ownsRow_nil _ _ _ _, fun g hg => by simp [Value.ownBlock] at hg, Stay.refl _ _⟩
    case round =>
      obtain ⟨j, hj, hk, rfl, rfl, hs, hw, hoff, hO⟩ := hrel
      obtain ⟨wt, hwt⟩ : ∃ wt, wt = wr := ⟨_, rfl⟩
      rw [← hwt] at hs hw hO ⊢
      clear hwt
      have hnl := H3.out.2.2.2.2.1
      have hlen := onAll_len o2 out j (by omega)
      by_cases hp : j < n
      · have hqr := own_only hO H7.out.2.2.1
        obtain ⟨g, co2, e1, _, _⟩ := hqr.form (by omega)
        have e1' : Aq = some ⟨g, 0, none⟩ ∧ cq = co2 := by simpa using e1
        obtain ⟨rfl, rfl⟩ := e1'
        have hgl := (own_lt hqr g rfl).2
        obtain ⟨x, hx⟩ : ∃ x, x = (said out j).1 := ⟨_, rfl⟩
        obtain ⟨y, hy⟩ : ∃ y, y = (said out j).2 := ⟨_, rfl⟩
        rw [hnl] at hqr
        have q1 := (row_two hqr (k := j) (by omega)).1
        have q2 := (row_two hqr (k := j) (by omega)).2
        rw [← hx] at q1
        rw [← hy] at q2
        have hleg := H3.out.2.2.1.2.2 j (by omega)
        have hsucc := onAll_take (own := o2) (out := out) (i := j) (by omega)
        have hxy : said out j = (x, y) := by rw [hx, hy]
        rw [hxy] at hleg hsucc
        obtain ⟨P, hP⟩ : ∃ P, P = onAll o2 (out.take j) := ⟨_, rfl⟩
        rw [← hP] at hs hw hlen hleg hsucc ⊢
        obtain ⟨c, I, O⟩ := P
        simp only at hs hw hlen hleg ⊢
        obtain ⟨mi, hmi⟩ : ∃ m, m = I.length := ⟨_, rfl⟩
        obtain ⟨mo, hmo⟩ : ∃ m, m = O.length := ⟨_, rfl⟩
        rw [← hmi] at hs hlen
        rw [← hmo] at hw hlen
        obtain ⟨As, cs, rfl⟩ := own_shape hs
        obtain ⟨Aw, cw, rfl⟩ := own_shape hw
        have hmi2 := hlen.2.1
        have hmo2 := hlen.2.2
        have hc2 := hlen.1
        have HT := Lib.hid (And.intro hs (And.intro hw (And.intro hoff (And.intro hO (And.intro hsucc (And.intro hmi (And.intro hmo (And.intro hk hleg))))))))
        clear hs hw hoff hO hsucc hmi hmo hk hleg hlen hqr e1 hx hy hxy hP hnl
        go_upto_region 13 with fail
        obtain ⟨wv, hwv⟩ : ∃ wv, wv = wt.alloc (.cells #[.int .i64 x, .int .i64 y] 34) := ⟨_, rfl⟩
        have hOv : Only wt wv := by rw [hwv]; exact (Stay.refl _ wt).alloc _
        have hBv : Blk wv wt.heap.size 34 [.int .i64 x, .int .i64 y] := by rw [hwv]; exact Blk.newAt wt [_, _] _ _ rfl
        rw [← hwv]
        have cz := hBv.cell
        have lz := hBv.lt
        have hB7 := hOv.blk (HT.out.2.2.2.1.blk H7.out.1)
        have cb := hB7.cell
        have lb := hB7.lt
        have hzt : w7.heap.size ≤ wv.heap.size := Nat.le_trans HT.out.2.2.2.1.size hOv.size
        have HX := Lib.hid (show _ ∧ _ ∧ _ ∧ _ ∧ onAll o2 (out.take (j + 1)) = onOp o2 (c, I, O) (x, y) ∧ (mi = I.length ∧ mo = O.length) ∧ _ ∧ _ from ⟨HT.out.1, HT.out.2.1, HT.out.2.2.1, HT.out.2.2.2.1, HT.out.2.2.2.2.1, ⟨HT.out.2.2.2.2.2.1, HT.out.2.2.2.2.2.2.1⟩, HT.out.2.2.2.2.2.2.2.1, hOv⟩)
        have HI := Lib.hid (And.intro (own_only hOv HT.out.1) (own_only hOv HT.out.2.1))
        have hleg := HT.out.2.2.2.2.2.2.2.2
        have HB7 := Lib.hid hB7
        clear hwv hOv hBv q1 q2 hgl hB7
        by_cases hx0 : x > 0
        · have b0 : decide (x > 0) = true := decide_eq_true hx0
          by_cases hy0 : y > 0
          · have b1 : decide (y > 0) = true := decide_eq_true hy0
            clear hleg
            go_wp2_with (at_builtin; refine wpList_append_lies _ rfl _ _ _ rfl w7.heap.size 3 ii _ 1 8 Try.underlying22 hii0 hii1 hii2 hii3 rfl (by omega) _ (mo) _ (by rfl) (own_alloc HI.out.2 _) ⟨wv.heap.size, 0, none⟩ 1 1 [.int .i64 y] (by rfl) (by rfl) (World.news_of_block (cs := [Value.int .i64 y].toArray) (t := 3) (fr := (0, 0)) (heap_alloc_at' _ _ _ (by simp))) (by simp [Value.oneCell']) (by omega) (by simp only [maxLen]; omega) (by omega) (by have := hzt; simp; omega) (wv.heap.size + 1) (by simp) ?_; intro g6 cap6 w6 hown6 hgrow6 hat6 hlt6; have st6 := grown_stay hgrow6; have HG6 := Lib.hid (And.intro hown6 (And.intro st6 (And.intro hat6 hlt6))); clear hown6 hgrow6 hat6 hlt6 st6)
            go_roundg (n - (j + 1))
            case measure => have := HX.out.2.2.2.2.2.2.1; omega
            case rel =>
              obtain ⟨hs, hw, hoff, hO, hsucc, hm, hk, hOv⟩ := HX.out
              obtain ⟨r1, r2, r3⟩ := row_grow (g := g6) (cap := cap6) (own_only hOv hw) (own_only hOv hs) hoff.symm (hO.trans' hOv) HG6.out.2.1 HG6.out.2.2.1
              refine ⟨j + 1, by omega, rfl, ?_, by go_num, ?_, ?_, r2.symm, r3⟩
              · rw [hsucc]; unfold onOp; rw [if_pos (by simp only; omega)]; (try simp only); (try rw [if_pos (show 0 < y by omega)]); (try (first | rfl | go_num))
              · rw [hsucc]; unfold onOp; rw [if_pos (by simp only; omega)]; (try simp only); (try rw [if_pos (show 0 < y by omega)]); (try simp only); rw [← hm.1]; exact r1
              · rw [hsucc]; unfold onOp; rw [if_pos (by simp only; omega)]; (try simp only); (try rw [if_pos (show 0 < y by omega)]); (try simp only); rw [List.length_append, ← hm.2]; unfold ints; rw [List.map_append]; exact HG6.out.1
          · have b1 : decide (y > 0) = false := decide_eq_false hy0
            clear hleg
            go_wp2_with fail
            go_roundg (n - (j + 1))
            case measure => have := HX.out.2.2.2.2.2.2.1; omega
            case rel =>
              obtain ⟨hs, hw, hoff, hO, hsucc, hm, hk, hOv⟩ := HX.out
              refine ⟨j + 1, by omega, rfl, ?_, by go_num, ?_, ?_, hoff, hO.trans' hOv⟩
              · rw [hsucc]; unfold onOp; rw [if_pos (by simp only; omega)]; (try simp only); (try rw [if_neg (show ¬ 0 < y by omega)]); (try (first | rfl | go_num))
              · rw [hsucc]; unfold onOp; rw [if_pos (by simp only; omega)]; (try simp only); (try rw [if_neg (show ¬ 0 < y by omega)]); (try simp only); rw [← hm.1]; exact own_only hOv hs
              · rw [hsucc]; unfold onOp; rw [if_pos (by simp only; omega)]; (try simp only); (try rw [if_neg (show ¬ 0 < y by omega)]); (try simp only); rw [← hm.2]; exact own_only hOv hw
        · have b0 : decide (x > 0) = false := decide_eq_false hx0
          obtain ⟨hl0, hl1', hl2, hl3⟩ := hleg.2 (by have := hleg.1; simp only at this ⊢; omega)
          simp only at hl1' hl2
          have hnn := H4.out.2.2.1
          have hcn : c < nn := by omega
          have hor := own_only (HX.out.2.2.2.1.trans' HX.out.2.2.2.2.2.2.2) H7.out.2.1
          obtain ⟨go, co3, e2, _, _⟩ := hor.form (by omega)
          obtain ⟨rfl, rfl⟩ : Ao = some ⟨go, 0, none⟩ ∧ co = co3 := by simpa using e2
          have zo := hor.cellAt c (by omega)
          obtain ⟨op, hop⟩ : ∃ op, op = o2.getD c 0 := ⟨_, rfl⟩
          have hzo : (ints o2)[c]? = some (.int .i64 op) := by
            unfold ints
            rw [List.getElem?_map, List.getElem?_eq_getElem hl0, hop, List.getD_eq_getElem?_getD, List.getElem?_eq_getElem hl0]
            rfl
          rw [hzo] at zo
          have lgo := (own_lt hor go rfl).2
          rw [← hop] at hl1' hl2 hl3
          have bc : decide ((c : Int) ≥ (nn : Int)) = false := decide_eq_false (by omega)
          have u1 : (0 : Int) ≤ (c : Int) := by omega
          have u2 : (c : Int) < (nn : Int) := by omega
          have HOP := Lib.hid hop
          clear hleg hop hzo hor e2 hnn hl0
          by_cases hop0 : op > 0
          · have b2 : decide (op > 0) = true := decide_eq_true hop0
            have b5 : (op == 0) = false := by simp; omega
            by_cases hyo : y = op
            · have b3 : (y == op) = true := by simp [hyo]
              clear hl1' hl2 hl3 hyo
              have hyo : y = op := by simpa using b3
              have HY := Lib.hid hyo
              clear hyo
              go_wp2_with (at_builtin; refine wpList_append_lies _ rfl _ _ _ rfl w7.heap.size 3 ii _ 1 8 Try.underlying22 hii0 hii1 hii2 hii3 rfl (by omega) _ (mi) _ (by rfl) (own_alloc HI.out.1 _) ⟨wv.heap.size, 0, none⟩ 1 1 [.int .i64 op] (by rfl) (by rfl) (World.news_of_block (cs := [Value.int .i64 op].toArray) (t := 3) (fr := (0, 0)) (heap_alloc_at' _ _ _ (by simp))) (by simp [Value.oneCell']) (by omega) (by simp only [maxLen]; omega) (by omega) (by have := hzt; simp; omega) (wv.heap.size + 1) (by simp) ?_; intro g6 cap6 w6 hown6 hgrow6 hat6 hlt6; have st6 := grown_stay hgrow6; have HG6 := Lib.hid (And.intro hown6 (And.intro st6 (And.intro hat6 hlt6))); clear hown6 hgrow6 hat6 hlt6 st6)
              go_roundg (n - (j + 1))
              case measure => have := HX.out.2.2.2.2.2.2.1; omega
              case rel =>
                have hop := HOP.out
                have hyo := HY.out
                obtain ⟨hs, hw, hoff, hO, hsucc, hm, hk, hOv⟩ := HX.out
                obtain ⟨r1, r2, r3⟩ := row_grow (g := g6) (cap := cap6) (own_only hOv hs) (own_only hOv hw) hoff (hO.trans' hOv) HG6.out.2.1 HG6.out.2.2.1
                refine ⟨j + 1, by omega, rfl, ?_, by go_num, ?_, ?_, r2, r3⟩
                · rw [hsucc]; unfold onOp; rw [if_neg (by simp only; omega), if_pos (by simp only; rw [← hop]; exact ⟨by omega, hyo⟩), ← hop]; (try (first | rfl | go_num))
                · rw [hsucc]; unfold onOp; rw [if_neg (by simp only; omega), if_pos (by simp only; rw [← hop]; exact ⟨by omega, hyo⟩), ← hop]; (try simp only); rw [List.length_append, ← hm.1]; unfold ints; rw [List.map_append]; exact HG6.out.1
                · rw [hsucc]; unfold onOp; rw [if_neg (by simp only; omega), if_pos (by simp only; rw [← hop]; exact ⟨by omega, hyo⟩), ← hop]; (try simp only); rw [← hm.2]; exact r1
            · have hy1 : y = -1 := by rcases hl1' (by omega) with h | h; exact absurd h hyo; exact h
              have b3 : (y == op) = false := by simp [hyo]
              have b4 : (y != -1) = false := by simp [hy1]
              clear hl1' hl2 hl3 hyo
              have HY := Lib.hid hy1
              clear hy1
              go_wp2_with fail
              go_roundg (n - (j + 1))
              case measure => have := HX.out.2.2.2.2.2.2.1; omega
              case rel =>
                have hop := HOP.out
                have hy1 := HY.out
                obtain ⟨hs, hw, hoff, hO, hsucc, hm, hk, hOv⟩ := HX.out
                refine ⟨j + 1, by omega, rfl, ?_, by go_num, ?_, ?_, hoff, hO.trans' hOv⟩
                · rw [hsucc]; unfold onOp; rw [if_neg (by simp only; omega), if_neg (by simp only; rw [← hop]; omega), if_neg (by simp only; rw [← hop]; omega)]; (try (first | rfl | go_num))
                · rw [hsucc]; unfold onOp; rw [if_neg (by simp only; omega), if_neg (by simp only; rw [← hop]; omega), if_neg (by simp only; rw [← hop]; omega)]; (try simp only); rw [← hm.1]; exact own_only hOv hs
                · rw [hsucc]; unfold onOp; rw [if_neg (by simp only; omega), if_neg (by simp only; rw [← hop]; omega), if_neg (by simp only; rw [← hop]; omega)]; (try simp only); rw [← hm.2]; exact own_only hOv hw
          · have b2 : decide (op > 0) = false := decide_eq_false hop0
            have hop1 : op = 0 := by omega
            have b5 : (op == 0) = true := by simp [hop1]
            have hy0 := hl2 hop1
            have b6 : decide (y < 0) = false := decide_eq_false (by omega)
            have HY := Lib.hid hop1
            clear hl1' hl2 hl3 hop1 hy0
            by_cases hyp : y > 0
            · have b7 : decide (y > 0) = true := decide_eq_true hyp
              go_wp2_with (at_builtin; refine wpList_append_lies _ rfl _ _ _ rfl w7.heap.size 3 ii _ 1 8 Try.underlying22 hii0 hii1 hii2 hii3 rfl (by omega) _ (mo) _ (by rfl) (own_alloc HI.out.2 _) ⟨wv.heap.size, 0, none⟩ 1 1 [.int .i64 y] (by rfl) (by rfl) (World.news_of_block (cs := [Value.int .i64 y].toArray) (t := 3) (fr := (0, 0)) (heap_alloc_at' _ _ _ (by simp))) (by simp [Value.oneCell']) (by omega) (by simp only [maxLen]; omega) (by omega) (by have := hzt; simp; omega) (wv.heap.size + 1) (by simp) ?_; intro g6 cap6 w6 hown6 hgrow6 hat6 hlt6; have st6 := grown_stay hgrow6; have HG6 := Lib.hid (And.intro hown6 (And.intro st6 (And.intro hat6 hlt6))); clear hown6 hgrow6 hat6 hlt6 st6)
              go_roundg (n - (j + 1))
              case measure => have := HX.out.2.2.2.2.2.2.1; omega
              case rel =>
                have hop := HOP.out
                have hop1 := HY.out
                obtain ⟨hs, hw, hoff, hO, hsucc, hm, hk, hOv⟩ := HX.out
                obtain ⟨r1, r2, r3⟩ := row_grow (g := g6) (cap := cap6) (own_only hOv hw) (own_only hOv hs) hoff.symm (hO.trans' hOv) HG6.out.2.1 HG6.out.2.2.1
                refine ⟨j + 1, by omega, rfl, ?_, by go_num, ?_, ?_, r2.symm, r3⟩
                · rw [hsucc]; unfold onOp; rw [if_neg (by simp only; omega), if_neg (by simp only; rw [← hop]; omega), if_pos (by simp only; rw [← hop]; omega)]; (try (first | rfl | go_num))
                · rw [hsucc]; unfold onOp; rw [if_neg (by simp only; omega), if_neg (by simp only; rw [← hop]; omega), if_pos (by simp only; rw [← hop]; omega)]; (try simp only); rw [← hm.1]; exact r1
                · rw [hsucc]; unfold onOp; rw [if_neg (by simp only; omega), if_neg (by simp only; rw [← hop]; omega), if_pos (by simp only; rw [← hop]; omega)]; (try simp only); rw [List.length_append, ← hm.2]; unfold ints; rw [List.map_append]; exact HG6.out.1
            · have b7 : decide (y > 0) = false := decide_eq_false hyp
              go_wp2_with fail
              go_roundg (n - (j + 1))
              case measure => have := HX.out.2.2.2.2.2.2.1; omega
              case rel =>
                have hop := HOP.out
                have hop1 := HY.out
                obtain ⟨hs, hw, hoff, hO, hsucc, hm, hk, hOv⟩ := HX.out
                refine ⟨j + 1, by omega, rfl, ?_, by go_num, ?_, ?_, hoff, hO.trans' hOv⟩
                · rw [hsucc]; unfold onOp; rw [if_neg (by simp only; omega), if_neg (by simp only; rw [← hop]; omega), if_neg (by simp only; rw [← hop]; omega)]; (try (first | rfl | go_num))
                · rw [hsucc]; unfold onOp; rw [if_neg (by simp only; omega), if_neg (by simp only; rw [← hop]; omega), if_neg (by simp only; rw [← hop]; omega)]; (try simp only); rw [← hm.1]; exact own_only hOv hs
                · rw [hsucc]; unfold onOp; rw [if_neg (by simp only; omega), if_neg (by simp only; rw [← hop]; omega), if_neg (by simp only; rw [← hop]; omega)]; (try simp only); rw [← hm.2]; exact own_only hOv hw
      · obtain rfl : j = n := by omega
        have htk : out.take j = out := List.take_of_length_le (by omega)
        rw [htk] at hs hw hlen ⊢
        have hcnt := H3.out.2.2.1.1
        have hperm := H3.out.2.2.1.2.1
        obtain ⟨P, hP⟩ : ∃ P, P = onAll o2 out := ⟨_, rfl⟩
        rw [← hP] at hs hw hlen hcnt hperm ⊢
        obtain ⟨c, I, O⟩ := P
        simp only at hs hw hlen hcnt hperm ⊢
        have hnn := H4.out.2.2.1
        obtain rfl : c = nn := by omega
        obtain ⟨mi, hmi⟩ : ∃ m, m = I.length := ⟨_, rfl⟩
        obtain ⟨mo, hmo⟩ : ∃ m, m = O.length := ⟨_, rfl⟩
        rw [← hmi] at hs hlen
        rw [← hmo] at hw hlen
        obtain ⟨As, cs, rfl⟩ := own_shape hs
        obtain ⟨Aw, cw, rfl⟩ := own_shape hw
        have hmi2 := hlen.2.1
        have hmo2 := hlen.2.2
        have HT := Lib.hid (And.intro hs (And.intro hw (And.intro hoff (And.intro hO (And.intro hperm (And.intro hmi hmo))))))
        clear hs hw hoff hO hperm hmi hmo hlen hk hnl hcnt hnn hP htk
        go_wp2_with fail
        refine (rest_any (H7.out.2.2.2.1.only HT.out.2.2.2.1)).mono ?_
        rintro e w8 ⟨v8, rfl, hr8, hx8⟩
        have hrl : R.rest.length ≤ 100 := by
          have h1 := H7.out.2.2.2.1.ok
          have := h1.bounds
          unfold Rc.rest
          rw [Rc.upto_len]
          omega
        rw [← H3.out.2.2.2.1] at hr8 hrl
        obtain ⟨lr, hlr⟩ : ∃ lr, lr = rr.length := ⟨_, rfl⟩
        rw [← hlr] at hr8 hrl
        obtain ⟨A8, c8, rfl⟩ := own_shape hr8
        have hz8 : w7.heap.size ≤ w8.heap.size := Nat.le_trans HT.out.2.2.2.1.size hx8.size
        have H8 := Lib.hid (And.intro hr8 (And.intro hx8 hlr))
        clear hr8 hx8 hlr
        go_wp2_with (at_builtin; refine wpList_append_sl _ rfl _ _ _ rfl w7.heap.size 3 ii _ 1 8 Try.underlying22 hii0 hii1 hii2 hii3 rfl (by omega) _ mo _ (by rfl) (own_only H8.out.2.1 HT.out.2.1) _ A8 lr c8 (ints rr) (by rfl) (own_sl H8.out.1 (Stay.refl _ _)) (fun u hu => by obtain ⟨y, _, rfl⟩ := List.mem_map.1 hu; rfl) (by simp only [maxLen]; omega) (by omega) (by omega) ?_; intro A9 c9 w9 hown9 hst9 hnx9; have H9 := Lib.hid (And.intro hown9 (And.intro hst9 hnx9)); clear hown9 hst9 hnx9)
        have hOl : mo + lr = (O ++ rr).length := by rw [List.length_append, ← HT.out.2.2.2.2.2.2, ← H8.out.2.2]
        have ro9 : w9.ownsRow w7.heap.size 3 1 (.slice A9 (mo + lr) c9) (O ++ rr).length (ints (O ++ rr)) := by
          rw [← hOl]
          have := H9.out.1
          unfold ints at this ⊢
          rw [List.map_append]
          exact this
        have ri9 : w9.ownsRow w7.heap.size 3 1 (.slice As mi cs) I.length (ints I) := by
          rw [← HT.out.2.2.2.2.2.1]
          exact own_stay H9.out.2.1 (own_only H8.out.2.1 HT.out.1) (fun g hg e => HT.out.2.2.1 g hg e)
        have hof9 : Off (.slice As mi cs) (.slice A9 (mo + lr) c9) := fun g hg hg2 => by
          rcases H9.out.2.2 g hg2 with e | e
          · exact HT.out.2.2.1 g hg e
          · have := (own_lt HT.out.1 g hg).2
            have := H8.out.2.1.size
            omega
        have hO9 : Only w7 w9 := (HT.out.2.2.2.1.trans' H8.out.2.1).trans H9.out.2.1 (fun k hk e => by have := (own_lt HT.out.2.1 k e).1; omega)
        have H9' := Lib.hid (And.intro ro9 (And.intro ri9 (And.intro hof9 (And.intro hO9 hOl))))
        clear ro9 ri9 hof9 hO9 hOl
        refine (sortI_any w9 w7.heap.size (.slice As mi cs) I H9'.out.2.1 (by have := HT.out.2.2.2.2.2.1; omega)).mono ?_
        rintro e w10 ⟨rfl, hr10, hst10⟩
        have ro10 := own_stay hst10 H9'.out.1 (fun g hg e => H9'.out.2.2.1 g e hg)
        have hO10 : Only w7 w10 := H9'.out.2.2.2.1.trans hst10 (fun k hk e => by have := (own_lt H9'.out.2.1 k e).1; omega)
        have H10 := Lib.hid (And.intro hr10 (And.intro ro10 hO10))
        clear hr10 hst10 ro10 hO10
        go_wp2_with fail
        refine (sortI_any w10 w7.heap.size (.slice A9 (mo + lr) c9) (O ++ rr) H10.out.2.1 (by have := H9'.out.2.2.2.2; omega)).mono ?_
        rintro e w11 ⟨rfl, hr11, hst11⟩
        have ri11 := own_stay hst11 H10.out.1 (fun g hg e => H9'.out.2.2.1 g hg e)
        have hO11 : Only w7 w11 := H10.out.2.2.trans hst11 (fun k hk e => by have := (own_lt H10.out.2.1 k e).1; omega)
        have hsame := srt_same HT.out.2.2.2.2.1
        rw [← hsame] at hr11
        have hlO : (O ++ rr).length = (srt I).length := by rw [srt_length]; exact HT.out.2.2.2.2.1.length_eq.symm
        have hlI : I.length = (srt I).length := (srt_length I).symm
        have hB11 := hO11.blk H7.out.1
        have cb := hB11.cell
        have lb := hB11.lt
        have hmi3 : mi = (srt I).length := by rw [srt_length]; exact HT.out.2.2.2.2.2.1
        have hmo3 : mo + lr = (srt I).length := by rw [← hlO]; exact H9'.out.2.2.2.2
        rw [hlO] at hr11
        rw [hlI] at ri11
        have H11 := Lib.hid (And.intro hr11 (And.intro ri11 (And.intro hO11 (And.intro hmi3 hmo3))))
        clear hr11 hst11 ri11 hO11 hsame hlO hlI hB11 hmi3 hmo3
        go_wp2_with fail
        have e1 := H11.out.2.2.2.1
        have e2 := H11.out.2.2.2.2
        have h1 := H11.out.2.1
        have h2 := H11.out.1
        rw [e1] at h1
        rw [e2] at h2
        have hE := eqI_any w11 As A9 cs c9 (srt I) (srt I) (own_sl h1 (Stay.refl _ _)) (own_sl h2 (Stay.refl _ _))
        rw [← e1, show Value.slice A9 mi c9 = Value.slice A9 (mo + lr) c9 by rw [e2, e1], show (srt I == srt I) = true from beq_self_eq_true _] at hE
        clear e1 e2 h1 h2
        refine hE.mono ?_
        clear hE
        rintro e w12 ⟨rfl, h12⟩
        have H12 := Lib.hid ((H7.out.2.2.2.2.trans' H11.out.2.2.1).trans' h12)
        clear h12
        go_wp2_with fail
        refine (awake_any w12).mono ?_
        rintro e w13 ⟨rfl, h13⟩
        have H13 := Lib.hid (H12.out.trans' h13)
        clear h13
        go_wp2_with fail
        go_ret
        exact ⟨rfl, H13.out⟩
  · refine (made_no w w1 H1.out.1 room own thv A B ca cb (Sl.up HS.out.1 H1.out.1) (Sl.up HS.out.2.1 H1.out.1) hv).mono ?_
    rintro e w2 ⟨rfl, h2⟩
    have H2 := Lib.hid (H1.out.1.trans' h2)
    clear h2
    go_wp2_with fail
    refine (awake_any w2).mono ?_
    rintro e w8 ⟨rfl, h8⟩
    have H8 := Lib.hid (H2.out.trans' h8)
    clear h8
    go_wp2_with fail
    go_ret
    exact ⟨rfl, H8.out⟩
end Go.Proofs.Ytfohaijdhgcneaa
