/- StealStack: the walk. -/
import Derived.Test.YtfohaijdhgcneaaStealStk
set_option linter.unusedVariables false
set_option linter.unusedSimpArgs false
namespace Go.Proofs.Ytfohaijdhgcneaa
open Go Go.RowKit

/-- A row cut. -/
theorem own_cut {w : World} {base : Nat} {e : TypeId} {g n cap m : Nat} {xs : List Value} (h : w.ownsRow base e 1 (.slice (some ⟨g, 0, none⟩) n cap) n xs) (hm : m ≤ n) : w.ownsRow base e 1 (.slice (some ⟨g, 0, none⟩) m cap) m (xs.take m) := by
  have hl := h.1
  rcases h.2 with h0 | ⟨g', cap', cur, e, hb, hg, hnc, hcm, hcs, ht⟩
  · cases h0.1
  · simp only [Value.slice.injEq, Option.some.injEq, Addr.mk.injEq, and_true, true_and] at e
    obtain ⟨rfl, rfl⟩ := e
    refine ⟨by rw [List.length_take]; omega, .inr ⟨g, cap, cur, rfl, hb, hg, by omega, hcm, hcs, ?_⟩⟩
    rw [← ht, List.take_take]
    congr 1
    omega
/-- Two rows of a law's own: one grows, the other stays. -/
theorem row_grow {w5 wt w6 : World} {u v : Value} {n m g cap : Nat} {us vs : List Value} {o : Obj} (hu : wt.ownsRow w5.heap.size 3 1 u n us) (hv : wt.ownsRow w5.heap.size 3 1 v m vs) (off : Off u v) (hO : Only w5 wt)
    (st : Stay (fun j => u.ownBlock = some j) (wt.alloc o) w6) (hat : u.ownBlock = some g ∨ g = wt.heap.size + 1) :
    w6.ownsRow w5.heap.size 3 1 v m vs ∧ Off (.slice (some ⟨g, 0, none⟩) (n + 1) cap) v ∧ Only w5 w6 := by
  refine ⟨own_stay st (own_alloc hv _) (fun k hk e => off k e hk), fun k hk hk2 => ?_, (hO.alloc o).trans st (fun k hk e => by have := (own_lt hu k e).1; omega)⟩
  have e : g = k := by simpa [Value.ownBlock] using hk
  subst e
  rcases hat with h | h
  · exact off g h hk2
  · have := (own_lt hv g hk2).2
    omega
set_option maxRecDepth 100000 in
set_option maxHeartbeats 4000000 in
theorem stealStack_any (w : World) (room : Int) (own : List Int) (A : Option Addr) (ca : Nat) (hA : Sl w w.heap.size A own.length ca 1 (ints own)) :
    Calls Try.prog 4 #[.int .i64 room, .slice A own.length ca] w fun e w' => e = .returned (.bool true) ∧ Only w w' := by
  obtain ⟨ii, hii0, hii1, hii2, hii3⟩ := info_parts infoI
  have nilS : ∀ W : World, Sl W W.heap.size none ([] : List Int).length 0 1 (ints []) := fun W => ⟨rfl, Nat.le_refl _, by omega, fun _ => rfl, fun h => absurd h (by simp)⟩
  have HL := Lib.hid (clipped_any w room own [] A none ca 0 hA (nilS w))
  have hl1 : (own.take 62).length ≤ 62 := by rw [List.length_take]; omega
  obtain ⟨o2, ho2⟩ : ∃ o, o = own.take 62 := ⟨_, rfl⟩
  rw [← ho2] at HL hl1
  have HS := Lib.hid (And.intro hA nilS)
  clear hA nilS ho2
  go_enter Try.func4, Try.ntmps4
  go_wp2_with fail
  refine HL.out.mono ?_
  clear HL
  rintro e w2 ⟨ov, tv, rfl, ro, rt, hx2⟩
  obtain ⟨n, hn⟩ : ∃ n, n = o2.length := ⟨_, rfl⟩
  rw [← hn] at hl1
  obtain ⟨Ao, co, rfl⟩ := own_shape ro
  obtain ⟨At, ct, rfl⟩ := own_shape rt
  rw [← hn] at ro ⊢
  have H2 := Lib.hid (And.intro ro (And.intro rt (And.intro hx2 hn)))
  clear ro rt hx2 hn
  go_wp2_with fail
  obtain ⟨w3, hw3⟩ : ∃ w3, w3 = w2.alloc (.cells #[.int .i64 room, .slice Ao n co, .slice At 0 ct] 24) := ⟨_, rfl⟩
  rw [← hw3]
  have hO3 : Only w2 w3 := by rw [hw3]; exact (Stay.refl _ w2).alloc _
  have hB3 : Blk w3 w2.heap.size 24 [.int .i64 room, .slice Ao n co, .slice At 0 ct] := by rw [hw3]; exact Blk.newAt w2 [_, _, _] _ _ rfl
  have hrl := H2.out.2.2.2
  have hr62 : o2.take 62 = o2 := List.take_of_length_le (by omega)
  have hsO := own_sl H2.out.1 hO3
  rw [hrl] at hsO
  have hsT : Sl w3 w3.heap.size At ([] : List Int).length ct 1 (ints []) := own_sl H2.out.2.1 hO3
  have hW3 : Only w w3 := H2.out.2.2.1.trans' hO3
  by_cases hv : Valid room o2 []
  · have hM := made_ok w3 w3 (Stay.refl _ w3) room o2 [] Ao At co ct hsO hsT (by rw [hr62]; exact hv)
    rw [hr62, ← hrl, show ([] : List Int).take 10 = [] from rfl] at hM
    have H3 := Lib.hid (And.intro hB3 (And.intro hW3 hO3))
    clear hw3 hO3 hB3 hsO hsT hW3 hr62 hrl
    refine hM.mono ?_
    clear hM
    rintro e w4 ⟨b, L, rfl, h4, hx4, _⟩
    obtain ⟨rm, rfl⟩ : ∃ rm : Nat, room = (rm : Int) := ⟨room.toNat, by have := hv.r1; omega⟩
    simp only [Int.toNat_natCast] at h4
    have hst := play_stack hv []
    have H4 := Lib.hid (And.intro h4 (And.intro hx4 hst))
    clear h4 hx4 hst
    go_wp2_with fail
    refine (played_any H4.out.1 (start_got rm o2 []) none 0 [] (HS.out.2 w3)).mono ?_
    rintro e w5 ⟨L5, ov5, rfl, h5, hr5, _⟩
    obtain ⟨A5, c5, rfl⟩ := own_shape hr5
    have hB5 := h5.only.blk H3.out.1
    have cb := hB5.cell
    have lb := hB5.lt
    have ho5 : w5.ownsRow w.heap.size 3 1 (.slice Ao n co) n (ints o2) := own_only h5.only (own_only H3.out.2.2 H2.out.1)
    have hz5 : w5.heap.size ≤ w5.heap.size := Nat.le_refl _
    have H5 := Lib.hid (And.intro h5 (And.intro hB5 ho5))
    clear h5 hr5 hB5 ho5
    go_wp2_with fail
    go_loopg [10, 11, 40] n (fun kk vs vw vi wr => ∃ i : Nat, i ≤ n ∧ kk = n - i ∧ vi = .int .i64 (i : Nat) ∧ wr.ownsRow w5.heap.size 3 1 vs (stAll rm (o2.take i)).1.length (ints (stAll rm (o2.take i)).1) ∧ wr.ownsRow w5.heap.size 3 1 vw (stAll rm (o2.take i)).2.length (ints (stAll rm (o2.take i)).2) ∧ Off vs vw ∧ Only w5 wr)
    case atStart => exact ⟨0, by omega, rfl, rfl, World.ownsRow_nil _ _ _ _, World.ownsRow_nil _ _ _ _, fun g hg => by simp [Value.ownBlock] at hg, Stay.refl _ _⟩
    case round =>
      obtain ⟨i, hi, hk, rfl, hs, hw, hoff, hO⟩ := hrel
      obtain ⟨wt, hwt⟩ : ∃ wt, wt = wr := ⟨_, rfl⟩
      rw [← hwt] at hs hw hO ⊢
      clear hwt
      have hnl := H2.out.2.2.2
      have hlen := stAll_len rm o2 i (by omega)
      have hB := hO.blk H5.out.2.1
      have hzt := hO.size
      by_cases hp : i < n
      · have hrow := own_only hO H5.out.2.2
        obtain ⟨go, co2, e1, _, _⟩ := hrow.form (by omega)
        obtain ⟨rfl, rfl⟩ : Ao = some ⟨go, 0, none⟩ ∧ co = co2 := by simpa using e1
        have z := hrow.cellAt i (by omega)
        obtain ⟨x, hx⟩ : ∃ x, x = o2.getD i 0 := ⟨_, rfl⟩
        have hzx : (ints o2)[i]? = some (.int .i64 x) := by
          unfold ints
          rw [List.getElem?_map, List.getElem?_eq_getElem (by omega), hx, List.getD_eq_getElem?_getD, List.getElem?_eq_getElem (by omega)]
          rfl
        rw [hzx] at z
        have lgo := (own_lt hrow go rfl).2
        have hsucc := stAll_take (room := rm) (l := o2) (i := i) (by omega)
        rw [← hx] at hsucc
        obtain ⟨p, hpp⟩ : ∃ p, p = stAll rm (o2.take i) := ⟨_, rfl⟩
        rw [← hpp] at hs hw hlen hsucc
        obtain ⟨ss, ww⟩ := p
        simp only at hs hw hlen
        obtain ⟨m, hm⟩ : ∃ m, m = ss.length := ⟨_, rfl⟩
        obtain ⟨As, cs, rfl⟩ := own_shape hs
        obtain ⟨Aw, cw, rfl⟩ := own_shape hw
        rw [hlen.1] at hw hoff ⊢
        rw [← hm] at hs hlen hoff ⊢
        have hmi := hlen.2
        have cb := hB.cell
        have lb := hB.lt
        have hrm : rm ≤ 16 := by have := hv.r2; omega
        have HX := Lib.hid (And.intro hs (And.intro hw (And.intro hoff (And.intro hO (And.intro hsucc (And.intro hm (And.intro hlen hk)))))))
        clear hs hw hoff hO hsucc hm hlen hk hB hrow e1 hzx hx hpp hnl
        by_cases hx0 : x > 0
        · by_cases hmr : m = rm
          · subst hmr
            have b1 : decide (x > 0) = true := decide_eq_true hx0
            go_wp2_with (at_builtin; refine wpList_append_lies _ rfl _ _ _ rfl w5.heap.size 3 ii _ 1 8 Try.underlying22 hii0 hii1 hii2 hii3 rfl (by omega) _ i _ (by rfl) (own_alloc HX.out.2.1 _) ⟨wt.heap.size, 0, none⟩ 1 1 [.int .i64 (-1)] (by rfl) (by rfl) (World.news_of_block (cs := [Value.int .i64 (-1)].toArray) (t := 3) (fr := (0, 0)) (heap_alloc_at' _ _ _ (by simp))) (by simp [Value.oneCell']) (by omega) (by simp only [maxLen]; omega) (by omega) (by have := hzt; simp; omega) (wt.heap.size + 1) (by simp) ?_; intro g6 cap6 w6 hown6 hgrow6 hat6 hlt6; have st6 := grown_stay hgrow6; have HG6 := Lib.hid (And.intro hown6 (And.intro st6 (And.intro hat6 hlt6))); clear hown6 hgrow6 hat6 hlt6 st6)
            go_roundg (n - (i + 1))
            case measure => have := HX.out.2.2.2.2.2.2.2; omega
            case rel =>
              obtain ⟨hs, hw, hoff, hO, hsucc, hm, hlen, hk⟩ := HX.out
              obtain ⟨r1, r2, r3⟩ := row_grow (g := g6) (cap := cap6) hw hs hoff.symm hO HG6.out.2.1 HG6.out.2.2.1
              refine ⟨i + 1, by omega, rfl, by go_num, ?_, ?_, r2.symm, r3⟩
              · rw [hsucc]
                unfold stOp
                rw [if_pos ⟨by omega, by simp only; omega⟩]
                rw [← hm]
                exact r1
              · rw [hsucc]
                unfold stOp
                rw [if_pos ⟨by omega, by simp only; omega⟩]
                rw [List.length_append, hlen.1]
                unfold ints
                rw [List.map_append]
                exact HG6.out.1
          · have b1 : decide (x > 0) = true := decide_eq_true hx0
            have b2 : ((m : Int) == (rm : Int)) = false := by simp; omega
            go_upto_region 18 with (at_builtin; refine wpList_append_lies _ rfl _ _ _ rfl w5.heap.size 3 ii _ 1 8 Try.underlying22 hii0 hii1 hii2 hii3 rfl (by omega) _ m _ (by rfl) (own_alloc HX.out.1 _) ⟨wt.heap.size, 0, none⟩ 1 1 [.int .i64 x] (by rfl) (by rfl) (World.news_of_block (cs := [Value.int .i64 x].toArray) (t := 3) (fr := (0, 0)) (heap_alloc_at' _ _ _ (by simp))) (by simp [Value.oneCell']) (by omega) (by simp only [maxLen]; omega) (by omega) (by have := hzt; simp; omega) (wt.heap.size + 1) (by simp) ?_; intro g5 cap5 wx5 hown5 hgrow5 hat5 hlt5; have st5 := grown_stay hgrow5; have HG5 := Lib.hid (And.intro hown5 (And.intro st5 (And.intro hat5 hlt5))); clear hown5 hgrow5 hat5 hlt5 st5)
            obtain ⟨r1, r2, r3⟩ := row_grow (g := g5) (cap := cap5) HX.out.1 HX.out.2.1 HX.out.2.2.1 HX.out.2.2.2.1 HG5.out.2.1 HG5.out.2.2.1
            have hzt5 := r3.size
            have HR := Lib.hid (And.intro r1 (And.intro r2 r3))
            clear r1 r2 r3
            clear z lgo cb lb
            go_wp2_with (at_builtin; refine wpList_append_lies _ rfl _ _ _ rfl w5.heap.size 3 ii _ 1 8 Try.underlying22 hii0 hii1 hii2 hii3 rfl (by omega) _ (i) _ (by rfl) (own_alloc HR.out.1 _) ⟨wx5.heap.size, 0, none⟩ 1 1 [.int .i64 x] (by rfl) (by rfl) (World.news_of_block (cs := [Value.int .i64 x].toArray) (t := 3) (fr := (0, 0)) (heap_alloc_at' _ _ _ (by simp))) (by simp [Value.oneCell']) (by omega) (by simp only [maxLen]; omega) (by omega) (by have := hzt5; simp; omega) (wx5.heap.size + 1) (by simp) ?_; intro g6 cap6 w6 hown6 hgrow6 hat6 hlt6; have st6 := grown_stay hgrow6; have HG6 := Lib.hid (And.intro hown6 (And.intro st6 (And.intro hat6 hlt6))); clear hown6 hgrow6 hat6 hlt6 st6)
            go_roundg (n - (i + 1))
            case measure => have := HX.out.2.2.2.2.2.2.2; omega
            case rel =>
              obtain ⟨hs, hw, hoff, hO, hsucc, hm, hlen, hk⟩ := HX.out
              obtain ⟨r1, r2, r3⟩ := row_grow (g := g6) (cap := cap6) HR.out.1 HG5.out.1 HR.out.2.1.symm HR.out.2.2 HG6.out.2.1 HG6.out.2.2.1
              refine ⟨i + 1, by omega, rfl, by go_num, ?_, ?_, r2.symm, r3⟩
              · rw [hsucc]
                unfold stOp
                rw [if_neg (by simp only; omega), if_pos (by omega)]
                rw [List.length_append, ← hm]
                unfold ints at r1 ⊢
                rw [List.map_append]
                exact r1
              · rw [hsucc]
                unfold stOp
                rw [if_neg (by simp only; omega), if_pos (by omega)]
                rw [List.length_append, hlen.1]
                unfold ints
                rw [List.map_append]
                exact HG6.out.1
        · have b1 : decide (x > 0) = false := decide_eq_false hx0
          by_cases hm0 : m = 0
          · subst hm0
            go_wp2_with (at_builtin; refine wpList_append_lies _ rfl _ _ _ rfl w5.heap.size 3 ii _ 1 8 Try.underlying22 hii0 hii1 hii2 hii3 rfl (by omega) _ i _ (by rfl) (own_alloc HX.out.2.1 _) ⟨wt.heap.size, 0, none⟩ 1 1 [.int .i64 0] (by rfl) (by rfl) (World.news_of_block (cs := [Value.int .i64 0].toArray) (t := 3) (fr := (0, 0)) (heap_alloc_at' _ _ _ (by simp))) (by simp [Value.oneCell']) (by omega) (by simp only [maxLen]; omega) (by omega) (by have := hzt; simp; omega) (wt.heap.size + 1) (by simp) ?_; intro g6 cap6 w6 hown6 hgrow6 hat6 hlt6; have st6 := grown_stay hgrow6; have HG6 := Lib.hid (And.intro hown6 (And.intro st6 (And.intro hat6 hlt6))); clear hown6 hgrow6 hat6 hlt6 st6)
            go_roundg (n - (i + 1))
            case measure => have := HX.out.2.2.2.2.2.2.2; omega
            case rel =>
              obtain ⟨hs, hw, hoff, hO, hsucc, hm, hlen, hk⟩ := HX.out
              obtain ⟨r1, r2, r3⟩ := row_grow (g := g6) (cap := cap6) hw hs hoff.symm hO HG6.out.2.1 HG6.out.2.2.1
              refine ⟨i + 1, by omega, rfl, by go_num, ?_, ?_, r2.symm, r3⟩
              · rw [hsucc]
                unfold stOp
                rw [if_neg (by omega), if_neg (by omega), if_pos (by simp only; omega)]
                rw [← hm]
                exact r1
              · rw [hsucc]
                unfold stOp
                rw [if_neg (by omega), if_neg (by omega), if_pos (by simp only; omega)]
                rw [List.length_append, hlen.1]
                unfold ints
                rw [List.map_append]
                exact HG6.out.1
          · obtain ⟨gs, cs2, e1, _, _⟩ := HX.out.1.form (by omega)
            have e1' : As = some ⟨gs, 0, none⟩ ∧ cs = cs2 := by simpa using e1
            obtain ⟨rfl, rfl⟩ := e1'
            obtain ⟨p, hp2⟩ : ∃ p, p = m - 1 := ⟨_, rfl⟩
            have zs := HX.out.1.cellAt p (by omega)
            obtain ⟨y, hy⟩ : ∃ y, y = ss.getD p 0 := ⟨_, rfl⟩
            have hzy : (ints ss)[p]? = some (.int .i64 y) := by
              have := HX.out.2.2.2.2.2.1
              unfold ints
              rw [List.getElem?_map, List.getElem?_eq_getElem (by omega), hy, List.getD_eq_getElem?_getD, List.getElem?_eq_getElem (by omega)]
              rfl
            rw [hzy] at zs
            have lgs := (own_lt HX.out.1 gs rfl).2
            have hcs : m ≤ cs := by
              rcases HX.out.1.2 with h0 | ⟨g', cap', cur, e, _, _, hnc, _⟩
              · cases h0.1
              · simp at e
                omega
            have hw2 : wrap64 ((m : Int) - 1) = (p : Int) := by unfold wrap64; omega
            have hw3 : IntKind.i64.wrap ((m : Int) - 1) = (p : Int) := by rw [IntKind.wrap_i64]; omega
            have u1 : (0 : Int) ≤ (p : Int) := by omega
            have u2 : (p : Int) < (m : Int) := by omega
            have u3 : (p : Int) ≤ (cs : Int) := by omega
            have b2 : (m == 0) = false := by simp [hm0]
            have HP := Lib.hid (And.intro hp2 hy)
            clear hp2 hy hzy e1
            go_wp2_with (at_builtin; refine wpList_append_lies _ rfl _ _ _ rfl w5.heap.size 3 ii _ 1 8 Try.underlying22 hii0 hii1 hii2 hii3 rfl (by omega) _ (i) _ (by rfl) (own_alloc HX.out.2.1 _) ⟨wt.heap.size, 0, none⟩ 1 1 [.int .i64 y] (by rfl) (by rfl) (World.news_of_block (cs := [Value.int .i64 y].toArray) (t := 3) (fr := (0, 0)) (heap_alloc_at' _ _ _ (by simp))) (by simp [Value.oneCell']) (by omega) (by simp only [maxLen]; omega) (by omega) (by have := hzt; simp; omega) (wt.heap.size + 1) (by simp) ?_; intro g6 cap6 w6 hown6 hgrow6 hat6 hlt6; have st6 := grown_stay hgrow6; have HG6 := Lib.hid (And.intro hown6 (And.intro st6 (And.intro hat6 hlt6))); clear hown6 hgrow6 hat6 hlt6 st6)
            go_roundg (n - (i + 1))
            case measure => have := HX.out.2.2.2.2.2.2.2; omega
            case rel =>
              obtain ⟨hs, hw, hoff, hO, hsucc, hm, hlen, hk⟩ := HX.out
              obtain ⟨hp2, hy⟩ := HP.out
              obtain ⟨r1, r2, r3⟩ := row_grow (g := g6) (cap := cap6) hw hs hoff.symm hO HG6.out.2.1 HG6.out.2.2.1
              refine ⟨i + 1, by omega, rfl, by go_num, ?_, ?_, fun g hg => r2.symm g hg, r3⟩
              · rw [hsucc]
                unfold stOp
                rw [if_neg (by simp only; omega), if_neg (by omega), if_neg (by simp only; omega)]
                simp only
                have hc := own_cut r1 (m := p) (by omega)
                have hl : (ss.take (ss.length - 1)).length = p := by rw [List.length_take]; omega
                rw [hl]
                have e2 : ss.length - 1 = p := by omega
                rw [e2]
                unfold ints at hc ⊢
                rw [List.map_take]
                exact hc
              · rw [hsucc]
                unfold stOp
                rw [if_neg (by simp only; omega), if_neg (by omega), if_neg (by simp only; omega)]
                simp only
                have e2 : ss.length - 1 = p := by omega
                rw [e2, ← hy, List.length_append, hlen.1]
                unfold ints
                rw [List.map_append]
                exact HG6.out.1
      · obtain rfl : i = n := by omega
        have htk : o2.take i = o2 := List.take_of_length_le (by omega)
        rw [htk] at hs hw
        have hst := H4.out.2.2
        rw [← hst] at hs hw
        simp only at hs hw
        obtain ⟨R, hR⟩ : ∃ R, R = ((Rc.start rm o2 [] []).play []).1 := ⟨_, rfl⟩
        have hSR : SR w3 wt L5 b R := by rw [hR]; exact H5.out.1.then hO
        rw [← hR] at hs hw
        obtain ⟨rr, hrr⟩ : ∃ rr, rr = R.rest := ⟨_, rfl⟩
        obtain ⟨gg, hgg⟩ : ∃ gg, gg = R.got 0 := ⟨_, rfl⟩
        rw [← hrr] at hs
        rw [← hgg] at hw
        obtain ⟨As, cs, rfl⟩ := own_shape hs
        obtain ⟨Aw, cw, rfl⟩ := own_shape hw
        have HX := Lib.hid (And.intro hs (And.intro hw (And.intro hSR (And.intro hrr hgg))))
        clear hs hw hoff hO hk hnl hlen hB hst hSR hrr hgg hR htk
        go_wp2_with fail
        refine (got_any HX.out.2.2.1.race 0).mono ?_
        rintro e w6 ⟨v6, rfl, hr6, ho6⟩
        rw [← HX.out.2.2.2.2] at hr6
        obtain ⟨A6, c6, rfl⟩ := own_shape hr6
        have H6 := Lib.hid (And.intro hr6 ho6)
        clear hr6 ho6
        go_wp2_with fail
        refine (eqI_any w6 A6 Aw c6 cw gg gg (own_sl H6.out.1 (Stay.refl _ _)) (own_sl HX.out.2.1 H6.out.2)).mono ?_
        rintro e w7 ⟨rfl, ho7⟩
        rw [show (gg == gg) = true from beq_self_eq_true gg]
        have H7 := Lib.hid (H6.out.2.trans' ho7)
        clear ho7
        go_wp2_with fail
        refine (rest_any (HX.out.2.2.1.race.only H7.out)).mono ?_
        rintro e w8 ⟨v8, rfl, hr8, ho8⟩
        rw [← HX.out.2.2.2.1] at hr8
        obtain ⟨A8, c8, rfl⟩ := own_shape hr8
        have H8 := Lib.hid (And.intro hr8 (H7.out.trans' ho8))
        clear hr8 ho8
        go_wp2_with fail
        refine (eqI_any w8 A8 As c8 cs rr rr (own_sl H8.out.1 (Stay.refl _ _)) (own_sl HX.out.1 H8.out.2)).mono ?_
        rintro e w9 ⟨rfl, ho9⟩
        rw [show (rr == rr) = true from beq_self_eq_true rr]
        have H9 := Lib.hid ((H3.out.2.1.trans' HX.out.2.2.1.only).trans' (H8.out.2.trans' ho9))
        clear ho9
        go_wp2_with fail
        refine (awake_any w9).mono ?_
        rintro e w10 ⟨rfl, h10⟩
        have H10 := Lib.hid (H9.out.trans' h10)
        clear h10
        go_wp2_with fail
        go_ret
        exact ⟨rfl, H10.out⟩
  · have hM := made_no w w3 hW3 room o2 [] Ao At co ct hsO hsT (by rw [hr62]; exact hv)
    rw [← hrl] at hM
    refine hM.mono ?_
    clear hM hsO hsT
    rintro e w4 ⟨rfl, h4⟩
    have H4 := Lib.hid (hW3.trans' h4)
    clear h4 hW3 hB3 hO3 hw3 hrl
    go_wp2_with fail
    refine (awake_any w4).mono ?_
    rintro e w8 ⟨rfl, h8⟩
    have H8 := Lib.hid (H4.out.trans' h8)
    clear h8
    go_wp2_with fail
    go_ret
    exact ⟨rfl, H8.out⟩
end Go.Proofs.Ytfohaijdhgcneaa
