/- StealOrder: the walk. -/
import Derived.Test.YtfohaijdhgcneaaStealAsc
set_option linter.unusedVariables false
set_option linter.unusedSimpArgs false
namespace Go.Proofs.Ytfohaijdhgcneaa
open Go Go.RowKit

set_option maxRecDepth 100000 in
set_option maxHeartbeats 4000000 in
theorem stealOrder_any (w : World) (room : Int) (own order : List Int) (A C : Option Addr) (ca cc : Nat) (hA : Sl w w.heap.size A own.length ca 1 (ints own)) (hC : Sl w w.heap.size C order.length cc 1 (ints order)) :
    Calls Try.prog 3 #[.int .i64 room, .slice A own.length ca, .slice C order.length cc] w fun e w' => e = .returned (.bool true) ∧ Only w w' := by
  have HL := Lib.hid (clipped_off (w.alloc (.cells #[.int .i64 30, .int .i64 30, .int .i64 30] 3)) room own [30, 30, 30] A (some ⟨w.heap.size, 0, none⟩) ca 3 (Sl.up hA ((Stay.refl _ w).alloc _)) ((lit_sl w [30, 30, 30]).resolve_right (by decide)))
  have hl1 : (own.take 62).length ≤ 62 := by rw [List.length_take]; omega
  obtain ⟨o2, ho2⟩ : ∃ o, o = own.take 62 := ⟨_, rfl⟩
  rw [← ho2] at HL hl1
  have HS := Lib.hid (And.intro hA hC)
  clear hA hC ho2
  go_enter Try.func3, Try.ntmps3
  go_wp2_with fail
  have hL := HL.out
  obtain ⟨w1, hw1⟩ : ∃ w1, w1 = w.alloc (.cells #[.int .i64 30, .int .i64 30, .int .i64 30] 3) := ⟨_, rfl⟩
  rw [← hw1] at hL ⊢
  have hO1 : Only w w1 := by rw [hw1]; exact (Stay.refl _ w).alloc _
  have H1 := Lib.hid hO1
  clear hw1 hO1 HL
  refine hL.mono ?_
  clear hL
  rintro e w2 ⟨ov, tv, rfl, ro, rt, hx2, hoff⟩
  obtain ⟨n, hn⟩ : ∃ n, n = o2.length := ⟨_, rfl⟩
  rw [← hn] at hl1
  obtain ⟨Ao, co, rfl⟩ := own_shape ro
  obtain ⟨At, ct, rfl⟩ := own_shape rt
  rw [← hn] at ro hoff ⊢
  have H2 := Lib.hid (And.intro ro (And.intro rt (And.intro hx2 (And.intro (show Off (.slice Ao n co) (.slice At 3 ct) from hoff) hn))))
  clear ro rt hx2 hoff hn
  go_wp2_with fail
  obtain ⟨w3, hw3⟩ : ∃ w3, w3 = w2.alloc (.cells #[.int .i64 room, .slice Ao n co, .slice At 3 ct] 24) := ⟨_, rfl⟩
  rw [← hw3]
  have hO3 : Only w2 w3 := by rw [hw3]; exact (Stay.refl _ w2).alloc _
  have hB3 : Blk w3 w2.heap.size 24 [.int .i64 room, .slice Ao n co, .slice At 3 ct] := by rw [hw3]; exact Blk.newAt w2 [_, _, _] _ _ rfl
  have H3 := Lib.hid (And.intro hO3 hB3)
  clear hw3 hO3 hB3
  go_loopg [8, 25] n (fun kk vl vi wr => ∃ i : Nat, i ≤ n ∧ kk = n - i ∧ vl = .int .i64 (cntp (o2.take i)) ∧ vi = .int .i64 (i : Nat) ∧ Blk wr w2.heap.size 24 [.int .i64 room, .slice Ao n co, .slice At 3 ct] ∧ wr.ownsRow w1.heap.size 3 1 (.slice Ao n co) n (ints (rens o2 i)) ∧ wr.ownsRow w1.heap.size 3 1 (.slice At 3 ct) 3 (ints [30, 30, 30]) ∧ Only w wr)
  case atStart => exact ⟨0, by omega, rfl, rfl, rfl, H3.out.2, by rw [rens_zero]; exact own_only H3.out.1 H2.out.1, own_only H3.out.1 H2.out.2.1, (H1.out.trans' H2.out.2.2.1).trans' H3.out.1⟩
  case round =>
    obtain ⟨i, hi, hk, rfl, rfl, hB, hr, ht, hO⟩ := hrel
    obtain ⟨wt, hwt⟩ : ∃ wt, wt = wr := ⟨_, rfl⟩
    rw [← hwt] at hB hr ht hO ⊢
    clear hwt
    have hnl := H2.out.2.2.2.2
    by_cases hp : i < n
    · obtain ⟨g, co2, e1, _, _⟩ := hr.form (by omega)
      obtain ⟨rfl, rfl⟩ : Ao = some ⟨g, 0, none⟩ ∧ co = co2 := by simpa using e1
      have z := hr.cellAt i (by omega)
      obtain ⟨x, hx⟩ : ∃ x, x = o2.getD i 0 := ⟨_, rfl⟩
      have hzx : (ints (rens o2 i))[i]? = some (.int .i64 x) := by
        have h1 := rens_at o2 (i := i) (by omega)
        rw [List.getD_eq_getElem?_getD, List.getElem?_eq_getElem (by rw [rens_len o2 (by omega)]; omega)] at h1
        unfold ints
        rw [List.getElem?_map, List.getElem?_eq_getElem (by rw [rens_len o2 (by omega)]; omega), hx, ← h1]
        rfl
      rw [hzx] at z
      have lg := (own_lt hr g rfl).2
      have fz : wt.frozen? ⟨g, i, none⟩ = false := hr.frozenAt i
      have cb := hB.cell
      have lb := hB.lt
      have hc := cntp_le o2 i (by omega)
      obtain ⟨c, hc2⟩ : ∃ c, c = cntp (o2.take i) := ⟨_, rfl⟩
      have hsucc := cntp_take (l := o2) (i := i) (by omega)
      have hat := ren_at (l := o2) (i := i) (by omega)
      rw [← hx, ← hc2] at hsucc
      rw [← hx, hsucc] at hat
      rw [← hc2] at hc ⊢
      have HX := Lib.hid (And.intro hB (And.intro hr (And.intro ht (And.intro hO (And.intro hx (And.intro hsucc (And.intro hat hk)))))))
      clear hB hr ht hO hx hsucc hat hk e1 hzx hc2 hnl
      by_cases hx0 : x > 0
      · have hw : IntKind.i64.wrap (c + 1) = c + 1 := by rw [IntKind.wrap_i64]; omega
        have hw2 : wrap64 (c + 1) = c + 1 := by unfold wrap64; omega
        go_wp2_with fail
        go_roundg (n - (i + 1))
        case measure => have := HX.out.2.2.2.2.2.2.2; omega
        case rel =>
          obtain ⟨hB, hr, ht, hO, hx, hsucc, hat, hk⟩ := HX.out
          have hnl := H2.out.2.2.2.2
          rw [if_pos hx0] at hsucc hat
          rw [if_pos hx0] at hat
          refine ⟨i + 1, by omega, rfl, ?_, by go_num, hB.set_other (own_ne_blk hr hB (by decide) g rfl) _, ?_, ?_, hO.set (fun h => ?_) _⟩
          · rw [hsucc]
          · rw [rens_succ o2 (by omega), hat]
            have h2 := (hr.stored i (.int .i64 (c + 1))).1
            unfold ints at h2 ⊢
            rw [List.map_set]
            exact h2
          · exact own_set ht _ (fun g' hg' e => by simp only at e; subst e; exact H2.out.2.2.2.1 _ rfl hg')
          · have h1 := (own_lt H2.out.1 g rfl).1
            have h2 := H1.out.size
            simp only at h
            omega
      · go_wp2_with fail
        go_roundg (n - (i + 1))
        case measure => have := HX.out.2.2.2.2.2.2.2; omega
        case rel =>
          obtain ⟨hB, hr, ht, hO, hx, hsucc, hat, hk⟩ := HX.out
          have hnl := H2.out.2.2.2.2
          rw [if_neg (by omega)] at hsucc
          refine ⟨i + 1, by omega, rfl, ?_, by go_num, hB, ?_, ht, hO⟩
          · rw [hsucc]
          · rw [rens_skip o2 (by omega) (by omega)]
            exact hr
    · obtain rfl : i = n := by omega
      rw [hnl, rens_all] at hr
      rw [← hnl] at hr
      have HX := Lib.hid (And.intro hB (And.intro hr (And.intro ht hO)))
      have cb := hB.cell
      have lb := hB.lt
      clear hB hr ht hO hk hnl
      go_wp2_with fail
      have hrl : (ren o2).length = i := by rw [ren_len]; exact H2.out.2.2.2.2.symm
      have hr62 : (ren o2).take 62 = ren o2 := List.take_of_length_le (by omega)
      have hsO := own_sl HX.out.2.1 (Stay.refl _ _)
      rw [← hrl] at hsO
      have hsT : Sl wt wt.heap.size At [(30 : Int), 30, 30].length ct 1 (ints [30, 30, 30]) := own_sl HX.out.2.2.1 (Stay.refl _ _)
      by_cases hv : Valid room (ren o2) [30, 30, 30]
      · have hM := made_ok w wt HX.out.2.2.2 room (ren o2) [30, 30, 30] Ao At co ct hsO hsT (by rw [hr62]; exact hv)
        rw [hr62, hrl, show ([30, 30, 30] : List Int).take 10 = [30, 30, 30] from rfl] at hM
        refine hM.mono ?_
        clear hM hsO hsT
        rintro e w4 ⟨b, L, rfl, h4, _, _⟩
        obtain ⟨rm, rfl⟩ : ∃ rm : Nat, room = (rm : Int) := ⟨room.toNat, by have := hv.r1; omega⟩
        simp only [Int.toNat_natCast] at h4
        obtain ⟨gg, q, hh, _, _⟩ := play_hist hv order
        have hasc := (hh.asc (ren_inc o2) (fun x hx => (hv.ox x hx).1)).1
        have hasc2 := (List.pairwise_append.1 hasc).1
        have H4 := Lib.hid (And.intro h4 hasc2)
        clear h4 hasc hasc2 hh cb lb hrl hr62
        go_wp2_with fail
        refine (played_any H4.out.1 (start_got rm _ _) C cc order HS.out.2).mono ?_
        rintro e w5 ⟨L5, ov, rfl, h5, hr5, _⟩
        have hn1 := play_len (Rc.start rm (ren o2) [30, 30, 30] ([30, 30, 30].map Int.toNat)) order
        have hT := H4.out.2
        obtain ⟨out, hout⟩ : ∃ out, out = ((Rc.start rm (ren o2) [30, 30, 30] ([30, 30, 30].map Int.toNat)).play order).2 := ⟨_, rfl⟩
        rw [← hout] at hr5 hn1 hT
        obtain ⟨n, hn⟩ : ∃ n, n = out.length := ⟨_, rfl⟩
        rw [← hn] at hn1
        obtain ⟨Aq, cq, rfl⟩ := own_shape hr5
        rw [← hn]
        have H5 := Lib.hid (And.intro hr5 (And.intro hT (And.intro hn h5.only)))
        clear h5 hr5 hT hn hout
        go_wp2_with fail
        go_loopg [8, 62] n (fun kk vl vi wr => ∃ j : Nat, j ≤ n ∧ kk = n - j ∧ vl = .int .i64 (lastS (out.take j)) ∧ vi = .int .i64 (j : Nat) ∧ Only w5 wr)
        case atStart => exact ⟨0, by omega, rfl, rfl, rfl, Stay.refl _ _⟩
        case round =>
          obtain ⟨j, hj, hk, rfl, rfl, hO⟩ := hrel
          obtain ⟨wz, hwz⟩ : ∃ wz, wz = wr := ⟨_, rfl⟩
          rw [← hwz] at hO ⊢
          clear hwz
          by_cases hp2 : j < n
          · have hnl := H5.out.2.2.1
            obtain ⟨g, co2, e1, _, _⟩ := H5.out.1.form (by omega)
            have e1' : Aq = some ⟨g, 0, none⟩ ∧ cq = co2 := by simpa using e1
            obtain ⟨rfl, rfl⟩ := e1'
            have hrow := own_only hO H5.out.1
            have hgl := (own_lt hrow g rfl).2
            obtain ⟨x, hx⟩ : ∃ x, x = (said out j).1 := ⟨_, rfl⟩
            obtain ⟨y, hy⟩ : ∃ y, y = (said out j).2 := ⟨_, rfl⟩
            have q1 := (row_two hrow (k := j) (by omega)).1
            have q2 := (row_two hrow (k := j) (by omega)).2
            rw [← hx] at q1
            rw [← hy] at q2
            have hlast := lastS_take (out := out) (i := j) (by omega)
            have hlt := fun h0 h1 => lastS_lt H5.out.2.1 (i := j) (by omega) h0 h1
            rw [← hx, ← hy] at hlast hlt
            obtain ⟨c, hc⟩ : ∃ c, c = lastS (out.take j) := ⟨_, rfl⟩
            rw [← hc] at hlast hlt ⊢
            have HZ := Lib.hid (And.intro hO (And.intro hk hlast))
            clear hO hk hrow hx hy e1 hnl hlast hc
            go_upto_region 20 with fail
            obtain ⟨wv, hwv⟩ : ∃ wv, wv = wz.alloc (.cells #[.int .i64 x, .int .i64 y] 34) := ⟨_, rfl⟩
            have hOv : Only wz wv := by rw [hwv]; exact (Stay.refl _ wz).alloc _
            have hBv : Blk wv wz.heap.size 34 [.int .i64 x, .int .i64 y] := by rw [hwv]; exact Blk.newAt wz [_, _] _ _ rfl
            rw [← hwv]
            have cz := hBv.cell
            have lz := hBv.lt
            have HN := Lib.hid (HZ.out.1.trans' hOv)
            clear hwv hOv hBv q1 q2
            by_cases hx0 : x = 0
            · subst hx0
              go_wp2_with fail
              go_roundg (n - (j + 1))
              case measure => have := HZ.out.2.1; omega
              case rel => exact ⟨j + 1, by omega, rfl, by rw [HZ.out.2.2, if_pos (Or.inl trivial)], by go_num, HN.out⟩
            have bx : (x == 0) = false := by simp [hx0]
            by_cases hy0 : y ≤ 0
            · have by1 : decide (y ≤ 0) = true := decide_eq_true hy0
              go_wp2_with fail
              go_roundg (n - (j + 1))
              case measure => have := HZ.out.2.1; omega
              case rel => exact ⟨j + 1, by omega, rfl, by rw [HZ.out.2.2, if_pos (.inr hy0)], by go_num, HN.out⟩
            · have by1 : decide (y ≤ 0) = false := decide_eq_false hy0
              have hcy := hlt hx0 (by omega)
              have by2 : ¬ y ≤ c := by omega
              clear hlt
              go_wp2_with fail
              go_roundg (n - (j + 1))
              case measure => have := HZ.out.2.1; omega
              case rel => exact ⟨j + 1, by omega, rfl, by rw [HZ.out.2.2, if_neg (by rintro (h | h); exact hx0 h; omega)], by go_num, HN.out⟩
          · obtain rfl : j = n := by omega
            have HZ := Lib.hid (H5.out.2.2.2.trans' hO)
            clear hO hk
            go_wp2_with fail
            refine (awake_any wz).mono ?_
            rintro e w8 ⟨rfl, h8⟩
            have H8 := Lib.hid (HZ.out.trans' h8)
            clear h8
            go_wp2_with fail
            go_ret
            exact ⟨rfl, H8.out⟩
      · have hM := made_no w wt HX.out.2.2.2 room (ren o2) [30, 30, 30] Ao At co ct hsO hsT (by rw [hr62]; exact hv)
        rw [hrl] at hM
        refine hM.mono ?_
        clear hM hsO hsT
        rintro e w4 ⟨rfl, h4⟩
        have H4 := Lib.hid (HX.out.2.2.2.trans' h4)
        clear h4 cb lb
        go_wp2_with fail
        refine (awake_any w4).mono ?_
        rintro e w8 ⟨rfl, h8⟩
        have H8 := Lib.hid (H4.out.trans' h8)
        clear h8
        go_wp2_with fail
        go_ret
        exact ⟨rfl, H8.out⟩
end Go.Proofs.Ytfohaijdhgcneaa
