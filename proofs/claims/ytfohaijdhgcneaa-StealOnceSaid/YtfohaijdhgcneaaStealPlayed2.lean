/- A race is played by a law: to its end. -/
import Derived.Test.YtfohaijdhgcneaaStealPlayed
import Derived.Deep.CutRange
import Derived.Laws.EntriesVeiled
set_option linter.unusedVariables false
set_option linter.unusedSimpArgs false
namespace Go.Proofs.Ytfohaijdhgcneaa
open Go Go.RowKit

theorem runs_len : ∀ (l : List Int) (p : Rc × List (Int × Int)), (Rc.runs p l).2.length ≤ p.2.length + l.length
  | [], p => Nat.le_add_right _ _
  | i :: l, p => by
    have := runs_len l ((p.1.step i).1, p.2 ++ p.1.say i)
    have h2 : (p.1.say i).length ≤ 1 := by unfold Rc.say; split <;> simp
    simp only [List.length_append, List.length_cons] at this ⊢
    show (Rc.runs ((p.1.step i).1, p.2 ++ p.1.say i) l).2.length ≤ _
    omega
theorem runs_one (p : Rc × List (Int × Int)) (l : List Int) (i : Int) : Rc.runs p (l ++ [i]) = (((Rc.runs p l).1.step i).1, (Rc.runs p l).2 ++ (Rc.runs p l).1.say i) := by rw [runs_append]; rfl
theorem tail_len : ∀ n : Nat, (tailOf n).length = 240 * n
  | 0 => rfl
  | n + 1 => by
    rw [tailOf_succ, List.length_append, tail_len n, List.length_replicate]
    omega
theorem take_one {l : List Int} {i : Nat} (h : i < l.length) : l.take (i + 1) = l.take i ++ [l.getD i 0] := by
  rw [List.take_add_one, List.getElem?_eq_getElem h, List.getD_eq_getElem?_getD, List.getElem?_eq_getElem h]
  rfl
/-- A played race in memory. -/
def PS (w0 : World) (b : Nat) (p : Rc × List (Int × Int)) (rx hx ox gh : Nat) (w : World) : Prop := ∃ L ov, PB w0 w L b p.1 p.2 rx hx ox gh ov
set_option maxRecDepth 100000 in
set_option maxHeartbeats 4000000 in
theorem played_any {w0 w : World} {L : Nat → Nat} {b : Nat} {R : Rc} (h : SR w0 w L b R) (hg : ∀ i, R.got i = []) (A : Option Addr) (ca : Nat) (order : List Int) (hs : Sl w0 w0.heap.size A order.length ca 1 (ints order)) :
    Calls Try.prog 15 #[.pointer (some ⟨b, 0, none⟩), .slice A order.length ca] w fun e w' => ∃ L' ov, e = .returned (.tuple #[ov, .bool true]) ∧ SR w0 w' L' b (R.play order).1 ∧ w'.ownsRow w0.heap.size 34 2 ov (R.play order).2.length ((R.play order).2.flatMap two) ∧ ∀ g, ov.ownBlock = some g → L' g = 0 := by
  obtain ⟨ii, hii0, hii1, hii2, hii3⟩ := info_parts infoI
  have hmk : ∀ (W : World), (Instr.makeSlice 22 (.int .i64 9) (.int .i64 9)).run Try.prog W = .ok (.slice (some ⟨W.heap.size, 0, none⟩) 9 9) (W.alloc (.cells (ints (List.replicate 9 0)).toArray 3)) := fun W => by
    have h := run_makeSlice (P := Try.prog) W 22 3 ii (.int .i64 0) (by rfl) hii0 hii1 .i64 .i64 9 9 (by omega) (by omega) (by rw [hii2]; omega) (by rw [hii3]; omega) (by omega)
    rw [hii2] at h
    simp only [Nat.mul_one] at h
    rw [madeI] at h
    exact h
  clear hii0 hii1 hii2 hii3
  have hnc := hs.2.1
  have hcm := hs.2.2.1
  obtain ⟨n, hn⟩ : ∃ n, n = order.length := ⟨_, rfl⟩
  rw [← hn] at hs hnc ⊢
  have H := Lib.hid (And.intro h (And.intro hg (And.intro hs hn)))
  clear h hg hs hn
  go_enter Try.func15, Try.ntmps15
  go_upto_region 4 with fail
  obtain ⟨w1, hw1⟩ : ∃ w1, w1 = (((w.alloc (.cells #[pt b] 26)).alloc (.cells #[.slice none 0 0] 31)).alloc (.cells (ints (List.replicate 9 0)).toArray 3)).alloc (.cells #[.slice (some ⟨w.heap.size + 1 + 1, 0, none⟩) 9 9] 22) := ⟨_, rfl⟩
  have e9 : (ints (List.replicate 9 0)).toArray = #[Value.int .i64 0, Value.int .i64 0, Value.int .i64 0, Value.int .i64 0, Value.int .i64 0, Value.int .i64 0, Value.int .i64 0, Value.int .i64 0, Value.int .i64 0] := rfl
  have hO1 : Only w w1 := by rw [hw1]; exact ((((Stay.refl _ w).alloc _).alloc _).alloc _).alloc _
  have hB1 : PS w0 b (R, []) w.heap.size (w.heap.size + 1 + 1 + 1) (w.heap.size + 1) (w.heap.size + 1 + 1) w1 := by
    have hz := H.out.1.only.size
    have hlz : ∀ j, w.heap.size ≤ j → L j = 0 := fun j hj => by
      by_cases h0 : L j = 0
      · exact h0
      · have := H.out.1.race.lab j h0; omega
    have eh : ints (hads R) = ints (List.replicate 9 0) := by
      unfold hads
      rw [List.map_congr_left (g := fun _ => (0 : Int)) (fun k _ => by rw [H.out.2.1]; rfl)]
      rfl
    refine ⟨L, .slice none 0 0, H.out.1.then hO1, ?_, ?_, ?_, ?_, World.ownsRow_nil _ _ _ _, hlz _ (by omega), hlz _ (by omega), hlz _ (by omega), hlz _ (by omega), fun g hg => by simp [Value.ownBlock] at hg, by omega, by omega, by omega, by omega⟩
    · rw [hw1]; exact (((Blk.newAt w [pt b] _ _ rfl).alloc _).alloc _).alloc _
    · rw [hw1]; exact Blk.newAt _ [.slice (some ⟨w.heap.size + 1 + 1, 0, none⟩) 9 9] _ _ (by simp)
    · rw [hw1]; simp only; rw [eh]; exact (Blk.newAt _ (ints (List.replicate 9 0)) _ _ (by simp)).alloc _
    · rw [hw1]; exact ((Blk.newAt (w.alloc _) [.slice none 0 0] _ _ (by simp)).alloc _).alloc _
  rw [e9] at hw1
  rw [← hw1]
  have H1 := Lib.hid hB1
  clear hw1 hO1 hB1 e9 hmk
  go_cut [18, 19, 20] from 14 to 17 (fun a b i wc => ∃ m : Nat, m = min n 600 ∧ a = .slice A m ca ∧ b = .int .i64 (m : Nat) ∧ i = .int .i64 0 ∧ w1 = wc)
  case first =>
    go_wp2_with fail
    go_meet
    case rel => exact ⟨min n 600, rfl, congrArg (fun x => Value.slice A x ca) (by omega), congrArg (Value.int .i64) (by omega), rfl, rfl⟩
  case rest =>
    obtain ⟨m, hm, rfl, rfl, rfl, rfl⟩ := hcut
    have hmn : m ≤ n := by omega
    have hm6 : m ≤ 600 := by omega
    have hmc : m ≤ ca := by omega
    have HM := Lib.hid hm
    clear hm
    go_wp2_with fail
    go_loopg [20] m (fun kk vj wr => ∃ j : Nat, j ≤ m ∧ kk = m - j ∧ vj = .int .i64 (j : Nat) ∧ PS w0 b (Rc.runs (R, []) (order.take j)) w.heap.size (w.heap.size + 1 + 1 + 1) (w.heap.size + 1) (w.heap.size + 1 + 1) wr)
    case atStart => exact ⟨0, Nat.zero_le _, rfl, rfl, H1.out⟩
    case round =>
      obtain ⟨j, hj, hk, rfl, hP⟩ := hrel
      obtain ⟨wq, hwq⟩ : ∃ wq : World, wq = wr := ⟨_, rfl⟩
      rw [← hwq] at hP ⊢
      clear hwq
      obtain ⟨L2, ov, hP⟩ := hP
      by_cases hlt : j < m
      · have hjl : j < order.length := by have := H.out.2.2.2; omega
        obtain ⟨xb, xo, rfl, hxb, hxc⟩ := (show Sl wq w0.heap.size A order.length ca 1 (ints order) by rw [← H.out.2.2.2]; exact H.out.2.2.1.only hP.sr.only).ints_at (by omega)
        have e0 := hxc j hjl
        obtain ⟨x, hxe⟩ : ∃ x, x = order.getD j 0 := ⟨_, rfl⟩
        rw [← hxe] at e0
        have hlx : xb < wq.heap.size := Nat.lt_of_lt_of_le hxb hP.sr.only.size
        have hol := runs_len (order.take j) (R, [])
        have HX := Lib.hid (And.intro hP (And.intro hxe (And.intro hk hol)))
        clear hP hxe hk hxc hol
        go_wp2_with fail
        refine (play1_any HX.out.1 (by have := HX.out.2.2.2; simp at this; omega) x).mono ?_
        rintro e w3 ⟨rfl, L3, ov3, h3⟩
        have H3 := Lib.hid h3
        clear h3
        go_wp2_with fail
        go_roundg (m - (j + 1))
        case measure => have := HX.out.2.2.1; omega
        case rel =>
          refine ⟨j + 1, by omega, rfl, by go_num, ?_⟩
          rw [take_one hjl, runs_one, ← HX.out.2.1]
          exact ⟨L3, ov3, H3.out⟩
      · obtain rfl : j = m := by omega
        have htk : order.take j = order.take 600 := by
          have h1 := HM.out
          have h2 := H.out.2.2.2
          by_cases h6 : n ≤ 600
          · rw [List.take_of_length_le (by omega), List.take_of_length_le (by omega)]
          · rw [show j = 600 by omega]
        rw [htk] at hP
        have HX := Lib.hid (show PS w0 b (Rc.runs (R, []) (order.take 600 ++ tailOf 0)) w.heap.size (w.heap.size + 1 + 1 + 1) (w.heap.size + 1) (w.heap.size + 1 + 1) wq from ⟨L2, ov, by rw [show tailOf 0 = [] from rfl, List.append_nil]; exact hP⟩)
        clear hP hk htk
        go_wp2_with fail
        go_loopg [28] 9 (fun kk vj wr => ∃ a : Nat, a ≤ 9 ∧ kk = 9 - a ∧ vj = .int .i64 (a : Nat) ∧ PS w0 b (Rc.runs (R, []) (order.take 600 ++ tailOf a)) w.heap.size (w.heap.size + 1 + 1 + 1) (w.heap.size + 1) (w.heap.size + 1 + 1) wr)
        case atStart => exact ⟨0, by omega, rfl, rfl, HX.out⟩
        case round =>
          obtain ⟨a, ha, hka, rfl, hPa⟩ := hrel
          obtain ⟨wa, hwa⟩ : ∃ wa : World, wa = wr := ⟨_, rfl⟩
          rw [← hwa] at hPa ⊢
          clear hwa
          by_cases ha9 : a < 9
          · have HA := Lib.hid (And.intro hPa hka)
            have b9 : decide ((a : Int) < 9) = true := decide_eq_true (by omega)
            clear hPa hka
            go_wp2_with fail
            clear b9
            go_loopg [31] 240 (fun kk vj wr => ∃ c : Nat, c ≤ 240 ∧ kk = 240 - c ∧ vj = .int .i64 (c : Nat) ∧ PS w0 b (Rc.runs (R, []) (order.take 600 ++ tailOf a ++ List.replicate c (a : Int))) w.heap.size (w.heap.size + 1 + 1 + 1) (w.heap.size + 1) (w.heap.size + 1 + 1) wr)
            case atStart => exact ⟨0, by omega, rfl, rfl, by rw [List.replicate_zero, List.append_nil]; exact HA.out.1⟩
            case round =>
              obtain ⟨c, hc, hkc, rfl, hPc⟩ := hrel
              obtain ⟨wz, hwz⟩ : ∃ wz : World, wz = wr := ⟨_, rfl⟩
              rw [← hwz] at hPc ⊢
              clear hwz
              by_cases hc2 : c < 240
              · obtain ⟨L4, ov4, hP4⟩ := hPc
                have hol : (Rc.runs (R, []) (order.take 600 ++ tailOf a ++ List.replicate c (a : Int))).2.length ≤ 10000 := Nat.le_trans (runs_len _ _) (by
                  simp only [List.length_append, tail_len, List.length_replicate, List.length_take, List.length_nil]
                  omega)
                have HC := Lib.hid (And.intro hP4 (And.intro hol hkc))
                clear hP4 hol hkc
                go_wp2_with fail
                refine (play1_any HC.out.1 HC.out.2.1 (a : Int)).mono ?_
                rintro e w3 ⟨rfl, L3, ov3, h3⟩
                have H3 := Lib.hid h3
                clear h3
                go_wp2_with fail
                go_roundg (240 - (c + 1))
                case measure => have := HC.out.2.2; omega
                case rel =>
                  refine ⟨c + 1, by omega, rfl, by go_num, ?_⟩
                  rw [List.replicate_succ', ← List.append_assoc, runs_one]
                  exact ⟨L3, ov3, H3.out⟩
              · obtain rfl : c = 240 := by omega
                have HC := Lib.hid hPc
                clear hPc hkc
                go_wp2_with fail
                go_roundg (9 - (a + 1))
                case measure => have := HA.out.2; omega
                case rel =>
                  refine ⟨a + 1, by omega, rfl, by go_num, ?_⟩
                  rw [tailOf_succ, ← List.append_assoc]
                  exact HC.out
          · obtain rfl : a = 9 := by omega
            have hpl : Rc.runs (R, []) (order.take 600 ++ tailOf 9) = R.play order := rfl
            rw [hpl] at hPa
            obtain ⟨L5, ov5, hP5⟩ := hPa
            have c1 := hP5.rb.cell
            have l1 := hP5.rb.lt
            have c2 := hP5.ob.cell
            have l2 := hP5.ob.lt
            have hd := (play_done (R := R) H.out.1.ok order).1
            have H5 := Lib.hid (And.intro hP5 hd)
            clear hP5 hka hd hpl
            go_wp2_with fail
            go_cut [4, 5] from 38 to 40 (fun v4 v5 wd => v4 = ov5 ∧ v5 = .bool true ∧ Only wa wd)
            case first =>
              go_region_with (go_at_call 34; refine (over_any ((H5.out.1.then ((Stay.refl _ wa).drew)).sr.race)).mono ?_; rintro e w6 ⟨rfl, h6⟩; rw [H5.out.2]; have c6 := (h6.blk H5.out.1.ob.drew).cell; have l6 := (h6.blk H5.out.1.ob.drew).lt)
              all_goals
                go_wp2_with fail
                go_meet
                case rel => exact ⟨rfl, rfl, Only.trans' ((Stay.refl _ wa).drew) h6⟩
            case rest =>
              obtain ⟨rfl, rfl, h6⟩ := hcut
              have H6 := Lib.hid (H5.out.1.then h6)
              clear h6
              go_wp2_with fail
              go_ret2
              exact ⟨L5, _, rfl, H6.out.sr, H6.out.orow, H6.out.lv⟩
end Go.Proofs.Ytfohaijdhgcneaa
