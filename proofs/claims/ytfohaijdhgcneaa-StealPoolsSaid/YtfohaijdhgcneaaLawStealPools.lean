/- StealPools: the walk. -/
import Derived.Test.YtfohaijdhgcneaaRefPool
import Derived.Test.YtfohaijdhgcneaaPoolRow
import Derived.Test.YtfohaijdhgcneaaIntEq
import Derived.Test.YtfohaijdhgcneaaStealOwn
import Derived.Deep.CutRange
import Derived.Deep.CutBlock
set_option linter.unusedVariables false
set_option linter.unusedSimpArgs false
namespace Go.Proofs.Ytfohaijdhgcneaa
open Go Go.RowKit

set_option maxRecDepth 100000 in
set_option maxHeartbeats 4000000 in
theorem stealPools_any (w : World) (workers : Int) (A : Option Addr) (n ca : Nat) (ops : List POp) (hl : Sl w w.heap.size A n ca 3 (ops.flatMap POp.cells)) (hlen : ops.length = n) :
    Calls Try.prog 8 #[.int .i64 workers, .slice A n ca] w fun e w' => e = .returned (.bool true) ∧ Only w w' := by
  have HL := Lib.hid (And.intro hl hlen)
  have hnc := hl.2.1
  have hcm := hl.2.2.1
  clear hl hlen
  go_enter Try.func8, Try.ntmps8
  go_wp2_with fail
  by_cases hv : 1 ≤ workers ∧ workers ≤ 8
  · obtain ⟨nw, rfl⟩ : ∃ nw : Nat, workers = (nw : Int) := ⟨workers.toNat, by omega⟩
    refine (newpool_any w nw (by omega) (by omega)).mono ?_
    rintro e w1 ⟨b, qv, vs, rfl, hP, hO⟩
    have H1 := Lib.hid (And.intro hP hO)
    clear hP hO
    go_wp2_with fail
    refine (rnewpool_any w1 nw (by omega) (by omega)).mono ?_
    rintro e w2 ⟨v, rfl, hR, hO2⟩
    obtain ⟨Av, cv, rfl⟩ := hR.shape
    rw [List.length_replicate] at hR ⊢
    have H2 := Lib.hid (And.intro hR hO2)
    clear hR hO2
    go_upto_region 5 with fail
    obtain ⟨w3, hw3⟩ : ∃ w3, w3 = w2.alloc (.cells #[.slice Av nw cv] 60) := ⟨_, rfl⟩
    have hPR : PR w w3 b w2.heap.size (List.replicate nw []) (List.replicate nw []) qv vs (.slice Av nw cv) (more (fun _ => False) w1 w2) := by
      have ho : Only w2 w3 := by rw [hw3]; exact (Stay.refl _ w2).alloc _
      have hk : w2.heap.size < w3.heap.size := by rw [hw3]; simp
      refine ⟨H1.out.1.only (H2.out.2.trans' ho), by rw [hw3]; exact Blk.new w2 [_] _, H2.out.1.only ho, fun k hk => ?_, fun k hk hb => ?_, (H1.out.2.trans' H2.out.2).trans' ho, (H1.out.2.trans' H2.out.2).size⟩
      · rcases hk with hk | hk
        · exact hk.elim
        · omega
      · rcases hk with hk | hk
        · exact hk
        · have := (H1.out.1.lt hb).2; omega
    rw [← hw3]
    obtain ⟨kq, hkq⟩ : ∃ kq, kq = w2.heap.size := ⟨_, rfl⟩
    rw [← hkq] at hPR ⊢
    have H3 := Lib.hid hPR
    clear hPR hw3 hkq
    go_cut [54, 55, 56] from 50 to 53 (fun a b i wc => ∃ m : Nat, m = min n 120 ∧ a = .slice A m ca ∧ b = .int .i64 (m : Nat) ∧ i = .int .i64 0 ∧ w3 = wc)
    case first =>
      go_wp2_with fail
      go_meet
      case rel => exact ⟨min n 120, rfl, congrArg (fun x => Value.slice A x ca) (by omega), congrArg (Value.int .i64) (by omega), rfl, rfl⟩
    case rest =>
      obtain ⟨m, hm, rfl, rfl, rfl, rfl⟩ := hcut
      have hmn : m ≤ n := by omega
      have hm120 : m ≤ 120 := by omega
      have hmc : m ≤ ca := by omega
      clear hm
      go_wp2_with fail
      go_loopg [5, 56] m (fun kk vp vj wr => ∃ (j b : Nat) (qs : List (List Int)) (qv : Value) (vs : List Value) (A : Option Addr) (c : Nat) (R : Nat → Prop), j ≤ m ∧ kk = m - j ∧ vp = .pointer (some ⟨b, 0, none⟩) ∧ vj = .int .i64 (j : Nat) ∧ qs.length = nw ∧ qs.flatten.length ≤ j ∧ PR w wr b kq qs qs qv vs (.slice A nw c) R)
      case atStart => exact ⟨0, b, _, qv, vs, Av, cv, _, by omega, rfl, rfl, rfl, by simp, by rw [replicate_flat]; simp, H3.out⟩
      case round =>
        obtain ⟨j, b, qs, qv, vs, Av, cv, R, hj, hk, rfl, rfl, hqn, hfl, hP⟩ := hrel
        obtain ⟨wt, hwt⟩ : ∃ wt, wt = wr := ⟨_, rfl⟩
        rw [← hwt] at hP ⊢
        clear hwt
        by_cases hjm : j < m
        · obtain ⟨o, ho⟩ : ∃ o, ops[j]? = some o := ⟨_, List.getElem?_eq_getElem (by have := HL.out.2; omega)⟩
          obtain ⟨ab, ao, rfl, hab, hcells⟩ := (HL.out.1.only hP.only).elem POp.cells_length ho (by omega)
          have g0 := hcells 0 _ rfl
          simp only [Nat.add_zero] at g0
          have g1 := hcells 1 _ rfl
          have g2 := hcells 2 _ rfl
          obtain ⟨kd, ow, ox⟩ := o
          simp only at g0 g1 g2
          have HX := Lib.hid (And.intro hP (And.intro hk (And.intro hqn hfl)))
          have hf9 : qs.flatten.length ≤ 99999 := by omega
          have hq8 : qs.length ≤ 8 := by omega
          have hq1 : 1 ≤ qs.length := by omega
          have HB := Lib.hid (And.intro hf9 (And.intro hq8 hq1))
          clear hP hk hqn hfl hcells ho hf9 hq8 hq1
          obtain ⟨wa, hwa⟩ : ∃ wa, wa = wt.alloc (.cells #[.int .i64 kd, .int .i64 ow, .int .i64 ox] 64) := ⟨_, rfl⟩
          have hoa : Only wt wa := by rw [hwa]; exact (Stay.refl _ wt).alloc _
          have hPa := HX.out.1.then hoa
          have hba : Blk wa wt.heap.size 64 [.int .i64 kd, .int .i64 ow, .int .i64 ox] := by rw [hwa]; exact Blk.new wt [_, _, _] _
          go_upto_block 2 with fail
          rw [← hwa]
          have HA := Lib.hid (And.intro hPa hba)
          have c0 := hba.cell 0
          have c1 := hba.cell 1
          have c2 := hba.cell 2
          simp only [List.getElem?_cons_zero, List.getElem?_cons_succ] at c0 c1 c2
          have lba := hba.lt
          clear hoa hPa hba hwa
          go_cut [5] from 57 to 145 (fun vp wc => ∃ (b' : Nat) (qs' : List (List Int)) (qv' : Value) (vs' : List Value) (A' : Option Addr) (c' : Nat) (R' : Nat → Prop), vp = .pointer (some ⟨b', 0, none⟩) ∧ qs'.length = nw ∧ qs'.flatten.length ≤ j + 1 ∧ PR w wc b' kq qs' qs' qv' vs' (.slice A' nw c') R')
          case first =>
            by_cases hk0 : kd = 0
            · have t0 : (kd == 0) = true := by simp [hk0]
              clear hk0
              go_wp2_with fail
              refine (pp_put HA.out.1 HB.out.2.1 HB.out.1 ow ox).mono ?_
              rintro e w4 ⟨rfl, ⟨vs4, h4⟩, s4⟩
              obtain ⟨q4, er, hm4⟩ : ∃ q4 er, pPut qs ow ox = (q4, er) := ⟨_, _, rfl⟩
              have hln := pPut_len qs ow ox
              have hrp := fun w5 (_ : w5 = w4) => rp_put (kq := kq) (W := w4) (qr := q4) (v := .slice Av nw cv) (by rw [hm4] at h4; exact h4) HB.out.2.1 HB.out.1 HX.out.2.2.1 ow ox
              rw [hm4] at h4 hln hrp ⊢
              simp only at h4 hln hrp ⊢
              have hb4 := s4.blk HA.out.2 (fun hk => by have := (HX.out.1.p.lt hk).2; omega)
              have d1 := hb4.cell 1
              have d2 := hb4.cell 2
              simp only [List.getElem?_cons_zero, List.getElem?_cons_succ] at d1 d2
              have ldb := hb4.lt
              have k4 := h4.q.cell 0
              simp only [List.getElem?_cons_zero] at k4
              have lk4 := h4.q.lt
              have H4 := Lib.hid (And.intro h4 (And.intro hln hrp))
              clear h4 hln hrp hm4 s4 hb4 c0 c1 c2 lba
              go_wp2_with fail
              refine (H4.out.2.2 _ rfl).mono ?_
              rintro e w5 ⟨A5, c5, rfl, h5, o5⟩
              have hk5 := o5.blk H4.out.1.q
              have k5 := hk5.cell 0
              simp only [List.getElem?_cons_zero] at k5
              have lk5 := hk5.lt
              have fk5 := hk5.free 0
              have H5 := Lib.hid (And.intro h5 o5)
              clear h5 o5 hk5 d1 d2 ldb k4 lk4
              go_wp2_with fail
              go_meet
              case rel => exact ⟨b, q4, qv, vs4, A5, c5, _, rfl, by rw [H4.out.2.1.1]; exact HX.out.2.2.1, by have := H4.out.2.1.2; have := HX.out.2.2.2; omega, (H4.out.1.ref H5.out.2 H5.out.1 (Stay.refl _ w5)).then ((Stay.refl _ _).alloc _)⟩
            · have t0 : (kd == 0) = false := by simp [hk0]
              clear hk0
              by_cases hk1 : kd = 1
              · have t1 : (kd == 1) = true := by simp [hk1]
                clear hk1
                go_wp2_with fail
                refine (pp_next HA.out.1 HB.out.2.1 HB.out.1 ow ox).mono ?_
                rintro e w4 ⟨rfl, ⟨vs4, h4⟩, s4⟩
                obtain ⟨q4, x4, f4, o4, hm4⟩ : ∃ q4 x4 f4 o4, pNext qs ow ox = (q4, x4, f4, o4) := ⟨_, _, _, _, rfl⟩
                have hln := pNext_len qs ow ox
                have hrp := fun w5 (_ : w5 = w4) => rp_next (kq := kq) (W := w4) (qr := q4) (v := .slice Av nw cv) (by rw [hm4] at h4; exact h4) HB.out.2.1 HB.out.1 HX.out.2.2.1 ow ox
                rw [hm4] at h4 hln hrp ⊢
                simp only at h4 hln hrp ⊢
                have hb4 := s4.blk HA.out.2 (fun hk => by have := (HX.out.1.p.lt hk).2; omega)
                have d1 := hb4.cell 1
                have d2 := hb4.cell 2
                simp only [List.getElem?_cons_zero, List.getElem?_cons_succ] at d1 d2
                have ldb := hb4.lt
                have k4 := h4.q.cell 0
                simp only [List.getElem?_cons_zero] at k4
                have lk4 := h4.q.lt
                have H4 := Lib.hid (And.intro h4 (And.intro hln hrp))
                clear h4 hln hrp hm4 s4 hb4 c0 c1 c2 lba
                go_wp2_with fail
                refine (H4.out.2.2 _ rfl).mono ?_
                rintro e w5 ⟨A5, c5, rfl, h5, o5⟩
                have hk5 := o5.blk H4.out.1.q
                have k5 := hk5.cell 0
                simp only [List.getElem?_cons_zero] at k5
                have lk5 := hk5.lt
                have fk5 := hk5.free 0
                have H5 := Lib.hid (And.intro h5 o5)
                clear h5 o5 hk5 d1 d2 ldb k4 lk4
                go_wp2_with fail
                go_meet
                case rel => exact ⟨b, q4, qv, vs4, A5, c5, _, rfl, by rw [H4.out.2.1.1]; exact HX.out.2.2.1, by have := H4.out.2.1.2; have := HX.out.2.2.2; omega, (H4.out.1.ref H5.out.2 H5.out.1 (Stay.refl _ w5)).then ((Stay.refl _ _).alloc _)⟩
              · have t1 : (kd == 1) = false := by simp [hk1]
                clear hk1
                go_wp2_with fail
                refine (pp_copy HA.out.1 HB.out.2.2 HB.out.2.1 HB.out.1).mono ?_
                rintro e w4 ⟨b4, qv4, vs4, rfl, h4, o4⟩
                have H4 := Lib.hid h4
                clear h4 o4
                go_wp2_with fail
                go_meet
                case rel => exact ⟨b4, qs, qv4, vs4, Av, cv, _, rfl, HX.out.2.2.1, by have := HX.out.2.2.2; omega, H4.out⟩
          case rest =>
            obtain ⟨b2, q2, qv2, vs2, A2, c2x, R2, rfl, hq2n, hq2f, hP2⟩ := hcut
            have hw1 : IntKind.i64.wrap ((nw : Int) + 1) = (nw : Int) + 1 := IntWalk.i64_in _ (by omega)
            have HC := Lib.hid (And.intro hP2 (And.intro hq2n hq2f))
            clear hP2 hq2n hq2f c0 c1 c2 lba
            obtain ⟨wz, hwz⟩ : ∃ wz, wz = wc := ⟨_, rfl⟩
            rw [← hwz] at HC ⊢
            clear hwz
            go_wp2_with fail
            go_loopg [21] (nw + 2) (fun kk vi wr => ∃ i : Nat, i ≤ nw + 2 ∧ kk = nw + 2 - i ∧ vi = .int .i64 (i : Nat) ∧ Only wz wr)
            case atStart => exact ⟨0, by omega, rfl, rfl, Stay.refl _ _⟩
            case round =>
              obtain ⟨i, hi, hki, rfl, hOi⟩ := hrel
              obtain ⟨wy, hwy⟩ : ∃ wy : World, wy = wr := ⟨_, rfl⟩
              rw [← hwy] at hOi ⊢
              clear hwy
              by_cases hin : i ≤ nw + 1
              · have hPi := HC.out.1.then hOi
                have k2 := hPi.q.cell 0
                simp only [List.getElem?_cons_zero] at k2
                have lk2 := hPi.q.lt
                have u1 : (i : Int) ≤ (nw : Int) + 1 := by omega
                have HI := Lib.hid (And.intro hPi (And.intro hki hOi))
                clear hPi hki hOi
                go_wp2_with fail
                refine (ris_any HI.out.1.r (i : Int)).mono ?_
                rintro e w5 ⟨rfl, o5⟩
                rw [HC.out.2.1]
                by_cases hiw : 1 ≤ (i : Int) ∧ (i : Int) ≤ (nw : Int)
                · rw [decide_eq_true hiw]
                  obtain ⟨k, rfl⟩ : ∃ k : Nat, i = k + 1 := ⟨i - 1, by omega⟩
                  have hkn : k < q2.length := by rw [HC.out.2.1]; omega
                  obtain ⟨g, cap, Aj, cj, e2, hg, hcj, hqj, hRj⟩ := (HI.out.1.then o5).r.at hkn
                  rw [HC.out.2.1] at e2
                  have e2' : A2 = some ⟨g, 0, none⟩ ∧ c2x = cap := by simpa using e2
                  obtain ⟨rfl, rfl⟩ := e2'
                  obtain ⟨q, hq⟩ : ∃ q, q = (q2.getD k []).length := ⟨_, rfl⟩
                  have hsl := hqj.sl
                  rw [← hq] at hcj hsl
                  have k5 := (HI.out.1.then o5).q.cell 0
                  simp only [List.getElem?_cons_zero] at k5
                  have lk5 := (HI.out.1.then o5).q.lt
                  have u2 : (0 : Int) ≤ (k : Int) := by omega
                  have u3 : (k : Int) < (nw : Int) := by omega
                  have wk : IntKind.i64.wrap (k : Int) = (k : Int) := IntWalk.i64_in _ (by omega)
                  have wk2 : IntKind.i64.wrap ((k : Int) + 1 + 1) = (k : Int) + 1 + 1 := IntWalk.i64_in _ (by omega)
                  have H5 := Lib.hid (And.intro o5 (And.intro hsl (And.intro hq hkn)))
                  clear o5 hiw k2 lk2 hsl hq hkn e2 hqj hRj
                  go_wp2_with fail
                  refine (queue_in (HI.out.1.then H5.out.1).p H5.out.2.2.2 (by rw [HC.out.2.1]; omega) (Nat.le_trans (qs_le (Nat.le_refl _) k) (by have := HC.out.2.2; omega))).mono ?_
                  rintro e w6 ⟨v6, rfl, h6, o6⟩
                  rw [← H5.out.2.2.1] at h6
                  obtain ⟨A6, c6, rfl⟩ := own_shape h6
                  have H6 := Lib.hid (And.intro h6 o6)
                  clear h6 o6 hcj k5 lk5 hg
                  go_wp2_with fail
                  have heq := eqI_any w6 A6 Aj c6 cj (q2.getD k []) (q2.getD k []) (by rw [← H5.out.2.2.1]; exact own_sl H6.out.1 (Stay.refl _ _)) (by rw [← H5.out.2.2.1]; exact Sl.later H5.out.2.1 H6.out.2 H6.out.2.size)
                  rw [← H5.out.2.2.1] at heq
                  refine heq.mono ?_
                  clear heq
                  rintro e w7 ⟨rfl, o7⟩
                  rw [show (q2.getD k [] == q2.getD k []) = true from beq_self_eq_true _]
                  have H7 := Lib.hid o7
                  clear o7
                  go_wp2_with fail
                  go_roundg (nw + 2 - (k + 1 + 1))
                  case measure => have := HI.out.2.1; omega
                  case rel => exact ⟨k + 1 + 1, by omega, rfl, by go_num, ((HI.out.2.2.trans' H5.out.1).trans' H6.out.2).trans' H7.out⟩
                · rw [decide_eq_false hiw]
                  have H5 := Lib.hid o5
                  have HW := Lib.hid hiw
                  clear o5 hiw k2 lk2
                  have wk2 : IntKind.i64.wrap ((i : Int) + 1) = (i : Int) + 1 := IntWalk.i64_in _ (by omega)
                  go_wp2_with fail
                  refine (queue_out (HI.out.1.then H5.out).p (i : Int) (by rw [HC.out.2.1]; exact HW.out)).mono ?_
                  rintro e w6 ⟨rfl, o6⟩
                  have H6 := Lib.hid o6
                  clear o6
                  go_wp2_with fail
                  refine (eqI_any w6 none none 0 0 [] [] ⟨rfl, Nat.le_refl _, by omega, fun _ => rfl, fun h => absurd h (by simp)⟩ ⟨rfl, Nat.le_refl _, by omega, fun _ => rfl, fun h => absurd h (by simp)⟩).mono ?_
                  rintro e w7 ⟨rfl, o7⟩
                  rw [show (([] : List Int) == []) = true from rfl]
                  have H7 := Lib.hid o7
                  clear o7
                  go_wp2_with fail
                  go_roundg (nw + 2 - (i + 1))
                  case measure => have := HI.out.2.1; omega
                  case rel => exact ⟨i + 1, by omega, rfl, by go_num, ((HI.out.2.2.trans' H5.out).trans' H6.out).trans' H7.out⟩
              · obtain rfl : i = nw + 2 := by omega
                have HI := Lib.hid (HC.out.1.then hOi)
                have u1 : ¬ (nw : Int) + 2 ≤ (nw : Int) + 1 := by omega
                clear hOi hki hin
                go_wp2_with fail
                go_roundg (m - (j + 1))
                case measure => have := HX.out.2.1; omega
                case rel => exact ⟨j + 1, b2, q2, qv2, vs2, A2, c2x, R2, by omega, rfl, rfl, by go_num, HC.out.2.1, HC.out.2.2, HI.out⟩
        · obtain rfl : j = m := by omega
          have HP := Lib.hid hP.only
          clear hP hk hfl hqn
          go_wp2_with fail
          refine (awake_any wt).mono ?_
          rintro e w9 ⟨rfl, o9⟩
          have H9 := Lib.hid (HP.out.trans' o9)
          clear o9
          go_wp2_with fail
          go_ret
          exact ⟨rfl, H9.out⟩
  · refine (newpool_bad w workers hv).mono ?_
    rintro e w1 ⟨rfl, h1⟩
    have H1 := Lib.hid h1
    clear h1
    go_wp2_with fail
    refine (rnewpool_bad w1 workers hv).mono ?_
    rintro e w2 ⟨rfl, h2⟩
    have H2 := Lib.hid (H1.out.trans' h2)
    clear h2
    go_wp2_with fail
    refine (awake_any _).mono ?_
    rintro e w8 ⟨rfl, h8⟩
    have H8 := Lib.hid ((H2.out.trans' ((Stay.refl _ w2).alloc _)).trans' h8)
    clear h8
    go_wp2_with fail
    go_ret
    exact ⟨rfl, H8.out⟩
end Go.Proofs.Ytfohaijdhgcneaa
