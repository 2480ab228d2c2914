/- LedgerCopies: the walk. -/
import Derived.Test.YtgjicobfbdikmaaLedRun
import Derived.Test.YtgjicobfbdikmaaLedCopy
import Derived.Test.YtgjicobfbdikmaaLedLaws
import Derived.Test.YtgjicobfbdikmaaIntEq
set_option linter.unusedVariables false
set_option linter.unusedSimpArgs false
namespace Go.Proofs.Ytgjicobfbdikmaa
open Go Go.RowKit

set_option maxRecDepth 100000 in
set_option maxHeartbeats 4000000 in
theorem ledgerCopies_any (w : World) (A : Option Addr) (n ca : Nat) (ops : List LOp) (hl : Sl w w.heap.size A n ca 3 (ops.flatMap LOp.cells)) (hlen : ops.length = n)
    (A' : Option Addr) (n' ca' : Nat) (more : List LOp) (hl' : Sl w w.heap.size A' n' ca' 3 (more.flatMap LOp.cells)) (hlen' : more.length = n') :
    Calls Try.prog 7 #[.slice A n ca, .slice A' n' ca'] w fun e w' => e = .returned (.bool true) ∧ Only w w' := by
  have HL := Lib.hid (And.intro hl hlen)
  have HM := Lib.hid (And.intro hl' hlen')
  have hnc := hl'.2.1
  have hcm := hl'.2.2.1
  clear hl hlen hl' hlen'
  go_enter Try.func7, Try.ntmps7
  go_wp2_with fail
  refine (made_any w A n ca ops HL.out.1 HL.out.2).mono ?_
  rintro e w1 ⟨rfl, S1, h1⟩
  obtain ⟨L, hL⟩ : ∃ L, L = Lg.new.runs (ops.take 100) := ⟨_, rfl⟩
  rw [← hL] at h1
  have H1 := Lib.hid h1
  clear h1 hL
  unfold ptr
  go_wp2_with fail
  refine (log_any w1 _ _ L H1.out.at' H1.out.ok).mono ?_
  rintro e w2 ⟨v2, rfl, hr2, hO2⟩
  obtain ⟨A2, c2, rfl⟩ := own_shape hr2
  have H2 := Lib.hid (And.intro (H1.out.then hO2) hr2)
  have hz2 : w.heap.size ≤ w2.heap.size := (H1.out.then hO2).only.size
  clear hr2 hO2
  go_wp2_with fail
  refine (ledCopy_any w2 S1 _ L H2.out.1.at' H2.out.1.ok).mono ?_
  rintro e w3 ⟨bm, rfl, hm3, hO3⟩
  have hM3 : OL w2 (From w2.heap.size w3) bm L w3 := ⟨fun k hk => hk.1, hm3, H2.out.1.ok, hO3⟩
  have H3 := Lib.hid (And.intro hM3 (own_only hO3 H2.out.2))
  clear hm3 hO3 hM3
  unfold ptr
  obtain ⟨es0, hes0⟩ : ∃ es0, es0 = L.es := ⟨_, rfl⟩
  go_upto_region 6 with fail
  go_cut [24, 25, 26] from 20 to 23 (fun a b i wc => ∃ m : Nat, m = min n' 30 ∧ a = .slice A' m ca' ∧ b = .int .i64 (m : Nat) ∧ i = .int .i64 0 ∧ w3 = wc)
  case first =>
    go_wp2_with fail
    go_meet
    case rel => exact ⟨min n' 30, rfl, congrArg (fun x => Value.slice A' x ca') (by omega), congrArg (Value.int .i64) (by omega), rfl, rfl⟩
  case rest =>
    obtain ⟨m, hm, rfl, rfl, rfl, rfl⟩ := hcut
    have hmn : m ≤ n' := by omega
    have hm30 : m ≤ 30 := by omega
    have hmc : m ≤ ca' := by omega
    have HMM := Lib.hid hm
    clear hm
    go_wp2_with fail
    go_loopg [26] m (fun kk vj wr => ∃ (j : Nat) (S : Nat → Prop), j ≤ m ∧ kk = m - j ∧ vj = .int .i64 (j : Nat) ∧ OL w2 S bm (L.runs (more.take j)) wr)
    case atStart => exact ⟨0, _, Nat.zero_le _, rfl, rfl, H3.out.1⟩
    case round =>
      obtain ⟨j, S, hj, hk, rfl, hOT⟩ := hrel
      have hOw : Only w wr := H2.out.1.only.trans' hOT.only
      by_cases hlt : j < m
      · obtain ⟨o, ho⟩ : ∃ o, more[j]? = some o := ⟨_, List.getElem?_eq_getElem (by have := HM.out.2; omega)⟩
        obtain ⟨ab, ao, rfl, hab, hcells⟩ := (HM.out.1.only hOw).elem LOp.cells_length ho (by omega)
        have g0 := hcells 0 _ rfl
        simp only [Nat.add_zero] at g0
        have g1 := hcells 1 _ rfl
        have g2 := hcells 2 _ rfl
        have HX := Lib.hid (And.intro hOT (And.intro ho hk))
        clear hOT hcells ho hk hOw
        go_wp2_with fail
        refine (run_any (HX.out.1.then ((Stay.refl (fun _ => False) _).alloc _)) o).mono ?_
        rintro e w4 ⟨rfl, hT2, hs2⟩
        have HY := Lib.hid hT2
        clear hT2 hs2
        go_wp2_with fail
        go_roundg (m - (j + 1))
        case measure => have := HX.out.2.2; omega
        case rel =>
          have hy := HY.out
          rw [← runs_take HX.out.2.1] at hy
          exact ⟨j + 1, _, by omega, rfl, by go_num, hy⟩
      · obtain rfl : j = m := by omega
        obtain ⟨wA, rfl⟩ : ∃ wA : World, wA = wr := ⟨_, rfl⟩
        have hz4 := hOT.only.size
        obtain ⟨L4, hL4⟩ : ∃ L4, L4 = L.runs (more.take j) := ⟨_, rfl⟩
        rw [← hL4] at hOT
        have HX := Lib.hid (And.intro hOT (And.intro (H2.out.1.then hOT.only) (own_only hOT.only H2.out.2)))
        have HL4 := Lib.hid hL4
        clear hOT hk hOw hL4
        go_wp2_with fail
        refine (log_any wA _ _ L HX.out.2.1.at' HX.out.2.1.ok).mono ?_
        rintro e w5 ⟨v5, rfl, hr5, hO5⟩
        obtain ⟨A5, c5, rfl⟩ := own_shape hr5
        have H5 := Lib.hid (And.intro (own_sl' hr5) (And.intro (own_sl HX.out.2.2 hO5) hO5))
        clear hr5 hO5
        go_wp2_with fail
        refine (equalE_any w5 A5 A2 c5 c2 L.es L.es H5.out.1 H5.out.2.1).mono ?_
        rintro e w6 ⟨rfl, hO6⟩
        have hd : decide (L.es = L.es) = true := decide_eq_true rfl
        rw [hd]
        have H6 := Lib.hid (H5.out.2.2.trans' hO6)
        clear hO6 hd
        go_upto_region 13 with fail
        go_cut [43, 44, 45] from 39 to 42 (fun a b i wc => a = .slice A' j ca' ∧ b = .int .i64 (j : Nat) ∧ i = .int .i64 0 ∧ w6 = wc)
        case first =>
          have HJ := HMM.out
          clear HMM
          go_wp2_with fail
          go_meet
          case rel => exact ⟨congrArg (fun x => Value.slice A' x ca') (by omega), congrArg (Value.int .i64) (by omega), rfl, rfl⟩
        case rest =>
          obtain ⟨rfl, rfl, rfl, rfl⟩ := hcut
          have hwz : wA.heap.size ≤ w6.heap.size := H6.out.size
          have hlow : ∀ k, S k → k < wA.heap.size := HX.out.1.at'.lt
          have hbase : ∀ k, S1 k → k < w2.heap.size := H2.out.1.at'.lt
          have HW := Lib.hid (And.intro hlow hbase)
          clear hlow hbase
          go_wp2_with fail
          go_loopg [45] j (fun kk vj wz => ∃ (i : Nat) (T : Nat → Prop), i ≤ j ∧ kk = j - i ∧ vj = .int .i64 (i : Nat) ∧ OL w T (w.heap.size + 1) (L.runs (more.take i)) wz ∧ OL w S bm L4 wz ∧ ∀ k, T k → ¬ S k)
          case atStart => exact ⟨0, S1, Nat.zero_le _, rfl, rfl, HX.out.2.1.then H6.out, (show OL w S bm L4 w6 from ⟨fun k hk => Nat.le_trans hz2 (HX.out.1.new k hk), HX.out.1.at'.only H6.out, HX.out.1.ok, HX.out.2.1.only.trans' H6.out⟩), fun k hk hk2 => by have h1 := HX.out.1.new k hk2; have h2 := HW.out.2 k hk; omega⟩
          case round =>
            obtain ⟨i, T, hi, hk, rfl, hOT, hOM, hdis⟩ := hrel
            obtain ⟨wz, rfl⟩ : ∃ wz : World, wz = wr := ⟨_, rfl⟩
            by_cases hlt : i < j
            · obtain ⟨o, ho⟩ : ∃ o, more[i]? = some o := ⟨_, List.getElem?_eq_getElem (by have := HM.out.2; omega)⟩
              obtain ⟨ab, ao, rfl, hab, hcells⟩ := (HM.out.1.only hOT.only).elem LOp.cells_length ho (by omega)
              have g0 := hcells 0 _ rfl
              simp only [Nat.add_zero] at g0
              have g1 := hcells 1 _ rfl
              have g2 := hcells 2 _ rfl
              have HY := Lib.hid (And.intro hOT (And.intro hOM (And.intro hdis (And.intro ho hk))))
              clear hOT hOM hdis hcells ho hk
              go_wp2_with fail
              refine (run_any (HY.out.1.then ((Stay.refl (fun _ => False) _).alloc _)) o).mono ?_
              rintro e w7 ⟨rfl, hT7, hs7⟩
              have hOM7 := (HY.out.2.1.then ((Stay.refl (fun _ => False) _).alloc _)).side hs7 (fun k hk hk2 => HY.out.2.2.1 k hk2 hk) (fun k hk => HY.out.1.new k hk)
              have HZ := Lib.hid (And.intro hT7 hOM7)
              clear hT7 hs7 hOM7
              go_wp2_with fail
              go_roundg (j - (i + 1))
              case measure => have := HY.out.2.2.2.2; omega
              case rel =>
                have hy := HZ.out.1
                rw [← runs_take HY.out.2.2.2.1] at hy
                refine ⟨i + 1, _, by omega, rfl, by go_num, hy, HZ.out.2, fun k hk hk2 => ?_⟩
                have hb := HY.out.2.1.at'.lt k hk2
                rcases hk with h | h
                · exact HY.out.2.2.1 k h hk2
                · have := h.1
                  simp at this
                  omega
            · obtain rfl : i = j := by omega
              rw [← HL4.out] at hOT
              have HY := Lib.hid (And.intro hOT hOM)
              clear hOT hOM hdis hk
              go_wp2_with fail
              refine (log_any wz _ _ L4 HY.out.1.at' HY.out.1.ok).mono ?_
              rintro e w7 ⟨v7, rfl, hr7, hO7⟩
              obtain ⟨A7, c7, rfl⟩ := own_shape hr7
              have H7 := Lib.hid (And.intro (HY.out.1.then hO7) (And.intro (HY.out.2.then hO7) hr7))
              clear hr7 hO7
              go_wp2_with fail
              refine (log_any w7 _ _ L4 H7.out.2.1.at' H7.out.2.1.ok).mono ?_
              rintro e w8 ⟨v8, rfl, hr8, hO8⟩
              obtain ⟨A8, c8, rfl⟩ := own_shape hr8
              have H8 := Lib.hid (And.intro (own_sl H7.out.2.2 hO8) (And.intro (own_sl' hr8) (And.intro (H7.out.1.then hO8) (H7.out.2.1.then hO8))))
              clear hr8 hO8
              go_wp2_with fail
              refine (equalE_any w8 A7 A8 c7 c8 L4.es L4.es H8.out.1 H8.out.2.1).mono ?_
              rintro e w9 ⟨rfl, hO9⟩
              have hd : decide (L4.es = L4.es) = true := decide_eq_true rfl
              rw [hd]
              have H9 := Lib.hid (And.intro (H8.out.2.2.1.then hO9) (H8.out.2.2.2.then hO9))
              clear hO9 hd
              go_wp2_with fail
              refine (leaks_any w9 _ _ L4 H9.out.1.at' H9.out.1.ok).mono ?_
              rintro e wB ⟨vB, rfl, hrB, hOB⟩
              obtain ⟨AB, cB, rfl⟩ := own_shape hrB
              have HB := Lib.hid (And.intro (H9.out.1.then hOB) (And.intro (H9.out.2.then hOB) hrB))
              clear hrB hOB
              go_wp2_with fail
              refine (leaks_any wB _ _ L4 HB.out.2.1.at' HB.out.2.1.ok).mono ?_
              rintro e wC ⟨vC, rfl, hrC, hOC⟩
              obtain ⟨AC, cC, rfl⟩ := own_shape hrC
              have s1 := own_sl HB.out.2.2 hOC
              have s2 := own_sl' hrC
              obtain ⟨q, hq⟩ : ∃ q, q = (srt L4.lk).length := ⟨_, rfl⟩
              rw [← srt_length L4.lk, ← hq] at s1 s2 ⊢
              have HC := Lib.hid (And.intro s1 (And.intro s2 (And.intro (HB.out.1.then hOC).only hq)))
              clear hrC hOC s1 s2 hq
              go_wp2_with fail
              have hq := HC.out.2.2.2
              have s1 := HC.out.1
              have s2 := HC.out.2.1
              subst hq
              refine (eqI_any wC AB AC cB cC (srt L4.lk) (srt L4.lk) s1 s2).mono ?_
              rintro e wD ⟨rfl, hOD⟩
              have h9 : (srt L4.lk == srt L4.lk) = true := by simp
              rw [h9]
              have HD := Lib.hid (HC.out.2.2.1.trans' hOD)
              clear hOD h9 s1 s2
              go_wp2_with fail
              refine (awake_any wD).mono ?_
              rintro e wE ⟨rfl, oE⟩
              have HE := Lib.hid (HD.out.trans' oE)
              clear oE
              go_wp2_with fail
              go_ret
              exact ⟨rfl, HE.out⟩

end Go.Proofs.Ytgjicobfbdikmaa
