/- StealCopies: the walk. -/
import Derived.Test.YtfohaijdhgcneaaStealBoth
import Derived.Deep.CutRange
set_option linter.unusedVariables false
set_option linter.unusedSimpArgs false
namespace Go.Proofs.Ytfohaijdhgcneaa
open Go Go.RowKit

set_option maxRecDepth 100000 in
set_option maxHeartbeats 4000000 in
theorem stealCopies_any (w : World) (room : Int) (own thv order more : List Int) (A B C D : Option Addr) (ca cb cc cd : Nat) (hA : Sl w w.heap.size A own.length ca 1 (ints own)) (hB : Sl w w.heap.size B thv.length cb 1 (ints thv)) (hC : Sl w w.heap.size C order.length cc 1 (ints order)) (hD : Sl w w.heap.size D more.length cd 1 (ints more)) :
    Calls Try.prog 7 #[.agg #[.int .i64 room, .slice A own.length ca, .slice B thv.length cb], .slice C order.length cc, .slice D more.length cd] w fun e w' => e = .returned (.bool true) ∧ Only w w' := by
  obtain ⟨ib, hib0, hib1, hib2, hib3⟩ := info_parts infoB
  have hnc := hC.2.1
  have hcm := hC.2.2.1
  have hnd := hD.2.1
  have hdm := hD.2.2.1
  obtain ⟨n, hn⟩ : ∃ n, n = order.length := ⟨_, rfl⟩
  obtain ⟨q, hq⟩ : ∃ q, q = more.length := ⟨_, rfl⟩
  rw [← hn] at hnc ⊢
  rw [← hq] at hnd ⊢
  have HS := Lib.hid (And.intro hA (And.intro hB (And.intro hC (And.intro hD (And.intro hn hq)))))
  clear hA hB hC hD hn hq
  go_enter Try.func7, Try.ntmps7
  go_wp2_with fail
  obtain ⟨w1, hw1⟩ : ∃ w1, w1 = w.alloc (.cells #[.int .i64 room, .slice A own.length ca, .slice B thv.length cb] 24) := ⟨_, rfl⟩
  rw [← hw1]
  have hO1 : Only w w1 := by rw [hw1]; exact (Stay.refl _ w).alloc _
  have H1 := Lib.hid hO1
  clear hw1 hO1
  by_cases hv : Valid room (own.take 62) (thv.take 10)
  · refine (made_ok w1 w1 (Stay.refl _ w1) room own thv A B ca cb (Sl.up HS.out.1 H1.out) (Sl.up HS.out.2.1 H1.out) hv).mono ?_
    rintro e w2 ⟨b, L, rfl, h2, _, _⟩
    obtain ⟨R0, hR0⟩ : ∃ R0, R0 = Rc.start room.toNat (own.take 62) (thv.take 10) ((thv.take 10).map Int.toNat) := ⟨_, rfl⟩
    rw [← hR0] at h2
    have H2 := Lib.hid h2
    clear h2 hR0 hv
    go_upto_region 4 with fail
    go_cut [35, 36, 37] from 31 to 34 (fun a b i wc => ∃ m : Nat, m = min n 100 ∧ a = .slice C m cc ∧ b = .int .i64 (m : Nat) ∧ i = .int .i64 0 ∧ w2 = wc)
    case first =>
      go_wp2_with fail
      go_meet
      case rel => exact ⟨min n 100, rfl, congrArg (fun x => Value.slice C x cc) (by omega), congrArg (Value.int .i64) (by omega), rfl, rfl⟩
    case rest =>
      obtain ⟨m, hm, rfl, rfl, rfl, rfl⟩ := hcut
      have hmn : m ≤ n := by omega
      have hmc : m ≤ cc := by omega
      have HM := Lib.hid hm
      clear hm
      go_wp2_with fail
      go_loopg [37] m (fun kk vj wr => ∃ (j : Nat) (L2 : Nat → Nat), j ≤ m ∧ kk = m - j ∧ vj = .int .i64 (j : Nat) ∧ SR w1 wr L2 b (replay R0 (order.take j)))
      case atStart => exact ⟨0, L, Nat.zero_le _, rfl, rfl, H2.out⟩
      case round =>
        obtain ⟨j, L2, hj, hk, rfl, hP⟩ := hrel
        obtain ⟨wq, hwq⟩ : ∃ wq : World, wq = wr := ⟨_, rfl⟩
        rw [← hwq] at hP ⊢
        clear hwq
        by_cases hlt : j < m
        · have hjl : j < order.length := by have := HS.out.2.2.2.2.1; omega
          obtain ⟨xb, xo, rfl, hxb, hxc⟩ := (Sl.up (Sl.up HS.out.2.2.1 H1.out) hP.only).ints_at (by omega)
          have e0 := hxc j hjl
          obtain ⟨x, hxe⟩ : ∃ x, x = order.getD j 0 := ⟨_, rfl⟩
          rw [← hxe] at e0
          have HX := Lib.hid (And.intro hP (And.intro hxe hk))
          clear hP hxe hk hxc
          go_wp2_with fail
          refine (sr_step HX.out.1 x).mono ?_
          rintro e w3 ⟨rfl, L3, h3, _⟩
          have H3 := Lib.hid h3
          clear h3
          go_wp2_with fail
          go_roundg (m - (j + 1))
          case measure => have := HX.out.2.2; omega
          case rel =>
            refine ⟨j + 1, L3, by omega, rfl, by go_num, ?_⟩
            rw [replay_take hjl, ← HX.out.2.1]
            exact H3.out
        · obtain rfl : j = m := by omega
          obtain ⟨R1, hR1⟩ : ∃ R1, R1 = replay R0 (order.take j) := ⟨_, rfl⟩
          rw [← hR1] at hP
          have HX := Lib.hid hP
          clear hP hk hR1
          go_wp2_with fail
          refine (sr_copy HX.out).mono ?_
          rintro e w4 ⟨c, Lc, rfl, h4, h5, h6⟩
          have hboth : Both w1 w4 Lc c R1 L2 b R1 := ⟨h4, HX.out.then h5, fun k hk => by
            by_cases h0 : L2 k = 0
            · exact h0
            · have := HX.out.race.lab k h0; have := h6 k hk; omega⟩
          have H4 := Lib.hid hboth
          clear h4 h5 h6 hboth
          go_wp2_with fail
          refine (rest_any H4.out.b.race).mono ?_
          rintro e w5 ⟨v5, rfl, hr5, ho5⟩
          have hwas := H4.out.apart ho5 hr5
          obtain ⟨A5, c5, rfl⟩ := own_shape hr5
          obtain ⟨was, hwas2⟩ : ∃ was, was = R1.rest := ⟨_, rfl⟩
          rw [← hwas2] at hwas
          have H5 := Lib.hid (And.intro (H4.out.then ho5) (And.intro hwas hwas2))
          rw [← hwas2]
          clear hr5 ho5 hwas hwas2
          go_upto_region 14 with fail
          go_cut [55, 56, 57] from 51 to 54 (fun a b i wc => ∃ m : Nat, m = min q 100 ∧ a = .slice D m cd ∧ b = .int .i64 (m : Nat) ∧ i = .int .i64 0 ∧ w5 = wc)
          case first =>
            go_wp2_with fail
            go_meet
            case rel => exact ⟨min q 100, rfl, congrArg (fun x => Value.slice D x cd) (by omega), congrArg (Value.int .i64) (by omega), rfl, rfl⟩
          case rest =>
            obtain ⟨p, hp, rfl, rfl, rfl, rfl⟩ := hcut
            have hpq : p ≤ q := by omega
            have hp100 : p ≤ 100 := by omega
            have hpc : p ≤ cd := by omega
            have HP := Lib.hid hp
            clear hp
            go_wp2_with fail
            go_loopg [13, 57] p (fun kk vo vj wr => ∃ (i : Nat) (La : Nat → Nat), i ≤ p ∧ kk = p - i ∧ vj = .int .i64 (i : Nat) ∧ Both w1 wr La c (replay R1 (more.take i)) L2 b R1 ∧ Apart w1 wr La L2 3 (.slice A5 was.length c5) was.length (ints was) ∧ Apart w1 wr La L2 4 vo i (bools (trail R1 (more.take i))))
            case atStart => exact ⟨0, Lc, Nat.zero_le _, rfl, rfl, H5.out.1, H5.out.2.1, World.ownsRow_nil _ _ _ _, fun g hg => by simp [Value.ownBlock] at hg⟩
            case round =>
              obtain ⟨i, La, hi, hk, rfl, hBo, hWa, hRo⟩ := hrel
              obtain ⟨wz, hwz⟩ : ∃ wz : World, wz = wr := ⟨_, rfl⟩
              rw [← hwz] at hBo hWa hRo ⊢
              clear hwz
              obtain ⟨Ao, co, rfl⟩ := own_shape hRo.row
              by_cases hlt2 : i < p
              · have hil : i < more.length := by have := HS.out.2.2.2.2.2; omega
                obtain ⟨xb, xo, rfl, hxb, hxc⟩ := (Sl.up (Sl.up HS.out.2.2.2.1 H1.out) hBo.a.only).ints_at (by omega)
                have e0 := hxc i hil
                obtain ⟨x, hxe⟩ : ∃ x, x = more.getD i 0 := ⟨_, rfl⟩
                rw [← hxe] at e0
                have HZ := Lib.hid (And.intro hBo (And.intro hWa (And.intro hRo (And.intro hxe hk))))
                clear hBo hWa hRo hxe hk hxc
                go_wp2_with fail
                refine (both_step HZ.out.1 x).mono ?_
                rintro e w6 ⟨rfl, La', h6, h7, h8⟩
                have hro := HZ.out.2.2.1.step h7 h8
                have hwa := HZ.out.2.1.step h7 h8
                have hz6 := h6.a.only.size
                obtain ⟨bb, hbb⟩ : ∃ bb, bb = ((replay R1 (more.take i)).step x).2 := ⟨_, rfl⟩
                rw [← hbb]
                have H6 := Lib.hid (And.intro h6 (And.intro hro (And.intro hwa hbb)))
                clear h6 h7 h8 hro hwa hbb e0
                go_wp2_with (at_builtin; refine wpList_append_lies _ rfl _ _ _ rfl w1.heap.size 4 ib _ 1 1 Try.underlying51 hib0 hib1 hib2 hib3 rfl (by omega) _ (i) _ (by rfl) (own_alloc H6.out.2.1.row _) ⟨w6.heap.size, 0, none⟩ 1 1 [.bool bb] (by rfl) (by rfl) (World.news_of_block (cs := [Value.bool bb].toArray) (t := 4) (fr := (0, 0)) (heap_alloc_at' _ _ _ (by simp))) (by simp [Value.oneCell']) (by omega) (by simp only [maxLen]; omega) (by omega) (by have := hz6; simp; omega) (w6.heap.size + 1) (by simp) ?_; intro g7 cap7 w7 hown7 hgrow7 hat7 hlt7; have st7 := grown_stay hgrow7; have HG7 := Lib.hid (And.intro hown7 (And.intro st7 (And.intro hat7 hlt7))); clear hown7 hgrow7 hat7 hlt7 st7)
                go_roundg (p - (i + 1))
                case measure => have := HZ.out.2.2.2.2; omega
                case rel =>
                  obtain ⟨h6, hro, hwa, hbb⟩ := H6.out
                  have hst : Stay (fun k => (Value.slice Ao i co).ownBlock = some k) w6 w7 := ((Stay.refl _ w6).alloc _).trans HG7.out.2.1 (fun _ _ h => h)
                  refine ⟨i + 1, La', by omega, rfl, by go_num, ?_, hwa.stay hst (fun g hg e => own_ne hwa.row hro.row (by decide) |>.elim (fun h => by rw [h] at hg; cases hg) (fun h => h (hg.trans e.symm))), ?_, fun g hg => ?_⟩
                  · rw [replay_take hil, ← HZ.out.2.2.2.1]
                    exact h6.stay hst (fun k hk => hro.x k hk)
                  · rw [trail_take hil, ← HZ.out.2.2.2.1, ← hbb]
                    unfold bools
                    rw [List.map_append]
                    exact HG7.out.1
                  · have e : g7 = g := by simpa [Value.ownBlock] using hg
                    subst e
                    rcases HG7.out.2.2.1 with h | h
                    · exact hro.la _ h
                    · refine ⟨?_, ?_⟩
                      · by_cases h0 : La' g7 = 0
                        · exact h0
                        · have := h6.a.race.lab g7 h0; omega
                      · by_cases h0 : L2 g7 = 0
                        · exact h0
                        · have := h6.b.race.lab g7 h0; omega
              · obtain rfl : i = p := by omega
                obtain ⟨T, hT⟩ : ∃ T, T = trail R1 (more.take i) := ⟨_, rfl⟩
                obtain ⟨Rf, hRf⟩ : ∃ Rf, Rf = replay R1 (more.take i) := ⟨_, rfl⟩
                rw [← hRf] at hBo
                rw [← hT] at hRo
                have hTl : i = T.length := by rw [hT, trail_len, List.length_take]; have := HS.out.2.2.2.2.2; omega
                have HZ := Lib.hid (And.intro hBo (And.intro hWa (And.intro hRo (And.intro hT (And.intro hRf hTl)))))
                have HW := Lib.hid H5.out.2.2
                clear hBo hWa hRo hk hT hRf hTl
                go_wp2_with fail
                refine (rest_any HZ.out.1.b.race).mono ?_
                rintro e w6 ⟨v6, rfl, hr6, ho6⟩
                rw [← HW.out] at hr6
                obtain ⟨A6, c6, rfl⟩ := own_shape hr6
                have H6 := Lib.hid (And.intro hr6 ho6)
                clear hr6 ho6
                go_wp2_with fail
                refine (eqI_any w6 A6 A5 c6 c5 was was (own_sl H6.out.1 (Stay.refl _ _)) (own_sl HZ.out.2.1.row H6.out.2)).mono ?_
                rintro e w7 ⟨rfl, ho7⟩
                rw [show (was == was) = true from beq_self_eq_true was]
                have H7 := Lib.hid (H6.out.2.trans' ho7)
                clear ho7
                go_upto_region 21 with fail
                go_cut [77, 78, 79] from 73 to 76 (fun a b k wc => ∃ m : Nat, m = min q 100 ∧ a = .slice D m cd ∧ b = .int .i64 (m : Nat) ∧ k = .int .i64 0 ∧ w7 = wc)
                case first =>
                  go_wp2_with fail
                  go_meet
                  case rel => exact ⟨min q 100, rfl, congrArg (fun x => Value.slice D x cd) (by omega), congrArg (Value.int .i64) (by omega), rfl, rfl⟩
                case rest =>
                  obtain ⟨p2, hp2, rfl, rfl, rfl, rfl⟩ := hcut
                  obtain rfl : p2 = i := by have := HP.out; omega
                  clear hp2
                  go_wp2_with fail
                  go_loopg [14, 79] p2 (fun kk vo vj wr => ∃ (j2 : Nat) (Lr : Nat → Nat), j2 ≤ p2 ∧ kk = p2 - j2 ∧ vj = .int .i64 (j2 : Nat) ∧ Both w1 wr Lr b (replay R1 (more.take j2)) La c Rf ∧ Apart w1 wr Lr La 4 (.slice Ao p2 co) p2 (bools T) ∧ Apart w1 wr Lr La 4 vo j2 (bools (trail R1 (more.take j2))) ∧ Off (.slice Ao p2 co) vo)
                  case atStart => exact ⟨0, L2, Nat.zero_le _, rfl, rfl, (HZ.out.1.then H7.out).swap, (HZ.out.2.2.1.then H7.out).swap, ⟨World.ownsRow_nil _ _ _ _, fun g hg => by simp [Value.ownBlock] at hg⟩, fun g _ hg => by simp [Value.ownBlock] at hg⟩
                  case round =>
                    obtain ⟨j2, Lr, hj2, hk2, rfl, hBo, hR1, hR2, hof⟩ := hrel
                    obtain ⟨wy, hwy⟩ : ∃ wy : World, wy = wr := ⟨_, rfl⟩
                    rw [← hwy] at hBo hR1 hR2 ⊢
                    clear hwy
                    obtain ⟨At, ct, rfl⟩ := own_shape hR2.row
                    by_cases hlt3 : j2 < p2
                    · have hil : j2 < more.length := by have := HS.out.2.2.2.2.2; omega
                      obtain ⟨xb, xo, rfl, hxb, hxc⟩ := (Sl.up (Sl.up HS.out.2.2.2.1 H1.out) hBo.a.only).ints_at (by omega)
                      have e0 := hxc j2 hil
                      obtain ⟨x, hxe⟩ : ∃ x, x = more.getD j2 0 := ⟨_, rfl⟩
                      rw [← hxe] at e0
                      have HY := Lib.hid (And.intro hBo (And.intro hR1 (And.intro hR2 (And.intro hof (And.intro hxe hk2)))))
                      clear hBo hR1 hR2 hof hxe hk2 hxc
                      go_wp2_with fail
                      refine (both_step HY.out.1 x).mono ?_
                      rintro e w8 ⟨rfl, Lr', h8, h9, h10⟩
                      have hro := HY.out.2.2.1.step h9 h10
                      have hone := HY.out.2.1.step h9 h10
                      have hz8 := h8.a.only.size
                      obtain ⟨bb, hbb⟩ : ∃ bb, bb = ((replay R1 (more.take j2)).step x).2 := ⟨_, rfl⟩
                      rw [← hbb]
                      have H8 := Lib.hid (And.intro h8 (And.intro hro (And.intro hone hbb)))
                      clear h8 h9 h10 hro hone hbb e0
                      go_wp2_with (at_builtin; refine wpList_append_lies _ rfl _ _ _ rfl w1.heap.size 4 ib _ 1 1 Try.underlying51 hib0 hib1 hib2 hib3 rfl (by omega) _ (j2) _ (by rfl) (own_alloc H8.out.2.1.row _) ⟨w8.heap.size, 0, none⟩ 1 1 [.bool bb] (by rfl) (by rfl) (World.news_of_block (cs := [Value.bool bb].toArray) (t := 4) (fr := (0, 0)) (heap_alloc_at' _ _ _ (by simp))) (by simp [Value.oneCell']) (by omega) (by simp only [maxLen]; omega) (by omega) (by have := hz8; simp; omega) (w8.heap.size + 1) (by simp) ?_; intro g9 cap9 w9 hown9 hgrow9 hat9 hlt9; have st9 := grown_stay hgrow9; have HG9 := Lib.hid (And.intro hown9 (And.intro st9 (And.intro hat9 hlt9))); clear hown9 hgrow9 hat9 hlt9 st9)
                      go_roundg (p2 - (j2 + 1))
                      case measure => have := HY.out.2.2.2.2.2; omega
                      case rel =>
                        obtain ⟨h8, hro, hone, hbb⟩ := H8.out
                        have hst : Stay (fun k => (Value.slice At j2 ct).ownBlock = some k) w8 w9 := ((Stay.refl _ w8).alloc _).trans HG9.out.2.1 (fun _ _ h => h)
                        refine ⟨j2 + 1, Lr', by omega, rfl, by go_num, ?_, hone.stay hst (fun g hg e => HY.out.2.2.2.1 g hg e), ⟨?_, fun g hg => ?_⟩, fun g hg hg2 => ?_⟩
                        · rw [replay_take hil, ← HY.out.2.2.2.2.1]
                          exact h8.stay hst (fun k hk => hro.x k hk)
                        · rw [trail_take hil, ← HY.out.2.2.2.2.1, ← hbb]
                          unfold bools
                          rw [List.map_append]
                          exact HG9.out.1
                        · have e : g9 = g := by simpa [Value.ownBlock] using hg
                          subst e
                          rcases HG9.out.2.2.1 with h | h
                          · exact hro.la _ h
                          · refine ⟨?_, ?_⟩
                            · by_cases h0 : Lr' g9 = 0
                              · exact h0
                              · have := h8.a.race.lab g9 h0; omega
                            · by_cases h0 : La g9 = 0
                              · exact h0
                              · have := h8.b.race.lab g9 h0; omega
                        · have e : g9 = g := by simpa [Value.ownBlock] using hg2
                          subst e
                          rcases HG9.out.2.2.1 with h | h
                          · exact HY.out.2.2.2.1 _ hg h
                          · have := (own_lt hone.row g9 hg).2
                            omega
                    · obtain rfl : j2 = p2 := by omega
                      rw [← HZ.out.2.2.2.1] at hR2
                      rw [← HZ.out.2.2.2.2.1] at hBo
                      have hTl := HZ.out.2.2.2.2.2
                      rw [hTl] at hR1 hR2
                      have hE := eqB_any wy Ao At co ct T (own_sl hR1.row (Stay.refl _ _)) (own_sl hR2.row (Stay.refl _ _))
                      rw [← hTl] at hE
                      have HY := Lib.hid (And.intro hBo hE)
                      clear hBo hR1 hR2 hof hk2 hTl hE
                      go_wp2_with fail
                      refine HY.out.2.mono ?_
                      rintro e w8 ⟨rfl, h8⟩
                      have H8 := Lib.hid (HY.out.1.then h8)
                      clear h8
                      go_wp2_with fail
                      refine (rest_any H8.out.a.race).mono ?_
                      rintro e w9 ⟨v9, rfl, hr9, ho9⟩
                      obtain ⟨A9, c9, rfl⟩ := own_shape hr9
                      have H9 := Lib.hid (And.intro (H8.out.then ho9) hr9)
                      clear hr9 ho9
                      obtain ⟨rf, hrf⟩ : ∃ rf, rf = Rf.rest := ⟨_, rfl⟩
                      rw [← hrf] at H9 ⊢
                      have HRF := Lib.hid hrf
                      clear hrf
                      go_wp2_with fail
                      refine (rest_any H9.out.1.b.race).mono ?_
                      rintro e w10 ⟨v10, rfl, hr10, ho10⟩
                      rw [← HRF.out] at hr10
                      obtain ⟨A10, c10, rfl⟩ := own_shape hr10
                      have H10 := Lib.hid (And.intro (H9.out.1.then ho10) (And.intro hr10 ho10))
                      clear hr10 ho10 HRF
                      go_wp2_with fail
                      refine (eqI_any w10 A9 A10 c9 c10 rf rf (own_sl H9.out.2 H10.out.2.2) (own_sl H10.out.2.1 (Stay.refl _ _))).mono ?_
                      rintro e w11 ⟨rfl, ho11⟩
                      rw [show (rf == rf) = true from beq_self_eq_true rf]
                      have H11 := Lib.hid (H10.out.1.then ho11)
                      clear ho11
                      go_wp2_with fail
                      refine (got_any H11.out.a.race 0).mono ?_
                      rintro e w12 ⟨v12, rfl, hr12, ho12⟩
                      obtain ⟨A12, c12, rfl⟩ := own_shape hr12
                      obtain ⟨gf, hgf⟩ : ∃ gf, gf = Rf.got 0 := ⟨_, rfl⟩
                      rw [← hgf] at hr12 ⊢
                      have HGF := Lib.hid hgf
                      clear hgf
                      have H12 := Lib.hid (And.intro (H11.out.then ho12) hr12)
                      clear hr12 ho12
                      go_wp2_with fail
                      refine (got_any H12.out.1.b.race 0).mono ?_
                      rintro e w13 ⟨v13, rfl, hr13, ho13⟩
                      rw [← HGF.out] at hr13
                      obtain ⟨A13, c13, rfl⟩ := own_shape hr13
                      have H13 := Lib.hid (And.intro (H12.out.1.then ho13) (And.intro hr13 ho13))
                      clear hr13 ho13 HGF
                      go_wp2_with fail
                      refine (eqI_any w13 A12 A13 c12 c13 gf gf (own_sl H12.out.2 H13.out.2.2) (own_sl H13.out.2.1 (Stay.refl _ _))).mono ?_
                      rintro e w14 ⟨rfl, ho14⟩
                      rw [show (gf == gf) = true from beq_self_eq_true gf]
                      have H14 := Lib.hid (H1.out.trans' (H13.out.1.a.only.trans' ho14))
                      clear ho14
                      go_wp2_with fail
                      refine (awake_any w14).mono ?_
                      rintro e w15 ⟨rfl, h15⟩
                      have H15 := Lib.hid (H14.out.trans' h15)
                      clear h15
                      go_wp2_with fail
                      go_ret
                      exact ⟨rfl, H15.out⟩
  · refine (made_no w w1 H1.out room own thv A B ca cb (Sl.up HS.out.1 H1.out) (Sl.up HS.out.2.1 H1.out) hv).mono ?_
    rintro e w2 ⟨rfl, h2⟩
    have H2 := Lib.hid (H1.out.trans' h2)
    clear h2
    go_wp2_with fail
    refine (awake_any w2).mono ?_
    rintro e w8 ⟨rfl, h8⟩
    have H8 := Lib.hid (H2.out.trans' h8)
    clear h8
    go_wp2_with fail
    go_ret
    exact ⟨rfl, H8.out⟩
end Go.Proofs.Ytfohaijdhgcneaa
