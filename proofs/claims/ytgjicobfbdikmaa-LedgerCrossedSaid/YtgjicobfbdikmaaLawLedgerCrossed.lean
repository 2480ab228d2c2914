/- LedgerCrossed: the walk. -/
import Derived.Test.YtgjicobfbdikmaaLedRun
import Derived.Test.YtgjicobfbdikmaaLedLaws
import Derived.Test.YtgjicobfbdikmaaIntEq
set_option linter.unusedVariables false
set_option linter.unusedSimpArgs false
namespace Go.Proofs.Ytgjicobfbdikmaa
open Go Go.RowKit

theorem cone_len (a b : List Ent) (i : Nat) : (cone a b i).length ≤ 1 := by
  unfold cone
  split
  · split
    · simp
    · split <;> simp
  · simp
theorem cfind_len (a b : List Ent) : ∀ n, (cfind a b n).length ≤ n
  | 0 => by simp [cfind]
  | n + 1 => by
    rw [cfind_succ, List.length_append]
    have := cfind_len a b n
    have := cone_len a b n
    omega
theorem release_len (L : Lg) (t x : Int) : (L.release t x).1.es.length = L.es.length := by
  unfold Lg.release
  split
  · rfl
  split
  · rfl
  · simp [Lg.cut, shut_length]
theorem cone_at {was now : List Ent} {i : Nat} {a b : Ent} (ha : was[i]? = some a) (hb : now[i]? = some b) : cone was now i = if a = b then [] else if cfound was i b = true then [(i : Int)] else [] := by
  unfold cone
  rw [ha, hb]

set_option maxRecDepth 100000 in
set_option maxHeartbeats 4000000 in
theorem ledgerCrossed_any (w : World) (A : Option Addr) (n ca : Nat) (ops : List LOp) (hl : Sl w w.heap.size A n ca 3 (ops.flatMap LOp.cells)) (hlen : ops.length = n) :
    Calls Try.prog 5 #[.slice A n ca] w fun e w' => e = .returned (.bool true) ∧ Only w w' := by
  obtain ⟨ii, hii0, hii1, hii2, hii3⟩ := info_parts infoI
  have HL := Lib.hid (And.intro hl hlen)
  have hnc := hl.2.1
  have hcm := hl.2.2.1
  clear hl hlen
  go_enter Try.func5, Try.ntmps5
  go_wp2_with fail
  refine (ol_new w).mono ?_
  rintro e w1 ⟨rfl, h1⟩
  have H1 := Lib.hid h1
  clear h1
  unfold ptr
  go_upto_region 3 with fail
  go_cut [17, 18, 19] from 13 to 16 (fun a b i wc => ∃ m : Nat, m = min n 100 ∧ a = .slice A m ca ∧ b = .int .i64 (m : Nat) ∧ i = .int .i64 0 ∧ w1 = wc)
  case first =>
    go_wp2_with fail
    go_meet
    case rel => exact ⟨min n 100, rfl, congrArg (fun x => Value.slice A x ca) (by omega), congrArg (Value.int .i64) (by omega), rfl, rfl⟩
  case rest =>
    obtain ⟨m, hm, rfl, rfl, rfl, rfl⟩ := hcut
    have hmn : m ≤ n := by omega
    have hm100 : m ≤ 100 := by omega
    have hmc : m ≤ ca := by omega
    have HM := Lib.hid hm
    clear hm
    go_wp2_with fail
    go_loopg [4, 19] m (fun kk vs vj wr => ∃ (j : Nat) (S : Nat → Prop) (L : Lg), j ≤ m ∧ kk = m - j ∧ vj = .int .i64 (j : Nat) ∧ OL w S (w.heap.size + 1) L wr ∧ L.Inv ∧ wr.ownsRow w.heap.size 3 1 vs L.cr.length (ints L.cr) ∧ ∀ g, vs.ownBlock = some g → ¬ S g)
    case atStart => exact ⟨0, _, _, Nat.zero_le _, rfl, rfl, H1.out, Lg.new_inv, World.ownsRow_nil _ _ _ _, fun g hg => by cases hg⟩
    case round =>
      obtain ⟨j, S, L, hj, hk, rfl, hOT, hI, hr, hsep⟩ := hrel
      obtain ⟨Aw, cw, rfl⟩ := own_shape hr
      obtain ⟨wq, rfl⟩ : ∃ wq : World, wq = wr := ⟨_, rfl⟩
      by_cases hlt : j < m
      · obtain ⟨o, ho⟩ : ∃ o, ops[j]? = some o := ⟨_, List.getElem?_eq_getElem (by have := HL.out.2; omega)⟩
        obtain ⟨ab, ao, rfl, hab, hcells⟩ := (HL.out.1.only hOT.only).elem LOp.cells_length ho (by omega)
        have g0 := hcells 0 _ rfl
        simp only [Nat.add_zero] at g0
        have g1 := hcells 1 _ rfl
        have g2 := hcells 2 _ rfl
        have HX := Lib.hid (And.intro hOT (And.intro hI (And.intro hk (And.intro hr hsep))))
        clear hOT hcells ho hk hI hr hsep
        go_upto_region 6 with fail
        obtain ⟨wo, hwo⟩ : ∃ wo : World, wo = wq.alloc (.cells #[.int .i64 o.kind, .int .i64 o.task, .int .i64 o.what] 33) := ⟨_, rfl⟩
        have hOo : Only wq wo := by rw [hwo]; exact (Stay.refl _ wq).alloc _
        have hzo : wo.heap.size = wq.heap.size + 1 := by rw [hwo]; simp
        have hBo : Blk wo wq.heap.size 33 [.int .i64 o.kind, .int .i64 o.task, .int .i64 o.what] := by rw [hwo]; exact Blk.new wq [.int .i64 o.kind, .int .i64 o.task, .int .i64 o.what] _
        rw [← hwo]
        have HO := Lib.hid (And.intro hOo hBo)
        clear hwo hOo hBo
        go_wp2_with fail
        refine (log_any wo _ _ L (HX.out.1.then HO.out.1).at' HX.out.1.ok).mono ?_
        rintro e w2 ⟨vn, rfl, hr2, hO2⟩
        obtain ⟨An, cn, rfl⟩ := own_shape hr2
        have hq2 := (HO.out.1.trans' hO2).size
        have B2 := hO2.blk HO.out.2
        have q0 := B2.cell
        have lq := B2.lt
        have H2 := Lib.hid (And.intro (HX.out.1.then (HO.out.1.trans' hO2)) (And.intro hr2 (And.intro hO2 B2)))
        clear hr2 hO2 B2
        go_wp2_with fail
        refine (run_any H2.out.1 o).mono ?_
        rintro e w3 ⟨rfl, hT3, hs3⟩
        have hI3 := HX.out.2.1.step o
        have hsz3 := hs3.size
        have hr3 := own_stay hs3 (own_only (HO.out.1.trans' H2.out.2.2.1) HX.out.2.2.2.1) (fun g hg => HX.out.2.2.2.2 g hg)
        have hn3 := own_stay hs3 H2.out.2.1 (fun g hg hS => by have h1 := (own_lt H2.out.2.1 g hg).1; have h2 := HX.out.1.at'.lt g hS; omega)
        have B3 := hs3.blk H2.out.2.2.2 (fun hS => by have := HX.out.1.at'.lt _ hS; omega)
        have q3 := B3.cell
        have lq3 := B3.lt
        have hsep3 : ∀ g, (Value.slice Aw L.cr.length cw).ownBlock = some g → ¬ grow S w2 w3 g := fun g hg hS => by
          rcases hS with hS | hS
          · exact HX.out.2.2.2.2 g hg hS
          · have := (own_lt HX.out.2.2.2.1 g hg).2
            omega
        have H3 := Lib.hid (And.intro hT3 (And.intro hI3 (And.intro hr3 (And.intro hn3 (And.intro hsep3 B3)))))
        clear hT3 hs3 hI3 hr3 hn3 B3 hsep3 q0 lq
        by_cases hk1 : o.kind = 1
        · have b1 : (o.kind != 1) = false := by simp [hk1]
          have hL' : L.step o = (L.release o.task o.what).1 := by unfold Lg.step; rw [if_neg (by omega), if_pos hk1]
          obtain ⟨L', hLe⟩ : ∃ L', L.step o = L' := ⟨_, rfl⟩
          rw [hLe] at H3 hL'
          have hcr : L'.cr = L.cr ++ cfind L.es L'.es L'.es.length := by rw [hL']; exact cr_release HX.out.2.1.toCore _ _
          have hll : L'.es.length = L.es.length := by rw [hL']; exact release_len _ _ _
          have HC := Lib.hid hcr
          clear hk1 hL' hLe hcr
          go_wp2_with fail
          refine (log_any w3 _ _ L' H3.out.1.at' H3.out.1.ok).mono ?_
          rintro e w4 ⟨vm, rfl, hr4, hO4⟩
          obtain ⟨Am, cm, rfl⟩ := own_shape hr4
          have hsz4 := hO4.size
          have hl4 : L.es.length ≤ 400 := HX.out.1.ok.n
          have hc8 : L.cr.length ≤ 800 := by have := HX.out.1.ok.cl; have := HX.out.1.ok.time_le; omega
          have H4 := Lib.hid (And.intro hO4 (And.intro hr4 (And.intro (own_only hO4 H3.out.2.2.1) (own_only hO4 H3.out.2.2.2.1))))
          rw [hll]
          rw [hll] at H4
          clear hO4 hr4
          go_wp2_with fail
          go_loopg [4, 34] (L.es.length) (fun kk v4 vi wr => ∃ (i : Nat), i ≤ L.es.length ∧ kk = L.es.length - i ∧ vi = .int .i64 (i : Nat) ∧ wr.ownsRow w.heap.size 3 1 v4 (L.cr ++ cfind L.es L'.es i).length (ints (L.cr ++ cfind L.es L'.es i)) ∧ Next w4 (.slice Aw L.cr.length cw) v4 ∧ Stay (fun k => (Value.slice Aw L.cr.length cw).ownBlock = some k) w4 wr)
          case atStart => exact ⟨0, Nat.zero_le _, rfl, rfl, by simpa [cfind] using H4.out.2.2.1, Next.refl _ _, Stay.refl _ _⟩
          case round =>
            obtain ⟨i, hi, hk2, rfl, hr5, hnx5, hx5⟩ := hrel
            obtain ⟨q, hq⟩ : ∃ q, q = (L.cr ++ cfind L.es L'.es i).length := ⟨_, rfl⟩
            rw [← hq] at hr5
            have hq12 : q ≤ 1200 := by have := cfind_len L.es L'.es i; rw [hq, List.length_append]; omega
            obtain ⟨A5, c5, rfl⟩ := own_shape hr5
            obtain ⟨w5, rfl⟩ : ∃ w5 : World, w5 = wr := ⟨_, rfl⟩
            by_cases hlt2 : i < L.es.length
            · obtain ⟨a, ha⟩ : ∃ a, L.es[i]? = some a := ⟨_, List.getElem?_eq_getElem hlt2⟩
              obtain ⟨x, hx⟩ : ∃ x, L'.es[i]? = some x := ⟨_, List.getElem?_eq_getElem (by omega)⟩
              have hwas := own_stay hx5 H4.out.2.2.2 (own_off H4.out.2.2.2 H4.out.2.2.1 (by decide))
              have hnow := own_stay hx5 H4.out.2.1 (own_off H4.out.2.1 H4.out.2.2.1 (by decide))
              obtain ⟨gw, cgw, e1, _, _⟩ := hwas.form (by omega)
              obtain ⟨rfl, rfl⟩ : An = some ⟨gw, 0, none⟩ ∧ cn = cgw := by simpa using e1
              obtain ⟨xb, xo, rfl, hxb, hxc⟩ := (own_sl' hnow).elem Ent.cells_length (by exact hx) (by omega)
              have lgw := (own_lt hwas gw rfl).2
              have a0 := hwas.cellAt (i * 4) (by omega)
              have a1 := hwas.cellAt (i * 4 + 1) (by omega)
              have a2 := hwas.cellAt (i * 4 + 2) (by omega)
              have a3 := hwas.cellAt (i * 4 + 3) (by omega)
              rw [show (L.es.flatMap Ent.cells)[i * 4]? = some (.int .i64 a.what) from flat_at Ent.cells 4 Ent.cells_length L.es i a 0 ha (by omega)] at a0
              rw [flat_at Ent.cells 4 Ent.cells_length L.es i a 1 ha (by omega)] at a1
              rw [flat_at Ent.cells 4 Ent.cells_length L.es i a 2 ha (by omega)] at a2
              rw [flat_at Ent.cells 4 Ent.cells_length L.es i a 3 ha (by omega)] at a3
              replace a1 : w5.cell? ⟨gw, i * 4 + 1, none⟩ = some (.int .i64 a.task) := a1
              replace a2 : w5.cell? ⟨gw, i * 4 + 2, none⟩ = some (.int .i64 a.fr) := a2
              replace a3 : w5.cell? ⟨gw, i * 4 + 3, none⟩ = some (.int .i64 a.to) := a3
              have e0 := hxc 0 _ rfl
              have e1 := hxc 1 _ rfl
              have e2 := hxc 2 _ rfl
              have e3 := hxc 3 _ rfl
              simp only [Nat.add_zero] at e0 e1 e2 e3
              have u1 : (0 : Int) ≤ (i : Int) := by omega
              have u2 : (i : Int) < (L.es.length : Int) := by omega
              have u3 : ¬ (L.es.length : Int) ≤ (i : Int) := by omega
              have hcone := cone_at ha hx
              have hlc := cfind_len L.es L'.es i
              have hzz := hx5.size
              have HI := Lib.hid (And.intro hk2 (And.intro hr5 (And.intro hnx5 (And.intro hx5 (And.intro hwas (And.intro ha (And.intro hcone hq)))))))
              clear hq hk2 hr5 hnx5 hx5 hwas hnow hxc ha hx hcone g0 g1 g2 q3 lq3
              go_upto_region 12 with fail
              go_cut [34, 50] from 34 to 75 (fun v34 v wx => v34 = .int .i64 (i : Nat) ∧ v = .bool (decide (a = x)) ∧ wx = (w5.alloc (.cells #[.int .i64 x.what, .int .i64 x.task, .int .i64 x.fr, .int .i64 x.to] 36)).drew)
              case first =>
                by_cases exy : a = x
                · subst exy
                  go_region
                  all_goals
                    go_wp2_with fail
                    go_meet
                    case rel => exact ⟨rfl, by simp, rfl⟩
                · have hF : decide (a = x) = false := decide_eq_false exy
                  rcases Ent.parts exy with q1 | ⟨q1, q2⟩ | ⟨q1, q2, q3⟩ | ⟨q1, q2, q3, q4⟩
                  all_goals
                    clear exy
                    go_region
                    all_goals
                      go_wp2_with fail
                      go_meet
                      case rel => exact ⟨rfl, by rw [hF], rfl⟩
              case rest =>
                obtain ⟨rfl, rfl, hwx⟩ := hcut
                have hOx : Only w5 wc := by rw [hwx]; exact ((Stay.refl _ w5).alloc _).drew
                have hBx : Blk wc w5.heap.size 36 [.int .i64 x.what, .int .i64 x.task, .int .i64 x.fr, .int .i64 x.to] := by rw [hwx]; exact (Blk.new w5 [.int .i64 x.what, .int .i64 x.task, .int .i64 x.fr, .int .i64 x.to] _).drew
                have hzx : wc.heap.size = w5.heap.size + 1 := by rw [hwx]; simp
                have HB := Lib.hid (And.intro hOx hBx)
                clear hwx hOx hBx a0 a1 a2 a3 e0 e1 e2 e3
                by_cases exy : a = x
                · have hd : decide (a = x) = true := decide_eq_true exy
                  rw [hd]
                  have HE := Lib.hid exy
                  clear exy hd
                  go_wp2_with fail
                  go_roundg (L.es.length - (i + 1))
                  case measure => have := HI.out.1; omega
                  case rel =>
                    have hl5 : L.cr ++ cfind L.es L'.es (i + 1) = L.cr ++ cfind L.es L'.es i := by rw [cfind_succ, HI.out.2.2.2.2.2.2.1, if_pos HE.out, List.append_nil]
                    refine ⟨i + 1, by omega, rfl, by go_num, ?_, HI.out.2.2.1, HI.out.2.2.2.1.trans HB.out.1 (fun _ _ h => h.elim)⟩
                    rw [hl5, ← HI.out.2.2.2.2.2.2.2]
                    exact own_only HB.out.1 HI.out.2.1
                · have hd : decide (a = x) = false := decide_eq_false exy
                  rw [hd]
                  have HE := Lib.hid exy
                  clear exy hd
                  have hcnl : L.es.length ≤ cn ∧ cn ≤ 9223372036854775807 := by have := (own_sl' HI.out.2.2.2.2.1).2.1; have := (own_sl' HI.out.2.2.2.2.1).2.2.1; omega
                  obtain ⟨hcn1, hcn2⟩ := hcnl
                  have u4 : (0 : Int) ≤ (i : Int) + 1 := by omega
                  have u5 : (i : Int) + 1 ≤ (L.es.length : Int) := by omega
                  have u6 : (L.es.length : Int) ≤ (cn : Int) := by omega
                  by_cases hcc : cn = i + 1
                  · subst hcc
                    have hli : L.es.length = i + 1 := by omega
                    have HF := Lib.hid (show cfound L.es i x = false by unfold cfound; rw [List.drop_of_length_le (by omega)]; rfl)
                    have u7 : (L.es.length : Int) - ((i : Int) + 1) = 0 := by omega
                    have u8 : L.es.length - (i + 1) = 0 := by omega
                    have HLI := Lib.hid hli
                    clear hli u7
                    go_wp2_with fail
                    go_loopg [4, 56] 0 (fun kk v4 vp wr => v4 = .slice A5 q c5 ∧ vp = .int .i64 0 ∧ Only wc wr)
                    case atStart => exact ⟨rfl, rfl, Stay.refl _ _⟩
                    case round =>
                      obtain ⟨rfl, rfl, hO6⟩ := hrel
                      have HP := Lib.hid hO6
                      clear hO6
                      go_wp2_with fail
                      go_roundg (L.es.length - (i + 1))
                      case measure => have := HI.out.1; omega
                      case rel =>
                        have hl5 : L.cr ++ cfind L.es L'.es (i + 1) = L.cr ++ cfind L.es L'.es i := by rw [cfind_succ, HI.out.2.2.2.2.2.2.1, if_neg HE.out, HF.out]; simp
                        refine ⟨i + 1, by omega, rfl, by go_num, ?_, HI.out.2.2.1, HI.out.2.2.2.1.trans (HB.out.1.trans' HP.out) (fun _ _ h => h.elim)⟩
                        rw [hl5, ← HI.out.2.2.2.2.2.2.2]
                        exact own_only (HB.out.1.trans' HP.out) HI.out.2.1
                  · go_upto_region 13 with fail
                    go_cut [54, 55, 56] from 51 to 56 (fun s n0 i0 wx => ∃ (k cd : Nat), k = L.es.length - (i + 1) ∧ s = .slice (some ⟨gw, (i + 1) * 4, none⟩) k cd ∧ n0 = .int .i64 (k : Int) ∧ i0 = .int .i64 0 ∧ wx = wc ∧ k ≤ cd)
                    case first =>
                      go_wp2_with fail
                      all_goals
                        go_meet
                        case rel => exact ⟨_, _, rfl, rfl, rfl, rfl, rfl, by omega⟩
                    case rest =>
                      obtain ⟨k, cd, hkk, rfl, rfl, rfl, rfl, hkcd⟩ := hcut
                      have HK := Lib.hid hkk
                      have hk400 : k ≤ 400 := by omega
                      have xk := HB.out.2.cell
                      have xl := HB.out.2.lt
                      clear hkk
                      go_wp2_with fail
                      go_loopg [4, 56] k (fun kk v4 vp wr => ∃ (p : Nat), p ≤ k ∧ kk = k - p ∧ v4 = .slice A5 q c5 ∧ vp = .int .i64 (p : Nat) ∧ Only wc wr ∧ ∀ r, r < p → ∀ y, L.es[i + 1 + r]? = some y → ¬ (y.task = x.task ∧ y.to = 0))
                      case atStart => exact ⟨0, Nat.zero_le _, rfl, rfl, rfl, Stay.refl _ _, fun r hr => absurd hr (by omega)⟩
                      case round =>
                        obtain ⟨p, hp, hk3, rfl, rfl, hO6, hno⟩ := hrel
                        obtain ⟨w6, rfl⟩ : ∃ w6 : World, w6 = wr := ⟨_, rfl⟩
                        by_cases hlt3 : p < k
                        · obtain ⟨y, hy⟩ : ∃ y, L.es[i + 1 + p]? = some y := ⟨_, List.getElem?_eq_getElem (by have := HK.out; omega)⟩
                          have hwas := own_only (HB.out.1.trans' hO6) HI.out.2.2.2.2.1
                          have ey : (i + 1 + p) * 4 = (i + 1) * 4 + p * 4 := by omega
                          have a0 := hwas.cellAt ((i + 1 + p) * 4) (by have := HK.out; omega)
                          have a1 := hwas.cellAt ((i + 1 + p) * 4 + 1) (by have := HK.out; omega)
                          have a2 := hwas.cellAt ((i + 1 + p) * 4 + 2) (by have := HK.out; omega)
                          have a3 := hwas.cellAt ((i + 1 + p) * 4 + 3) (by have := HK.out; omega)
                          rw [show (L.es.flatMap Ent.cells)[(i + 1 + p) * 4]? = some (.int .i64 y.what) from flat_at Ent.cells 4 Ent.cells_length L.es (i + 1 + p) y 0 hy (by omega)] at a0
                          rw [flat_at Ent.cells 4 Ent.cells_length L.es (i + 1 + p) y 1 hy (by omega)] at a1
                          rw [flat_at Ent.cells 4 Ent.cells_length L.es (i + 1 + p) y 2 hy (by omega)] at a2
                          rw [flat_at Ent.cells 4 Ent.cells_length L.es (i + 1 + p) y 3 hy (by omega)] at a3
                          replace a1 : w6.cell? ⟨gw, (i + 1 + p) * 4 + 1, none⟩ = some (.int .i64 y.task) := a1
                          replace a2 : w6.cell? ⟨gw, (i + 1 + p) * 4 + 2, none⟩ = some (.int .i64 y.fr) := a2
                          replace a3 : w6.cell? ⟨gw, (i + 1 + p) * 4 + 3, none⟩ = some (.int .i64 y.to) := a3
                          rw [ey] at a0 a1 a2 a3
                          have lgw6 := (own_lt hwas gw rfl).2
                          have B6 := hO6.blk HB.out.2
                          have x6 := B6.cell
                          have l6 := B6.lt
                          have r6 := own_only (HB.out.1.trans' hO6) HI.out.2.1
                          have z6 := hO6.size
                          have u7 : (0 : Int) ≤ (p : Int) := by omega
                          have u8 : (p : Int) < (k : Int) := by omega
                          have HP := Lib.hid (And.intro hk3 (And.intro hO6 (And.intro hno (And.intro hy r6))))
                          clear hk3 hO6 hno hy r6 hwas B6 ey
                          by_cases ht : y.task = x.task
                          · have t1 : (y.task == x.task) = true := by simp [ht]
                            by_cases h0 : y.to = 0
                            · have t2 : (y.to == 0) = true := by simp [h0]
                              have HT := Lib.hid (And.intro ht h0)
                              clear ht h0
                              have hq0 : w.heap.size ≤ w6.heap.size := by have := HX.out.1.only.size; omega
                              go_wp2_with (at_builtin; refine wpList_append_lies _ rfl _ _ _ rfl w.heap.size 3 ii _ 1 8 Try.underlying37 hii0 hii1 hii2 hii3 rfl (by omega) _ q _ (by rfl) (own_alloc (own_alloc HP.out.2.2.2.2 _) _) ⟨w6.heap.size + 1, 0, none⟩ 1 1 [.int .i64 (i : Int)] (by rfl) (by rfl) (World.news_of_block (cs := [Value.int .i64 (i : Int)].toArray) (t := 3) (fr := (0, 0)) (heap_alloc_at' _ _ _ (by simp))) (by simp [Value.oneCell']) (by omega) (by simp only [maxLen]; omega) (by omega) (by simp; omega) (w6.heap.size + 2) (by simp) ?_; intro g8 cap8 w8 hown hgrow hat hlt2; have HG8 := Lib.hid (And.intro hown (And.intro hgrow hat)); clear hown hgrow hat hlt2)
                              have hx8 : Stay (fun j => (Value.slice A5 q c5).ownBlock = some j) w6 w8 := (((Stay.refl _ w6).alloc _).alloc _).trans (grown_stay HG8.out.2.1) (fun _ _ h => h)
                              have hf : cfound L.es i x = true := by
                                unfold cfound
                                rw [List.any_eq_true]
                                exact ⟨y, List.mem_of_getElem? (i := p) (by rw [List.getElem?_drop]; exact HP.out.2.2.2.1), decide_eq_true HT.out⟩
                              go_roundg (L.es.length - (i + 1))
                              case measure => have := HI.out.1; omega
                              case rel =>
                                have hl5 : L.cr ++ cfind L.es L'.es (i + 1) = (L.cr ++ cfind L.es L'.es i) ++ [(i : Int)] := by rw [cfind_succ, HI.out.2.2.2.2.2.2.1, if_neg HE.out, if_pos hf, List.append_assoc]
                                have hst : Stay (fun k => (Value.slice Aw L.cr.length cw).ownBlock = some k) w4 w8 := (HI.out.2.2.2.1.trans (HB.out.1.trans' HP.out.2.1) (fun _ _ h => h.elim)).trans hx8 (fun k hk e => by
                                  rcases HI.out.2.2.1 k e with h | h
                                  · exact h
                                  · omega)
                                refine ⟨i + 1, by omega, rfl, by go_num, ?_, fun g' hg' => ?_, hst⟩
                                · rw [hl5, List.length_append, ← HI.out.2.2.2.2.2.2.2]
                                  have := HG8.out.1
                                  simpa [ints] using this
                                · have e : g8 = g' := by simpa [Value.ownBlock] using hg'
                                  subst e
                                  rcases HG8.out.2.2 with h | h
                                  · exact HI.out.2.2.1 g8 h
                                  · exact .inr (by omega)
                            · have t2 : (y.to == 0) = false := by simp [h0]
                              have HT := Lib.hid h0
                              clear ht h0
                              go_wp2_with fail
                              go_roundg (k - (p + 1))
                              case measure => have := HP.out.1; omega
                              case rel => exact ⟨p + 1, by omega, rfl, rfl, by go_num, HP.out.2.1.alloc _, fun r hr y' hy' => by
                                by_cases e : r = p
                                · subst e
                                  rw [HP.out.2.2.2.1] at hy'
                                  cases hy'
                                  exact fun h => HT.out h.2
                                · exact HP.out.2.2.1 r (by omega) y' hy'⟩
                          · have t1 : (y.task == x.task) = false := by simp [ht]
                            have HT := Lib.hid ht
                            clear ht
                            go_wp2_with fail
                            go_roundg (k - (p + 1))
                            case measure => have := HP.out.1; omega
                            case rel => exact ⟨p + 1, by omega, rfl, rfl, by go_num, HP.out.2.1.alloc _, fun r hr y' hy' => by
                              by_cases e : r = p
                              · subst e
                                rw [HP.out.2.2.2.1] at hy'
                                cases hy'
                                exact fun h => HT.out h.1
                              · exact HP.out.2.2.1 r (by omega) y' hy'⟩
                        · obtain rfl : p = k := by omega
                          have HP := Lib.hid (And.intro hO6 hno)
                          clear hk3 hO6 hno
                          go_wp2_with fail
                          have hf : cfound L.es i x = false := by
                            unfold cfound
                            rw [List.any_eq_false]
                            intro y hy
                            obtain ⟨r, hr⟩ := List.getElem?_of_mem hy
                            rw [List.getElem?_drop] at hr
                            have := HK.out
                            have := (List.getElem?_eq_some_iff.1 hr).1
                            simpa using HP.out.2 r (by omega) y hr
                          go_roundg (L.es.length - (i + 1))
                          case measure => have := HI.out.1; omega
                          case rel =>
                            have hl5 : L.cr ++ cfind L.es L'.es (i + 1) = L.cr ++ cfind L.es L'.es i := by rw [cfind_succ, HI.out.2.2.2.2.2.2.1, if_neg HE.out, hf]; simp
                            refine ⟨i + 1, by omega, rfl, by go_num, ?_, HI.out.2.2.1, HI.out.2.2.2.1.trans (HB.out.1.trans' HP.out.1) (fun _ _ h => h.elim)⟩
                            rw [hl5, ← HI.out.2.2.2.2.2.2.2]
                            exact own_only (HB.out.1.trans' HP.out.1) HI.out.2.1
            · obtain rfl : i = L.es.length := by omega
              have HI := Lib.hid (And.intro hr5 (And.intro hnx5 (And.intro hx5 hq)))
              clear hk2 hr5 hnx5 hx5 hq
              go_wp2_with fail
              go_roundg (m - (j + 1))
              case measure => have := HX.out.2.2.1; omega
              case rel =>
                have hcr := HC.out
                rw [hll] at hcr
                refine ⟨j + 1, _, L', by omega, rfl, by go_num, (H3.out.1.then H4.out.1).side HI.out.2.2.1 (fun k hk e => H3.out.2.2.2.2.1 k e hk) (fun k e => (own_lt HX.out.2.2.2.1 k e).1), H3.out.2.1, ?_, fun g hg hk => ?_⟩
                · rw [hcr, ← HI.out.2.2.2]
                  exact HI.out.1
                · rcases HI.out.2.1 g hg with h | h
                  · exact H3.out.2.2.2.2.1 g h hk
                  · have := H3.out.1.at'.lt g hk
                    omega
        · have b1 : (o.kind != 1) = true := by simp [hk1]
          have hcr := cr_other (L := L) o hk1
          have HC := Lib.hid hcr
          clear hk1 hcr
          go_wp2_with fail
          go_roundg (m - (j + 1))
          case measure => have := HX.out.2.2.1; omega
          case rel =>
            exact ⟨j + 1, _, _, by omega, rfl, by go_num, H3.out.1, H3.out.2.1, by rw [HC.out]; exact H3.out.2.2.1, H3.out.2.2.2.2.1⟩
      · obtain rfl : j = m := by omega
        have hc8 : L.cr.length ≤ 800 := by have := hI.ok.cl; have := hI.ok.time_le; omega
        have HX := Lib.hid (And.intro hOT (And.intro hI (And.intro hr hsep)))
        clear hOT hI hk hr hsep
        go_wp2_with fail
        refine (sortI_any wq w.heap.size (.slice Aw L.cr.length cw) L.cr HX.out.2.2.1 (by omega)).mono ?_
        rintro e w5 ⟨rfl, hr5, hx5⟩
        have hO5 := HX.out.1.side hx5 (fun k hk e => HX.out.2.2.2 k e hk) (fun k e => (own_lt HX.out.2.2.1 k e).1)
        have H5 := Lib.hid (And.intro hO5 hr5)
        clear hO5 hr5 hx5
        go_wp2_with fail
        refine (crossed_any w5 _ _ L H5.out.1.at' H5.out.1.ok).mono ?_
        rintro e w6 ⟨v6, rfl, hr6, hO6⟩
        obtain ⟨A6, c6, rfl⟩ := own_shape hr6
        have s6 := own_sl' hr6
        have s5 := own_sl H5.out.2 hO6
        obtain ⟨q, hq⟩ : ∃ q, q = (srt L.cr).length := ⟨_, rfl⟩
        rw [← srt_length L.cr, ← hq] at s6 s5 ⊢
        have HS := Lib.hid (And.intro s6 (And.intro s5 (And.intro (H5.out.1.only.trans' hO6) hq)))
        clear hr6 s6 s5 hO6 hq
        go_wp2_with fail
        have hq := HS.out.2.2.2
        have s6 := HS.out.1
        have s5 := HS.out.2.1
        subst hq
        refine (eqI_any w6 A6 Aw c6 cw (srt L.cr) (srt L.cr) s6 s5).mono ?_
        rintro e w7 ⟨rfl, hO7⟩
        have H7 := Lib.hid (HS.out.2.2.1.trans' hO7)
        have hb : (srt L.cr == srt L.cr) = true := by simp
        rw [hb]
        clear hO7 hb s5 s6
        go_wp2_with fail
        refine (awake_any w7).mono ?_
        rintro e w8 ⟨rfl, o8⟩
        have H8 := Lib.hid (H7.out.trans' o8)
        clear o8
        go_wp2_with fail
        go_ret
        exact ⟨rfl, H8.out⟩

end Go.Proofs.Ytgjicobfbdikmaa
