/- LedgerNested: the walk. -/
import Derived.Test.YtgjicobfbdikmaaLedRun
import Derived.Test.YtgjicobfbdikmaaLedLaws
import Derived.Test.YtgjicobfbdikmaaIntRev
set_option linter.unusedVariables false
set_option linter.unusedSimpArgs false
namespace Go.Proofs.Ytgjicobfbdikmaa
open Go Go.RowKit

theorem acquire_cr (L : Lg) (t x : Int) : (L.acquire t x).1.cr = L.cr ∧ (L.acquire t x).1.lk = L.lk := by
  unfold Lg.acquire
  split
  · exact ⟨rfl, rfl⟩
  split <;> exact ⟨rfl, rfl⟩
/-- Nothing was crossed, nothing leaked. -/
structure Clean (L : Lg) : Prop where
  inv : L.Inv
  cr : L.cr = []
  lk : L.lk = []
theorem Clean.acquire {L : Lg} (h : Clean L) (t x : Int) : Clean (L.acquire t x).1 := ⟨h.inv.acquire t x, (acquire_cr L t x).1.trans h.cr, (acquire_cr L t x).2.trans h.lk⟩
theorem Clean.last {L : Lg} (h : Clean L) {t x : Int} (hb : ¬ Bad t 0) (hp : 0 < (L.stk t).length) (hx : x = whatAt L.es ((L.stk t).getD ((L.stk t).length - 1) 0)) : L.release t x = (L.cut t ((L.stk t).length - 1), 0) ∧ Clean (L.cut t ((L.stk t).length - 1)) := by
  have e := release_last h.inv.toCore hb hp hx
  have hi := h.inv.release t x
  rw [e] at hi
  exact ⟨e, hi, h.cr, h.lk⟩
theorem held_get (L : Lg) (t : Int) {i : Nat} (hi : i < (L.stk t).length) : (L.held t)[i]? = some (whatAt L.es ((L.stk t).getD i 0)) := by
  unfold Lg.held
  rw [List.getElem?_map, List.getElem?_eq_getElem hi, List.getD_eq_getElem?_getD, List.getElem?_eq_getElem hi]
  rfl

set_option maxRecDepth 100000 in
set_option maxHeartbeats 4000000 in
theorem ledgerNested_any (w : World) (A : Option Addr) (n ca : Nat) (ops : List LOp) (hl : Sl w w.heap.size A n ca 3 (ops.flatMap LOp.cells)) (hlen : ops.length = n) :
    Calls Try.prog 6 #[.slice A n ca] w fun e w' => e = .returned (.bool true) ∧ Only w w' := by
  have HL := Lib.hid (And.intro hl hlen)
  have hnc := hl.2.1
  have hcm := hl.2.2.1
  clear hl hlen
  go_enter Try.func6, Try.ntmps6
  go_wp2_with fail
  refine (ol_new w).mono ?_
  rintro e w1 ⟨rfl, h1⟩
  have H1 := Lib.hid h1
  clear h1
  unfold ptr
  go_upto_region 2 with fail
  go_cut [18, 19, 20] from 14 to 17 (fun a b i wc => ∃ m : Nat, m = min n 100 ∧ a = .slice A m ca ∧ b = .int .i64 (m : Nat) ∧ i = .int .i64 0 ∧ w1 = wc)
  case first =>
    go_wp2_with fail
    go_meet
    case rel => exact ⟨min n 100, rfl, congrArg (fun x => Value.slice A x ca) (by omega), congrArg (Value.int .i64) (by omega), rfl, rfl⟩
  case rest =>
    obtain ⟨m, hm, rfl, rfl, rfl, rfl⟩ := hcut
    have hmn : m ≤ n := by omega
    have hm100 : m ≤ 100 := by omega
    have hmc : m ≤ ca := by omega
    have HM := Lib.hid hm
    clear hm
    go_wp2_with fail
    go_loopg [20] m (fun kk vj wr => ∃ (j : Nat) (S : Nat → Prop) (L : Lg), j ≤ m ∧ kk = m - j ∧ vj = .int .i64 (j : Nat) ∧ OL w S (w.heap.size + 1) L wr ∧ Clean L)
    case atStart => exact ⟨0, _, _, Nat.zero_le _, rfl, rfl, H1.out, Lg.new_inv, rfl, rfl⟩
    case round =>
      obtain ⟨j, S, L, hj, hk, rfl, hOT, hI⟩ := hrel
      obtain ⟨wq, rfl⟩ : ∃ wq : World, wq = wr := ⟨_, rfl⟩
      by_cases hlt : j < m
      · obtain ⟨o, ho⟩ : ∃ o, ops[j]? = some o := ⟨_, List.getElem?_eq_getElem (by have := HL.out.2; omega)⟩
        obtain ⟨ab, ao, rfl, hab, hcells⟩ := (HL.out.1.only hOT.only).elem LOp.cells_length ho (by omega)
        have g0 := hcells 0 _ rfl
        simp only [Nat.add_zero] at g0
        have g1 := hcells 1 _ rfl
        have g2 := hcells 2 _ rfl
        have HX := Lib.hid (And.intro hOT (And.intro hI hk))
        clear hOT hcells ho hk hI
        go_upto_region 5 with fail
        obtain ⟨wo, hwo⟩ : ∃ wo : World, wo = wq.alloc (.cells #[.int .i64 o.kind, .int .i64 o.task, .int .i64 o.what] 33) := ⟨_, rfl⟩
        have hOo : Only wq wo := by rw [hwo]; exact (Stay.refl _ wq).alloc _
        have hzo : wo.heap.size = wq.heap.size + 1 := by rw [hwo]; simp
        have hBo : Blk wo wq.heap.size 33 [.int .i64 o.kind, .int .i64 o.task, .int .i64 o.what] := by rw [hwo]; exact Blk.new wq [.int .i64 o.kind, .int .i64 o.task, .int .i64 o.what] _
        rw [← hwo]
        have q0 := hBo.cell
        have lq := hBo.lt
        have HO := Lib.hid (And.intro hOo hBo)
        clear hwo hOo hBo g0 g1 g2
        by_cases hk0 : o.kind = 0
        · have b1 : (o.kind == 0) = true := by simp [hk0]
          clear hk0
          go_wp2_with fail
          refine (ol_acquire (HX.out.1.then HO.out.1) o.task o.what).mono ?_
          rintro e w2 ⟨rfl, h2, _⟩
          have H2 := Lib.hid h2
          clear h2
          go_wp2_with fail
          go_roundg (m - (j + 1))
          case measure => have := HX.out.2.2; omega
          case rel => exact ⟨j + 1, _, _, by omega, rfl, by go_num, H2.out, HX.out.2.1.acquire _ _⟩
        · have b1 : (o.kind == 0) = false := by simp [hk0]
          clear hk0
          go_wp2_with fail
          refine (ol_held (HX.out.1.then HO.out.1) o.task).mono ?_
          rintro e w2 ⟨v, S2, rfl, h2, hr2, hsep2, hsub2, hx2⟩
          have B2 := hx2.blk HO.out.2 (fun hS => by have := HX.out.1.at'.lt _ hS; omega)
          have q2 := B2.cell
          have lq2 := B2.lt
          clear q0 lq
          by_cases hb : Bad o.task 0
          · rw [if_pos hb]
            have H2 := Lib.hid h2
            clear h2 hr2 hsep2 hsub2 hx2 hb B2
            go_wp2_with fail
            go_big_region
            all_goals
              go_wp2_with fail
              go_roundg (m - (j + 1))
              case measure => have := HX.out.2.2; omega
              case rel => exact ⟨j + 1, _, _, by omega, rfl, by go_num, H2.out.then ((Stay.refl _ _).drew), HX.out.2.1⟩
          · rw [if_neg hb] at hr2 ⊢
            obtain ⟨Av, cv, rfl⟩ := own_shape hr2
            have hql : (L.held o.task).length = (L.stk o.task).length := by unfold Lg.held; rw [List.length_map]
            obtain ⟨q, hq⟩ : ∃ q, q = (L.held o.task).length := ⟨_, rfl⟩
            rw [← hq] at hr2 hql hsep2 ⊢
            have hq40 : q ≤ 40 := by rw [hql]; exact HX.out.1.ok.hl _
            by_cases hq0 : q = 0
            · subst hq0
              have H2 := Lib.hid h2
              clear h2 hr2 hsep2 hsub2 hx2 hb B2 hq hql
              go_wp2_with fail
              go_big_region
              all_goals
                go_wp2_with fail
                go_roundg (m - (j + 1))
                case measure => have := HX.out.2.2; omega
                case rel => exact ⟨j + 1, _, _, by omega, rfl, by go_num, H2.out.then ((Stay.refl _ _).drew), HX.out.2.1⟩
            · obtain ⟨p, hp⟩ : ∃ p, p = q - 1 := ⟨_, rfl⟩
              obtain ⟨gh, ch, e1, _, _⟩ := hr2.form (by omega)
              obtain ⟨rfl, rfl⟩ : Av = some ⟨gh, 0, none⟩ ∧ cv = ch := by simpa using e1
              have z1 := hr2.cellAt p (by omega)
              have hz1 : (ints (L.held o.task))[p]? = some (.int .i64 (whatAt L.es ((L.stk o.task).getD p 0))) := by
                unfold ints
                rw [List.getElem?_map, held_get L o.task (by omega)]
                rfl
              rw [hz1] at z1
              obtain ⟨x, hx⟩ : ∃ x, x = whatAt L.es ((L.stk o.task).getD p 0) := ⟨_, rfl⟩
              rw [← hx] at z1
              have hrel := HX.out.2.1.last hb (t := o.task) (x := x) (by omega) (by rw [hx, ← hql, hp])
              have hn1 : ¬ S2 wq.heap.size := fun hS => by
                rcases hsub2 _ hS with h | h
                · have := HX.out.1.at'.lt _ h
                  omega
                · omega
              have hn2 : ¬ S2 gh := hsep2 gh rfl
              have k1 : w2.cell? ⟨wq.heap.size, 1, none⟩ = some (.int .i64 o.task) := q2 1
              have lgh := (own_lt hr2 gh rfl).2
              have u1 : (0 : Int) ≤ (p : Int) := by omega
              have u2 : (p : Int) < (q : Int) := by omega
              have u4 : (q : Int) > 0 := by omega
              have u5 : 0 < q := by omega
              have u6 : decide (0 < q) = true := decide_eq_true u5
              have hw : wrap64 ((q : Int) - 1) = (p : Int) := by unfold wrap64; omega
              have hw3 : IntKind.i64.wrap ((q : Int) - 1) = (p : Int) := by rw [IntKind.wrap_i64]; omega
              have H2 := Lib.hid (And.intro h2 hrel)
              clear h2 hr2 hsep2 hsub2 hx2 hb B2 hq hql hrel q2 e1 hz1 hx hp hq0
              go_wp2_with fail
              go_region_held3 (fun w' => w'.cell? ⟨wq.heap.size, 1, none⟩ = some (.int .i64 o.task) ∧ w'.cell? ⟨gh, p, none⟩ = some (.int .i64 x))
                (first | go_keep | (go_split_ands; refine ⟨Stay.cell hx3 ?_ hn1, Stay.cell hx3 ?_ hn2⟩ <;> assumption))
                ((go_at_call 13; refine (ol_release (H2.out.1.then ((Stay.refl (fun _ => False) _).drew)) o.task x).mono ?_; rintro e w3 ⟨rfl, hT3, hx3⟩; rw [H2.out.2.1] at hT3 ⊢))
              have HT := Lib.hid hT3
              clear hT3 hx3
              go_wp2_with fail
              go_roundg (m - (j + 1))
              case measure => have := HX.out.2.2; omega
              case rel => exact ⟨j + 1, _, _, by omega, rfl, by go_num, HT.out, H2.out.2.2⟩
      · obtain rfl : j = m := by omega
        have HX := Lib.hid (And.intro hOT hI)
        clear hOT hI hk
        go_wp2_with fail
        refine (crossed_any wq _ _ L HX.out.1.at' HX.out.1.ok).mono ?_
        rintro e w6 ⟨v6, rfl, hr6, hO6⟩
        obtain ⟨A6, c6, rfl⟩ := own_shape hr6
        rw [HX.out.2.cr] at hr6 ⊢
        have H6 := Lib.hid (HX.out.1.then hO6)
        clear hr6 hO6
        go_wp2_with fail
        refine (leaks_any w6 _ _ L H6.out.at' H6.out.ok).mono ?_
        rintro e w7 ⟨v7, rfl, hr7, hO7⟩
        obtain ⟨A7, c7, rfl⟩ := own_shape hr7
        rw [HX.out.2.lk] at hr7 ⊢
        have H7 := Lib.hid (H6.out.then hO7)
        clear hr7 hO7
        go_wp2_with fail
        go_loopg [8] 64 (fun kk vn wr => ∃ (t : Nat) (S : Nat → Prop) (L : Lg), 1 ≤ t ∧ t ≤ 65 ∧ kk = 65 - t ∧ vn = .int .i64 (t : Nat) ∧ OL w S (w.heap.size + 1) L wr ∧ Clean L ∧ ∀ q : Int, q < t → L.stk q = [])
        case atStart => exact ⟨1, _, _, by omega, by omega, by omega, rfl, H7.out, HX.out.2, fun q hq => opn_out HX.out.2.inv.toCore (by omega)⟩
        case round =>
          obtain ⟨t, S2, L2, ht1, ht2, hk2, rfl, hO2, hC2, hb2⟩ := hrel
          obtain ⟨wt, rfl⟩ : ∃ wt : World, wt = wr := ⟨_, rfl⟩
          by_cases htl : t ≤ 64
          · have u0 : (t : Int) ≤ 64 := by omega
            have HT := Lib.hid (And.intro hO2 (And.intro hC2 (And.intro hb2 hk2)))
            have hnb : ¬ Bad (t : Int) 0 := by unfold Bad; omega
            clear hO2 hC2 hb2 hk2
            go_wp2_with fail
            refine (ol_held HT.out.1 t).mono ?_
            rintro e w8 ⟨v8, S8, rfl, h8, hr8, hsep8, hsub8, hx8⟩
            rw [if_neg hnb] at hr8 ⊢
            obtain ⟨A8, c8, rfl⟩ := own_shape hr8
            have hql : (L2.held t).length = (L2.stk t).length := by unfold Lg.held; rw [List.length_map]
            have hq40 : (L2.stk t).length ≤ 40 := HT.out.1.ok.hl _
            obtain ⟨hd, hhd⟩ : ∃ hd, hd = L2.held t := ⟨_, rfl⟩
            rw [← hhd] at hr8 hql hsep8 ⊢
            have H8 := Lib.hid (And.intro h8 (And.intro hr8 (And.intro hsep8 (And.intro hhd hql))))
            clear h8 hr8 hsep8 hsub8 hx8 hhd hql
            go_wp2_with fail
            have hql := H8.out.2.2.2.2
            refine (revI_any w8 wt.heap.size (.slice A8 hd.length c8) hd H8.out.2.1 (by omega)).mono ?_
            rintro e w9 ⟨rfl, hr9, hx9⟩
            have hO9 := H8.out.1.side hx9 (fun k hk e => H8.out.2.2.1 k e hk) (fun k e => by have := (own_lt H8.out.2.1 k e).1; have := HT.out.1.only.size; omega)
            obtain ⟨q, hq⟩ : ∃ q, q = hd.length := ⟨_, rfl⟩
            rw [← hq] at hr9 hql ⊢
            have H9 := Lib.hid (And.intro hO9 (And.intro hr9 (And.intro hql hq)))
            have hsep9 : ∀ g, (Value.slice A8 q c8).ownBlock = some g → ¬ S8 g := by rw [hq]; exact H8.out.2.2.1
            have HS9 := Lib.hid hsep9
            have hq40' : q ≤ 40 := by omega
            clear hO9 hr9 hx9 hq hql hsep9
            go_wp2_with fail
            go_loopg [87] q (fun kk vi wr => ∃ (i : Nat) (S3 : Nat → Prop) (L3 : Lg), i ≤ q ∧ kk = q - i ∧ vi = .int .i64 (i : Nat) ∧ OL w S3 (w.heap.size + 1) L3 wr ∧ Clean L3 ∧ L3.stk t = (L2.stk t).take (q - i) ∧ (∀ p : Int, p ≠ t → L3.stk p = L2.stk p) ∧ (∀ k, whatAt L3.es k = whatAt L2.es k) ∧
              wr.ownsRow wt.heap.size 3 1 (.slice A8 q c8) q (ints hd.reverse) ∧ ∀ g, (Value.slice A8 q c8).ownBlock = some g → ¬ S3 g)
            case atStart => exact ⟨0, S8, L2, Nat.zero_le _, rfl, rfl, H9.out.1, HT.out.2.1, by rw [Nat.sub_zero, H9.out.2.2.1, List.take_length], fun _ _ => rfl, fun _ => rfl, H9.out.2.1, HS9.out⟩
            case round =>
              obtain ⟨i, S3, L3, hi, hk3, rfl, hO3, hC3, hs3, ho3, hw3, hr3, hsep3⟩ := hrel
              obtain ⟨wz, rfl⟩ : ∃ wz : World, wz = wr := ⟨_, rfl⟩
              have hln : (L3.stk t).length = q - i := by rw [hs3, List.length_take, ← H9.out.2.2.1]; omega
              by_cases hlt3 : i < q
              · obtain ⟨gh, ch, e1, _, _⟩ := hr3.form (by omega)
                obtain ⟨rfl, rfl⟩ : A8 = some ⟨gh, 0, none⟩ ∧ c8 = ch := by simpa using e1
                have z1 := hr3.cellAt i (by omega)
                obtain ⟨x, hx⟩ : ∃ x, x = whatAt L3.es ((L3.stk t).getD ((L3.stk t).length - 1) 0) := ⟨_, rfl⟩
                have hz1 : (ints hd.reverse)[i]? = some (.int .i64 x) := by
                  unfold ints
                  rw [List.getElem?_map, List.getElem?_reverse (by rw [← H9.out.2.2.2]; exact hlt3), ← H9.out.2.2.2, H8.out.2.2.2.1, held_get L2 t (by rw [← H9.out.2.2.1]; omega), hx, hw3, hln, hs3]
                  simp only [Option.map_some]
                  congr 3
                  rw [List.getD_eq_getElem?_getD, List.getD_eq_getElem?_getD, List.getElem?_take, if_pos (by omega), show q - 1 - i = q - i - 1 by omega]
                rw [hz1] at z1
                have hrel := hC3.last hnb (t := (t : Int)) (x := x) (by omega) hx
                have lgh := (own_lt hr3 gh rfl).2
                have u1 : (0 : Int) ≤ (i : Int) := by omega
                have u2 : (i : Int) < (q : Int) := by omega
                have HZ := Lib.hid (And.intro hO3 (And.intro hC3 (And.intro hs3 (And.intro ho3 (And.intro hw3 (And.intro hr3 (And.intro hsep3 (And.intro hln (And.intro hrel hk3)))))))))
                clear hO3 hC3 hs3 ho3 hw3 hr3 hsep3 hln hrel hk3 e1 hz1 hx
                go_wp2_with fail
                refine (sound_any wz _ _ L3 HZ.out.1.at' HZ.out.1.ok).mono ?_
                rintro e wy ⟨r, rfl, hr, oy⟩
                obtain rfl : r = false := by
                  cases r with
                  | false => rfl
                  | true =>
                    have h1 := (hr.1 rfl).2.2 t
                    have h2 := HZ.out.2.2.2.2.2.2.2.1
                    rw [h1] at h2
                    simp at h2
                    omega
                have HY := Lib.hid oy
                clear hr oy
                go_wp2_with fail
                refine (ol_release (HZ.out.1.then HY.out) t x).mono ?_
                rintro e wv ⟨rfl, hTv, hxv⟩
                rw [HZ.out.2.2.2.2.2.2.2.2.1.1] at hTv ⊢
                have hrv := own_stay hxv (own_only HY.out HZ.out.2.2.2.2.2.1) HZ.out.2.2.2.2.2.2.1
                have HV := Lib.hid (And.intro hTv (And.intro hrv (And.intro hxv.size HY.out.size)))
                clear hTv hrv hxv
                go_wp2_with fail
                go_roundg (q - (i + 1))
                case measure => have := HZ.out.2.2.2.2.2.2.2.2.2; omega
                case rel =>
                  have hln := HZ.out.2.2.2.2.2.2.2.1
                  refine ⟨i + 1, _, _, by omega, rfl, by go_num, HV.out.1, HZ.out.2.2.2.2.2.2.2.2.1.2, ?_, fun p hp => ?_, fun k => ?_, HV.out.2.1, fun g hg hS => ?_⟩
                  · rw [cut_stk, hln, HZ.out.2.2.1, List.eraseIdx_eq_take_drop_succ, List.take_take, List.drop_of_length_le (by rw [List.length_take]; omega), List.append_nil]
                    congr 1
                    omega
                  · rw [cut_stk_other _ _ hp]; exact HZ.out.2.2.2.1 p hp
                  · rw [cut_what]; exact HZ.out.2.2.2.2.1 k
                  · rcases hS with h | h
                    · exact HZ.out.2.2.2.2.2.2.1 g hg h
                    · have := (own_lt HZ.out.2.2.2.2.2.1 g hg).2
                      have := HV.out.2.2.2
                      omega
              · obtain rfl : i = q := by omega
                have HZ := Lib.hid (And.intro hO3 (And.intro hC3 (And.intro ho3 hln)))
                clear hO3 hC3 hs3 ho3 hw3 hr3 hsep3 hln hk3
                go_wp2_with fail
                go_roundg (65 - (t + 1))
                case measure => have := HT.out.2.2.2; omega
                case rel =>
                  refine ⟨t + 1, _, _, by omega, by omega, rfl, by go_num, HZ.out.1, HZ.out.2.1, fun p hp => ?_⟩
                  by_cases hpt : p = t
                  · subst hpt
                    exact List.eq_nil_of_length_eq_zero (by have := HZ.out.2.2.2; omega)
                  · rw [HZ.out.2.2.1 p hpt]
                    exact HT.out.2.2.1 p (by omega)
          · obtain rfl : t = 65 := by omega
            have HT := Lib.hid (And.intro hO2 (And.intro hC2 hb2))
            clear hO2 hC2 hb2 hk2
            go_wp2_with fail
            refine (sound_any wt _ _ L2 HT.out.1.at' HT.out.1.ok).mono ?_
            rintro e wy ⟨r, rfl, hr, oy⟩
            obtain rfl : r = true := hr.2 ⟨HT.out.2.1.cr, HT.out.2.1.lk, fun p => by
              by_cases hp : p < 65
              · exact HT.out.2.2 p hp
              · exact opn_out HT.out.2.1.inv.toCore (by omega)⟩
            have HY := Lib.hid (HT.out.1.only.trans' oy)
            clear hr oy
            go_wp2_with fail
            refine (awake_any wy).mono ?_
            rintro e w8 ⟨rfl, o8⟩
            have H8 := Lib.hid (HY.out.trans' o8)
            clear o8
            go_wp2_with fail
            go_ret
            exact ⟨rfl, H8.out⟩

end Go.Proofs.Ytgjicobfbdikmaa
