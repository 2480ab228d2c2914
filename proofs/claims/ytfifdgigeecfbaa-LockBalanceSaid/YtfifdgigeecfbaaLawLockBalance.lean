/- LockBalance: the walk. -/
import Derived.Test.YtfifdgigeecfbaaBalPure
import Derived.Test.YtfifdgigeecfbaaIntHas
set_option linter.unusedVariables false
set_option linter.unusedSimpArgs false
namespace Go.Proofs.Ytfifdgigeecfbaa
open Go Go.RowKit

set_option maxRecDepth 100000 in
set_option maxHeartbeats 8000000 in
theorem lockBalance_any (w : World) (A : Option Addr) (n ca : Nat) (ops : List Op3) (hl : Sl w w.heap.size A n ca 3 (ops.flatMap Op3.cells)) (hlen : ops.length = n) :
    Calls Try.prog 4 #[.slice A n ca] w fun e w' => e = .returned (.bool true) ∧ Only w w' := by
  have HL := Lib.hid (And.intro hl hlen)
  have hnc := hl.2.1
  have hcm := hl.2.2.1
  clear hl hlen
  obtain ⟨ii, hii0, hii1, hii2, hii3⟩ := info_parts infoI
  go_enter Try.func4, Try.ntmps4
  go_wp2_with fail
  refine (own_newT w w (Stay.refl _ w) (d := 0) (by omega)).mono ?_
  rintro e w1 ⟨rfl, hT, _⟩
  have HT := Lib.hid (show OT w w1 (From w.heap.size w1) (w.heap.size + 1) Tb.new 0 from ⟨hT.lies, fun k hk => hk.1, hT.ok, hT.only⟩)
  clear hT
  go_upto_region 2 with fail
  go_cut [19, 20, 21] from 15 to 18 (fun a b i wc => ∃ m : Nat, m = min n 80 ∧ a = .slice A m ca ∧ b = .int .i64 (m : Nat) ∧ i = .int .i64 0 ∧ w1 = wc)
  case first =>
    go_wp2_with fail
    go_meet
    case rel => exact ⟨min n 80, rfl, congrArg (fun x => Value.slice A x ca) (by omega), congrArg (Value.int .i64) (by omega), rfl, rfl⟩
  case rest =>
    obtain ⟨m, hm, rfl, rfl, rfl, rfl⟩ := hcut
    have hmn : m ≤ n := by omega
    have hm80 : m ≤ 80 := by omega
    have hmc : m ≤ ca := by omega
    have HM := Lib.hid hm
    clear hm
    go_wp2_with fail
    go_loopg [21] m (fun kk vj wr => ∃ (j : Nat) (t : Tb) (S : Nat → Prop), j ≤ m ∧ kk = m - j ∧ vj = .int .i64 (j : Nat) ∧ OT w wr S (w.heap.size + 1) t j ∧ t.Cons)
    case atStart => exact ⟨0, _, _, Nat.zero_le _, rfl, rfl, HT.out, Tb.new_cons⟩
    case round =>
      obtain ⟨j, t, S, hj, hk, rfl, hOT, hC⟩ := hrel
      by_cases hlt : j < m
      · obtain ⟨o, ho⟩ : ∃ o, ops[j]? = some o := ⟨_, List.getElem?_eq_getElem (by have := HL.out.2; omega)⟩
        obtain ⟨ab, ao, rfl, hab, hcells⟩ := (HL.out.1.only hOT.only).elem Op3.cells_length ho (by omega)
        have g0 := hcells 0 _ rfl
        simp only [Nat.add_zero] at g0
        have g1 := hcells 1 _ rfl
        have g2 := hcells 2 _ rfl
        have HX := Lib.hid (And.intro hOT (And.intro hC hk))
        clear hOT hC hcells ho hk
        go_wp2_with fail
        refine (run_any (HX.out.1.alloc _) HX.out.2.1 (by omega) o).mono ?_
        rintro e w2 ⟨rfl, hT2, hs2⟩
        have hC2 := HX.out.2.1.run HX.out.1.ok o
        obtain ⟨t', hr⟩ : ∃ t', (t.run o).1 = t' := ⟨_, rfl⟩
        rw [hr] at hT2 hC2
        have HY := Lib.hid (And.intro hT2 hC2)
        clear hT2 hs2 hC2 hr
        go_wp2_with fail
        refine (states_any _ _ _ t' _ HY.out.1.lies HY.out.1.ok (by omega)).mono ?_
        rintro e w3 ⟨sv, rfl, hsts, hO3⟩
        obtain ⟨vs, hvl, hvr, hvs⟩ := hsts
        obtain ⟨As, cs, rfl⟩ := own_shape hvr
        have hn16 : t'.ls.length ≤ 16 := HY.out.1.ok.n
        have HS := Lib.hid (And.intro hvl (And.intro (own_sl' hvr) (And.intro hvs hO3)))
        clear hvl hvr hvs hO3
        go_wp2_with fail
        go_loopg [31, 6] (t'.ls.length) (fun kk vi vw wr => ∃ (i : Nat) , i ≤ t'.ls.length ∧ kk = t'.ls.length - i ∧ vi = .int .i64 (i : Nat) ∧ Only w3 wr ∧ wr.ownsRow w3.heap.size 3 1 vw ((t'.ls.take i).flatMap Lk.waiting).length (ints ((t'.ls.take i).flatMap Lk.waiting)))
        case atStart => exact ⟨0, Nat.zero_le _, rfl, rfl, Stay.refl _ w3, World.ownsRow_nil _ _ _ _⟩
        case round =>
          obtain ⟨i, hi, hk2, rfl, hO4, hw4⟩ := hrel
          by_cases hlt2 : i < t'.ls.length
          · obtain ⟨k, hkk⟩ : ∃ k, t'.ls[i]? = some k := ⟨_, List.getElem?_eq_getElem hlt2⟩
            obtain ⟨⟨hv, wv⟩, hvw⟩ : ∃ x, vs[i]? = some x := ⟨_, List.getElem?_eq_getElem (by have := HS.out.1; omega)⟩
            have hz : (t'.ls.zip vs)[i]? = some (k, hv, wv) := by rw [List.getElem?_zip_eq_some]; exact ⟨hkk, hvw⟩
            obtain ⟨sb, so, rfl, hsb, hsc⟩ := (HS.out.2.1.only hO4).elem scell_length hz (by omega)
            have s0 := hsc 0 _ rfl
            have s1 := hsc 1 _ rfl
            have s2 := hsc 2 _ rfl
            have s3 := hsc 3 _ rfl
            simp only [Nat.add_zero] at s0
            obtain ⟨r1, r2⟩ := HS.out.2.2.1 i k hv wv hkk hvw
            obtain ⟨Ah, ch, rfl⟩ := own_shape r1
            obtain ⟨Aw, cw, rfl⟩ := own_shape r2
            have hkok := HY.out.1.ok.lk k (List.mem_of_getElem? hkk)
            have sl1 := own_sl' r1
            have sl2 := own_sl' r2
            have q1 := hkok.f0
            have q2 := hkok.p2
            have q3 := hkok.p1
            have q4 := hkok.sum
            have q5 := sumH_nonneg hkok.pos
            have q6 : (k.waiting.length : Int) ≤ 81 := by have := hkok.wlen; omega
            have hnh : k.holders.length ≤ 16 := by rw [holders_length]; exact holds_len hkok
            have B1 := sl1.2.1
            have B2 := sl1.2.2.1
            have B3 := sl2.2.1
            have B4 := sl2.2.2.1
            have hwl : ((t'.ls.take i).flatMap Lk.waiting).length ≤ 1400 := by
              have := wall_len (l := t'.ls.take i) (D := 81) (fun k' hk' => by have := (HY.out.1.ok.lk k' (List.take_subset _ _ hk')).wlen; omega)
              have h2 : (t'.ls.take i).length ≤ 16 := by simp; omega
              have h3 : (t'.ls.take i).length * 81 ≤ 16 * 81 := Nat.mul_le_mul_right _ h2
              omega
            have HP := Lib.hid (And.intro hkk (And.intro hkok (And.intro sl1 (And.intro sl2 (And.intro hO4 (And.intro hw4 hk2))))))
            obtain ⟨w4, rfl⟩ : ∃ w4 : World, w4 = wr := ⟨_, rfl⟩
            have hsz4 := hO4.size
            clear hkk hvw hz hsc r1 r2 hkok sl1 sl2 hO4 hw4 hk2
            go_wp2_with fail
            go_loopg [40, 9] (k.holders.length) (fun kk vq vs9 wr' => ∃ (q : Nat), q ≤ k.holders.length ∧ kk = k.holders.length - q ∧ vq = .int .i64 (q : Nat) ∧ vs9 = .int .i64 (k.free + sumH (k.holders.take q)) ∧ Only (w4.alloc (.cells #[.int .i64 k.permits, .int .i64 k.free, .slice Ah k.holders.length ch, .slice Aw k.waiting.length cw] 42)) wr')
            case atStart => exact ⟨0, Nat.zero_le _, rfl, rfl, by simp [sumH], Stay.refl _ _⟩
            case round =>
              obtain ⟨q, hq, hk3, rfl, rfl, hO5⟩ := hrel
              have hbx := hO5.blk (Blk.new w4 [.int .i64 k.permits, .int .i64 k.free, .slice Ah k.holders.length ch, .slice Aw k.waiting.length cw] 42)
              have x0 := hbx.cell
              have xl := hbx.lt
              have hO6 : Only w4 wr := ((Stay.refl _ w4).alloc _).trans hO5 (fun _ _ h => h)
              by_cases hlt3 : q < k.holders.length
              · obtain ⟨x, hx⟩ : ∃ x, k.holders[q]? = some x := ⟨_, List.getElem?_eq_getElem hlt3⟩
                obtain ⟨gh, oh, rfl, hgl, hxc⟩ := (HP.out.2.2.1.only (HP.out.2.2.2.2.1.trans' hO6)).elem hcell_length hx (by omega)
                have y0 := hxc 0 _ rfl
                have y1 := hxc 1 _ rfl
                simp only [Nat.add_zero] at y0
                have hx1 : 1 ≤ x.2 := holders_pos HP.out.2.1 x (List.mem_of_getElem? hx)
                have hx2 : decide (x.2 < 1) = false := by simp; omega
                have hst := sumH_take hx
                have hb1 := sumH_take_le (holders_pos HP.out.2.1) q
                have hb2 := sumH_take_le (holders_pos HP.out.2.1) (q + 1)
                rw [holders_sum HP.out.2.1] at hb1 hb2
                rw [hst] at hb2
                have HQ := Lib.hid (And.intro hst (And.intro hk3 hO5))
                have u1 : (0 : Int) ≤ (q : Int) := by omega
                have u2 : (q : Int) < (k.holders.length : Int) := by omega
                have l5 : gh < wr.heap.size := Nat.lt_of_lt_of_le hgl (by have := HP.out.2.2.2.2.1.size; omega)
                cases hq0 : q with
                | zero =>
                  subst hq0
                  simp only [Nat.zero_mul, Nat.add_zero] at y0 y1
                  simp only [List.take_zero] at hb1 hb2
                  clear hx hxc hst hk3 hO5 hbx
                  go_wp2_with fail
                  go_big_region
                  go_wp2_with fail
                  go_roundg (k.holders.length - (0 + 1))
                  case measure => have := HQ.out.2.1; omega
                  case rel => exact ⟨1, by omega, rfl, rfl, congrArg (Value.int .i64) (by have := HQ.out.1; simp only [Nat.zero_add, List.take_zero] at this ⊢; omega), HQ.out.2.2.trans' (((Stay.refl (fun _ => False) wr).alloc _).drew)⟩
                | succ q' =>
                  subst hq0
                  obtain ⟨y, hy⟩ : ∃ y, k.holders[q']? = some y := ⟨_, List.getElem?_eq_getElem (by omega)⟩
                  obtain ⟨gh', oh', e, _, hyc⟩ := (HP.out.2.2.1.only (HP.out.2.2.2.2.1.trans' hO6)).elem hcell_length hy (by omega)
                  simp only [Option.some.injEq, Addr.mk.injEq, and_true] at e
                  obtain ⟨rfl, rfl⟩ := e
                  have z0 := hyc 0 _ rfl
                  simp only [Nat.add_zero] at z0
                  have hasc := holders_asc HP.out.2.1 hy hx
                  have hw : IntKind.i64.wrap (((q' + 1 : Nat) : Int) - 1) = (q' : Int) := by rw [IntWalk.i64_in _ (by omega)]; omega
                  have u3 : (0 : Int) ≤ (q' : Int) := by omega
                  have u4 : (q' : Int) < (k.holders.length : Int) := by omega
                  have u5 : (0 : Int) < ((q' + 1 : Nat) : Int) := by omega
                  clear hx hxc hst hk3 hO5 hy hyc hbx
                  go_wp2_with fail
                  go_big_region
                  go_wp2_with fail
                  go_roundg (k.holders.length - (q' + 1 + 1))
                  case measure => have := HQ.out.2.1; omega
                  case rel => exact ⟨q' + 1 + 1, by omega, rfl, rfl, congrArg (Value.int .i64) (by have := HQ.out.1; omega), HQ.out.2.2.trans' (((Stay.refl (fun _ => False) wr).alloc _).drew)⟩
              · have hqe : q = k.holders.length := by omega
                subst hqe
                have hsum : k.free + sumH (k.holders.take k.holders.length) = k.permits := by rw [List.take_length, holders_sum HP.out.2.1]; exact q4
                rw [hsum]
                obtain ⟨A6, c6, rfl⟩ := own_shape HP.out.2.2.2.2.2.1
                have HO5 := Lib.hid (And.intro hO6 hO5)
                have hidle : 0 < k.free → k.waiting.length = 0 := fun h => by rw [HP.out.2.1.idle h]; rfl
                obtain ⟨w5, rfl⟩ : ∃ w5 : World, w5 = wr := ⟨_, rfl⟩
                have hcase : (k.free ≤ 0) ∨ (0 < k.free ∧ (k.waiting.length : Int) ≤ 0) := by
                  by_cases h : 0 < k.free
                  · exact .inr ⟨h, by have := hidle h; omega⟩
                  · exact .inl (by omega)
                clear hsum hO6 hO5 hbx hk3 hidle
                rcases hcase with hf0 | ⟨hf0, hw0⟩
                all_goals
                  go_wp2_with fail
                  try clear hw0
                  go_loopg [92, 6] (k.waiting.length) (fun kk vq v6 wr' => ∃ (q : Nat), q ≤ k.waiting.length ∧ kk = k.waiting.length - q ∧ vq = .int .i64 (q : Nat) ∧ Only w3 wr' ∧ wr'.ownsRow w3.heap.size 3 1 v6 ((t'.ls.take i).flatMap Lk.waiting ++ k.waiting.take q).length (ints ((t'.ls.take i).flatMap Lk.waiting ++ k.waiting.take q)))
                  case atStart => exact ⟨0, Nat.zero_le _, rfl, rfl, HP.out.2.2.2.2.1.trans' HO5.out.1, by simpa using own_only HO5.out.1 HP.out.2.2.2.2.2.1⟩
                  case round =>
                    obtain ⟨q, hq, hk3, rfl, hO7, hw7⟩ := hrel
                    by_cases hlt4 : q < k.waiting.length
                    · first | (exfalso; omega) | skip
                      all_goals
                        obtain ⟨x, hx⟩ : ∃ x, k.waiting[q]? = some x := ⟨_, List.getElem?_eq_getElem hlt4⟩
                        obtain ⟨bw, ow, e, hbw, hwc⟩ := (HP.out.2.2.2.1.only hO7).ints_at (by omega)
                        cases e
                        have y0 := hwc q hlt4
                        rw [List.getD_eq_getElem?_getD, hx] at y0
                        simp only [Option.getD_some] at y0
                        have hfr := wall_fresh HY.out.2 HP.out.1 hx
                        obtain ⟨acc, hacc⟩ : ∃ acc, (t'.ls.take i).flatMap Lk.waiting ++ k.waiting.take q = acc := ⟨_, rfl⟩
                        have hacl : acc.length ≤ 1500 := by rw [← hacc, List.length_append, List.length_take]; omega
                        rw [hacc] at hw7 hfr
                        obtain ⟨A7, c7, rfl⟩ := own_shape hw7
                        have HR := Lib.hid (And.intro hk3 (And.intro hO7 (And.intro hw7 (And.intro hx (And.intro hacc hfr)))))
                        have hsz7 := hO7.size
                        clear hk3 hO7 hw7 hx hacc hfr hwc
                        go_wp2_with fail
                        refine (hasI_any _ A7 c7 acc x (own_sl' HR.out.2.2.1)).mono ?_
                        rintro e w8 ⟨rfl, hO8⟩
                        have hcf : acc.contains x = false := by
                          have := HR.out.2.2.2.2.2
                          simpa using this
                        rw [hcf]
                        have HO8 := Lib.hid hO8
                        have hsz8 := hO8.size
                        clear hO8 hcf
                        go_wp2_with (at_builtin; refine wpList_append_lies _ rfl _ _ _ rfl w3.heap.size 3 ii _ 1 8 Try.underlying29 hii0 hii1 hii2 hii3 rfl (by omega) _ acc.length _ (by rfl) (own_alloc (own_only HO8.out HR.out.2.2.1) _) ⟨w8.heap.size, 0, none⟩ 1 1 [.int .i64 x] (by rfl) (by rfl) (World.news_of_block (cs := [Value.int .i64 x].toArray) (t := 3) (fr := (0, 0)) (heap_alloc_at' _ _ _ (by simp))) (by simp [Value.oneCell']) (by omega) (by simp only [maxLen]; omega) (by omega) (by simp; omega) (w8.heap.size + 1) (by simp) ?_; intro g cap w9 hown hgrow hat hlt2; have HG := Lib.hid (And.intro hown (And.intro hgrow hat)); clear hown hgrow hat hlt2)
                        go_roundg (k.waiting.length - (q + 1))
                        case measure => have := HR.out.1; omega
                        case rel =>
                          obtain ⟨k1, k2, k3⟩ := HG.out
                          have e1 : (t'.ls.take i).flatMap Lk.waiting ++ k.waiting.take (q + 1) = acc ++ [x] := by
                            rw [← HR.out.2.2.2.2.1, List.take_succ_eq_append_getElem hlt4, (List.getElem?_eq_some_iff.1 HR.out.2.2.2.1).2, List.append_assoc]
                          have hM : Mine w3.heap.size w3 w9 := (Mine.only (HR.out.2.1.trans' HO8.out)).trans (((Mine.refl _ w8).alloc _).trans (Stay.mono (grown_stay k2) (fun g' _ hg' => (own_lt HR.out.2.2.1 g' hg').1)))
                          refine ⟨q + 1, by omega, rfl, by go_num, hM.stay, ?_⟩
                          rw [e1]
                          simpa [ints] using k1
                    · have hqe : q = k.waiting.length := by omega
                      subst hqe
                      have HR := Lib.hid (And.intro hO7 hw7)
                      clear hO7 hw7 hk3
                      go_wp2_with fail
                      go_roundg (t'.ls.length - (i + 1))
                      case measure => have := HP.out.2.2.2.2.2.2; omega
                      case rel =>
                        refine ⟨i + 1, by omega, rfl, by go_num, HR.out.1, ?_⟩
                        have := HR.out.2
                        rw [List.take_length, ← wall_take HP.out.1] at this
                        exact this
          · have hie : i = t'.ls.length := by omega
            subst hie
            have HZ := Lib.hid hO4
            clear hO4 hw4 hk2
            go_wp2_with fail
            go_roundg (m - (j + 1))
            case measure => have := HX.out.2.2; omega
            case rel => exact ⟨j + 1, t', _, by omega, rfl, rfl, (HY.out.1.step (HS.out.2.2.2.trans' HZ.out)).more (by omega), HY.out.2⟩
      · have hje : j = m := by omega
        subst hje
        have HX := Lib.hid hOT.only
        clear hOT hC hk
        go_wp2_with fail
        refine (awake_any _).mono ?_
        rintro e w5 ⟨rfl, hO⟩
        have HO2 := Lib.hid hO
        clear hO
        go_wp2_with fail
        go_ret
        exact ⟨rfl, HX.out.trans' HO2.out⟩

end Go.Proofs.Ytfifdgigeecfbaa
