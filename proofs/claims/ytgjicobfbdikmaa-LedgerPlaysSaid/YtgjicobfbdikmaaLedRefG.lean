/- The reference's Crossed. -/
import Derived.Test.YtgjicobfbdikmaaLedRefF
set_option linter.unusedVariables false
set_option linter.unusedSimpArgs false
namespace Go.Proofs.Ytgjicobfbdikmaa
open Go Go.RowKit

/-- One entry crosses another. -/
def crs1 (x y : Ent) : Bool := decide (y.task = x.task ∧ 0 < x.to ∧ y.fr < x.to ∧ (y.to = 0 ∨ x.to < y.to))
theorem crsB_at {es : List Ent} {i : Nat} {x : Ent} (h : es[i]? = some x) : crsB es i = (es.drop (i + 1)).any (crs1 x) := by
  unfold crsB crs1
  rw [h]
theorem any_take {l : List Ent} {f : Ent → Bool} {p : Nat} {y : Ent} (h : l[p]? = some y) : (l.take (p + 1)).any f = ((l.take p).any f || f y) := by
  rw [List.take_add_one, h, List.any_append]
  simp

set_option maxRecDepth 100000 in
set_option maxHeartbeats 4000000 in
theorem rcrossed_any (w : World) (a b : Value) (R : RL) (h : RAt w a b R) (hf : R.Fit) :
    Calls Try.prog 46 #[.agg #[a, b, .int .i64 R.time]] w fun e w' => ∃ v, e = .returned v ∧ w'.ownsRow w.heap.size 3 1 v (crsL R.es R.es.length).length (ints (crsL R.es R.es.length)) ∧ Only w w' := by
  obtain ⟨ii, hii0, hii1, hii2, hii3⟩ := info_parts infoI
  obtain ⟨Aa, ca, rfl⟩ := own_shape h.er
  obtain ⟨Ab, cb, rfl⟩ := own_shape h.br
  have hn := hf.n
  have hca := (own_sl' h.er).2.1
  have hcm := (own_sl' h.er).2.2.1
  have H := Lib.hid h
  clear h hf
  go_enter Try.func46, Try.ntmps46
  go_upto_region 1 with fail
  obtain ⟨W0, hW0⟩ : ∃ W0 : World, W0 = w.alloc (.cells #[.slice Aa R.es.length ca, .slice Ab R.lkd.length cb, .int .i64 R.time] 49) := ⟨_, rfl⟩
  have hO0 : Only w W0 := by rw [hW0]; exact (Stay.refl _ w).alloc _
  have hz0 : W0.heap.size = w.heap.size + 1 := by rw [hW0]; simp
  have hB0 : Blk W0 w.heap.size 49 [.slice Aa R.es.length ca, .slice Ab R.lkd.length cb, .int .i64 R.time] := by rw [hW0]; exact Blk.new w [.slice Aa R.es.length ca, .slice Ab R.lkd.length cb, .int .i64 R.time] _
  rw [← hW0]
  have c1 := hB0.cell
  have l1 := hB0.lt
  have H0 := Lib.hid (And.intro hO0 hB0)
  clear hO0 hB0 hW0
  go_wp2_with fail
  go_loopg [3, 12] (R.es.length) (fun kk vt vi wr => ∃ (i : Nat), i ≤ R.es.length ∧ kk = R.es.length - i ∧ vi = .int .i64 (i : Nat) ∧ wr.ownsRow W0.heap.size 3 1 vt (crsL R.es i).length (ints (crsL R.es i)) ∧ Only W0 wr)
  case atStart => exact ⟨0, Nat.zero_le _, rfl, rfl, World.ownsRow_nil _ _ _ _, Stay.refl _ W0⟩
  case round =>
    obtain ⟨i, hi, hk2, rfl, hr4, hO4⟩ := hrel
    obtain ⟨wz, rfl⟩ : ∃ wz : World, wz = wr := ⟨_, rfl⟩
    have ht8 : (crsL R.es i).length ≤ 400 := by
      unfold crsL
      rw [List.length_map]
      have := List.length_filter_le (crsB R.es) (List.range i)
      rw [List.length_range] at this
      omega
    obtain ⟨tl, htl⟩ : ∃ tl, tl = crsL R.es i := ⟨_, rfl⟩
    have htk := crsL_succ R.es i
    rw [← htl] at hr4 htk ht8
    obtain ⟨q, hq⟩ : ∃ q, q = tl.length := ⟨_, rfl⟩
    rw [← hq] at hr4 ht8
    obtain ⟨At, ct, rfl⟩ := own_shape hr4
    by_cases hlt2 : i < R.es.length
    · obtain ⟨x, hx⟩ : ∃ x, R.es[i]? = some x := ⟨_, List.getElem?_eq_getElem hlt2⟩
      have her := own_only (H0.out.1.trans' hO4) H.out.er
      obtain ⟨ge, cge, e1, _, _⟩ := her.form (by omega)
      obtain ⟨rfl, rfl⟩ : Aa = some ⟨ge, 0, none⟩ ∧ ca = cge := by simpa using e1
      have lge := (own_lt her ge rfl).2
      have a0 := her.cellAt (i * 4) (by omega)
      have a1 := her.cellAt (i * 4 + 1) (by omega)
      have a2 := her.cellAt (i * 4 + 2) (by omega)
      have a3 := her.cellAt (i * 4 + 3) (by omega)
      rw [show (R.es.flatMap Ent.cells)[i * 4]? = some (.int .i64 x.what) from flat_at Ent.cells 4 Ent.cells_length R.es i x 0 hx (by omega)] at a0
      rw [flat_at Ent.cells 4 Ent.cells_length R.es i x 1 hx (by omega)] at a1
      rw [flat_at Ent.cells 4 Ent.cells_length R.es i x 2 hx (by omega)] at a2
      rw [flat_at Ent.cells 4 Ent.cells_length R.es i x 3 hx (by omega)] at a3
      replace a1 : wz.cell? ⟨ge, i * 4 + 1, none⟩ = some (.int .i64 x.task) := a1
      replace a2 : wz.cell? ⟨ge, i * 4 + 2, none⟩ = some (.int .i64 x.fr) := a2
      replace a3 : wz.cell? ⟨ge, i * 4 + 3, none⟩ = some (.int .i64 x.to) := a3
      have hB4 := hO4.blk H0.out.2
      have c1 := hB4.cell
      have l1 := hB4.lt
      have u1 : (0 : Int) ≤ (i : Int) := by omega
      have u2 : (i : Int) < (R.es.length : Int) := by omega
      have u4 : (0 : Int) ≤ (i : Int) + 1 := by omega
      have u5 : (i : Int) + 1 ≤ (R.es.length : Int) := by omega
      have hz4 := hO4.size
      have hcb := crsB_at hx
      have HI := Lib.hid (And.intro hk2 (And.intro hO4 (And.intro hr4 (And.intro htk (And.intro hq (And.intro hcb (And.intro hB4 (And.intro her hx))))))))
      clear hk2 hO4 hr4 htk htl hq hcb hB4 her hx e1
      go_upto_region 5 with fail
      obtain ⟨W1, hW1⟩ : ∃ W1 : World, W1 = wz.alloc (.cells #[.int .i64 x.what, .int .i64 x.task, .int .i64 x.fr, .int .i64 x.to] 36) := ⟨_, rfl⟩
      have hO1 : Only wz W1 := by rw [hW1]; exact (Stay.refl _ wz).alloc _
      have hz1 : W1.heap.size = wz.heap.size + 1 := by rw [hW1]; simp
      have hX1 : Blk W1 wz.heap.size 36 [.int .i64 x.what, .int .i64 x.task, .int .i64 x.fr, .int .i64 x.to] := by rw [hW1]; exact Blk.new wz [.int .i64 x.what, .int .i64 x.task, .int .i64 x.fr, .int .i64 x.to] _
      rw [← hW1]
      have x1 := hX1.cell
      have xl1 := hX1.lt
      have c1 := (hO1.blk HI.out.2.2.2.2.2.2.1).cell
      have l1 := (hO1.blk HI.out.2.2.2.2.2.2.1).lt
      have H1 := Lib.hid (And.intro hO1 hX1)
      clear hO1 hX1 hW1 a0 a1 a2 a3
      by_cases hcc : ca = i + 1
      · subst hcc
        have hli : R.es.length = i + 1 := by omega
        have HF := Lib.hid (show crsB R.es i = false by rw [HI.out.2.2.2.2.2.1, List.drop_of_length_le (by omega)]; rfl)
        have u8 : R.es.length - (i + 1) = 0 := by omega
        clear hli
        go_wp2_with fail
        go_loopg [6, 23] 0 (fun kk vb vp wr => vb = .bool false ∧ vp = .int .i64 0 ∧ Only W1 wr)
        case atStart => exact ⟨rfl, rfl, Stay.refl _ _⟩
        case round =>
          obtain ⟨rfl, rfl, hO6⟩ := hrel
          have HP := Lib.hid hO6
          clear hO6
          go_wp2_with fail
          go_roundg (R.es.length - (i + 1))
          case measure => have := HI.out.1; omega
          case rel =>
            refine ⟨i + 1, by omega, rfl, by go_num, ?_, HI.out.2.1.trans' (H1.out.1.trans' HP.out)⟩
            rw [HI.out.2.2.2.1, if_neg (by rw [HF.out]; simp), List.append_nil, ← HI.out.2.2.2.2.1]
            exact own_only (H1.out.1.trans' HP.out) HI.out.2.2.1
      · go_upto_region 6 with fail
        go_cut [21, 22, 23] from 17 to 23 (fun s n0 i0 wx => ∃ (k cd : Nat), k = R.es.length - (i + 1) ∧ s = .slice (some ⟨ge, (i + 1) * 4, none⟩) k cd ∧ n0 = .int .i64 (k : Int) ∧ i0 = .int .i64 0 ∧ wx = W1 ∧ k ≤ cd)
        case first =>
          go_wp2_with fail
          all_goals
            go_meet
            case rel => exact ⟨_, _, rfl, rfl, rfl, rfl, rfl, by omega⟩
        case rest =>
          obtain ⟨k, cd, hkk, rfl, rfl, rfl, rfl, hkcd⟩ := hcut
          have HK := Lib.hid hkk
          have hk400 : k ≤ 400 := by omega
          clear hkk
          go_wp2_with fail
          go_loopg [6, 23] k (fun kk vb vp wr => ∃ (p : Nat), p ≤ k ∧ kk = k - p ∧ vb = .bool (((R.es.drop (i + 1)).take p).any (crs1 x)) ∧ vp = .int .i64 (p : Nat) ∧ Only wc wr)
          case atStart => exact ⟨0, Nat.zero_le _, rfl, by simp, rfl, Stay.refl _ _⟩
          case round =>
            obtain ⟨p, hp, hk3, rfl, rfl, hO6⟩ := hrel
            obtain ⟨w6, rfl⟩ : ∃ w6 : World, w6 = wr := ⟨_, rfl⟩
            obtain ⟨cB, hcB⟩ : ∃ cB, cB = ((R.es.drop (i + 1)).take p).any (crs1 x) := ⟨_, rfl⟩
            rw [← hcB]
            by_cases hlt3 : p < k
            · obtain ⟨y, hy⟩ : ∃ y, R.es[i + 1 + p]? = some y := ⟨_, List.getElem?_eq_getElem (by have := HK.out; omega)⟩
              have hdy : (R.es.drop (i + 1))[p]? = some y := by rw [List.getElem?_drop]; exact hy
              have hwas := own_only (H1.out.1.trans' hO6) HI.out.2.2.2.2.2.2.2.1
              have ey : (i + 1 + p) * 4 = (i + 1) * 4 + p * 4 := by omega
              have a0 := hwas.cellAt ((i + 1 + p) * 4) (by have := HK.out; omega)
              have a1 := hwas.cellAt ((i + 1 + p) * 4 + 1) (by have := HK.out; omega)
              have a2 := hwas.cellAt ((i + 1 + p) * 4 + 2) (by have := HK.out; omega)
              have a3 := hwas.cellAt ((i + 1 + p) * 4 + 3) (by have := HK.out; omega)
              rw [show (R.es.flatMap Ent.cells)[(i + 1 + p) * 4]? = some (.int .i64 y.what) from flat_at Ent.cells 4 Ent.cells_length R.es (i + 1 + p) y 0 hy (by omega)] at a0
              rw [flat_at Ent.cells 4 Ent.cells_length R.es (i + 1 + p) y 1 hy (by omega)] at a1
              rw [flat_at Ent.cells 4 Ent.cells_length R.es (i + 1 + p) y 2 hy (by omega)] at a2
              rw [flat_at Ent.cells 4 Ent.cells_length R.es (i + 1 + p) y 3 hy (by omega)] at a3
              replace a1 : w6.cell? ⟨ge, (i + 1 + p) * 4 + 1, none⟩ = some (.int .i64 y.task) := a1
              replace a2 : w6.cell? ⟨ge, (i + 1 + p) * 4 + 2, none⟩ = some (.int .i64 y.fr) := a2
              replace a3 : w6.cell? ⟨ge, (i + 1 + p) * 4 + 3, none⟩ = some (.int .i64 y.to) := a3
              rw [ey] at a0 a1 a2 a3
              have lgw6 := (own_lt hwas ge rfl).2
              have B6 := hO6.blk H1.out.2
              have x6 := B6.cell
              have l6 := B6.lt
              have u7 : (0 : Int) ≤ (p : Int) := by omega
              have u8 : (p : Int) < (k : Int) := by omega
              have HP := Lib.hid (And.intro hk3 (And.intro hO6 (And.intro hcB hdy)))
              clear hk3 hO6 hy hdy hwas B6 ey hcB c1 l1 x1 xl1
              cases cB with
              | true =>
                go_wp2_with fail
                go_roundg (k - (p + 1))
                case measure => have := HP.out.1; omega
                case rel =>
                  refine ⟨p + 1, by omega, rfl, ?_, by go_num, HP.out.2.1.alloc _⟩
                  rw [any_take HP.out.2.2.2, ← HP.out.2.2.1]
                  rfl
              | false =>
                by_cases q1 : y.task = x.task
                · have t1 : (y.task == x.task) = true := by simp [q1]
                  by_cases q2 : 0 < x.to
                  · have t2 : decide (0 < x.to) = true := decide_eq_true q2
                    by_cases q3 : y.fr < x.to
                    · have t3 : decide (y.fr < x.to) = true := decide_eq_true q3
                      by_cases q4 : y.to = 0
                      · have t4 : (y.to == 0) = true := by simp [q4]
                        have HV := Lib.hid (show crs1 x y = true by simp [crs1, q1, q2, q3, q4])
                        clear q1 q2 q3 q4
                        go_wp2_with fail
                        go_roundg (k - (p + 1))
                        case measure => have := HP.out.1; omega
                        case rel =>
                          refine ⟨p + 1, by omega, rfl, ?_, by go_num, HP.out.2.1.alloc _⟩
                          rw [any_take HP.out.2.2.2, ← HP.out.2.2.1, HV.out]
                          rfl
                      · have t4 : (y.to == 0) = false := by simp [q4]
                        by_cases q5 : x.to < y.to
                        · have t5 : decide (x.to < y.to) = true := decide_eq_true q5
                          have HV := Lib.hid (show crs1 x y = true by simp [crs1, q1, q2, q3, q4, q5])
                          clear q1 q2 q3 q4 q5
                          go_wp2_with fail
                          go_roundg (k - (p + 1))
                          case measure => have := HP.out.1; omega
                          case rel =>
                            refine ⟨p + 1, by omega, rfl, ?_, by go_num, HP.out.2.1.alloc _⟩
                            rw [any_take HP.out.2.2.2, ← HP.out.2.2.1, HV.out]
                            rfl
                        · have t5 : decide (x.to < y.to) = false := decide_eq_false q5
                          have HV := Lib.hid (show crs1 x y = false by simp [crs1, q1, q2, q3, q4, q5])
                          clear q1 q2 q3 q4 q5
                          go_wp2_with fail
                          go_roundg (k - (p + 1))
                          case measure => have := HP.out.1; omega
                          case rel =>
                            refine ⟨p + 1, by omega, rfl, ?_, by go_num, HP.out.2.1.alloc _⟩
                            rw [any_take HP.out.2.2.2, ← HP.out.2.2.1, HV.out]
                            rfl
                    · have t3 : decide (y.fr < x.to) = false := decide_eq_false q3
                      have HV := Lib.hid (show crs1 x y = false by simp [crs1, q3])
                      clear q3
                      go_wp2_with fail
                      go_roundg (k - (p + 1))
                      case measure => have := HP.out.1; omega
                      case rel =>
                        refine ⟨p + 1, by omega, rfl, ?_, by go_num, HP.out.2.1.alloc _⟩
                        rw [any_take HP.out.2.2.2, ← HP.out.2.2.1, HV.out]
                        rfl
                  · have t2 : decide (0 < x.to) = false := decide_eq_false q2
                    have HV := Lib.hid (show crs1 x y = false by simp [crs1, q2])
                    clear q2
                    go_wp2_with fail
                    go_roundg (k - (p + 1))
                    case measure => have := HP.out.1; omega
                    case rel =>
                      refine ⟨p + 1, by omega, rfl, ?_, by go_num, HP.out.2.1.alloc _⟩
                      rw [any_take HP.out.2.2.2, ← HP.out.2.2.1, HV.out]
                      rfl
                · have t1 : (y.task == x.task) = false := by simp [q1]
                  have HV := Lib.hid (show crs1 x y = false by simp [crs1, q1])
                  clear q1
                  go_wp2_with fail
                  go_roundg (k - (p + 1))
                  case measure => have := HP.out.1; omega
                  case rel =>
                    refine ⟨p + 1, by omega, rfl, ?_, by go_num, HP.out.2.1.alloc _⟩
                    rw [any_take HP.out.2.2.2, ← HP.out.2.2.1, HV.out]
                    rfl
            · obtain rfl : p = k := by omega
              have hfull : cB = crsB R.es i := by
                rw [hcB, HI.out.2.2.2.2.2.1, List.take_of_length_le (by rw [List.length_drop, HK.out]; exact Nat.le_refl _)]
              have HP := Lib.hid (And.intro hO6 hfull)
              have hO6' := H1.out.1.trans' hO6
              have r6 := own_only hO6' HI.out.2.2.1
              have z6 := hO6'.size
              have HR6 := Lib.hid r6
              clear hk3 hO6 hcB hfull hO6' r6 c1 l1 x1 xl1
              cases cB with
              | true =>
                go_wp2_with (at_builtin; refine wpList_append_lies _ rfl _ _ _ rfl W0.heap.size 3 ii _ 1 8 Try.underlying37 hii0 hii1 hii2 hii3 rfl (by omega) _ q _ (by rfl) (own_alloc HR6.out _) ⟨w6.heap.size, 0, none⟩ 1 1 [.int .i64 (i : Int)] (by rfl) (by rfl) (World.news_of_block (cs := [Value.int .i64 (i : Int)].toArray) (t := 3) (fr := (0, 0)) (heap_alloc_at' _ _ _ (by simp))) (by simp [Value.oneCell']) (by omega) (by simp only [maxLen]; omega) (by omega) (by simp; omega) (w6.heap.size + 1) (by simp) ?_; intro g8 cap8 w8 hown hgrow hat hlt2; have HG8 := Lib.hid (And.intro hown (grown_stay hgrow)); clear hown hgrow hat hlt2)
                go_roundg (R.es.length - (i + 1))
                case measure => have := HI.out.1; omega
                case rel =>
                  refine ⟨i + 1, by omega, rfl, by go_num, ?_, (HI.out.2.1.trans' (H1.out.1.trans' HP.out.1)).trans (((Stay.refl _ w6).alloc _).trans HG8.out.2 (fun _ _ h => h)) (fun j hj e => by have := (own_lt HR6.out j e).1; omega)⟩
                  rw [HI.out.2.2.2.1, if_pos HP.out.2.symm, List.length_append, ← HI.out.2.2.2.2.1]
                  have := HG8.out.1
                  simpa [ints] using this
              | false =>
                go_wp2_with fail
                go_roundg (R.es.length - (i + 1))
                case measure => have := HI.out.1; omega
                case rel =>
                  refine ⟨i + 1, by omega, rfl, by go_num, ?_, HI.out.2.1.trans' (H1.out.1.trans' HP.out.1)⟩
                  rw [HI.out.2.2.2.1, if_neg (by rw [← HP.out.2]; simp), List.append_nil, ← HI.out.2.2.2.2.1]
                  exact HR6.out
    · obtain rfl : i = R.es.length := by omega
      have HI := Lib.hid (And.intro hO4 (And.intro hr4 (And.intro htl hq)))
      clear hk2 hO4 hr4 htk htl hq
      go_wp2_with fail
      go_ret
      refine ⟨_, rfl, ?_, H0.out.1.trans' HI.out.1⟩
      rw [← HI.out.2.2.1, ← HI.out.2.2.2]
      exact owns_base HI.out.2.1 H0.out.1.size

end Go.Proofs.Ytgjicobfbdikmaa
