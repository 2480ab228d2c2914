/- The reference clock: the order of timers, the list of them in it. -/
import Derived.Test.YtbkbcpnpbfnmgaaDoorInsPure
import Derived.Test.YtbkbcpnpbfnmgaaDoorFiresPure
import Derived.Test.YtbkbcpnpbfnmgaaDoorClockRep
import Derived.Test.YtbkbcpnpbfnmgaaDoorClockTurn
import Derived.Test.YtbkbcpnpbfnmgaaDoorAppSl
import Derived.Deep.RegionHeld3
import Derived.Deep.CutRange
set_option linter.unusedVariables false
set_option linter.unusedSimpArgs false
namespace Go.Proofs.YtbkbcpnpbfnmgaaDoor
open Go Go.RowKit

set_option maxRecDepth 100000 in
set_option maxHeartbeats 4000000 in
theorem beforeI_any (ai ad bi bd : Int) (w : World) : Calls Tryd.prog 57 #[.agg #[.int .i64 ai, .int .i64 ad], .agg #[.int .i64 bi, .int .i64 bd]] w fun e w' => e = .returned (.bool (decide (ad < bd ∨ ad = bd ∧ ai < bi))) ∧ Only w w' := by
  obtain ⟨r, hr⟩ : ∃ r, r = decide (ad < bd ∨ ad = bd ∧ ai < bi) := ⟨_, rfl⟩
  rw [← hr]
  have key : (r = true ∧ decide (ad < bd) = true) ∨ (decide (ad < bd) = false ∧ (ad == bd) = true ∧ r = true ∧ decide (ai < bi) = true) ∨ (decide (ad < bd) = false ∧ (ad == bd) = true ∧ r = false ∧ decide (ai < bi) = false) ∨ (decide (ad < bd) = false ∧ (ad == bd) = false ∧ r = false) := by
    subst hr
    simp
    omega
  clear hr
  rcases key with ⟨rfl, b1⟩ | ⟨b1, b2, rfl, b3⟩ | ⟨b1, b2, rfl, b3⟩ | ⟨b1, b2, rfl⟩
  all_goals
    go_enter Tryd.func57, Tryd.ntmps57
    go_wp2_with fail
    go_ret
    exact ⟨rfl, ((Stay.refl _ w).alloc _).alloc _⟩
theorem rbefore_any (a b : Tm) (w : World) : Calls Tryd.prog 57 #[.agg #[.int .i64 a.id, .int .i64 a.due], .agg #[.int .i64 b.id, .int .i64 b.due]] w fun e w' => e = .returned (.bool (bef a b)) ∧ Only w w' := by
  have h := beforeI_any a.id a.due b.id b.due w
  rw [show decide ((a.due : Int) < (b.due : Int) ∨ (a.due : Int) = (b.due : Int) ∧ (a.id : Int) < (b.id : Int)) = bef a b from decide_eq_decide.2 (by omega)] at h
  exact h
theorem flat_put2 : ∀ (l : List Tm) (i : Nat) (t : Tm), ((l.flatMap Tm.cells).set (i * 2) (.int .i64 t.id)).set (i * 2 + 1) (.int .i64 t.due) = (l.set i t).flatMap Tm.cells
  | [], i, t => by simp
  | x :: l, 0, t => by simp [Tm.cells]
  | x :: l, i + 1, t => by
    have := flat_put2 l i t
    rw [List.set_cons_succ, List.flatMap_cons, List.flatMap_cons, ← this, show (i + 1) * 2 = i * 2 + 2 by omega]
    rfl
theorem swap_set (P' Q : List Tm) (x y : Tm) : ((P' ++ y :: x :: Q).set (P'.length + 1) y).set P'.length x = P' ++ x :: y :: Q := by
  rw [List.set_append_right _ _ (by omega), List.set_append_right _ _ (by omega)]
  simp
theorem wrap_small (z : Int) (h0 : 0 ≤ z) (h1 : z ≤ 1000) : IntKind.i64.wrap z = z := IntWalk.i64_in _ ⟨by omega, by omega⟩
theorem wrap64_small (z : Int) (h0 : 0 ≤ z) (h1 : z ≤ 1000) : wrap64 z = z := IntWalk.wrap64_in _ ⟨by omega, by omega⟩
theorem at_mid {α : Type} (P Q : List α) (x : α) : (P ++ x :: Q)[P.length]? = some x := by simp
set_option maxRecDepth 100000 in
set_option maxHeartbeats 4000000 in
theorem rall_any (w : World) (nw md : Int) (A : Option Addr) (c : Nat) (l : List Tm) (hl : Sl w w.heap.size A l.length c 2 (l.flatMap Tm.cells)) (h4 : l.length ≤ 400) :
    Calls Tryd.prog 50 #[.agg #[.int .i64 nw, .int .i64 md, .slice A l.length c]] w fun e w' => ∃ v, e = .returned v ∧ w'.ownsRow w.heap.size 39 2 v l.length ((tsort l).flatMap Tm.cells) ∧ Only w w' := by
  obtain ⟨it, hit0, hit1, hit2, hit3⟩ := info_parts infoTm
  have hnc := hl.2.1
  have hcm := hl.2.2.1
  obtain ⟨n, hn⟩ : ∃ n, n = l.length := ⟨_, rfl⟩
  rw [← hn] at hl hnc h4 ⊢
  have HL := Lib.hid (And.intro hl hn)
  clear hl hn
  go_enter Tryd.func50, Tryd.ntmps50
  go_wp2_with fail
  go_loopg [3, 11] n (fun kk vo vi wr => ∃ (i : Nat) (Ao : Option Addr) (co : Nat), i ≤ n ∧ kk = n - i ∧ vi = .int .i64 (i : Nat) ∧ vo = .slice Ao i co ∧ wr.ownsRow w.heap.size 39 2 (.slice Ao i co) i ((tsort (l.take i)).flatMap Tm.cells) ∧ Only w wr)
  case atStart => exact ⟨0, none, 0, Nat.zero_le _, rfl, rfl, rfl, by rw [List.take_zero, tsort_nil]; exact World.ownsRow_nil _ _ _ _, (Stay.refl _ w).alloc _⟩
  case round =>
    obtain ⟨i, Ao, co, hi, hk, rfl, rfl, hr, hO⟩ := hrel
    obtain ⟨wt, hwt⟩ : ∃ wt, wt = wr := ⟨_, rfl⟩
    rw [← hwt] at hr hO ⊢
    clear hwt
    by_cases hin : i < n
    · obtain ⟨t, ht⟩ : ∃ t, l[i]? = some t := ⟨_, List.getElem?_eq_getElem (by have := HL.out.2; omega)⟩
      obtain ⟨ab, ao, rfl, hab, hcells⟩ := (HL.out.1.only hO).elem Tm.cells_length ht (by omega)
      have g0 := hcells 0 _ rfl
      simp only [Nat.add_zero] at g0
      have g1 := hcells 1 _ rfl
      have htk : l.take (i + 1) = l.take i ++ [t] := by rw [List.take_add_one, ht]; rfl
      obtain ⟨ti, td⟩ := t
      simp only at g0 g1
      have HX := Lib.hid (And.intro hr (And.intro hO (And.intro hk htk)))
      clear hr hO hk hcells ht htk
      go_upto_region 6 with (at_builtin; refine wpList_append_lies _ rfl _ _ _ rfl w.heap.size 39 it _ 2 16 Tryd.underlying29 hit0 hit1 hit2 hit3 rfl (by omega) _ i _ (by rfl) (own_alloc (own_alloc HX.out.1 _) _) ⟨wt.heap.size + 1, 0, none⟩ 1 1 [.int .i64 ti, .int .i64 td] (by rfl) (by rfl) (World.news_of_block (cs := [Value.int .i64 ti, Value.int .i64 td].toArray) (t := 39) (fr := (0, 0)) (heap_alloc_at' _ _ _ (by simp))) (by simp [Value.oneCell']) (by omega) (by simp only [maxLen]; omega) (by omega) (by have := HX.out.2.1.size; simp; omega) (wt.heap.size + 2) (by simp) ?_; intro g9 cap9 w9 hown9 hgrow9 hat9 hlt9; have H9 := Lib.hid (And.intro hown9 (And.intro (grown_stay hgrow9) (And.intro hat9 hlt9))); clear hown9 hgrow9 hat9 hlt9)
      obtain ⟨T, hT⟩ : ∃ T, T = tsort (l.take i) := ⟨_, rfl⟩
      have hTs : T.Pairwise (fun a b => tle a b = true) := by rw [hT]; exact tsort_sorted _
      have hTp : (l.take i).Perm T := by rw [hT]; exact (tsort_perm _).symm
      have hTl : T.length = i := by rw [hT, tsort_length, List.length_take]; have := HL.out.2; omega
      have hrow : w9.ownsRow w.heap.size 39 2 (.slice (some ⟨g9, 0, none⟩) (i + 1) cap9) (i + 1) ((T ++ [(⟨ti, td⟩ : Tm)]).flatMap Tm.cells) := by
        rw [hT, List.flatMap_append]
        simpa [Tm.cells] using H9.out.1
      have hO9 : Only w w9 := ((HX.out.2.1.alloc _).alloc _).trans H9.out.2.1 (fun k hk e => by have := (own_lt HX.out.1 k e).1; omega)
      have HT := Lib.hid (And.intro hrow (And.intro hTs (And.intro hTp (And.intro hTl hO9))))
      clear hT hTs hTp hTl hrow hO9
      have e6 : wrap64 ((i : Int) + 1 - 1) = (i : Int) := by rw [show (i : Int) + 1 - 1 = (i : Int) by omega]; exact IntWalk.wrap64_in _ (by omega)
      go_upto_region 7 with fail
      go_loopg [6] i (fun kk vk wr => ∃ (p : Nat) (P Q : List Tm), kk = p ∧ p = P.length ∧ vk = .int .i64 (p : Nat) ∧ P.length + Q.length = i ∧ wr.ownsRow w.heap.size 39 2 (.slice (some ⟨g9, 0, none⟩) (i + 1) cap9) (i + 1) ((P ++ (⟨ti, td⟩ : Tm) :: Q).flatMap Tm.cells) ∧ (P ++ Q).Pairwise (fun a b => tle a b = true) ∧ (l.take i).Perm (P ++ Q) ∧ (∀ y ∈ Q, tle ⟨ti, td⟩ y = true) ∧ Only w wr)
      case atStart => exact ⟨i, T, [], rfl, HT.out.2.2.2.1.symm, rfl, by rw [HT.out.2.2.2.1]; rfl, HT.out.1, by rw [List.append_nil]; exact HT.out.2.1, by rw [List.append_nil]; exact HT.out.2.2.1, fun y hy => by simp at hy, HT.out.2.2.2.2⟩
      case round =>
        obtain ⟨p, P, Q, hk, hp, rfl, hl, hr, hs, hperm, hq, hO⟩ := hrel
        obtain ⟨wq, hwq⟩ : ∃ wq, wq = wr := ⟨_, rfl⟩
        rw [← hwq] at hr hO ⊢
        clear hwq
        have hx0 := at_mid P Q (⟨ti, td⟩ : Tm)
        have hlen : (P ++ (⟨ti, td⟩ : Tm) :: Q).length = i + 1 := by simp; omega
        obtain ⟨z0, z1⟩ := row_cells (owns_base hr (Nat.zero_le _)) hlen hx0
        rw [← hp] at z0 z1
        have hgl : g9 < wq.heap.size := (own_lt hr g9 rfl).2
        have fr := hr.frozenAt
        have hi4 : i < 400 := by omega
        simp only at z0 z1
        by_cases h0 : p = 0
        · subst h0
          have hP : P = [] := List.eq_nil_of_length_eq_zero hp.symm
          subst hP
          have hfin := ins_done hs hperm hq (fun P' y e => by simp at e)
          rw [← HX.out.2.2.2] at hfin
          have HZ := Lib.hid (And.intro hr (And.intro hO hfin))
          clear hr hO hs hperm hq hl hlen hx0 hp hk hfin
          go_upto_region 7 with fail
          go_quiet (fail)
          go_wp2_with fail
          go_roundg (n - (i + 1))
          case measure => have := HX.out.2.2.1; omega
          case rel => exact ⟨i + 1, _, cap9, by omega, rfl, by go_num, rfl, by rw [← HZ.out.2.2]; exact HZ.out.1, HZ.out.2.1.drewN _⟩
        · obtain ⟨q, rfl⟩ : ∃ q, p = q + 1 := ⟨p - 1, by omega⟩
          obtain ⟨P', y, rfl⟩ : ∃ P' y, P = P' ++ [y] := by
            rcases List.eq_nil_or_concat P with e | ⟨P', y, e⟩
            · subst e; simp at hp
            · exact ⟨P', y, by rw [e, List.concat_eq_append]⟩
          have hq' : q = P'.length := by simpa using hp
          have hy0 : ((P' ++ [y]) ++ (⟨ti, td⟩ : Tm) :: Q)[q]? = some y := by rw [hq']; simp
          obtain ⟨y0, y1⟩ := row_cells (owns_base hr (Nat.zero_le _)) hlen hy0
          obtain ⟨yi, yd⟩ := y
          simp only at y0 y1
          have u0 : (q : Int) + 1 > 0 := by omega
          have u0' : decide ((q : Int) + 1 > 0) = true := decide_eq_true u0
          have u1 : (0 : Int) ≤ (q : Int) + 1 := by omega
          have u2 : (q : Int) + 1 < (i : Int) + 1 := by have : (P' ++ [(⟨yi, yd⟩ : Tm)]).length = q + 1 := hp.symm; omega
          have u3 : (0 : Int) ≤ (q : Int) := by omega
          have u4 : (q : Int) < (i : Int) + 1 := by omega
          have hqi : q < i := by omega
          have hq4 : (q : Int) ≤ 1000 := by omega
          have w3a : IntKind.i64.wrap (q : Int) = (q : Int) := wrap_small _ u3 hq4
          have w3' : IntKind.i64.wrap ((q : Int) + 1 - 1) = (q : Int) := by rw [show (q : Int) + 1 - 1 = (q : Int) from Int.add_sub_cancel _ _]; exact w3a
          have w3b : wrap64 (q : Int) = (q : Int) := wrap64_small _ u3 hq4
          have w3'' : wrap64 ((q : Int) + 1 - 1) = (q : Int) := by rw [show (q : Int) + 1 - 1 = (q : Int) from Int.add_sub_cancel _ _]; exact w3b
          clear hq4
          obtain ⟨bb, hbb⟩ : ∃ bb, bb = bef ⟨ti, td⟩ ⟨yi, yd⟩ := ⟨_, rfl⟩
          have hbf : ∀ W, Calls Tryd.prog 57 #[.agg #[.int .i64 ti, .int .i64 td], .agg #[.int .i64 yi, .int .i64 yd]] W fun e w' => e = .returned (.bool bb) ∧ Only W w' := fun W => by rw [hbb]; exact rbefore_any ⟨ti, td⟩ ⟨yi, yd⟩ W
          have HZ := Lib.hid (And.intro hr (And.intro hO (And.intro hs (And.intro hperm (And.intro hq (And.intro hl (And.intro hq' (And.intro hbb hk))))))))
          clear hr hO hs hperm hq hl hlen hx0 hp hk hq' hy0 hbb h0 fr
          go_upto_region 7 with fail
          go_region_held3 (fun w' => w'.cell? ⟨g9, (q + 1) * 2, none⟩ = some (.int .i64 ti) ∧ w'.cell? ⟨g9, (q + 1) * 2 + 1, none⟩ = some (.int .i64 td) ∧ w'.cell? ⟨g9, q * 2, none⟩ = some (.int .i64 yi) ∧ w'.cell? ⟨g9, q * 2 + 1, none⟩ = some (.int .i64 yd))
            (first | go_keep | (go_split_ands; refine ⟨?_, ?_, ?_, ?_⟩ <;> (apply Only.cell o2; assumption)))
            ((go_at_call 57; refine (hbf _).mono ?_; rintro e w3 ⟨rfl, o2⟩))
          have hr3 := own_only ((show Only wq wq.drew from (Stay.refl _ wq).drew).trans' o2) HZ.out.1
          have hO3 : Only w w3 := HZ.out.2.1.trans' ((show Only wq wq.drew from (Stay.refl _ wq).drew).trans' o2)
          have hg3 : g9 < w3.heap.size := (own_lt hr3 g9 rfl).2
          have hge : w.heap.size ≤ g9 := (own_lt hr3 g9 rfl).1
          have fr := hr3.frozenAt
          cases bb with
          | false =>
            have hfin := ins_done HZ.out.2.2.1 HZ.out.2.2.2.1 HZ.out.2.2.2.2.1 (fun P'' y e => by
              have e2 := List.append_inj' e rfl
              obtain ⟨-, e3⟩ := e2
              have e4 : (⟨yi, yd⟩ : Tm) = y := by simpa using e3
              have := HZ.out.2.2.2.2.2.2.2.1
              rw [bef_tle] at this
              rw [← e4]
              simpa using this.symm)
            rw [← HX.out.2.2.2] at hfin
            have HY := Lib.hid (And.intro hr3 (And.intro hO3 hfin))
            clear hr3 hO3 hfin o2 z0 z1 y0 y1 fr
            go_wp2_with fail
            go_roundg (n - (i + 1))
            case measure => have := HX.out.2.2.1; omega
            case rel => exact ⟨i + 1, _, cap9, by omega, rfl, by go_num, rfl, by rw [← HY.out.2.2]; exact HY.out.1, HY.out.2.1⟩
          | true =>
            have hlt : tle ⟨yi, yd⟩ ⟨ti, td⟩ = false := by
              have := HZ.out.2.2.2.2.2.2.2.1
              rw [bef_tle] at this
              simpa using this.symm
            have hst := ins_step HZ.out.2.2.1 HZ.out.2.2.2.2.1 hlt
            have z0a := o2.cell z0
            have z1a := o2.cell z1
            have y0a := o2.cell y0
            have y1a := o2.cell y1
            have hne : g9 ≠ w3.heap.size := by omega
            have hne' : w3.heap.size ≠ g9 := by omega
            have f0 := fr ((q + 1) * 2)
            have f1 := fr ((q + 1) * 2 + 1)
            have f2 := fr (q * 2)
            have f3 := fr (q * 2 + 1)
            have HY := Lib.hid (And.intro hr3 (And.intro hO3 hst))
            clear hr3 hO3 hst hlt o2 z0 z1 y0 y1 fr
            go_wp2_with fail
            go_roundg q
            case measure => have := HZ.out.2.2.2.2.2.2.2.2; first | (rw [this]; exact Nat.lt_succ_self _) | (subst this; exact Nat.lt_succ_self _)
            case rel =>
              have hq' := HZ.out.2.2.2.2.2.2.1
              refine ⟨q, P', ⟨yi, yd⟩ :: Q, rfl, hq', by go_num, ?_, ?_, HY.out.2.2.1, ?_, HY.out.2.2.2, ?_⟩
              · have := HZ.out.2.2.2.2.2.1
                simp only [List.length_append, List.length_cons, List.length_nil] at this ⊢
                omega
              · have h4 := (((((HY.out.1.stored ((q + 1) * 2) (.int .i64 yi)).1).stored ((q + 1) * 2 + 1) (.int .i64 yd)).1.stored (q * 2) (.int .i64 ti)).1.stored (q * 2 + 1) (.int .i64 td)).1
                have e1 := flat_put2 (P' ++ [(⟨yi, yd⟩ : Tm)] ++ (⟨ti, td⟩ : Tm) :: Q) (q + 1) ⟨yi, yd⟩
                simp only at e1
                rw [e1] at h4
                have e2 := flat_put2 ((P' ++ [(⟨yi, yd⟩ : Tm)] ++ (⟨ti, td⟩ : Tm) :: Q).set (q + 1) ⟨yi, yd⟩) q ⟨ti, td⟩
                simp only at e2
                rw [e2] at h4
                have e3 : ((P' ++ [(⟨yi, yd⟩ : Tm)] ++ (⟨ti, td⟩ : Tm) :: Q).set (q + 1) ⟨yi, yd⟩).set q ⟨ti, td⟩ = P' ++ (⟨ti, td⟩ : Tm) :: ⟨yi, yd⟩ :: Q := by
                  rw [hq', List.append_assoc, List.singleton_append]
                  exact swap_set P' Q ⟨ti, td⟩ ⟨yi, yd⟩
                rw [e3] at h4
                exact own_alloc h4 _
              · have := HZ.out.2.2.2.1
                simpa using this
              · exact ((((HY.out.2.1.new hge _ _).new hge _ _).new hge _ _).new hge _ _).alloc _
    · obtain rfl : i = n := by omega
      have htk : l.take i = l := List.take_of_length_le (by have := HL.out.2; omega)
      rw [htk] at hr
      have HX := Lib.hid (And.intro hr hO)
      clear hr hO hk htk
      go_wp2_with fail
      go_ret
      exact ⟨_, rfl, HX.out.1, HX.out.2⟩
end Go.Proofs.YtbkbcpnpbfnmgaaDoor
