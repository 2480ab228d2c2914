/- The reference clock: Next, Advance, Tick. -/
import Derived.Test.YtbkbcpnpbfnmgaaDoorRefCC
import Derived.Test.YtbkbcpnpbfnmgaaDoorLawClockFires
set_option linter.unusedVariables false
set_option linter.unusedSimpArgs false
namespace Go.Proofs.YtbkbcpnpbfnmgaaDoor
open Go Go.RowKit

set_option maxRecDepth 100000 in
set_option maxHeartbeats 4000000 in
theorem rnext_any (w : World) (C : Ck) (A : Option Addr) (c : Nat) (h : RcIn w C A c) :
    Calls Tryd.prog 49 #[C.val (.slice A C.ts.length c)] w fun e w' => e = .returned (.tuple #[.int .i64 (C.next.getD 0 : Nat), .bool C.next.isSome]) ∧ Only w w' := by
  obtain ⟨n, hn⟩ : ∃ n, n = C.ts.length := ⟨_, rfl⟩
  obtain ⟨nw, hnw⟩ : ∃ a : Int, a = C.now := ⟨_, rfl⟩
  obtain ⟨md, hmd⟩ : ∃ a : Int, a = C.made := ⟨_, rfl⟩
  have hall := fun (W : World) (ho : Only w W) => rall_any W nw md A c C.ts (h.sl.later ho ho.size) h.ok.len
  have hn4 := h.ok.len
  unfold Ck.val
  rw [← hn] at hall hn4
  rw [← hn, ← hnw, ← hmd]
  have HA := Lib.hid (And.intro hall hn)
  clear h hmd hn hnw hall
  obtain ⟨nx, hnx⟩ : ∃ nx : Int, nx = (C.next.getD 0 : Nat) := ⟨_, rfl⟩
  obtain ⟨ok, hok⟩ : ∃ ok, ok = C.next.isSome := ⟨_, rfl⟩
  rw [← hnx, ← hok]
  have HQ := Lib.hid (And.intro hnx hok)
  clear hnx hok
  go_enter Tryd.func49, Tryd.ntmps49
  go_wp2_with fail
  refine (HA.out.1 _ ((Stay.refl _ w).alloc _)).mono ?_
  rintro e w2 ⟨v2, rfl, hr2, hO2⟩
  obtain ⟨A2, c2, rfl⟩ := own_shape hr2
  have H2 := Lib.hid (And.intro hr2 ((show Only w (w.alloc (.cells #[.int .i64 nw, .int .i64 md, .slice A n c] 53)) from (Stay.refl _ w).alloc _).trans' hO2))
  clear hr2 hO2
  by_cases h0 : n = 0
  · subst h0
    have e : C.next = none := all_nil (by show (tsort C.ts).length = 0; rw [tsort_length]; exact HA.out.2.symm)
    have hx := HQ.out.1
    have ho := HQ.out.2
    rw [e] at hx ho
    simp at hx ho
    subst hx ho
    clear e
    go_wp2_with fail
    go_ret2
    exact ⟨rfl, H2.out.2⟩
  · obtain ⟨t, ht⟩ : ∃ t, C.all[0]? = some t := ⟨_, List.getElem?_eq_getElem (by show 0 < (tsort C.ts).length; rw [tsort_length]; have := HA.out.2; omega)⟩
    have hln : (tsort C.ts).length = n := by rw [tsort_length]; exact HA.out.2.symm
    obtain ⟨g, c3, e1, _, hg⟩ := H2.out.1.form (by omega)
    have e1' : A2 = some ⟨g, 0, none⟩ ∧ c2 = c3 := by simpa using e1
    obtain ⟨rfl, rfl⟩ := e1'
    obtain ⟨z0, z1⟩ := row_cells (owns_base H2.out.1 (Nat.zero_le _)) hln ht
    have e := all_next ht
    have hx := HQ.out.1
    have ho := HQ.out.2
    rw [e] at hx ho
    simp at hx ho
    rw [← hx] at z1
    subst ho
    have b0 : ((n : Int) == 0) = false := by simp; omega
    have u1 : (0 : Int) < (n : Int) := by omega
    simp only [Nat.zero_mul, Nat.zero_add] at z1
    clear e hx z0 ht hln e1
    go_wp2_with fail
    go_ret2
    exact ⟨rfl, H2.out.2⟩
def keepl (l : List Tm) (d : Int) (i : Nat) : List Tm := (l.take i).filter fun t => !decide ((t.due : Int) ≤ d)
theorem keepl_len (l : List Tm) (d : Int) (i : Nat) : (keepl l d i).length ≤ i := by
  unfold keepl
  exact Nat.le_trans (List.length_filter_le _ _) (by rw [List.length_take]; omega)
theorem keepl_hit {l : List Tm} {d : Int} {i : Nat} {t : Tm} (ht : l[i]? = some t) (h : (t.due : Int) ≤ d) : keepl l d (i + 1) = keepl l d i := by
  unfold keepl
  rw [List.take_add_one, ht]
  simp [h]
theorem keepl_no {l : List Tm} {d : Int} {i : Nat} {t : Tm} (ht : l[i]? = some t) (h : ¬ (t.due : Int) ≤ d) : keepl l d (i + 1) = keepl l d i ++ [t] := by
  unfold keepl
  rw [List.take_add_one, ht]
  simp [h]
theorem keepl_all (l : List Tm) {d : Int} (h0 : 0 ≤ d) : keepl l d l.length = l.filter fun t => !decide (t.due ≤ d.toNat) := by
  unfold keepl
  rw [List.take_length]
  refine List.filter_congr fun t _ => ?_
  congr 1
  exact decide_eq_decide.2 (by omega)
set_option maxRecDepth 100000 in
set_option maxHeartbeats 4000000 in
theorem radv_any (w : World) (C : Ck) (A : Option Addr) (c : Nat) (h : RcIn w C A c) (d : Int) :
    Calls Tryd.prog 47 #[C.val (.slice A C.ts.length c), .int .i64 d] w fun e w' => ∃ v' vl, e = .returned (.tuple #[(C.adve d).1.val v', vl, .int .i64 (C.adve d).2.2]) ∧ RcOut w C A c (C.adve d).1 v' w' ∧ w'.ownsRow w.heap.size 3 1 vl (C.adve d).2.1.length (ints (C.adve d).2.1) := by
  obtain ⟨it, hit0, hit1, hit2, hit3⟩ := info_parts infoTm
  obtain ⟨ii, hii0, hii1, hii2, hii3⟩ := info_parts infoI
  obtain ⟨n, hn⟩ : ∃ n, n = C.ts.length := ⟨_, rfl⟩
  obtain ⟨nw, hnw⟩ : ∃ a : Int, a = C.now := ⟨_, rfl⟩
  obtain ⟨md, hmd⟩ : ∃ a : Int, a = C.made := ⟨_, rfl⟩
  have hall := fun (W : World) (ho : Only w W) => rall_any W nw md A c C.ts (h.sl.later ho ho.size) h.ok.len
  have hnc := h.sl.2.1
  have hcm := h.sl.2.2.1
  have hn4 := h.ok.len
  have hsl := h.sl
  unfold Ck.val
  rw [← hn] at hnc hn4 hsl hall
  rw [← hn, ← hnw, ← hmd]
  have hcase : (C.adve d = (C, [], 2) ∧ (d < nw ∨ d > 1000000000000)) ∨ (C.adve d = (C.adv d.toNat, C.dues d.toNat, 0) ∧ d ≥ nw ∧ d ≤ 1000000000000 ∧ 0 ≤ d) := by
    unfold Ck.adve maxT
    split
    · rename_i h1; exact .inl ⟨rfl, by omega⟩
    · rename_i h1
      exact .inr ⟨rfl, by omega, by omega, by omega⟩
  have HN := Lib.hid (And.intro hsl (And.intro hn (And.intro hnw (And.intro hmd hall))))
  clear h hmd hn hnw hsl hall
  go_enter Tryd.func47, Tryd.ntmps47
  go_upto_region 1 with fail
  obtain ⟨W0, hW0⟩ : ∃ W0 : World, W0 = (w.alloc (.cells #[.int .i64 nw, .int .i64 md, .slice A n c] 53)).alloc (.cells #[.int .i64 0, .int .i64 0, .slice none 0 0] 53) := ⟨_, rfl⟩
  have hT0 : U2 w W0 [.int .i64 nw, .int .i64 md, .slice A n c] [.int .i64 0, .int .i64 0, .slice none 0 0] := by rw [hW0]; exact U2.start w _ _ _
  rw [← hW0]
  have c1 := hT0.b1.cell
  have f1 := hT0.b1.free
  have l1 := hT0.b1.lt
  have c2 := hT0.b2.cell
  have f2 := hT0.b2.free
  have l2 := hT0.b2.lt
  have H0 := Lib.hid hT0
  clear hT0 hW0
  rcases hcase with ⟨he, h1⟩ | ⟨he, h1, h2, hd0⟩
  · have HE := Lib.hid he
    have key : decide (d < nw) = true ∨ (decide (d < nw) = false ∧ decide (d > 1000000000000) = true) := by
      by_cases h2 : d < nw
      · exact .inl (decide_eq_true h2)
      · exact .inr ⟨decide_eq_false h2, decide_eq_true (by omega)⟩
    clear h1 he
    rcases key with b1 | ⟨b1, b2⟩
    all_goals
      go_wp2_with fail
      have hT5 := H0.out.put3 rfl (.int .i64 nw) (.int .i64 md) (.slice A n c)
      have r0 := hT5.b2.cell 0
      have r1 := hT5.b2.cell 1
      have r2 := hT5.b2.cell 2
      simp only [List.getElem?_cons_zero, List.getElem?_cons_succ] at r0 r1 r2
      refine bodyPost_ret (v := .tuple #[.agg #[.int .i64 nw, .int .i64 md, .slice A n c], .slice none 0 0, .int .i64 2]) (by simp [results, Tryd.results47, go_sem, r0, r1, r2]) rfl ?_
      rw [HE.out]
      exact ⟨.slice A n c, .slice none 0 0, by rw [HN.out.2.2.1, HN.out.2.2.2.1], ⟨.inl ⟨by rw [← HN.out.2.1], rfl⟩, hT5.o⟩, World.ownsRow_nil _ _ _ _⟩
  · have HE := Lib.hid he
    have b1 : decide (d < nw) = false := decide_eq_false (by omega)
    have b2 : decide (d > 1000000000000) = false := decide_eq_false (by omega)
    clear he h1 h2
    go_wp2_with fail
    refine (HN.out.2.2.2.2 W0 H0.out.o).mono ?_
    rintro e w2 ⟨v2, rfl, hr2, hO2⟩
    obtain ⟨A2, c2', rfl⟩ := own_shape hr2
    have hT2 := H0.out.only hO2
    have hln : C.all.length = n := by show (tsort C.ts).length = n; rw [tsort_length]; exact HN.out.2.1.symm
    have H2 := Lib.hid (And.intro hr2 (And.intro hT2 hln))
    clear hr2 hO2 hT2 hln c1 f1 l1 c2 f2 l2 b1 b2
    go_wp2_with fail
    go_loopg [7, 25] n (fun kk vf vi wr => ∃ (i q : Nat) (Af : Option Addr) (cf : Nat), i ≤ n ∧ kk = n - i ∧ vi = .int .i64 (i : Nat) ∧ q = (C.dueTo d i).length ∧ vf = .slice Af q cf ∧ wr.ownsRow w2.heap.size 3 1 (.slice Af q cf) q (ints (C.dueTo d i)) ∧ Only w2 wr)
    case atStart => exact ⟨0, 0, none, 0, Nat.zero_le _, rfl, rfl, rfl, rfl, World.ownsRow_nil _ _ _ _, Stay.refl _ _⟩
    case round =>
      obtain ⟨i, q, Af, cf, hi, hk, rfl, hq, rfl, hr, hO⟩ := hrel
      obtain ⟨wt, hwt⟩ : ∃ wt, wt = wr := ⟨_, rfl⟩
      rw [← hwt] at hr hO ⊢
      clear hwt
      by_cases hin : i < n
      · obtain ⟨t, ht⟩ : ∃ t, C.all[i]? = some t := ⟨_, List.getElem?_eq_getElem (by have := H2.out.2.2; omega)⟩
        obtain ⟨g, c3, e1, _, hg⟩ := H2.out.1.form (by omega)
        have e1' : A2 = some ⟨g, 0, none⟩ ∧ c2' = c3 := by simpa using e1
        obtain ⟨rfl, rfl⟩ := e1'
        obtain ⟨z0, z1⟩ := row_cells (owns_base (own_only hO H2.out.1) (Nat.zero_le _)) H2.out.2.2 ht
        have hq4 : q ≤ i := by rw [hq]; exact dueTo_len _ _ _
        have hhit := fun h => (dueTo_yes (x := d) ht h).1
        have hno := fun h => (dueTo_no (x := d) ht h).1
        have hgt : g < wt.heap.size := Nat.lt_of_lt_of_le hg hO.size
        have hzt := hO.size
        obtain ⟨ti, td⟩ := t
        simp only at z0 z1 hhit hno
        obtain ⟨ad, had⟩ : ∃ a : Int, a = td := ⟨_, rfl⟩
        rw [← had] at z1 hhit hno
        have HX := Lib.hid (And.intro hr (And.intro hO (And.intro hk hq)))
        by_cases hd : ad ≤ d
        · have hy := hhit hd
          have b1 : decide (ad ≤ d) = true := decide_eq_true hd
          have HY := Lib.hid hy
          clear hr hO hk hq had ht hhit hno hd hy e1
          go_wp2_with (at_builtin; refine wpList_append_lies _ rfl _ _ _ rfl w2.heap.size 3 ii _ 1 8 Tryd.underlying42 hii0 hii1 hii2 hii3 rfl (by omega) _ q _ (by rfl) (own_alloc (own_alloc HX.out.1 _) _) ⟨wt.heap.size + 1, 0, none⟩ 1 1 [.int .i64 (ti : Int)] (by rfl) (by rfl) (World.news_of_block (cs := [Value.int .i64 (ti : Int)].toArray) (t := 3) (fr := (0, 0)) (heap_alloc_at' _ _ _ (by simp))) (by simp [Value.oneCell']) (by omega) (by simp only [maxLen]; omega) (by omega) (by simp; omega) (wt.heap.size + 2) (by simp) ?_; intro g9 cap9 w9 hown9 hgrow9 hat9 hlt9; have H9 := Lib.hid (And.intro hown9 (grown_stay hgrow9)); clear hown9 hgrow9 hat9 hlt9)
          go_roundg (n - (i + 1))
          case measure => have := HX.out.2.2.1; omega
          case rel =>
            refine ⟨i + 1, q + 1, some ⟨g9, 0, none⟩, cap9, by omega, rfl, by go_num, by rw [HY.out, List.length_append, ← HX.out.2.2.2]; rfl, rfl, ?_, ?_⟩
            · rw [HY.out]
              simpa [ints, Tm.z] using H9.out.1
            · exact ((HX.out.2.1.alloc _).alloc _).trans H9.out.2 (fun k hk e => by have := (own_lt HX.out.1 k e).1; omega)
        · have hy := hno hd
          have b1 : decide (ad ≤ d) = false := decide_eq_false hd
          have HY := Lib.hid hy
          clear hr hO hk hq had ht hhit hno hd hy e1
          go_wp2_with fail
          go_roundg (n - (i + 1))
          case measure => have := HX.out.2.2.1; omega
          case rel => exact ⟨i + 1, q, Af, cf, by omega, rfl, by go_num, by rw [HY.out]; exact HX.out.2.2.2, rfl, by rw [HY.out]; exact own_alloc HX.out.1 _, HX.out.2.1.alloc _⟩
      · obtain rfl : i = n := by omega
        have hT3 := H2.out.2.1.only hO
        have c1 := hT3.b1.cell
        have l1 := hT3.b1.lt
        have hdt := (dueTo_all C hd0).1
        rw [H2.out.2.2] at hdt
        rw [hdt] at hr hq
        have HX := Lib.hid (And.intro hr (And.intro hT3 (And.intro hq hO)))
        have hq4 : q ≤ 400 := by rw [hq, ← hdt]; exact Nat.le_trans (dueTo_len _ _ _) hn4
        clear hr hT3 hq hO hk hdt
        go_wp2_with fail
        go_loopg [10, 42] i (fun kk vl vi wr => ∃ (j p : Nat) (Al : Option Addr) (cl : Nat), j ≤ i ∧ kk = i - j ∧ vi = .int .i64 (j : Nat) ∧ p = (keepl C.ts d j).length ∧ vl = .slice Al p cl ∧ wr.ownsRow w.heap.size 39 2 (.slice Al p cl) p ((keepl C.ts d j).flatMap Tm.cells) ∧ U2 w wr [.int .i64 nw, .int .i64 md, .slice A i c] [.int .i64 0, .int .i64 0, .slice none 0 0] ∧ wr.ownsRow w2.heap.size 3 1 (.slice Af q cf) q (ints (C.dues d.toNat)))
        case atStart => exact ⟨0, 0, none, 0, Nat.zero_le _, rfl, rfl, rfl, rfl, World.ownsRow_nil _ _ _ _, HX.out.2.1, HX.out.1⟩
        case round =>
          obtain ⟨j, p, Al, cl, hj, hk, rfl, hp, rfl, hr, hT, hf⟩ := hrel
          obtain ⟨wq, hwq⟩ : ∃ wq, wq = wr := ⟨_, rfl⟩
          rw [← hwq] at hr hT hf ⊢
          clear hwq
          by_cases hji : j < i
          · obtain ⟨t, ht⟩ : ∃ t, C.ts[j]? = some t := ⟨_, List.getElem?_eq_getElem (by have := HN.out.2.1; omega)⟩
            obtain ⟨ab, ao, rfl, hab, hcells⟩ := (HN.out.1.only hT.o).elem Tm.cells_length ht (by omega)
            have g0 := hcells 0 _ rfl
            simp only [Nat.add_zero] at g0
            have g1 := hcells 1 _ rfl
            have hp4 : p ≤ j := by rw [hp]; exact keepl_len _ _ _
            have hhit := fun h => keepl_hit (d := d) ht h
            have hno := fun h => keepl_no (d := d) ht h
            have hzt := hT.o.size
            obtain ⟨ti, td⟩ := t
            simp only at g0 g1 hhit hno
            obtain ⟨ad, had⟩ : ∃ a : Int, a = td := ⟨_, rfl⟩
            rw [← had] at g1 hhit hno
            have HY := Lib.hid (And.intro hr (And.intro hT (And.intro hf (And.intro hk (And.intro hp had)))))
            by_cases hd : ad ≤ d
            · have hy := hhit hd
              have b1 : decide (ad > d) = false := decide_eq_false (by omega)
              have b2 : ¬ ad > d := by omega
              have HZ := Lib.hid hy
              clear hr hT hf hk hp had hcells ht hhit hno hd hy c1 l1
              go_wp2_with fail
              go_roundg (i - (j + 1))
              case measure => have := HY.out.2.2.2.1; omega
              case rel => exact ⟨j + 1, p, Al, cl, by omega, rfl, by go_num, by rw [HZ.out]; exact HY.out.2.2.2.2.1, rfl, by rw [HZ.out]; exact own_alloc HY.out.1 _, HY.out.2.1.only ((Stay.refl _ _).alloc _), own_alloc HY.out.2.2.1 _⟩
            · have hy := hno hd
              have b1 : decide (ad > d) = true := decide_eq_true (by omega)
              have b2 : ad > d := by omega
              have HZ := Lib.hid hy
              clear hr hT hf hk hp had hcells ht hhit hno hd hy c1 l1
              go_wp2_with (at_builtin; refine wpList_append_lies _ rfl _ _ _ rfl w.heap.size 39 it _ 2 16 Tryd.underlying29 hit0 hit1 hit2 hit3 rfl (by omega) _ p _ (by rfl) (own_alloc (own_alloc HY.out.1 _) _) ⟨wq.heap.size + 1, 0, none⟩ 1 1 [.int .i64 (ti : Int), .int .i64 ad] (by rfl) (by rfl) (World.news_of_block (cs := [Value.int .i64 (ti : Int), Value.int .i64 ad].toArray) (t := 39) (fr := (0, 0)) (heap_alloc_at' _ _ _ (by simp))) (by simp [Value.oneCell']) (by omega) (by simp only [maxLen]; omega) (by omega) (by simp; omega) (wq.heap.size + 2) (by simp) ?_; intro g9 cap9 w9 hown9 hgrow9 hat9 hlt9; have hT9 := (HY.out.2.1.only (((Stay.refl _ wq).alloc _).alloc _)).row (own_alloc (own_alloc HY.out.1 _) _) (Nat.le_refl _) (by decide) (grown_stay hgrow9); have hf9 := own_stay (grown_stay hgrow9) (own_alloc (own_alloc HY.out.2.2.1 _) _) (fun g hg e => own_apart HY.out.1 HY.out.2.2.1 (by decide) g e hg); have H9 := Lib.hid (And.intro hown9 (And.intro hT9 hf9)); clear hown9 hgrow9 hat9 hlt9 hT9 hf9)
              go_roundg (i - (j + 1))
              case measure => have := HY.out.2.2.2.1; omega
              case rel =>
                refine ⟨j + 1, p + 1, some ⟨g9, 0, none⟩, cap9, by omega, rfl, by go_num, by rw [HZ.out, List.length_append, ← HY.out.2.2.2.2.1]; rfl, rfl, ?_, H9.out.2.1, H9.out.2.2⟩
                rw [HZ.out, List.flatMap_append]
                have e4 : [(⟨ti, td⟩ : Tm)].flatMap Tm.cells = [.int .i64 (ti : Int), .int .i64 ad] := by simp [Tm.cells, HY.out.2.2.2.2.2]
                rw [e4]
                exact H9.out.1
          · obtain rfl : j = i := by omega
            have HY := Lib.hid (And.intro hr (And.intro hT (And.intro hf hp)))
            have f1 := hT.b1.free
            have c1' := hT.b1.cell
            have l1' := hT.b1.lt
            have l2' := hT.b2.lt
            have f2 := hT.b2.free
            have c2' := hT.b2.cell
            clear hr hT hf hp hk c1 l1
            go_wp2_with fail
            have hT5 := ((HY.out.2.1.put1 0 (.int .i64 d)).put1 2 (.slice Al p cl)).put3 rfl (.int .i64 d) (.int .i64 md) (.slice Al p cl)
            simp only [List.set_cons_zero, List.set_cons_succ] at hT5
            have r0 := hT5.b2.cell 0
            have r1 := hT5.b2.cell 1
            have r2 := hT5.b2.cell 2
            simp only [List.getElem?_cons_zero, List.getElem?_cons_succ] at r0 r1 r2
            refine bodyPost_ret (v := .tuple #[.agg #[.int .i64 d, .int .i64 md, .slice Al p cl], .slice Af q cf, .int .i64 0]) (by simp [results, Tryd.results47, go_sem, r0, r1, r2]) rfl ?_
            have n2 := own_ne_blk HY.out.1 HY.out.2.1.b2 (by decide)
            have n1 := own_ne_blk HY.out.1 HY.out.2.1.b1 (by decide)
            have m2 := own_ne_blk HY.out.2.2.1 HY.out.2.1.b2 (by decide)
            have m1 := own_ne_blk HY.out.2.2.1 HY.out.2.1.b1 (by decide)
            rw [HE.out]
            have e3 : (C.adv d.toNat).ts = keepl C.ts d j := by rw [HN.out.2.1, keepl_all C.ts hd0]; rfl
            have e1 : ((C.adv d.toNat).now : Int) = d := Int.toNat_of_nonneg hd0
            have e2 : ((C.adv d.toNat).made : Int) = md := by rw [HN.out.2.2.2.1]; rfl
            have h9 := own_set (own_set (own_set (own_set (own_set HY.out.1 (A := ⟨w.heap.size, 0, none⟩) (.int .i64 d) n1) (A := ⟨w.heap.size, 2, none⟩) (.slice Al p cl) n1) (A := ⟨w.heap.size + 1, 0, none⟩) (.int .i64 d) n2) (A := ⟨w.heap.size + 1, 1, none⟩) (.int .i64 md) n2) (A := ⟨w.heap.size + 1, 2, none⟩) (.slice Al p cl) n2
            have h8 := own_set (own_set (own_set (own_set (own_set HY.out.2.2.1 (A := ⟨w.heap.size, 0, none⟩) (.int .i64 d) m1) (A := ⟨w.heap.size, 2, none⟩) (.slice Al p cl) m1) (A := ⟨w.heap.size + 1, 0, none⟩) (.int .i64 d) m2) (A := ⟨w.heap.size + 1, 1, none⟩) (.int .i64 md) m2) (A := ⟨w.heap.size + 1, 2, none⟩) (.slice Al p cl) m2
            refine ⟨.slice Al p cl, .slice Af q cf, by simp only [e1, e2], ⟨.inr ?_, hT5.o⟩, ?_⟩
            · rw [e3, ← HY.out.2.2.2]
              exact h9
            · simp only
              rw [← HX.out.2.2.1]
              exact owns_base h8 H2.out.2.1.o.size
set_option maxRecDepth 100000 in
set_option maxHeartbeats 4000000 in
theorem rtick_any (w : World) (C : Ck) (A : Option Addr) (c : Nat) (h : RcIn w C A c) :
    Calls Tryd.prog 48 #[C.val (.slice A C.ts.length c)] w fun e w' => ∃ v' vl, e = .returned (.tuple #[C.ticke.1.val v', vl, .int .i64 C.ticke.2.2]) ∧ RcOut w C A c C.ticke.1 v' w' ∧ w'.ownsRow w.heap.size 3 1 vl C.ticke.2.1.length (ints C.ticke.2.1) := by
  have hin : ∀ W, Only w W → RcIn W C A c := fun W ho => ⟨h.ok, h.sl.later ho ho.size⟩
  have hnx := fun (W : World) (ho : Only w W) => rnext_any W C A c (hin W ho)
  have hav := fun (W : World) (ho : Only w W) (d : Int) => radv_any W C A c (hin W ho) d
  have hok := h.ok
  obtain ⟨n, hn⟩ : ∃ n, n = C.ts.length := ⟨_, rfl⟩
  obtain ⟨nw, hnw⟩ : ∃ a : Int, a = C.now := ⟨_, rfl⟩
  obtain ⟨md, hmd⟩ : ∃ a : Int, a = C.made := ⟨_, rfl⟩
  have hval : C.val (.slice A C.ts.length c) = .agg #[.int .i64 nw, .int .i64 md, .slice A n c] := by unfold Ck.val; rw [hn, hnw, hmd]
  rw [hval] at hnx hav ⊢
  have HN := Lib.hid (And.intro hval (And.intro hnx (And.intro hav hok)))
  clear h hn hnw hmd hval hnx hav hin hok
  go_enter Tryd.func48, Tryd.ntmps48
  go_upto_region 1 with fail
  obtain ⟨W0, hW0⟩ : ∃ W0 : World, W0 = (w.alloc (.cells #[.int .i64 nw, .int .i64 md, .slice A n c] 53)).alloc (.cells #[.int .i64 0, .int .i64 0, .slice none 0 0] 53) := ⟨_, rfl⟩
  have hT0 : U2 w W0 [.int .i64 nw, .int .i64 md, .slice A n c] [.int .i64 0, .int .i64 0, .slice none 0 0] := by rw [hW0]; exact U2.start w _ _ _
  rw [← hW0]
  have c1 := hT0.b1.cell
  have l1 := hT0.b1.lt
  have H0 := Lib.hid hT0
  clear hT0 hW0
  cases hx : C.next with
  | none =>
    have e : C.ticke = (C, [], 6) := by unfold Ck.ticke; rw [hx]
    have hc := HN.out.2.1 W0 H0.out.o
    rw [hx] at hc
    have HE := Lib.hid e
    clear e hx
    go_wp2_with fail
    refine (show Calls Tryd.prog 49 #[.agg #[.int .i64 nw, .int .i64 md, .slice A n c]] W0 fun e w' => e = .returned (.tuple #[.int .i64 0, .bool false]) ∧ Only W0 w' from hc).mono ?_
    clear hc
    rintro e w2 ⟨rfl, hO2⟩
    have hT2 := H0.out.only hO2
    have c1 := hT2.b1.cell
    have l1 := hT2.b1.lt
    have f2 := hT2.b2.free
    have c2 := hT2.b2.cell
    have l2 := hT2.b2.lt
    have H2 := Lib.hid hT2
    clear hO2 hT2
    go_wp2_with fail
    have hT5 := H2.out.put3 rfl (.int .i64 nw) (.int .i64 md) (.slice A n c)
    have r0 := hT5.b2.cell 0
    have r1 := hT5.b2.cell 1
    have r2 := hT5.b2.cell 2
    simp only [List.getElem?_cons_zero, List.getElem?_cons_succ] at r0 r1 r2
    refine bodyPost_ret (v := .tuple #[.agg #[.int .i64 nw, .int .i64 md, .slice A n c], .slice none 0 0, .int .i64 6]) (by simp [results, Tryd.results48, go_sem, r0, r1, r2]) rfl ?_
    rw [HE.out]
    exact ⟨.slice A C.ts.length c, .slice none 0 0, by rw [HN.out.1], ⟨.inl ⟨rfl, rfl⟩, hT5.o⟩, World.ownsRow_nil _ _ _ _⟩
  | some t =>
    have e : C.ticke = (C.adv t, C.dues t, 0) := by unfold Ck.ticke; rw [hx]
    have hr := Ck.next_rng HN.out.2.2.2 hx
    have ea : C.adve t = (C.adv t, C.dues t, 0) := by unfold Ck.adve; rw [if_neg (by omega)]; rfl
    have hc := HN.out.2.1 W0 H0.out.o
    rw [hx] at hc
    rw [← ea] at e
    have HE := Lib.hid (And.intro e (show ∃ x, (C.adve t).2.2 = x from ⟨_, rfl⟩))
    obtain ⟨tt, htt⟩ : ∃ a : Int, a = t := ⟨_, rfl⟩
    have hc2 : Calls Tryd.prog 49 #[.agg #[.int .i64 nw, .int .i64 md, .slice A n c]] W0 fun e w' => e = .returned (.tuple #[.int .i64 tt, .bool true]) ∧ Only W0 w' := by rw [htt]; exact hc
    rw [← htt] at HE
    clear e hx hc ea hr htt
    go_wp2_with fail
    refine hc2.mono ?_
    clear hc2
    rintro e w2 ⟨rfl, hO2⟩
    have hT2 := H0.out.only hO2
    have c1 := hT2.b1.cell
    have l1 := hT2.b1.lt
    have H2 := Lib.hid hT2
    clear hO2 hT2
    go_wp2_with fail
    refine (HN.out.2.2.1 w2 H2.out.o tt).mono ?_
    rintro e w3 ⟨v', vl, rfl, hout, hrow⟩
    obtain ⟨Al, cl, rfl⟩ := own_shape hrow
    have hz := H2.out.o.size
    have hrow3 := owns_base hrow hz
    have hout3 : RcOut w C A c (C.adve tt).1 v' w3 := ⟨hout.1.imp id (fun h => owns_base h hz), H2.out.o.trans' hout.2⟩
    have hT3 := H2.out.only hout.2
    obtain ⟨n2, hn2⟩ : ∃ a : Int, a = (C.adve tt).1.now := ⟨_, rfl⟩
    obtain ⟨m2, hm2⟩ : ∃ a : Int, a = (C.adve tt).1.made := ⟨_, rfl⟩
    obtain ⟨e2, he2⟩ : ∃ a : Int, a = (C.adve tt).2.2 := ⟨_, rfl⟩
    obtain ⟨q, hq⟩ : ∃ q, q = (C.adve tt).2.1.length := ⟨_, rfl⟩
    have hval : (C.adve tt).1.val v' = .agg #[.int .i64 n2, .int .i64 m2, v'] := by unfold Ck.val; rw [hn2, hm2]
    rw [hval, ← he2, ← hq]
    rw [← hq] at hrow3
    have f2 := hT3.b2.free
    have c2 := hT3.b2.cell
    have l2 := hT3.b2.lt
    have hsh : (∃ A' c' k, v' = .slice A' k c') := by
      rcases hout3.1 with ⟨h, _⟩ | h
      · exact ⟨_, _, _, h⟩
      · obtain ⟨a, b, h⟩ := own_shape h
        exact ⟨_, _, _, h⟩
    obtain ⟨A', c', k, rfl⟩ := hsh
    have H3 := Lib.hid (And.intro hout3 (And.intro hrow3 (And.intro hT3 (And.intro hval (And.intro he2 hq)))))
    clear hout hrow hrow3 hout3 hT3 hval he2 hn2 hm2 hq c1 l1
    go_wp2_with fail
    have hT5 := H3.out.2.2.1.put3 rfl (.int .i64 n2) (.int .i64 m2) (.slice A' k c')
    have r0 := hT5.b2.cell 0
    have r1 := hT5.b2.cell 1
    have r2 := hT5.b2.cell 2
    simp only [List.getElem?_cons_zero, List.getElem?_cons_succ] at r0 r1 r2
    refine bodyPost_ret (v := .tuple #[.agg #[.int .i64 n2, .int .i64 m2, .slice A' k c'], .slice Al q cl, .int .i64 e2]) (by simp [results, Tryd.results48, go_sem, r0, r1, r2]) rfl ?_
    rw [HE.out.1]
    have m2 := own_ne_blk H3.out.2.1 H3.out.2.2.1.b2 (by decide)
    refine ⟨.slice A' k c', .slice Al q cl, by rw [H3.out.2.2.2.1, H3.out.2.2.2.2.1], ⟨?_, hT5.o⟩, ?_⟩
    · refine H3.out.1.1.imp id fun h => ?_
      have n2 := own_ne_blk h H3.out.2.2.1.b2 (by decide)
      exact own_set (own_set (own_set h (A := ⟨w.heap.size + 1, 0, none⟩) _ n2) (A := ⟨w.heap.size + 1, 1, none⟩) _ n2) (A := ⟨w.heap.size + 1, 2, none⟩) _ n2
    · rw [← H3.out.2.2.2.2.2]
      exact own_set (own_set (own_set H3.out.2.1 (A := ⟨w.heap.size + 1, 0, none⟩) _ m2) (A := ⟨w.heap.size + 1, 1, none⟩) _ m2) (A := ⟨w.heap.size + 1, 2, none⟩) _ m2
end Go.Proofs.YtbkbcpnpbfnmgaaDoor
