/- The reference clock: Disarm. -/
import Derived.Test.YtbkbcpnpbfnmgaaDoorRefCB
set_option linter.unusedVariables false
set_option linter.unusedSimpArgs false
namespace Go.Proofs.YtbkbcpnpbfnmgaaDoor
open Go Go.RowKit

def disl (l : List Tm) (d : Int) (i : Nat) : List Tm := (l.take i).filter fun t => decide ((t.id : Int) ≠ d)
def dise_e (l : List Tm) (d : Int) (i : Nat) : Int := if ∃ t ∈ l.take i, (t.id : Int) = d then 0 else 6
theorem disl_len (l : List Tm) (d : Int) (i : Nat) : (disl l d i).length ≤ i := by
  unfold disl
  exact Nat.le_trans (List.length_filter_le _ _) (by rw [List.length_take]; omega)
theorem disl_hit {l : List Tm} {d : Int} {i : Nat} {t : Tm} (ht : l[i]? = some t) (h : (t.id : Int) = d) : disl l d (i + 1) = disl l d i ∧ dise_e l d (i + 1) = 0 := by
  unfold disl dise_e
  rw [List.take_add_one, ht]
  exact ⟨by simp [h], if_pos ⟨t, by simp, h⟩⟩
theorem disl_no {l : List Tm} {d : Int} {i : Nat} {t : Tm} (ht : l[i]? = some t) (h : ¬ (t.id : Int) = d) : disl l d (i + 1) = disl l d i ++ [t] ∧ dise_e l d (i + 1) = dise_e l d i := by
  unfold disl dise_e
  rw [List.take_add_one, ht]
  refine ⟨by simp [h], ?_⟩
  have : (∃ u ∈ l.take i ++ (some t).toList, (u.id : Int) = d) ↔ ∃ u ∈ l.take i, (u.id : Int) = d := by
    constructor
    · rintro ⟨u, hu, e⟩
      rcases List.mem_append.1 hu with hu | hu
      · exact ⟨u, hu, e⟩
      · simp at hu
        subst hu
        exact absurd e h
    · rintro ⟨u, hu, e⟩
      exact ⟨u, List.mem_append_left _ hu, e⟩
  simp only [this]
theorem dise_all (C : Ck) (d : Int) : C.dise d = (⟨C.now, C.made, disl C.ts d C.ts.length⟩, dise_e C.ts d C.ts.length) := by
  unfold Ck.dise disl dise_e
  rw [List.take_length]
set_option maxRecDepth 100000 in
set_option maxHeartbeats 4000000 in
theorem rdis_any (w : World) (C : Ck) (A : Option Addr) (c : Nat) (h : RcIn w C A c) (d : Int) :
    Calls Tryd.prog 46 #[C.val (.slice A C.ts.length c), .int .i64 d] w fun e w' => ∃ v', e = .returned (.tuple #[(C.dise d).1.val v', .int .i64 (C.dise d).2]) ∧ RcOut w C A c (C.dise d).1 v' w' := by
  obtain ⟨it, hit0, hit1, hit2, hit3⟩ := info_parts infoTm
  obtain ⟨n, hn⟩ : ∃ n, n = C.ts.length := ⟨_, rfl⟩
  obtain ⟨nw, hnw⟩ : ∃ a : Int, a = C.now := ⟨_, rfl⟩
  obtain ⟨md, hmd⟩ : ∃ a : Int, a = C.made := ⟨_, rfl⟩
  have hnc := h.sl.2.1
  have hcm := h.sl.2.2.1
  have hn4 := h.ok.len
  have hsl := h.sl
  rw [dise_all]
  unfold Ck.val
  simp only
  rw [← hn] at hnc hn4 hsl
  rw [← hn, ← hnw, ← hmd]
  have HN := Lib.hid (And.intro hsl hn)
  clear h hmd hn hnw hsl
  go_enter Tryd.func46, Tryd.ntmps46
  go_upto_region 1 with fail
  obtain ⟨W0, hW0⟩ : ∃ W0 : World, W0 = (w.alloc (.cells #[.int .i64 nw, .int .i64 md, .slice A n c] 53)).alloc (.cells #[.int .i64 0, .int .i64 0, .slice none 0 0] 53) := ⟨_, rfl⟩
  have hT0 : U2 w W0 [.int .i64 nw, .int .i64 md, .slice A n c] [.int .i64 0, .int .i64 0, .slice none 0 0] := by rw [hW0]; exact U2.start w _ _ _
  rw [← hW0]
  have c1 := hT0.b1.cell
  have l1 := hT0.b1.lt
  have H0 := Lib.hid hT0
  clear hT0 hW0
  go_wp2_with fail
  go_loopg [6, 7, 13] n (fun kk vl ve vi wr => ∃ (i q : Nat) (er : Int) (Al : Option Addr) (cl : Nat), i ≤ n ∧ kk = n - i ∧ vi = .int .i64 (i : Nat) ∧ q = (disl C.ts d i).length ∧ vl = .slice Al q cl ∧ er = dise_e C.ts d i ∧ ve = .int .i64 er ∧
    wr.ownsRow w.heap.size 39 2 (.slice Al q cl) q ((disl C.ts d i).flatMap Tm.cells) ∧ U2 w wr [.int .i64 nw, .int .i64 md, .slice A n c] [.int .i64 0, .int .i64 0, .slice none 0 0])
  case atStart => exact ⟨0, 0, 6, none, 0, Nat.zero_le _, rfl, rfl, rfl, rfl, by unfold dise_e; rw [if_neg (by simp)], rfl, World.ownsRow_nil _ _ _ _, H0.out⟩
  case round =>
    obtain ⟨i, q, er, Al, cl, hi, hk, rfl, hq, rfl, her, rfl, hr, hT⟩ := hrel
    obtain ⟨wt, hwt⟩ : ∃ wt, wt = wr := ⟨_, rfl⟩
    rw [← hwt] at hr hT ⊢
    clear hwt
    by_cases hin : i < n
    · obtain ⟨t, ht⟩ : ∃ t, C.ts[i]? = some t := ⟨_, List.getElem?_eq_getElem (by have := HN.out.2; omega)⟩
      obtain ⟨ab, ao, rfl, hab, hcells⟩ := (HN.out.1.only hT.o).elem Tm.cells_length ht (by omega)
      have g0 := hcells 0 _ rfl
      simp only [Nat.add_zero] at g0
      have g1 := hcells 1 _ rfl
      have hq4 : q ≤ i := by rw [hq]; exact disl_len _ _ _
      have hhit := fun h => disl_hit (d := d) ht h
      have hno := fun h => disl_no (d := d) ht h
      have hzt := hT.o.size
      obtain ⟨ti, td⟩ := t
      simp only at g0 g1 hhit hno
      obtain ⟨ai, hai⟩ : ∃ a : Int, a = ti := ⟨_, rfl⟩
      rw [← hai] at g0 hhit hno
      have HX := Lib.hid (And.intro hr (And.intro hT (And.intro hk (And.intro hq (And.intro her hai)))))
      by_cases hd : ai = d
      · have hy := hhit hd
        have b1 : (ai == d) = true := by simp [hd]
        have HY := Lib.hid hy
        clear hr hT hk hq her hai hcells ht hhit hno hd hy c1 l1
        go_wp2_with fail
        go_roundg (n - (i + 1))
        case measure => have := HX.out.2.2.1; omega
        case rel => exact ⟨i + 1, q, 0, Al, cl, by omega, rfl, by go_num, by rw [HY.out.1]; exact HX.out.2.2.2.1, rfl, HY.out.2.symm, rfl, by rw [HY.out.1]; exact own_alloc HX.out.1 _, HX.out.2.1.only ((Stay.refl _ _).alloc _)⟩
      · have hy := hno hd
        have b1 : (ai == d) = false := by simp [hd]
        have HY := Lib.hid hy
        clear hr hT hk hq her hai hcells ht hhit hno hd hy c1 l1
        go_wp2_with (at_builtin; refine wpList_append_lies _ rfl _ _ _ rfl w.heap.size 39 it _ 2 16 Tryd.underlying29 hit0 hit1 hit2 hit3 rfl (by omega) _ q _ (by rfl) (own_alloc (own_alloc HX.out.1 _) _) ⟨wt.heap.size + 1, 0, none⟩ 1 1 [.int .i64 ai, .int .i64 td] (by rfl) (by rfl) (World.news_of_block (cs := [Value.int .i64 ai, Value.int .i64 td].toArray) (t := 39) (fr := (0, 0)) (heap_alloc_at' _ _ _ (by simp))) (by simp [Value.oneCell']) (by omega) (by simp only [maxLen]; omega) (by omega) (by simp; omega) (wt.heap.size + 2) (by simp) ?_; intro g9 cap9 w9 hown9 hgrow9 hat9 hlt9; have hT9 := (HX.out.2.1.only (((Stay.refl _ wt).alloc _).alloc _)).row (own_alloc (own_alloc HX.out.1 _) _) (Nat.le_refl _) (by decide) (grown_stay hgrow9); have H9 := Lib.hid (And.intro hown9 hT9); clear hown9 hgrow9 hat9 hlt9 hT9)
        go_roundg (n - (i + 1))
        case measure => have := HX.out.2.2.1; omega
        case rel =>
          refine ⟨i + 1, q + 1, er, some ⟨g9, 0, none⟩, cap9, by omega, rfl, by go_num, by rw [HY.out.1, List.length_append, ← HX.out.2.2.2.1]; rfl, rfl, by rw [HY.out.2]; exact HX.out.2.2.2.2.1, rfl, ?_, H9.out.2⟩
          rw [HY.out.1, List.flatMap_append]
          have e4 : [(⟨ti, td⟩ : Tm)].flatMap Tm.cells = [.int .i64 ai, .int .i64 td] := by simp [Tm.cells, HX.out.2.2.2.2.2]
          rw [e4]
          exact H9.out.1
    · obtain rfl : i = n := by omega
      have HX := Lib.hid (And.intro hr (And.intro hT (And.intro hq her)))
      have f1 := hT.b1.free
      have c1' := hT.b1.cell
      have l1' := hT.b1.lt
      have l2' := hT.b2.lt
      have f2 := hT.b2.free
      have c2' := hT.b2.cell
      clear hr hT hk hq her c1 l1
      go_wp2_with fail
      have hT5 := (HX.out.2.1.put1 2 (.slice Al q cl)).put3 rfl (.int .i64 nw) (.int .i64 md) (.slice Al q cl)
      simp only [List.set_cons_zero, List.set_cons_succ] at hT5
      have r0 := hT5.b2.cell 0
      have r1 := hT5.b2.cell 1
      have r2 := hT5.b2.cell 2
      simp only [List.getElem?_cons_zero, List.getElem?_cons_succ] at r0 r1 r2
      refine bodyPost_ret (v := .tuple #[.agg #[.int .i64 nw, .int .i64 md, .slice Al q cl], .int .i64 er]) (by simp [results, Tryd.results46, go_sem, r0, r1, r2]) rfl ?_
      have hoff := own_ne_blk HX.out.1 HX.out.2.1.b2 (by decide)
      have hoff1 := own_ne_blk HX.out.1 HX.out.2.1.b1 (by decide)
      refine ⟨.slice Al q cl, by rw [HX.out.2.2.2], .inr ?_, hT5.o⟩
      have h9 := own_set (own_set (own_set (own_set HX.out.1 (A := ⟨w.heap.size, 2, none⟩) (.slice Al q cl) hoff1) (A := ⟨w.heap.size + 1, 0, none⟩) (.int .i64 nw) hoff) (A := ⟨w.heap.size + 1, 1, none⟩) (.int .i64 md) hoff) (A := ⟨w.heap.size + 1, 2, none⟩) (.slice Al q cl) hoff
      show World.ownsRow _ _ _ _ _ (disl C.ts d i).length _
      rw [← HX.out.2.2.1]
      exact h9
end Go.Proofs.YtbkbcpnpbfnmgaaDoor
