/- The reference's Take, a sender waits. -/
import Derived.Test.YtfmkdkpgehkfaaaRefTake
import Derived.Deep.DeepCutAuto
set_option linter.unusedVariables false
set_option linter.unusedSimpArgs false
namespace Go.Proofs.Ytfmkdkpgehkfaaa
open Go Go.RowKit

set_option maxRecDepth 100000 in
set_option maxHeartbeats 8000000 in
theorem rtake_yes (w : World) (x : Value) (c : Ch) (hx : Rd w x c) (hws : c.ws.length ≤ 200) (hbuf : c.buf.length ≤ 200) (htw : takeW (fun y => y.send) c.ws ≠ none) :
    Calls Try.prog 38 #[x] w (WithFr w x (RTake w c)) := by
  have HX := Lib.hid hx
  obtain ⟨A, cp, A', cp', rfl, s1, s2⟩ := hx
  have b1 := s1.2.1
  have b2 := s1.2.2.1
  have b3 := s2.2.1
  have b4 := s2.2.2.1
  have HS := Lib.hid (And.intro s1 s2)
  clear s1 s2
  go_enter Try.func38, Try.ntmps38
  go_wp2_with fail
  have hO : ∀ o1 o2 o3 o4, Only w ((((w.alloc o1).alloc o2).alloc o3).alloc o4) := fun o1 o2 o3 o4 => ((((Stay.refl (fun _ => False) w).alloc o1).alloc o2).alloc o3).alloc o4
  refine (first_any _ _ c true (HX.out.only (hO _ _ _ _))).mono ?_
  rintro e w1 ⟨⟨i, rfl, hi⟩, hO1⟩
  have hT0 := hO1.blk ((((Blk.newAt w (stv c A cp A' cp') 36 _ rfl).alloc (.cells zst.toArray 36)).alloc (.cells #[.int .i64 0, .int .i64 0, .string ⟨#[]⟩] 29)).alloc (.cells #[.int .i64 0, .string ⟨#[]⟩] 42))
  have hT1 := hO1.blk (((Blk.newAt (w.alloc (.cells (stv c A cp A' cp').toArray 36)) zst 36 (w.heap.size + 1) (by simp)).alloc (.cells #[.int .i64 0, .int .i64 0, .string ⟨#[]⟩] 29)).alloc (.cells #[.int .i64 0, .string ⟨#[]⟩] 42))
  have hT2 := hO1.blk ((Blk.newAt ((w.alloc (.cells (stv c A cp A' cp').toArray 36)).alloc (.cells zst.toArray 36)) [.int .i64 0, .int .i64 0, .string ⟨#[]⟩] 29 (w.heap.size + 2) (by simp)).alloc (.cells #[.int .i64 0, .string ⟨#[]⟩] 42))
  have hT3 := hO1.blk (Blk.newAt (((w.alloc (.cells (stv c A cp A' cp').toArray 36)).alloc (.cells zst.toArray 36)).alloc (.cells #[.int .i64 0, .int .i64 0, .string ⟨#[]⟩] 29)) [.int .i64 0, .string ⟨#[]⟩] 42 (w.heap.size + 3) (by simp))
  have HO := Lib.hid (And.intro ((hO _ _ _ _).trans' hO1) (And.intro hT0 (And.intro hT1 (And.intro hT2 hT3))))
  have k0 := hT0.cell
  have k1 := hT1.cell
  have k2 := hT2.cell
  have k3 := hT3.cell
  have f0 := hT0.free
  have f1 := hT1.free
  have f2 := hT2.free
  have f3 := hT3.free
  have l0 := hT0.lt
  have l1 := hT1.lt
  have l2 := hT2.lt
  have l3 := hT3.lt
  simp only [stv] at k0
  simp only [zst] at k1
  clear hO1 hT0 hT1 hT2 hT3 hO
  have e1 : (fun y : Wt => y.send == true) = (fun y => y.send) := by funext y; cases y.send <;> rfl
  rw [e1] at hi
  clear e1
  rcases hi with ⟨rfl, ht⟩ | ⟨k, y, rfl, hy, ht⟩
  · exact absurd ht htw
  · have hkl : k < c.ws.length := (List.getElem?_eq_some_iff.1 hy).1
    obtain ⟨yb, yo, rfl, hyb, hyc⟩ := (HS.out.2.only HO.out.1).elem Wt.cells_length hy (by omega)
    have e0 := hyc 0 _ rfl
    have e1 := hyc 1 _ rfl
    have e2 := hyc 2 _ rfl
    have e3 := hyc 3 _ rfl
    have e4 := hyc 4 _ rfl
    simp only [Nat.add_zero] at e0
    have hk1 : (0 : Int) ≤ (k : Int) := by omega
    have hk2 : (k : Int) < (c.ws.length : Int) := by omega
    have hyb' : yb < w1.heap.size := Nat.lt_of_lt_of_le hyb HO.out.1.size
    cases hb : c.buf with
    | nil =>
      have HF := Lib.hid (show c.take = ({ c with ws := c.ws.eraseIdx k }, y.v, [deal y.t V.nil], F.nil, true) by unfold Ch.take; rw [hb]; simp only; rw [ht])
      rw [hb] at k0
      simp only [List.length_nil] at k0
      have HB := Lib.hid hb
      clear hb ht hyc hy
      go_wp2_with fail
      have hOd : ∀ o, Only w1 (w1.alloc o) := fun o => (Stay.refl (fun _ => False) w1).alloc o
      refine (show Calls _ _ _ (w1.alloc (.cells y.cells.toArray 46)) _ from without_any _ (some ⟨yb, yo, none⟩) cp' c.ws k ((HS.out.2.only (HO.out.1.trans' (hOd _))).up (HO.out.1.trans' (hOd _)).size) hws).mono ?_
      rintro e w3 ⟨⟨A3, cp3, rfl, h3, h3b⟩, hO3⟩
      have hO4 : Only w1 w3 := (hOd _).trans' hO3
      have q0 := (hO4.blk HO.out.2.1).cell
      have q1 := (hO4.blk HO.out.2.2.1).cell
      have q2 := (hO4.blk HO.out.2.2.2.1).cell
      have q3 := (hO4.blk HO.out.2.2.2.2).cell
      have r0 := (hO4.blk HO.out.2.1).free
      have r1 := (hO4.blk HO.out.2.2.1).free
      have r2 := (hO4.blk HO.out.2.2.2.1).free
      have r3 := (hO4.blk HO.out.2.2.2.2).free
      have m0 := (hO4.blk HO.out.2.1).lt
      have m1 := (hO4.blk HO.out.2.2.1).lt
      have m2 := (hO4.blk HO.out.2.2.2.1).lt
      have m3 := (hO4.blk HO.out.2.2.2.2).lt
      have hT9 := hO3.blk (Blk.newAt w1 y.cells 46 _ rfl)
      have q9 := hT9.cell
      have m9 := hT9.lt
      simp only [stv, HB.out, List.length_nil] at q0
      simp only [zst] at q1
      simp only [Wt.cells] at q9
      have H3 := Lib.hid (And.intro h3 (And.intro (show ∀ a, A3 = some a → w1.heap.size ≤ a.block from fun a ha => by have := h3b a ha; simp at this; omega) (HO.out.1.trans' hO4)))
      clear h3 h3b hO3 hO4 hOd k0 k1 k2 k3 f0 f1 f2 f3 e0 e1 e2 e3 e4 hT9
      obtain ⟨L, hL⟩ : ∃ L, (c.ws.eraseIdx k).length = L := ⟨_, rfl⟩
      rw [hL] at H3 ⊢
      have HLL := Lib.hid hL
      clear hL
      have n1 : ¬ w1.heap.size = w.heap.size := by omega
      have n2 : ¬ w1.heap.size = w.heap.size + 1 := by omega
      have n3 : ¬ w1.heap.size = w.heap.size + 2 := by omega
      have n4 : ¬ w1.heap.size = w.heap.size + 3 := by omega
      go_wp2_with fail
      go_big_region
      go_wp2_with fail
      have m2' : w.heap.size + 1 + 1 < w3.heap.size := m2
      have m3' : w.heap.size + 1 + 1 + 1 < w3.heap.size := m3
      refine bodyPost_ret (v := .tuple #[.agg #[.int .i64 c.cap, .int .i64 c.pol, .bool c.closed, .slice A 0 cp, .slice A3 L cp3, .int .i64 c.drop], y.v.val, .slice (some ⟨w3.heap.size, 0, none⟩) 1 1, F.nil.val, .bool true]) (by simp [results, Try.results38, F.nil, F.val, V.val, go_sem, q1, q2, q3, m1, m2', m3', World.cell?_alloc_past]) rfl ?_
      refine WithFr.mk' (fr_mk (.inl fun h => ⟨rfl, by first | exact h | omega | (simp at h)⟩) (.inr fun a ha => by have := H3.out.2.1 a ha; omega)) ?_
      have hfin : ∀ {W : World}, Stay (Four w) w3 W → w3.heap.size = W.heap.size → RTake w c (.returned (.tuple #[.agg #[.int .i64 c.cap, .int .i64 c.pol, .bool c.closed, .slice A 0 cp, .slice A3 L cp3, .int .i64 c.drop], y.v.val, .slice (some ⟨w3.heap.size, 0, none⟩) 1 1, F.nil.val, .bool true])) (W.alloc (.cells (deal y.t V.nil).cells.toArray 44)).drew := fun {W} hS hz => by
        have hA : Only W (W.alloc (.cells (deal y.t V.nil).cells.toArray 44)).drew := ((Stay.refl (fun _ => False) W).alloc _).drew
        refine RTake.mk (dl := [deal y.t V.nil]) HF.out ⟨A, cp, A3, cp3, by simp only [HB.out, List.length_nil, HLL.out], ((Four.old HS.out.1 H3.out.2.2 hS).only hA).up hA.size, ?_⟩ ?_ ((Four.only H3.out.2.2 hS).trans' hA)
        · have := ((Four.fresh H3.out.1 H3.out.2.1 l3 hS).only hA).up hA.size
          rw [← HLL.out] at this
          exact this
        · have := own_sl (owns_newAt W (deal y.t V.nil).cells 44 7 1 w3.heap.size hz rfl (by simp only [maxLen]; omega) (base := 0) (Nat.zero_le _)).drew rfl
          simpa using this
      refine hfin ?_ (by simp)
      repeat refine Stay.put ?_ (by unfold Four; omega) _ _
      exact Stay.refl _ _
    | cons v l =>
      have HF := Lib.hid (show c.take = ({ c with buf := l ++ [y.v], ws := c.ws.eraseIdx k }, v, [deal y.t V.nil], F.nil, true) by unfold Ch.take; rw [hb]; simp only; rw [ht])
      obtain ⟨xb, xo, rfl, hxb, hxc⟩ := (HS.out.1.only HO.out.1).elem V.cells_length (i := 0) (by rw [hb]; rfl) (by rw [hb]; simp)
      have g0 := hxc 0 _ rfl
      have g1 := hxc 1 _ rfl
      have g2 := hxc 2 _ rfl
      simp only [Nat.zero_mul, Nat.add_zero] at g0 g1 g2
      have hxb' : xb < w1.heap.size := Nat.lt_of_lt_of_le hxb HO.out.1.size
      have hlen : (0 : Int) < (c.buf.length : Int) := by rw [hb]; simp only [List.length_cons]; omega
      have HB := Lib.hid hb
      clear hb ht hxc hyc hy
      go_upto_region 10 with fail
      have hOd : ∀ o o', Only w1 (((w1.alloc o).alloc o').drew) := fun o o' => (((Stay.refl (fun _ => False) w1).alloc o).alloc o').drew
      have e5 : (c.buf.drop 1 ++ [y.v]).length = c.buf.length := by simp; omega
      have h1b : 1 ≤ c.buf.length := by omega
      have E5 := Lib.hid e5
      clear e5
      go_cut [7] (fun vk wc => vk = .int .i64 (k : Nat) ∧ ∃ (w5 : World) (A5 : Option Addr) (cp5 : Nat), wc = w5.setCell ⟨w.heap.size, 3, none⟩ (.slice A5 c.buf.length cp5) ∧ Only w1 w5 ∧ Sl w5 w5.heap.size A5 c.buf.length cp5 3 ((c.buf.drop 1 ++ [y.v]).flatMap V.cells) ∧ (∀ a, A5 = some a → w1.heap.size ≤ a.block) ∧
          Blk w5 w1.heap.size 29 v.cells ∧ Blk w5 (w1.heap.size + 1) 44 (deal y.t V.nil).cells)
      case first =>
        go_region_with (go_at_call 48; refine (values_any _ (some ⟨xb, xo, none⟩) cp c.buf 1 y.v h1b ((HS.out.1.only (HO.out.1.trans' (hOd _ _))).up (HO.out.1.trans' (hOd _ _)).size) hbuf).mono ?_; rintro e w5 ⟨⟨A5, cp5, rfl, h5, h5b⟩, hO5⟩; rw [E5.out] at h5 ⊢; have j0 := (hO5.blk ((HO.out.2.1.alloc _).alloc _).drew).cell; have j1 := (hO5.blk ((HO.out.2.1.alloc _).alloc _).drew).free; have j2 := (hO5.blk ((HO.out.2.1.alloc _).alloc _).drew).lt; simp only [stv] at j0)
        all_goals
          go_wp2_with fail
          go_meet
          case rel =>
            exact ⟨rfl, w5, A5, cp5, rfl, (hOd _ _).trans' hO5, h5, (fun a ha => by have := h5b a ha; simp at this; omega), hO5.blk ((Blk.newAt w1 v.cells 29 _ rfl).alloc _).drew, hO5.blk (Blk.newAt (w1.alloc (.cells v.cells.toArray 29)) (deal y.t V.nil).cells 44 (w1.heap.size + 1) (by simp)).drew⟩
      case rest =>
        obtain ⟨rfl, w5, A5, cp5, rfl, hO5, h5, h5b, hB8, hB10⟩ := hcut
        have hS5 : Stay (Four w) w5 (w5.setCell ⟨w.heap.size, 3, none⟩ (.slice A5 c.buf.length cp5)) := (Stay.refl (Four w) w5).put (by unfold Four; omega) _ _
        have p0 := ((hO5.blk HO.out.2.1).set 3 (.slice A5 c.buf.length cp5)).cell
        have p1 := ((hO5.blk HO.out.2.1).set 3 (.slice A5 c.buf.length cp5)).lt
        simp only [stv, List.set_cons_succ, List.set_cons_zero] at p0
        have H5 := Lib.hid (And.intro hO5 (And.intro h5 (And.intro h5b (And.intro hB8 (And.intro hB10 hS5)))))
        clear hO5 h5 h5b hB8 hB10 hS5 k0 k1 k2 k3 f0 f1 f2 f3 e0 e1 e2 e3 e4 g0 g1 g2 hOd
        go_wp2_with fail
        refine (without_any _ (some ⟨yb, yo, none⟩) cp' c.ws k (Four.old HS.out.2 (HO.out.1.trans' H5.out.1) H5.out.2.2.2.2.2) hws).mono ?_
        rintro e w6 ⟨⟨A6, cp6, rfl, h6, h6b⟩, hO6⟩
        have hz5 := H5.out.1.size
        have hz56 := hO6.size
        have q0 := (hO6.blk ((H5.out.1.blk HO.out.2.1).set 3 (.slice A5 c.buf.length cp5))).cell
        have q1 := (hO6.blk ((H5.out.1.blk HO.out.2.2.1).set_other (a := ⟨w.heap.size, 3, none⟩) (by simp) (.slice A5 c.buf.length cp5))).cell
        have q2 := (hO6.blk ((H5.out.1.blk HO.out.2.2.2.1).set_other (a := ⟨w.heap.size, 3, none⟩) (by simp) (.slice A5 c.buf.length cp5))).cell
        have q3 := (hO6.blk ((H5.out.1.blk HO.out.2.2.2.2).set_other (a := ⟨w.heap.size, 3, none⟩) (by simp) (.slice A5 c.buf.length cp5))).cell
        have r0 := (hO6.blk ((H5.out.1.blk HO.out.2.1).set 3 (.slice A5 c.buf.length cp5))).free
        have r1 := (hO6.blk ((H5.out.1.blk HO.out.2.2.1).set_other (a := ⟨w.heap.size, 3, none⟩) (by simp) (.slice A5 c.buf.length cp5))).free
        have r2 := (hO6.blk ((H5.out.1.blk HO.out.2.2.2.1).set_other (a := ⟨w.heap.size, 3, none⟩) (by simp) (.slice A5 c.buf.length cp5))).free
        have r3 := (hO6.blk ((H5.out.1.blk HO.out.2.2.2.2).set_other (a := ⟨w.heap.size, 3, none⟩) (by simp) (.slice A5 c.buf.length cp5))).free
        have q8 := (hO6.blk (H5.out.2.2.2.1.set_other (a := ⟨w.heap.size, 3, none⟩) (by simp; omega) (.slice A5 c.buf.length cp5))).cell
        have q10 := (hO6.blk (H5.out.2.2.2.2.1.set_other (a := ⟨w.heap.size, 3, none⟩) (by simp; omega) (.slice A5 c.buf.length cp5))).cell
        have m8 := (hO6.blk (H5.out.2.2.2.1.set_other (a := ⟨w.heap.size, 3, none⟩) (by simp; omega) (.slice A5 c.buf.length cp5))).lt
        have m10 := (hO6.blk (H5.out.2.2.2.2.1.set_other (a := ⟨w.heap.size, 3, none⟩) (by simp; omega) (.slice A5 c.buf.length cp5))).lt
        simp only [stv, List.set_cons_succ, List.set_cons_zero] at q0
        simp only [zst] at q1
        simp only [V.cells] at q8
        simp only [deal, D.cells, V.nil, F.nil] at q10
        have m0 : w.heap.size < w6.heap.size := by omega
        have m1 : w.heap.size + 1 < w6.heap.size := by omega
        have m2 : w.heap.size + 2 < w6.heap.size := by omega
        have m3 : w.heap.size + 3 < w6.heap.size := by omega
        obtain ⟨L, hL⟩ : ∃ L, (c.ws.eraseIdx k).length = L := ⟨_, rfl⟩
        rw [hL] at h6 ⊢
        have hzz : w5.heap.size = (w5.setCell ⟨w.heap.size, 3, none⟩ (.slice A5 c.buf.length cp5)).heap.size := by simp
        have H6 := Lib.hid (And.intro h6 (And.intro (show ∀ a, A6 = some a → w1.heap.size ≤ a.block from fun a ha => by have := h6b a ha; omega) (And.intro (H5.out.2.2.2.2.2.trans hO6 (fun _ _ h => h.elim)) hL)))
        clear h6 h6b hO6 hL p0 p1 hzz
        have n1 : ¬ w1.heap.size = w.heap.size := by omega
        have n2 : ¬ w1.heap.size = w.heap.size + 1 := by omega
        have n3 : ¬ w1.heap.size = w.heap.size + 2 := by omega
        have n4 : ¬ w1.heap.size = w.heap.size + 3 := by omega
        have n5 : ¬ w1.heap.size + 1 = w.heap.size := by omega
        have n6 : ¬ w1.heap.size + 1 = w.heap.size + 1 := by omega
        have n7 : ¬ w1.heap.size + 1 = w.heap.size + 2 := by omega
        have n8 : ¬ w1.heap.size + 1 = w.heap.size + 3 := by omega
        go_wp2_with fail
        go_big_region
        go_wp2_with fail
        have m2' : w.heap.size + 1 + 1 < w6.heap.size := m2
        have m3' : w.heap.size + 1 + 1 + 1 < w6.heap.size := m3
        refine bodyPost_ret (v := .tuple #[.agg #[.int .i64 c.cap, .int .i64 c.pol, .bool c.closed, .slice A5 c.buf.length cp5, .slice A6 L cp6, .int .i64 c.drop], v.val, .slice (some ⟨w6.heap.size, 0, none⟩) 1 1, F.nil.val, .bool true]) (by simp [results, Try.results38, F.nil, F.val, V.val, go_sem, q1, q2, q3, m1, m2', m3', World.cell?_alloc_past]) rfl ?_
        refine WithFr.mk' (fr_mk (.inr fun a ha => by have := H5.out.2.2.1 a ha; omega) (.inr fun a ha => by have := H6.out.2.1 a ha; omega)) ?_
        have hfin : ∀ {W : World}, Stay (Four w) w6 W → w6.heap.size = W.heap.size → RTake w c (.returned (.tuple #[.agg #[.int .i64 c.cap, .int .i64 c.pol, .bool c.closed, .slice A5 c.buf.length cp5, .slice A6 L cp6, .int .i64 c.drop], v.val, .slice (some ⟨w6.heap.size, 0, none⟩) 1 1, F.nil.val, .bool true])) (W.alloc (.cells (deal y.t V.nil).cells.toArray 44)).drew := fun {W} hS hz => by
          have hA : Only W (W.alloc (.cells (deal y.t V.nil).cells.toArray 44)).drew := ((Stay.refl (fun _ => False) W).alloc _).drew
          have h5W : Stay (Four w) w5 W := H6.out.2.2.1.trans hS (fun _ _ h => h)
          have e6 : l ++ [y.v] = c.buf.drop 1 ++ [y.v] := by rw [HB.out]; rfl
          refine RTake.mk (dl := [deal y.t V.nil]) HF.out ⟨A5, cp5, A6, cp6, by simp only [e6, E5.out, H6.out.2.2.2], ?_, ?_⟩ ?_ ((Four.only (HO.out.1.trans' H5.out.1) h5W).trans' hA)
          · have := ((Four.fresh H5.out.2.1 H5.out.2.2.1 l3 h5W).only hA).up hA.size
            simp only [e6, E5.out]
            exact this
          · have := ((Four.fresh H6.out.1 H6.out.2.1 l3 hS).only hA).up hA.size
            rw [← H6.out.2.2.2] at this
            exact this
          · have := own_sl (owns_newAt W (deal y.t V.nil).cells 44 7 1 w6.heap.size hz rfl (by simp only [maxLen]; omega) (base := 0) (Nat.zero_le _)).drew rfl
            simpa using this
        refine hfin ?_ (by simp)
        repeat refine Stay.put ?_ (by unfold Four; omega) _ _
        exact Stay.refl _ _

theorem rtake_any (w : World) (x : Value) (c : Ch) (hx : Rd w x c) (hws : c.ws.length ≤ 200) (hbuf : c.buf.length ≤ 200) :
    Calls Try.prog 38 #[x] w (WithFr w x (RTake w c)) := by
  by_cases h : takeW (fun y => y.send) c.ws = none
  · exact rtake_no w x c hx hws hbuf h
  · exact rtake_yes w x c hx hws hbuf h

end Go.Proofs.Ytfmkdkpgehkfaaa
