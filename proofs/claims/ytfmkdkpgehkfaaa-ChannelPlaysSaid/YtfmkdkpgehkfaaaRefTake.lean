/- The reference's Take. -/
import Derived.Test.YtfmkdkpgehkfaaaRefWith
import Derived.Deep.CutBlock
set_option linter.unusedVariables false
set_option linter.unusedSimpArgs false
namespace Go.Proofs.Ytfmkdkpgehkfaaa
open Go Go.RowKit

def RTake (w : World) (c : Ch) (e : Ending) (w' : World) : Prop :=
  ∃ y A cp, e = .returned (.tuple #[y, c.take.2.1.val, .slice A c.take.2.2.1.length cp, c.take.2.2.2.1.val, .bool c.take.2.2.2.2]) ∧ Rd w' y c.take.1 ∧ Sl w' w'.heap.size A c.take.2.2.1.length cp 7 (c.take.2.2.1.flatMap D.cells) ∧ Only w w'
theorem RTake.mk {w w' : World} {c c' : Ch} {v : V} {dl : List D} {f : F} {ok : Bool} {y : Value} {A : Option Addr} {cp : Nat} (h : c.take = (c', v, dl, f, ok)) (hy : Rd w' y c') (hA : Sl w' w'.heap.size A dl.length cp 7 (dl.flatMap D.cells)) (hO : Only w w') :
    RTake w c (.returned (.tuple #[y, v.val, .slice A dl.length cp, f.val, .bool ok])) w' := by
  unfold RTake
  rw [h]
  exact ⟨y, A, cp, rfl, hy, hA, hO⟩

set_option maxRecDepth 100000 in
set_option maxHeartbeats 8000000 in
theorem rtake_no (w : World) (x : Value) (c : Ch) (hx : Rd w x c) (hws : c.ws.length ≤ 200) (hbuf : c.buf.length ≤ 200) (htw : takeW (fun y => y.send) c.ws = none) :
    Calls Try.prog 38 #[x] w (WithFr w x (RTake w c)) := by
  have HX := Lib.hid hx
  obtain ⟨A, cp, A', cp', rfl, s1, s2⟩ := hx
  have b1 := s1.2.1
  have b2 := s1.2.2.1
  have b3 := s2.2.1
  have b4 := s2.2.2.1
  have HS := Lib.hid (And.intro s1 s2)
  clear s1 s2
  go_enter Try.func38, Try.ntmps38
  go_wp2_with fail
  have hO : ∀ o1 o2 o3 o4, Only w ((((w.alloc o1).alloc o2).alloc o3).alloc o4) := fun o1 o2 o3 o4 => ((((Stay.refl (fun _ => False) w).alloc o1).alloc o2).alloc o3).alloc o4
  refine (first_any _ _ c true (HX.out.only (hO _ _ _ _))).mono ?_
  rintro e w1 ⟨⟨i, rfl, hi⟩, hO1⟩
  have hT0 := hO1.blk ((((Blk.newAt w (stv c A cp A' cp') 36 _ rfl).alloc (.cells zst.toArray 36)).alloc (.cells #[.int .i64 0, .int .i64 0, .string ⟨#[]⟩] 29)).alloc (.cells #[.int .i64 0, .string ⟨#[]⟩] 42))
  have hT1 := hO1.blk (((Blk.newAt (w.alloc (.cells (stv c A cp A' cp').toArray 36)) zst 36 (w.heap.size + 1) (by simp)).alloc (.cells #[.int .i64 0, .int .i64 0, .string ⟨#[]⟩] 29)).alloc (.cells #[.int .i64 0, .string ⟨#[]⟩] 42))
  have hT2 := hO1.blk ((Blk.newAt ((w.alloc (.cells (stv c A cp A' cp').toArray 36)).alloc (.cells zst.toArray 36)) [.int .i64 0, .int .i64 0, .string ⟨#[]⟩] 29 (w.heap.size + 2) (by simp)).alloc (.cells #[.int .i64 0, .string ⟨#[]⟩] 42))
  have hT3 := hO1.blk (Blk.newAt (((w.alloc (.cells (stv c A cp A' cp').toArray 36)).alloc (.cells zst.toArray 36)).alloc (.cells #[.int .i64 0, .int .i64 0, .string ⟨#[]⟩] 29)) [.int .i64 0, .string ⟨#[]⟩] 42 (w.heap.size + 3) (by simp))
  have HO := Lib.hid (And.intro ((hO _ _ _ _).trans' hO1) (And.intro hT0 (And.intro hT1 (And.intro hT2 hT3))))
  have k0 := hT0.cell
  have k1 := hT1.cell
  have k2 := hT2.cell
  have k3 := hT3.cell
  have f0 := hT0.free
  have f1 := hT1.free
  have f2 := hT2.free
  have f3 := hT3.free
  have l0 := hT0.lt
  have l1 := hT1.lt
  have l2 := hT2.lt
  have l3 := hT3.lt
  simp only [stv] at k0
  simp only [zst] at k1
  clear hO1 hT0 hT1 hT2 hT3 hO
  have e1 : (fun y : Wt => y.send == true) = (fun y => y.send) := by funext y; cases y.send <;> rfl
  rw [e1] at hi
  clear e1
  rcases hi with ⟨rfl, ht⟩ | ⟨k, y, rfl, hy, ht⟩
  · cases hb : c.buf with
    | nil =>
      cases hcl : c.closed with
      | false =>
        have HF := Lib.hid (show c.take = (c, V.nil, [], F.nil, false) by unfold Ch.take; rw [hb]; simp only; rw [ht]; simp only; rw [if_neg (by simp [hcl])])
        rw [hb, hcl] at k0
        simp only [List.length_nil] at k0
        have HB := Lib.hid (And.intro hb hcl)
        clear hb hcl ht
        go_wp2_with fail
        refine bodyPost_ret (v := .tuple #[.agg #[.int .i64 c.cap, .int .i64 c.pol, .bool false, .slice A 0 cp, .slice A' c.ws.length cp', .int .i64 c.drop], V.nil.val, .slice none 0 0, F.nil.val, .bool false]) (by simp [results, Try.results38, F.nil, F.val, V.nil, V.val, F.closed, closedText, go_sem, k1, k2, k3]) rfl ?_
        refine WithFr.mk' (fr_mk (.inl fun h => ⟨rfl, by first | exact h | omega | (simp at h)⟩) (.inl fun h => ⟨rfl, by first | exact h | omega | (simp at h)⟩)) ?_
        have hfin : ∀ {W : World}, Stay (Four w) w1 W → RTake w c (.returned (.tuple #[.agg #[.int .i64 c.cap, .int .i64 c.pol, .bool false, .slice A 0 cp, .slice A' c.ws.length cp', .int .i64 c.drop], V.nil.val, .slice none 0 0, F.nil.val, .bool false])) W := fun {W} hS =>
          RTake.mk HF.out ⟨A, cp, A', cp', by simp only [HB.out.1, HB.out.2, List.length_nil], Four.old HS.out.1 (HO.out.1) hS, Four.old HS.out.2 (HO.out.1) hS⟩ (sl_none (B := W.heap.size)) (Four.only (HO.out.1) hS)
        refine hfin ?_
        repeat refine Stay.put ?_ (by unfold Four; omega) _ _
        exact Stay.refl _ _
      | true =>
        have HF := Lib.hid (show c.take = (c, V.nil, [], F.closed, true) by unfold Ch.take; rw [hb]; simp only; rw [ht]; simp only; rw [if_pos hcl])
        rw [hb, hcl] at k0
        simp only [List.length_nil] at k0
        have HB := Lib.hid (And.intro hb hcl)
        clear hb hcl ht
        have hO0 : Only w1 w1.drew := (Stay.refl (fun _ => False) w1).drew
        go_wp2_with fail
        go_region_with (go_at_call 16; refine (closed_any _).mono ?_; rintro e w5 ⟨rfl, hOx⟩; have j0 := (hOx.blk HO.out.2.1.drew).cell; have j1 := (hOx.blk HO.out.2.2.1.drew).cell; have j2 := (hOx.blk HO.out.2.2.2.1.drew).cell; have j3 := (hOx.blk HO.out.2.2.2.2.drew).cell; have g1 := (hOx.blk HO.out.2.2.1.drew).free; have g2 := (hOx.blk HO.out.2.2.2.1.drew).free; have g3 := (hOx.blk HO.out.2.2.2.2.drew).free; have l5 := (hOx.blk HO.out.2.2.2.2.drew).lt; have l6 := (hOx.blk HO.out.2.1.drew).lt; have l7 := (hOx.blk HO.out.2.2.1.drew).lt; have l8 := (hOx.blk HO.out.2.2.2.1.drew).lt; simp only [stv, HB.out.1, HB.out.2, List.length_nil] at j0; simp only [zst] at j1; simp only [F.val, F.closed, closedText])
        all_goals go_wp2_with fail
        all_goals
          refine bodyPost_ret (v := .tuple #[.agg #[.int .i64 c.cap, .int .i64 c.pol, .bool true, .slice A 0 cp, .slice A' c.ws.length cp', .int .i64 c.drop], V.nil.val, .slice none 0 0, F.closed.val, .bool true]) (by simp [results, Try.results38, F.nil, F.val, V.nil, V.val, F.closed, closedText, go_sem, j1, j2, j3]) rfl ?_
          refine WithFr.mk' (fr_mk (.inl fun h => ⟨rfl, by first | exact h | omega | (simp at h)⟩) (.inl fun h => ⟨rfl, by first | exact h | omega | (simp at h)⟩)) ?_
          have hfin : ∀ {W : World}, Stay (Four w) w5 W → RTake w c (.returned (.tuple #[.agg #[.int .i64 c.cap, .int .i64 c.pol, .bool true, .slice A 0 cp, .slice A' c.ws.length cp', .int .i64 c.drop], V.nil.val, .slice none 0 0, F.closed.val, .bool true])) W := fun {W} hS =>
            RTake.mk HF.out ⟨A, cp, A', cp', by simp only [HB.out.1, HB.out.2, List.length_nil], Four.old HS.out.1 ((HO.out.1.trans' hO0).trans' hOx) hS, Four.old HS.out.2 ((HO.out.1.trans' hO0).trans' hOx) hS⟩ (sl_none (B := W.heap.size)) (Four.only ((HO.out.1.trans' hO0).trans' hOx) hS)
          refine hfin ?_
          repeat refine Stay.put ?_ (by unfold Four; omega) _ _
          exact Stay.refl _ _
    | cons v l =>
      have HF := Lib.hid (show c.take = ({ c with buf := l }, v, [], F.nil, true) by unfold Ch.take; rw [hb]; simp only; rw [ht])
      obtain ⟨xb, xo, rfl, hxb, hxc⟩ := (HS.out.1.only HO.out.1).elem V.cells_length (i := 0) (by rw [hb]; rfl) (by rw [hb]; simp)
      have e0 := hxc 0 _ rfl
      have e1 := hxc 1 _ rfl
      have e2 := hxc 2 _ rfl
      simp only [Nat.zero_mul, Nat.add_zero] at e0 e1 e2
      have hxb' : xb < w1.heap.size := Nat.lt_of_lt_of_le hxb HO.out.1.size
      have hlen : (0 : Int) < (c.buf.length : Int) := by rw [hb]; simp only [List.length_cons]; omega
      have HB := Lib.hid hb
      clear hb ht hxc
      go_upto_region 6 with fail
      obtain ⟨iv, hiv0, hiv1, hiv2, hiv3⟩ := info_parts infoV
      by_cases hl : l = []
      · have h1 : c.buf.length = 1 := by rw [HB.out, hl]; rfl
        have hcp : cp = 1 ∨ ¬ cp = 1 := Classical.em _
        have HLE := Lib.hid hl
        clear hl
        rcases hcp with hcp | hcp
        all_goals
          go_wp2_with fail
          go_big_region
          go_wp2_with fail
        all_goals
          have m1 : w.heap.size + 1 + 1 < w1.heap.size := l2
          have m2 : w.heap.size + 1 + 1 + 1 < w1.heap.size := l3
          refine bodyPost_ret (v := .tuple #[.agg #[.int .i64 c.cap, .int .i64 c.pol, .bool c.closed, .slice none 0 0, .slice A' c.ws.length cp', .int .i64 c.drop], v.val, .slice none 0 0, F.nil.val, .bool true]) (by simp [results, Try.results38, F.nil, F.val, V.val, go_sem, k1, k2, k3, l1, m1, m2, World.cell?_alloc_past]) rfl ?_
          refine WithFr.mk' (fr_mk (.inr fun a ha => by cases ha) (.inl fun h => ⟨rfl, by first | exact h | omega | (simp at h)⟩)) ?_
          have hfin : ∀ {W : World}, Stay (Four w) w1 W → RTake w c (.returned (.tuple #[.agg #[.int .i64 c.cap, .int .i64 c.pol, .bool c.closed, .slice none 0 0, .slice A' c.ws.length cp', .int .i64 c.drop], v.val, .slice none 0 0, F.nil.val, .bool true])) (W.alloc (.cells v.cells.toArray 29)).drew := fun {W} hS => by
            have hA : Only W (W.alloc (.cells v.cells.toArray 29)).drew := ((Stay.refl (fun _ => False) W).alloc _).drew
            refine RTake.mk HF.out ⟨none, 0, A', cp', by simp only [HLE.out, List.length_nil], ?_, ((Four.old HS.out.2 HO.out.1 hS).only hA).up hA.size⟩ sl_none ((Four.only HO.out.1 hS).trans' hA)
            simp only [HLE.out, List.length_nil, List.flatMap_nil]
            exact sl_none
          refine hfin ?_
          repeat refine Stay.put ?_ (by unfold Four; omega) _ _
          exact Stay.refl _ _
      · have hgt : 1 < c.buf.length := by
          rw [HB.out]
          cases l with
          | nil => exact absurd rfl hl
          | cons => simp
        have hd1 : (c.buf.drop 1).length = c.buf.length - 1 := by simp
        have hnews : ∀ o j u, ((c.buf.drop 1).flatMap V.cells)[j]? = some u → (w1.alloc o).cell? ((⟨xb, xo + 1 * 3, none⟩ : Addr).add j) = some u := fun o j u hu => by
          rw [flat_drop _ 3 V.cells_length, List.getElem?_drop] at hu
          obtain ⟨b', o', e', _, hc⟩ := (HS.out.1.only HO.out.1).2.2.2.2 (by omega)
          simp only [Option.some.injEq, Addr.mk.injEq, and_true] at e'
          obtain ⟨rfl, rfl⟩ := e'
          have := hc _ _ hu
          rw [Addr.add_lit, World.cell?_alloc_past o _ _ hxb', Nat.add_assoc]
          exact this
        have hcp : ¬ cp = 1 := by omega
        have HN := Lib.hid (And.intro hnews hd1)
        clear hnews hd1 hl
        go_upto_region 7 with (at_builtin; refine wpList_append_lies _ rfl _ _ _ rfl (w.heap.size + 4) 29 iv _ 3 32 Try.underlying33 hiv0 hiv1 hiv2 hiv3 rfl (by omega) _ 0 [] (by rfl) (World.ownsRow_nil _ _ _ _) ⟨xb, xo + 3, none⟩ (c.buf.length - 1) (cp - 1) ((c.buf.drop 1).flatMap V.cells) (by rfl) (by rw [flat_len _ _ V.cells_length, HN.out.2]) (HN.out.1 _) V.one (by omega) (by simp only [maxLen]; omega) (by omega) (by simp; omega) (w1.heap.size + 1) (by simp) ?_; intro gg cap w2 hown1 hgrow hat hlt1)
        simp only [Nat.zero_add, List.nil_append] at hown1
        have hB8 := Blk.newAt w1 v.cells 29 _ rfl
        have q8 : ∀ i, w2.cell? ⟨w1.heap.size, i, none⟩ = v.cells[i]? := fun i => (hgrow.cell_far ⟨w1.heap.size, i, none⟩ (by simp) (by simp [Value.ownBlock])).trans (hB8.cell i)
        simp only [V.cells] at q8
        have hO2 : Only w1 w2 := Mine.stay (Mine.grown ((Stay.refl (fun _ => False) w1).alloc _) (World.ownsRow_nil w1 w1.heap.size 29 3) (Nat.le_refl _) hgrow)
        have q0 := (hO2.blk HO.out.2.1).cell
        have q1 := (hO2.blk HO.out.2.2.1).cell
        have q2 := (hO2.blk HO.out.2.2.2.1).cell
        have q3 := (hO2.blk HO.out.2.2.2.2).cell
        have r0 := (hO2.blk HO.out.2.1).free
        have r1 := (hO2.blk HO.out.2.2.1).free
        have r2 := (hO2.blk HO.out.2.2.2.1).free
        have r3 := (hO2.blk HO.out.2.2.2.2).free
        have m0 := (hO2.blk HO.out.2.1).lt
        have m1 := (hO2.blk HO.out.2.2.1).lt
        have m2 := (hO2.blk HO.out.2.2.2.1).lt
        have m3 := (hO2.blk HO.out.2.2.2.2).lt
        have m4 : w1.heap.size < w2.heap.size := World.block_lt_of_cell? w2 _ (q8 0)
        simp only [stv] at q0
        simp only [zst] at q1
        have HG := Lib.hid (And.intro hown1 (HO.out.1.trans' hO2))
        clear hown1 hgrow hat hlt1 hO2 hB8 k0 k1 k2 k3 f0 f1 f2 f3
        have n1 : ¬ w1.heap.size = w.heap.size := by omega
        have n2 : ¬ w1.heap.size = w.heap.size + 1 := by omega
        have n3 : ¬ w1.heap.size = w.heap.size + 2 := by omega
        go_wp2_with fail
        go_big_region
        go_wp2_with fail
        refine bodyPost_ret (v := .tuple #[.agg #[.int .i64 c.cap, .int .i64 c.pol, .bool c.closed, .slice (some ⟨gg, 0, none⟩) (c.buf.length - 1) cap, .slice A' c.ws.length cp', .int .i64 c.drop], v.val, .slice none 0 0, F.nil.val, .bool true]) (by simp [results, Try.results38, F.nil, F.val, V.val, go_sem, q1, q2, q3]) rfl ?_
        refine WithFr.mk' (fr_mk (.inr fun a ha => by cases ha; have := (HG.out.1.lt gg rfl).1; simp only; omega) (.inl fun h => ⟨rfl, by first | exact h | omega | (simp at h)⟩)) ?_
        have hfin : ∀ {W : World}, Stay (Four w) w2 W → RTake w c (.returned (.tuple #[.agg #[.int .i64 c.cap, .int .i64 c.pol, .bool c.closed, .slice (some ⟨gg, 0, none⟩) (c.buf.length - 1) cap, .slice A' c.ws.length cp', .int .i64 c.drop], v.val, .slice none 0 0, F.nil.val, .bool true])) W := fun {W} hS => by
          have e3 : l.length = c.buf.length - 1 := by rw [HB.out]; simp
          have e4 : c.buf.drop 1 = l := by rw [HB.out]; rfl
          refine RTake.mk HF.out ⟨some ⟨gg, 0, none⟩, cap, A', cp', by simp only [e3], ?_, Four.old HS.out.2 HG.out.2 hS⟩ sl_none (Four.only HG.out.2 hS)
          have h1 := HG.out.1
          rw [e4] at h1
          have h2 := own_sl h1 (by rw [flat_len _ _ V.cells_length, e3])
          have h3 := h2.aside hS (fun a ha hf => by
            have := (HG.out.1.lt gg rfl).1
            simp only [Option.some.injEq] at ha
            subst ha
            have := hf.2
            simp only at this
            omega) hS.size
          simp only [e3]
          exact h3
        refine hfin ?_
        refine Stay.drew ?_
        repeat refine Stay.put ?_ (by unfold Four; omega) _ _
        exact Stay.refl _ _
  · rw [htw] at ht
    cases ht

end Go.Proofs.Ytfmkdkpgehkfaaa
