/- Withdraw: somebody waits no more. -/
import Derived.Test.YtfifdgigeecfbaaLockCons
import Derived.Test.YtfifdgigeecfbaaIntDelFn
import Derived.Outline
set_option linter.unusedVariables false
set_option linter.unusedSimpArgs false
namespace Go.Proofs.Ytfifdgigeecfbaa
open Go Go.RowKit

set_option maxRecDepth 100000 in
set_option maxHeartbeats 4000000 in
theorem withdraw_any (w : World) (S : Nat → Prop) (b : Nat) (t : Tb) (party : Int) (h : TabAt w S b t) (hc : t.Cons) :
    Calls Try.prog 21 #[.pointer (some ⟨b, 0, none⟩), .int .i64 party] w (TbPost w S b (.bool (t.withdraw party).2) (t.withdraw party).1) := by
  have HH := Lib.hid (And.intro h hc)
  obtain ⟨m, lv, bs, hs, vs, hT⟩ := h
  have HT := Lib.hid hT
  have c1 := (hT.blk.alloc (.cells #[.int .i64 party] 3)).cell
  have hbl : b < w.heap.size := hT.blk.lt
  have hlk := fun (W : World) (hW : IMap W m (wmap bs t.waits)) => IMap.lookup (P := Try.prog) (w := W) (b := m) (t := 65) hW Try.underlying65 Try.underlying3 (zeroP _) party false
  have hm0 : IMap (w.alloc (.cells #[.int .i64 party] 3)) m (wmap bs t.waits) := hT.wm.alloc _
  clear hT
  simp only [Bool.false_eq_true, if_false, aget_vmap] at hlk
  cases hw : aget t.waits party with
  | none =>
    have hl1 := hlk ((w.alloc (.cells #[.int .i64 party] 3)).drew) hm0
    rw [hw] at hl1
    simp only [Option.map_none, Option.getD_none] at hl1
    have HF := Lib.hid (Tb.withdraw_none hw)
    clear hlk hw hm0 hc
    go_enter Try.func21, Try.ntmps21
    go_wp2_with fail
    go_big_region
    go_wp2_with fail
    go_ret
    exact TbPost.same HH.out.1 ((Stay.refl _ w).alloc _).drew (by rw [HF.out]; rfl) (by rw [HF.out])
  | some i =>
    have hl1 := hlk ((w.alloc (.cells #[.int .i64 party] 3)).drew) hm0
    have hl2 := hlk ((w.alloc (.cells #[.int .i64 party] 3)).drew.drew) hm0
    rw [hw] at hl1 hl2
    simp only [Option.map_some, Option.getD_some] at hl1 hl2
    unfold ptr at hl1 hl2
    obtain ⟨k, hk, hm⟩ := hc.c1 party i hw
    have HF := Lib.hid (Tb.withdraw_some hw hk)
    have hL := HT.out.lk i k hk
    obtain ⟨A, cp, hv⟩ := own_shape hL.row
    have HA := Lib.hid (And.intro hk (And.intro hL (And.intro hv hm)))
    have hO1 : Only w (w.alloc (.cells #[.int .i64 party] 3)) := (Stay.refl _ w).alloc _
    have c2 := (hL.blk.alloc (.cells #[.int .i64 party] 3)).cell
    rw [hv] at c2
    unfold lkc at c2
    have hR := own_only hO1 hL.row
    rw [hv] at hR
    have HR := Lib.hid hR
    have HVO : Hid (∀ g, (Value.slice A k.waiting.length cp).ownBlock = some g → g < w.heap.size) := fun g hg => HT.out.lt g (hL.sv g (by rw [hv]; exact hg))
    have hbne : hs i ≠ bs i := hL.map.ne_blk hL.blk
    have lL : bs i < w.heap.size := hL.blk.lt
    have hsl : (k.waiting.filter fun x => !(x == party)).length ≤ k.waiting.length := List.length_filter_le _ _
    clear hlk hw hm0 hc hk hL hv hm hR
    go_enter Try.func21, Try.ntmps21
    go_wp2_with fail
    go_big_region
    go_wp2_with fail
    go_big_region
    go_wp2_with fail
    refine (delFn_any ((w.alloc (.cells #[.int .i64 party] 3)).drew.drew) 0 _ k.waiting party w.heap.size HR.out (List.length_pos_of_mem HA.out.2.2.2) (Blk.at (Blk.new w [.int .i64 party] 3) rfl) (fun g hg => by have := HVO.out g hg; omega)).mono ?_
    rintro e w3 ⟨g, c, hev, rfl, hr3, hs3⟩
    simp only [Value.slice.injEq, true_and] at hev
    obtain ⟨rfl, rfl⟩ := hev
    have hs3 : Stay (fun k => k = g) (w.alloc (.cells #[.int .i64 party] 3)) w3 := ⟨hs3.os, hs3.tape, hs3.output, hs3.size, hs3.block⟩
    have hgb : g ≠ bs i := own_ne_blk HR.out (HA.out.2.1.blk.alloc _) (by decide) g rfl
    have hgm : g ≠ m := own_ne_map HR.out (HT.out.wm.alloc _) g rfl
    have hgh : g ≠ hs i := own_ne_map HR.out (HA.out.2.1.map.alloc _) g rfl
    have hgt : g ≠ b := own_ne_blk HR.out (HT.out.blk.alloc _) (by decide) g rfl
    have hgw : g < w.heap.size := HVO.out g rfl
    have BL := Lib.hid (hs3.blk ((HA.out.2.1.blk.alloc (.cells #[.int .i64 party] 3))) (fun e => hgb e.symm))
    have BT := Lib.hid (hs3.blk ((HT.out.blk.alloc (.cells #[.int .i64 party] 3))) (fun e => hgt e.symm))
    have BX := Lib.hid (hs3.blk (Blk.new w [.int .i64 party] 3) (fun e => by omega))
    have MT := Lib.hid (IMap.stay (HT.out.wm.alloc (.cells #[.int .i64 party] 3)) hs3 (fun e => hgm e.symm))
    have ML := Lib.hid (IMap.stay (HA.out.2.1.map.alloc (.cells #[.int .i64 party] 3)) hs3 (fun e => hgh e.symm))
    have H3 := Lib.hid (And.intro hr3 hs3)
    have hbi : b ≠ bs i := blk_ne HT.out.blk HA.out.2.1.blk (by decide)
    clear c1 c2 hl1 hl2 hr3 hs3
    have c1 := BT.out.cell
    have f4 := BL.out.free
    have c4 := BL.out.cell
    have l4 := BL.out.lt
    have c5 := BX.out.cell
    have l5 := BT.out.lt
    have l6 := BX.out.lt
    rw [HA.out.2.2.1] at c4
    unfold lkc at c4
    have hx6 : bs i ≠ w.heap.size := by omega
    go_upto_region 5 with fail
    go_region_law (refine step_delete_v _ (by rfl) _ _ _ _ (by rfl) 69 Try.underlying65 Try.underlying3 m t.waits (by rfl) (show IMap _ m (wmap bs t.waits) from (IMap.set MT.out (fun e => HT.out.wm.ne_blk HA.out.2.1.blk e.symm) _)) party (by rfl) ?_; intro w4 hm4 hs4 hz4)
    all_goals
      have H4 := Lib.hid (And.intro hm4 hs4)
      clear hm4 hs4 hz4 c1 c4 c5 f4
      go_wp2_with fail
      go_ret
      obtain ⟨hm4, hs4⟩ := H4.out
      obtain ⟨hr3, hs3⟩ := H3.out
      rw [HF.out]
      have hL := HA.out.2.1
      have hvg : (vs i).ownBlock = some g := by rw [HA.out.2.2.1]; rfl
      have hbm : bs i ≠ m := fun e => HT.out.wm.ne_blk hL.blk e.symm
      have st : Stay (Touch bs hs vs m i) w w4 := Stay.trans (Stay.drew (Stay.put (S := Touch bs hs vs m i) (Stay.trans ((Stay.refl _ w).alloc _) hs3 (fun j _ e => .inr (.inr (.inl (by rw [hvg, e]))))) (.inl rfl) 3 _)) hs4 (fun _ _ e => .inr (.inr (.inr e)))
      have hlt : ∀ j, grow S w w4 j → j < w4.heap.size := fun j hj => hj.lt HT.out.lt st.size
      refine ⟨rfl, ⟨m, lv, bs, hs, _, HT.out.upd HA.out.1 st (fun _ => grow.old) hlt (k' := { k with waiting := k.waiting.filter fun x => !(x == party) }) (v' := .slice (some ⟨g, 0, none⟩) (k.waiting.filter fun x => !(x == party)).length cp) (ws := adel t.waits party) ⟨?_, ?_, own_stay hs4 (own_set hr3 _ ?_) ?_, grow.old hL.sb, grow.old hL.sh, ?_⟩ ?_ hm4⟩, st.mono (fun j _ hj => HT.out.touch HA.out.1 j hj)⟩
      · exact hs4.blk (BL.out.set 3 (.slice (some ⟨g, 0, none⟩) (k.waiting.filter fun x => !(x == party)).length cp)) hbm
      · exact IMap.stay (S := fun j => j = m) (IMap.set ML.out (fun e => hbne e.symm) _) (Stay.trans (S := fun j => j = m) (Stay.drew (Stay.refl _ _)) hs4 (fun _ _ h => h)) (fun e => HT.out.dm i (List.getElem?_eq_some_iff.1 HA.out.1).1 e)
      · intro g' hg'
        have e : g = g' := by simpa [Value.ownBlock] using hg'
        subst e
        exact hgb
      · intro g' hg' e
        have e2 : g = g' := by simpa [Value.ownBlock] using hg'
        subst e2
        exact hgm e
      · intro g' hg'
        have e2 : g = g' := by simpa [Value.ownBlock] using hg'
        subst e2
        exact grow.old (hL.sv g hvg)
      · intro g' hg'
        have e2 : g = g' := by simpa [Value.ownBlock] using hg'
        subst e2
        exact .inl hvg

end Go.Proofs.Ytfifdgigeecfbaa
