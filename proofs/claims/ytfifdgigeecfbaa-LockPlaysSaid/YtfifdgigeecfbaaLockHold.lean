/- Hold: somebody asks for a permit. -/
import Derived.Test.YtfifdgigeecfbaaLockGive
set_option linter.unusedVariables false
set_option linter.unusedSimpArgs false
namespace Go.Proofs.Ytfifdgigeecfbaa
open Go Go.RowKit

section
variable {t : Tb} {lock party : Int} {k : Lk}
theorem Tb.hold_bad {x : Int} (h : t.asked lock party = x) (hx : x ≠ 0) : t.hold lock party = (t, false, x) := by unfold Tb.hold; rw [h, if_pos hx]
theorem Tb.hold_twice (h : t.asked lock party = 0) (hw : (aget t.waits party).isSome = true) : t.hold lock party = (t, false, 21) := by unfold Tb.hold; rw [h, if_neg (by decide), if_pos hw]
theorem Tb.hold_take (h : t.asked lock party = 0) (hw : aget t.waits party = none) (hk : t.ls[(lock - 1).toNat]? = some k) (h1 : k.waiting = []) (h2 : 0 < k.free) : t.hold lock party = (⟨t.ls.set (lock - 1).toNat (k.take party), t.waits⟩, true, 0) := by
  unfold Tb.hold
  rw [h, if_neg (by decide), if_neg (by rw [hw]; simp), hk]
  simp only [h1, h2, and_self, if_true]
  rfl
theorem Tb.hold_park (h : t.asked lock party = 0) (hw : aget t.waits party = none) (hk : t.ls[(lock - 1).toNat]? = some k) (h1 : ¬ (k.waiting = [] ∧ 0 < k.free)) : t.hold lock party = (⟨t.ls.set (lock - 1).toNat (k.park party), aset t.waits party (lock - 1).toNat⟩, false, 0) := by
  unfold Tb.hold
  rw [h, if_neg (by decide), if_neg (by rw [hw]; simp), hk]
  simp only [h1, if_false]
  rfl
end
theorem atv_bad {t : Tb} {bs : Nat → Nat} {lock party : Int} (h : t.asked lock party ≠ 0) : atv t bs lock party = .pointer none := by unfold atv; rw [if_neg h]
theorem atv_good {t : Tb} {bs : Nat → Nat} {lock party : Int} (h : t.asked lock party = 0) : atv t bs lock party = .pointer (some ⟨bs (lock - 1).toNat, 0, none⟩) := by unfold atv; rw [if_pos h]; rfl
theorem getP {bs : Nat → Nat} {l : List (Int × Nat)} {p : Int} {c : Value} (h : ((aget l p).map fun i => ptr (bs i)) = some c) : ((aget l p).map fun i => ptr (bs i)).getD (.pointer none) = c := by rw [h]; rfl
theorem getP0 {bs : Nat → Nat} {l : List (Int × Nat)} {p : Int} (h : aget l p = none) : ((aget l p).map fun i => ptr (bs i)).getD (.pointer none) = .pointer none := by rw [h]; rfl

set_option maxRecDepth 100000 in
set_option maxHeartbeats 4000000 in
theorem hold_any (w : World) (S : Nat → Prop) (b : Nat) (t : Tb) (d lock party : Int) (h : TabAt w S b t) (hok : t.Ok d) (hd : d ≤ 1000000) :
    Calls Try.prog 13 #[ptr b, .int .i64 lock, .int .i64 party] w (TbPost w S b (.tuple #[.bool (t.hold lock party).2.1, .int .i64 (t.hold lock party).2.2]) (t.hold lock party).1) := by
  have HH := Lib.hid (And.intro h hok)
  obtain ⟨m, lv, bs, hs, vs, hT⟩ := h
  have hat := fun W (ho : Only w W) => at_any W S b t m lv bs hs vs lock party (hT.only ho) hok.n
  have HT := Lib.hid hT
  clear hT hok
  by_cases hz : t.asked lock party = 0
  · have hag := atv_good (bs := bs) hz
    obtain ⟨i, hi⟩ : ∃ i, (lock - 1).toNat = i := ⟨_, rfl⟩
    obtain ⟨k, hk⟩ := Tb.asked_at hz
    rw [hi] at hk
    have hL := HT.out.lk i k hk
    have hkok := HH.out.2.lk k (List.mem_of_getElem? hk)
    obtain ⟨z1, z2, z3, z4⟩ := Tb.asked_zero hz
    obtain ⟨A, cp, hv⟩ := own_shape hL.row
    have HA := Lib.hid (And.intro hz (And.intro hag (And.intro hi (And.intro hk (And.intro hL (And.intro hkok hv))))))
    have hwl : k.waiting.length ≤ 1000000 := by have := hkok.wlen; omega
    clear hz hag hk hL hkok hv
    cases hw : aget t.waits party with
    | some j =>
      have HW := Lib.hid hw
      clear hw
      go_enter Try.func13, Try.ntmps13
      unfold ptr
      go_wp2_with fail
      refine (hat _ (Stay.refl _ _)).mono ?_
      rintro e w1 ⟨rfl, hO⟩
      rw [HA.out.1, HA.out.2.1, hi]
      have c1 := (hO.blk HT.out.blk).cell
      have HO := Lib.hid hO
      clear hO hat
      go_wp2_with (first | (at_lookup; refine wpList_lookup_v _ rfl _ _ _ rfl 3 69 Try.underlying65 Try.underlying3 (.pointer none) (zeroP _) m t.waits (by rfl) (HT.out.wm.only HO.out) party (by rfl) (.pointer (some ⟨bs j, 0, none⟩)) (getP (by rw [HW.out]; rfl)) ?_))
      go_ret2
      exact TbPost.same HH.out.1 HO.out (by rw [Tb.hold_twice HA.out.1 (by rw [HW.out]; rfl)]; rfl) (by rw [Tb.hold_twice HA.out.1 (by rw [HW.out]; rfl)])
    | none =>
      have HW := Lib.hid hw
      clear hw
      by_cases h1 : k.waiting = [] ∧ 0 < k.free
      · obtain ⟨h1w, h1f⟩ := h1
        have hf1 : k.free ≤ 16 := by have := HA.out.2.2.2.2.2.1.sum; have := sumH_nonneg HA.out.2.2.2.2.2.1.pos; have := HA.out.2.2.2.2.2.1.p2; omega
        have hF := Lib.hid (by have := Tb.hold_take HA.out.1 HW.out (by rw [hi]; exact HA.out.2.2.2.1) h1w h1f; rw [hi] at this; exact this)
        have hwb : ((k.waiting.length : Int) == 0) = true := by rw [h1w]; rfl
        have hbnd := HA.out.2.2.2.2.2.1.has party
        obtain ⟨c9, hc9⟩ : ∃ c9, k.has party = c9 := ⟨_, rfl⟩
        rw [hc9] at hbnd
        obtain ⟨hb91, hb92⟩ := hbnd
        have HC := Lib.hid hc9
        have hbne : hs i ≠ bs i := HA.out.2.2.2.2.1.map.ne_blk HA.out.2.2.2.2.1.blk
        clear h1w hc9
        go_enter Try.func13, Try.ntmps13
        unfold ptr
        go_wp2_with fail
        refine (hat _ (Stay.refl _ _)).mono ?_
        rintro e w1 ⟨rfl, hO⟩
        rw [HA.out.1, HA.out.2.1, hi]
        have c1 := (hO.blk HT.out.blk).cell
        have B1 := Lib.hid (hO.blk HA.out.2.2.2.2.1.blk)
        have c2 := B1.out.cell
        have f2 := B1.out.free
        have l2 := B1.out.lt
        rw [HA.out.2.2.2.2.2.2] at c2
        unfold lkc at c2
        have HO := Lib.hid hO
        clear hO hat
        go_upto_region 7 with (first | (at_lookup; refine wpList_lookup_v _ rfl _ _ _ rfl 3 69 Try.underlying65 Try.underlying3 (.pointer none) (zeroP _) m t.waits (by rfl) (HT.out.wm.only HO.out) party (by rfl) (.pointer none) (getP0 HW.out) ?_))
        go_wp2_with (first | (at_lookup; refine wpList_lookup_v _ rfl _ _ _ rfl 3 3 Try.underlying70 Try.underlying3 (.int .i64 0) (zeroI _) (hs i) _ (by rfl) ((HA.out.2.2.2.2.1.map.only HO.out).set (fun e => hbne e.symm) _) party (by rfl) (.int .i64 c9) (getI HC.out) ?_) | (at_mapUpdate; refine wpList_update_v _ rfl _ _ _ _ rfl 3 3 Try.underlying70 Try.underlying3 (hs i) _ (by rfl) ((HA.out.2.2.2.2.1.map.only HO.out).set (fun e => hbne e.symm) _) party (c9 + 1) (by rfl) (by rfl) ?_; intro w4 hm4 hs4 hz4))
        go_ret2
        rw [hF.out]
        have hL := HA.out.2.2.2.2.1
        have st : Stay (Touch bs hs vs m i) w w4 := Stay.trans (Stay.put (S := Touch bs hs vs m i) (HO.out.mono (fun _ _ h => h.elim)) (.inl rfl) _ _) hs4 (fun _ _ e => .inr (.inl e))
        have hlt : ∀ j, grow S w w4 j → j < w4.heap.size := fun j hj => hj.lt HT.out.lt st.size
        refine ⟨rfl, ⟨m, lv, bs, hs, _, HT.out.upd HA.out.2.2.2.1 st (fun _ => grow.old) hlt (k' := k.take party) (v' := vs i) (ws := t.waits) ⟨?_, by rw [← HC.out] at hm4; exact hm4, own_stay hs4 (own_set (own_only HO.out hL.row) _ ?_) ?_, grow.old hL.sb, grow.old hL.sh, hL.sv.mono (fun _ => grow.old)⟩ (fun g hg => .inl hg) ?_⟩, st.mono (fun j _ hj => HT.out.touch HA.out.2.2.2.1 j hj)⟩
        · exact hs4.blk (B1.out.set 1 _) (fun e => hbne e.symm)
        · exact fun g hg => own_ne_blk hL.row hL.blk (by decide) g hg
        · exact fun g hg => own_ne_map hL.row hL.map g hg
        · exact ((HT.out.wm.only HO.out).set (fun e => HT.out.wm.ne_blk hL.blk e.symm) _).stay hs4 (fun e => HT.out.dm i (List.getElem?_eq_some_iff.1 HA.out.2.2.2.1).1 e.symm)
      · have hF := Lib.hid (by have := Tb.hold_park HA.out.1 HW.out (by rw [hi]; exact HA.out.2.2.2.1) h1; rw [hi] at this; exact this)
        obtain ⟨ii, hii0, hii1, hii2, hii3⟩ := info_parts infoI
        have hcase : ((k.waiting.length : Int) == 0) = false ∨ (((k.waiting.length : Int) == 0) = true ∧ k.free ≤ 0) := by
          by_cases e : k.waiting = []
          · exact .inr ⟨by rw [e]; rfl, Int.not_lt.1 (fun hf => h1 ⟨e, hf⟩)⟩
          · refine .inl ?_
            have : k.waiting.length ≠ 0 := fun e' => e (List.eq_nil_of_length_eq_zero e')
            simp; omega
        have H1 := Lib.hid h1
        clear h1
        have hbne : hs i ≠ bs i := HA.out.2.2.2.2.1.map.ne_blk HA.out.2.2.2.2.1.blk
        rcases hcase with hcb | ⟨hcb, hcf⟩
        all_goals
          go_enter Try.func13, Try.ntmps13
          unfold ptr
          go_wp2_with fail
          refine (hat _ (Stay.refl _ _)).mono ?_
          rintro e w1 ⟨rfl, hO⟩
          rw [HA.out.1, HA.out.2.1, hi]
          have c1 := (hO.blk HT.out.blk).cell
          have B1 := Lib.hid (hO.blk HA.out.2.2.2.2.1.blk)
          have c2 := B1.out.cell
          rw [HA.out.2.2.2.2.2.2] at c2
          unfold lkc at c2
          have HO := Lib.hid hO
          clear hO hat
          have hrow := own_only HO.out HA.out.2.2.2.2.1.row
          rw [HA.out.2.2.2.2.2.2] at hrow
          have HR := Lib.hid hrow
          clear hrow
          go_upto_region 10 with (first | (at_lookup; refine wpList_lookup_v _ rfl _ _ _ rfl 3 69 Try.underlying65 Try.underlying3 (.pointer none) (zeroP _) m t.waits (by rfl) (HT.out.wm.only HO.out) party (by rfl) (.pointer none) (getP0 HW.out) ?_))
          go_wp2_with (first | (at_builtin; refine wpList_append_lies _ rfl _ _ _ rfl 0 3 ii _ 1 8 Try.underlying29 hii0 hii1 hii2 hii3 rfl (by omega) _ k.waiting.length _ (by rfl) (own_alloc HR.out _) ⟨w1.heap.size, 0, none⟩ 1 1 [.int .i64 party] (by rfl) (by rfl) (World.news_of_block (cs := [Value.int .i64 party].toArray) (t := 3) (fr := (0, 0)) (heap_alloc_at' _ _ _ (by simp))) (by simp [Value.oneCell']) (by omega) (by simp only [maxLen]; omega) (by omega) (by omega) (w1.heap.size + 1) (by simp) ?_; intro g cap w2 hown hgrow hat2 hlt2; have BT := (grown_stay hgrow).blk ((HO.out.blk HT.out.blk).alloc _) (fun e => own_ne_blk HR.out (HO.out.blk HT.out.blk) (by decide) _ e rfl); have c3 := BT.cell; have f3 := BT.free; have l3 := BT.lt; have BL := (grown_stay hgrow).blk (B1.out.alloc _) (fun e => own_ne_blk HR.out B1.out (by decide) _ e rfl); have c4 := BL.cell; have f4 := BL.free; have l4 := BL.lt; have HG := Lib.hid (And.intro hown (And.intro hgrow (And.intro hat2 (And.intro hlt2 (And.intro BT BL))))); clear hown hgrow hat2 hlt2 BT BL c1 c2) | (at_mapUpdate; refine wpList_update_v _ rfl _ _ _ _ rfl 3 69 Try.underlying65 Try.underlying3 m t.waits (by rfl) (IMap.set (IMap.stay ((HT.out.wm.only HO.out).alloc _) (grown_stay HG.out.2.1) (fun e => own_ne_map HR.out (HT.out.wm.only HO.out) _ e rfl)) (fun e => HT.out.wm.ne_blk HA.out.2.2.2.2.1.blk e.symm) _) party i (by rfl) (by rfl) ?_; intro w4 hm4 hs4 hz4))
          go_ret2
          rw [hF.out]
          have hL := HA.out.2.2.2.2.1
          obtain ⟨r1, r2, r3, r4, r5, r6⟩ := HG.out
          have hvi : ∀ j, (Value.slice A k.waiting.length cp).ownBlock = some j → (vs i).ownBlock = some j := fun j hj => by rw [HA.out.2.2.2.2.2.2]; exact hj
          have st : Stay (Touch bs hs vs m i) w w4 := Stay.trans (Stay.put (S := Touch bs hs vs m i) (Stay.trans ((HO.out.mono (fun _ _ h => h.elim)).alloc _) (grown_stay r2) (fun j _ e => .inr (.inr (.inl (hvi j e))))) (.inl rfl) _ _) hs4 (fun _ _ e => .inr (.inr (.inr e)))
          have hlt : ∀ j, grow S w w4 j → j < w4.heap.size := fun j hj => hj.lt HT.out.lt st.size
          have hz := r2.size
          simp at hz
          have hgw : (Value.slice A k.waiting.length cp).ownBlock = some g ∨ w.heap.size ≤ g := r3.imp id (fun e => by have := HO.out.size; omega)
          have hbm : bs i ≠ m := fun e => HT.out.wm.ne_blk hL.blk e.symm
          have hgb : g ≠ bs i := own_ne_blk r1 r6 (by decide) g rfl
          refine ⟨rfl, ⟨m, lv, bs, hs, _, HT.out.upd HA.out.2.2.2.1 st (fun _ => grow.old) hlt (k' := k.park party) (v' := .slice (some ⟨g, 0, none⟩) (k.waiting.length + 1) cap) (ws := aset t.waits party i) ⟨?_, ?_, own_stay hs4 (own_set ?_ _ ?_) ?_, grow.old hL.sb, grow.old hL.sh, ?_⟩ ?_ hm4⟩, st.mono (fun j _ hj => HT.out.touch HA.out.2.2.2.1 j hj)⟩
          · exact hs4.blk (by have := r6.set 3 (.slice (some ⟨g, 0, none⟩) (k.waiting.length + 1) cap); exact this) hbm
          · exact (IMap.set (IMap.stay ((hL.map.only HO.out).alloc _) (grown_stay r2) (fun e => own_ne_map hL.row hL.map _ (hvi _ e) rfl)) (fun e => hbne e.symm) _).stay hs4 (fun e => HT.out.dm i (List.getElem?_eq_some_iff.1 HA.out.2.2.2.1).1 e)
          · simpa [Lk.park] using r1
          · intro g' hg'
            have e : g = g' := by simpa [Value.ownBlock] using hg'
            subst e
            exact hgb
          · rintro g' hg' e
            have e' : g = g' := by simpa [Value.ownBlock] using hg'
            subst e'
            exact own_ne_map r1 (IMap.stay ((HT.out.wm.only HO.out).alloc _) (grown_stay r2) (fun e => own_ne_map HR.out (HT.out.wm.only HO.out) _ e rfl)) g rfl e
          · intro g' hg'
            have e : g = g' := by simpa [Value.ownBlock] using hg'
            subst e
            rcases hgw with e | e
            · exact grow.old (hL.sv g (hvi g e))
            · exact grow.new e (by have := hs4.size; simp at this; omega)
          · intro g' hg'
            have e : g = g' := by simpa [Value.ownBlock] using hg'
            subst e
            exact hgw.imp (hvi g) id
  · have hab := atv_bad (bs := bs) hz
    obtain ⟨x, hx⟩ : ∃ x, t.asked lock party = x := ⟨_, rfl⟩
    rw [hx] at hz
    have hxb : (x != 0) = true := by simpa using hz
    have HA := Lib.hid (And.intro hx (And.intro hab hz))
    clear hx hab hz
    go_enter Try.func13, Try.ntmps13
    unfold ptr
    go_wp2_with fail
    refine (hat _ (Stay.refl _ _)).mono ?_
    rintro e w1 ⟨rfl, hO⟩
    rw [HA.out.1, HA.out.2.1]
    have HO := Lib.hid hO
    clear hO hat
    go_wp2_with fail
    go_ret2
    exact TbPost.same HH.out.1 HO.out (by rw [Tb.hold_bad HA.out.1 HA.out.2.2]; rfl) (by rw [Tb.hold_bad HA.out.1 HA.out.2.2])

end Go.Proofs.Ytfifdgigeecfbaa
