/- Free: a permit is given back. -/
import Derived.Test.YtfifdgigeecfbaaLockHold
set_option linter.unusedVariables false
set_option linter.unusedSimpArgs false
namespace Go.Proofs.Ytfifdgigeecfbaa
open Go Go.RowKit

section
variable {t : Tb} {lock party : Int} {k : Lk} {i : Nat}
theorem Tb.free_bad {x : Int} (h : t.asked lock party = x) (hx : x ≠ 0) : t.free lock party = (t, 0, x) := by unfold Tb.free; rw [h, if_pos hx]
theorem Tb.free_none (h : t.asked lock party = 0) (hi : (lock - 1).toNat = i) (hk : t.ls[i]? = some k) (h1 : k.has party = 0) : t.free lock party = (t, 0, 6) := by
  unfold Tb.free
  rw [h, if_neg (by decide), hi, hk]
  simp only [h1, if_true]
theorem Tb.free_good (h : t.asked lock party = 0) (hi : (lock - 1).toNat = i) (hk : t.ls[i]? = some k) (h1 : k.has party ≠ 0) :
    t.free lock party = (⟨t.ls.set i (k.give party).1, if (k.give party).2 = 0 then t.waits else adel t.waits (k.give party).2⟩, (k.give party).2, 0) := by
  unfold Tb.free
  rw [h, if_neg (by decide), hi, hk]
  simp only [h1, if_false]
  rfl
end

set_option maxRecDepth 100000 in
set_option maxHeartbeats 4000000 in
theorem free_any (w : World) (S : Nat → Prop) (b : Nat) (t : Tb) (d lock party : Int) (h : TabAt w S b t) (hok : t.Ok d) (hd : d ≤ 1000000) :
    Calls Try.prog 14 #[ptr b, .int .i64 lock, .int .i64 party] w (TbPost w S b (.tuple #[.int .i64 (t.free lock party).2.1, .int .i64 (t.free lock party).2.2]) (t.free lock party).1) := by
  have HH := Lib.hid (And.intro h hok)
  obtain ⟨m, lv, bs, hs, vs, hT⟩ := h
  have hat := fun W (ho : Only w W) => at_any W S b t m lv bs hs vs lock party (hT.only ho) hok.n
  have HT := Lib.hid hT
  clear hT hok
  by_cases hz : t.asked lock party = 0
  · have hag := atv_good (bs := bs) hz
    obtain ⟨i, hi⟩ : ∃ i, (lock - 1).toNat = i := ⟨_, rfl⟩
    obtain ⟨k, hk⟩ := Tb.asked_at hz
    rw [hi] at hk
    have hL := HT.out.lk i k hk
    have hkok := HH.out.2.lk k (List.mem_of_getElem? hk)
    have HA := Lib.hid (And.intro hz (And.intro hag (And.intro hi (And.intro hk (And.intro hL hkok)))))
    have hbne : hs i ≠ bs i := hL.map.ne_blk hL.blk
    have hbnd := hkok.has party
    obtain ⟨c9, hc9⟩ : ∃ c9, k.has party = c9 := ⟨_, rfl⟩
    rw [hc9] at hbnd
    obtain ⟨hb91, hb92⟩ := hbnd
    have HC := Lib.hid hc9
    clear hz hag hk hL hkok hc9
    by_cases h0 : c9 = 0
    · subst h0
      have hF := Lib.hid (Tb.free_none HA.out.1 hi HA.out.2.2.2.1 HC.out)
      go_enter Try.func14, Try.ntmps14
      unfold ptr
      go_wp2_with fail
      refine (hat _ (Stay.refl _ _)).mono ?_
      rintro e w1 ⟨rfl, hO⟩
      rw [HA.out.1, HA.out.2.1, hi]
      have c2 := (hO.blk HA.out.2.2.2.2.1.blk).cell
      unfold lkc at c2
      have HO := Lib.hid hO
      clear hO hat
      go_wp2_with (first | (at_lookup; refine wpList_lookup_v _ rfl _ _ _ rfl 3 3 Try.underlying70 Try.underlying3 (.int .i64 0) (zeroI _) (hs i) _ (by rfl) (HA.out.2.2.2.2.1.map.only HO.out) party (by rfl) (.int .i64 0) (getI HC.out) ?_))
      go_ret2
      exact TbPost.same HH.out.1 HO.out (by rw [hF.out]; rfl) (by rw [hF.out])
    · have h0b : (c9 == 0) = false := by simp [h0]
      have hF := Lib.hid (Tb.free_good HA.out.1 hi HA.out.2.2.2.1 (by rw [HC.out]; exact h0))
      have H0 := Lib.hid h0
      clear h0
      go_enter Try.func14, Try.ntmps14
      unfold ptr
      go_wp2_with fail
      refine (hat _ (Stay.refl _ _)).mono ?_
      rintro e w1 ⟨rfl, hO⟩
      rw [HA.out.1, HA.out.2.1, hi]
      have c2 := (hO.blk HA.out.2.2.2.2.1.blk).cell
      unfold lkc at c2
      have HO := Lib.hid hO
      clear hO hat
      go_wp2_with (first | (at_lookup; refine wpList_lookup_v _ rfl _ _ _ rfl 3 3 Try.underlying70 Try.underlying3 (.int .i64 0) (zeroI _) (hs i) _ (by rfl) (HA.out.2.2.2.2.1.map.only HO.out) party (by rfl) (.int .i64 c9) (getI HC.out) ?_))
      refine (give_any w1 S (bs i) k (hs i) (vs i) party d (HA.out.2.2.2.2.1.stay HO.out id id (fun _ _ => id) (fun _ h => h)) HA.out.2.2.2.2.2 hd (by rw [HC.out]; exact H0.out)).mono ?_
      rintro e w2 ⟨rfl, v', hL2, hv2, hs2⟩
      have hbT : b ≠ bs i := blk_ne HT.out.blk HA.out.2.2.2.2.1.blk (by decide)
      have hn1 : ¬ One (bs i) (hs i) (vs i) b := by
        rintro (e | e | e)
        · exact hbT e
        · exact HA.out.2.2.2.2.1.map.ne_blk HT.out.blk e.symm
        · exact own_ne_blk HA.out.2.2.2.2.1.row HT.out.blk (by decide) _ e rfl
      have hn2 : ¬ One (bs i) (hs i) (vs i) m := by
        rintro (e | e | e)
        · exact HT.out.wm.ne_blk HA.out.2.2.2.2.1.blk e
        · exact HT.out.dm i (List.getElem?_eq_some_iff.1 HA.out.2.2.2.1).1 e.symm
        · exact own_ne_map HA.out.2.2.2.2.1.row HT.out.wm _ e rfl
      have c1 := (hs2.blk (HO.out.blk HT.out.blk) hn1).cell
      have HG := Lib.hid (And.intro hL2 (And.intro hv2 hs2))
      have HM := Lib.hid ((HT.out.wm.only HO.out).stay hs2 hn2)
      clear hL2 hv2 hs2 c2
      have hst : Hid (∀ W, Stay (fun j => j = m) w2 W → Stay (Touch bs hs vs m i) w W) := fun W hW =>
        Stay.trans (Stay.trans (HO.out.mono (fun _ _ h => h.elim)) HG.out.2.2 (fun j _ hj => by
          rcases hj with h | h | h
          · exact .inl h
          · exact .inr (.inl h)
          · exact .inr (.inr (.inl h)))) hW (fun _ _ e => .inr (.inr (.inr e)))
      have fin : Hid (∀ W (ws : List (Int × Nat)), Stay (fun j => j = m) w2 W → IMap W m (wmap bs ws) → TabAt W (grow S w W) b ⟨t.ls.set i (k.give party).1, ws⟩ ∧ Stay S w W) := by
        intro W ws hW hm
        have st := hst.out W hW
        have hlt : ∀ j, grow S w W j → j < W.heap.size := fun j hj => hj.lt HT.out.lt st.size
        have hL2 := HG.out.1
        refine ⟨⟨m, lv, bs, hs, _, HT.out.upd HA.out.2.2.2.1 st (fun _ => grow.old) hlt (k' := (k.give party).1) (v' := v') (ws := ws) (hL2.stay hW ?_ ?_ ?_ (fun _ => grow.old)) (fun g hg => .inl (HG.out.2.1 g hg)) hm⟩, st.mono (fun j _ hj => HT.out.touch HA.out.2.2.2.1 j hj)⟩
        · exact fun e => HT.out.wm.ne_blk HA.out.2.2.2.2.1.blk e.symm
        · exact HT.out.dm i (List.getElem?_eq_some_iff.1 HA.out.2.2.2.1).1
        · exact fun g hg e => own_ne_map HA.out.2.2.2.2.1.row HT.out.wm g (HG.out.2.1 g hg) e
      cases hw : k.waiting with
      | nil =>
        have HN := Lib.hid (Lk.give_nil (p := party) hw)
        rw [HN.out] at hF fin
        have hF2 := hF.out
        simp only [if_true] at hF2
        have HF2 := Lib.hid hF2
        rw [HN.out]
        clear hw hF2
        go_wp2_with fail
        go_ret2
        rw [HF2.out]
        obtain ⟨f1, f2⟩ := fin.out w2 t.waits (Stay.refl _ _) HM.out
        exact ⟨rfl, f1, f2⟩
      | cons q l =>
        have HN := Lib.hid (Lk.give_cons (p := party) hw)
        have hq1 : 1 ≤ q := (HA.out.2.2.2.2.2.wone q (by rw [hw]; simp)).1
        rw [HN.out] at hF fin
        have hF2 := hF.out
        simp only [if_neg (show ¬ q = 0 by omega)] at hF2
        have HF2 := Lib.hid hF2
        rw [HN.out]
        have hqb : (q != 0) = true := by simp; omega
        clear hw hF2
        go_wp2_with (first | (at_delete; refine wpList_delete_v _ rfl _ _ _ _ rfl 69 Try.underlying65 Try.underlying3 m _ (by rfl) HM.out q (by rfl) ?_; intro w3 hm3 hs3 hz3))
        go_ret2
        rw [HF2.out]
        obtain ⟨f1, f2⟩ := fin.out w3 (adel t.waits q) hs3 hm3
        exact ⟨rfl, f1, f2⟩
  · have hab := atv_bad (bs := bs) hz
    obtain ⟨x, hx⟩ : ∃ x, t.asked lock party = x := ⟨_, rfl⟩
    rw [hx] at hz
    have hxb : (x != 0) = true := by simpa using hz
    have HA := Lib.hid (And.intro hx (And.intro hab hz))
    clear hx hab hz
    go_enter Try.func14, Try.ntmps14
    unfold ptr
    go_wp2_with fail
    refine (hat _ (Stay.refl _ _)).mono ?_
    rintro e w1 ⟨rfl, hO⟩
    rw [HA.out.1, HA.out.2.1]
    have HO := Lib.hid hO
    clear hO hat
    go_wp2_with fail
    go_ret2
    exact TbPost.same HH.out.1 HO.out (by rw [Tb.free_bad HA.out.1 HA.out.2.2]; rfl) (by rw [Tb.free_bad HA.out.1 HA.out.2.2])

end Go.Proofs.Ytfifdgigeecfbaa
