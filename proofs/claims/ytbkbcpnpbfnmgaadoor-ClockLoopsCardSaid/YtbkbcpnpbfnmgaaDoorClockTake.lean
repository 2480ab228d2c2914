/- take: the walk. -/
import Derived.Test.YtbkbcpnpbfnmgaaDoorClockPut
set_option linter.unusedVariables false
set_option linter.unusedSimpArgs false
namespace Go.Proofs.YtbkbcpnpbfnmgaaDoor
open Go Go.RowKit

theorem FullOk.take {fs : List Nat} {W : Wheel} (h : FullOk fs W) {lv sl f : Nat} (hs : sl < 64) (hl : lv < 7) (hW : W.length = 448) (hf : fs[lv]? = some f) : FullOk (fs.set lv (f &&& (18446744073709551615 - 2 ^ sl))) (W.set (lv * 64 + sl) []) := by
  refine ⟨by rw [List.length_set]; exact h.1, fun l g hg => ?_⟩
  have hfl := (h.2 lv f hf)
  have hpl : lv * 64 + sl < W.length := by omega
  rw [List.getElem?_set] at hg
  by_cases e : lv = l
  · subst e
    rw [if_pos rfl, if_pos (by rw [h.1]; exact hl)] at hg
    cases hg
    refine ⟨Nat.lt_of_le_of_lt Nat.and_le_left hfl.1, fun s hs2 => ?_⟩
    have e2 : (18446744073709551615 - 2 ^ sl).testBit s = decide (s ≠ sl) := by
      have h1 := Nat.testBit_two_pow_sub_succ (x := 2 ^ sl) (n := 64) (two_pow_lt hs) s
      rw [show (2 ^ 64 - (2 ^ sl + 1) : Nat) = 18446744073709551615 - 2 ^ sl by omega] at h1
      rw [h1, Nat.testBit_two_pow]
      by_cases es : sl = s
      · subst es; simp
      · have : s ≠ sl := fun e => es e.symm
        simp [es, hs2, this]
    rw [Nat.testBit_and, e2, Wheel.at_set W hpl, Bool.and_eq_true, hfl.2 s hs2]
    by_cases es : s = sl
    · subst es
      simp
    · rw [if_neg (by omega)]
      simp [es]
  · rw [if_neg e] at hg
    have hgl := h.2 l g hg
    refine ⟨hgl.1, fun s hs2 => ?_⟩
    rw [Wheel.at_set W hpl, if_neg (by omega)]
    exact hgl.2 s hs2
theorem andnot_bit {f s : Nat} (hf : f < 18446744073709551616) (hs : s < 64) : bits .andNot .u64 (f : Int) (IntKind.u64.wrap (2 ^ s)) = ((f &&& (18446744073709551615 - 2 ^ s) : Nat) : Int) := by
  have h2 := two_pow_lt hs
  have e : IntKind.u64.wrap (2 ^ s) = ((2 ^ s : Nat) : Int) := by
    rw [IntKind.wrap_u64, show ((2 : Int) ^ s) = ((2 ^ s : Nat) : Int) by simp]
    exact Int.emod_eq_of_lt (Int.natCast_nonneg _) (Int.ofNat_lt.2 h2)
  rw [e]
  exact u64_andNot_nat f (2 ^ s) hf h2
set_option maxRecDepth 100000 in
set_option maxHeartbeats 4000000 in
theorem take_any {w : World} {b m now made : Nat} {l : List (Int × Nat)} {W : Wheel} {wv : List Value} {fs : List Nat} (h : CkIn w b m now made l W wv fs) (lv sl : Nat) (hl : lv < 7) (hs : sl < 64) :
    Calls Tryd.prog 32 #[.pointer (some ⟨b, 0, none⟩), .int .i64 lv, .int .i64 sl] w fun e w' => ∃ v wv' fs', e = .returned v ∧ w'.ownsRow 0 39 2 v (W.at (lv * 64 + sl)).length ((W.at (lv * 64 + sl)).flatMap Tm.cells) ∧ CkIn w' b m now made l (W.set (lv * 64 + sl) []) wv' fs' ∧ Stay (CBlk b m wv) w w' ∧ (∀ k, CBlk b m wv' k → CBlk b m wv k ∨ w.heap.size ≤ k) ∧ (∀ k, v.ownBlock = some k → CBlk b m wv k ∧ ¬ CBlk b m wv' k) := by
  obtain ⟨p, hp⟩ : ∃ p, p = lv * 64 + sl := ⟨_, rfl⟩
  obtain ⟨v, hv⟩ : ∃ v, wv[p]? = some v := ⟨_, List.getElem?_eq_getElem (by rw [h.vl]; omega)⟩
  obtain ⟨f, hf, hf64⟩ := full_at h.full hl
  obtain ⟨n, hnn⟩ : ∃ n, n = (W.at p).length := ⟨_, rfl⟩
  have hrow := h.row p v hv
  rw [← hnn] at hrow
  obtain ⟨Av, cv, rfl⟩ := own_shape hrow
  have hB := h.blk
  rw [← hp, ← hnn]
  have H := Lib.hid (And.intro h (And.intro hv (And.intro hf (And.intro hnn (And.intro hrow hp)))))
  have hcv : w.cell? ⟨b, 2 + lv * 64 + sl, none⟩ = some (.slice Av n cv) := by
    rw [hB.cell, show 2 + lv * 64 + sl = 2 + p by omega, ck_atw now made fs m (by rw [h.vl]; omega)]
    exact hv
  have hfv : w.frozen? ⟨b, 2 + lv * 64 + sl, none⟩ = false := hB.free _
  have lb := hB.lt
  have u1 : (lv : Int) < 7 := by omega
  have u2 : (sl : Int) < 64 := by omega
  have hb6 : Blk (w.setCell ⟨b, 2 + lv * 64 + sl, none⟩ (.slice none 0 0)) b 71 (ckCells now made (wv.set p (.slice none 0 0)) fs m) := by
    rw [show 2 + lv * 64 + sl = 2 + p by omega, ← ck_setw now made fs m (by rw [h.vl]; omega)]
    exact hB.set _ _
  have c6 : (w.setCell ⟨b, 2 + lv * 64 + sl, none⟩ (.slice none 0 0)).cell? ⟨b, 450 + lv, none⟩ = some (.int .u64 f) := hb6.at (ck_atf now made m (by rw [List.length_set]; exact h.vl) hf)
  have HB := Lib.hid (And.intro hb6 (And.intro c6 (hb6.free (450 + lv))))
  clear h hv hf hp hnn hrow hB hb6 c6
  go_enter Tryd.func32, Tryd.ntmps32
  go_upto_region 3 with fail
  obtain ⟨w6, hw6⟩ : ∃ w6, w6 = w.setCell ⟨b, 2 + lv * 64 + sl, none⟩ (.slice none 0 0) := ⟨_, rfl⟩
  rw [← hw6]
  obtain ⟨hb6, c6, f6⟩ := HB.out
  rw [← hw6] at hb6 c6 f6
  have lb6 := hb6.lt
  have H6 := Lib.hid (And.intro hb6 hw6)
  clear hb6 hw6 hcv hfv lb HB
  go_big_region
  go_wp2_with fail
  go_ret
  obtain ⟨h, hv, hf, hnn, hrow, hp⟩ := H.out
  have hfull := h.full.take hs hl h.wl hf
  rw [← hp] at hfull
  have hr0 : w.ownsRow 0 39 2 (.slice none 0 0) ([] : List Tm).length (([] : List Tm).flatMap Tm.cells) := World.ownsRow_nil _ _ _ _
  have hst : Stay (fun k => k = b) w ((w6.setCell ⟨b, 450 + lv, none⟩ (.int .u64 (bits .andNot .u64 (f : Int) (IntKind.u64.wrap (2 ^ sl))))).drew) := by
    rw [H6.out.2]
    exact (((Stay.refl (fun k => k = b) w).put rfl _ _).put rfl _ _).drew
  have hP := CkIn.put (w5 := w) (fs' := fs.set lv (f &&& (18446744073709551615 - 2 ^ sl))) h hv (Stay.refl _ w) hr0 (fun g hg => by simp [Value.ownBlock] at hg) hst (by
    rw [andnot_bit hf64 hs, ← ck_setf now made m (by rw [List.length_set]; exact h.vl) (by rw [h.full.1]; omega)]
    exact (H6.out.1.set _ _).drew) hfull
  have hpl : p < wv.length := by rw [h.vl]; omega
  refine ⟨.slice Av n cv, _, _, rfl, own_stay hst hrow (fun g hg e => h.ne_b hv g hg e), hP.1, hP.2.1, hP.2.2, fun k hk => ⟨.inr (.inr ⟨p, _, hv, hk⟩), fun hk2 => ?_⟩⟩
  rcases hk2 with e | e | ⟨i, x, hx, e⟩
  · exact h.ne_b hv k hk e
  · exact h.ne_m hv k hk e
  · rw [List.getElem?_set] at hx
    by_cases e2 : p = i
    · subst e2
      rw [if_pos rfl, if_pos hpl] at hx
      cases hx
      simp [Value.ownBlock] at e
    · rw [if_neg e2] at hx
      exact h.off p i _ x e2 hv hx k hk e
end Go.Proofs.YtbkbcpnpbfnmgaaDoor
