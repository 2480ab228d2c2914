/- Next: the walk. -/
import Derived.Test.YtbkbcpnpbfnmgaaDoorClockMin
import Derived.Test.YtbkbcpnpbfnmgaaDoorClockTz
set_option linter.unusedVariables false
set_option linter.unusedSimpArgs false
namespace Go.Proofs.YtbkbcpnpbfnmgaaDoor
open Go Go.RowKit

/-- The time of the timer that is due first. -/
def Next1 (W : Wheel) (t : Nat) : Prop := (∃ x ∈ W.flatten, x.due = t) ∧ ∀ y ∈ W.flatten, t ≤ y.due
set_option maxRecDepth 100000 in
set_option maxHeartbeats 4000000 in
theorem next_any {w : World} {b m now made : Nat} {l : List (Int × Nat)} {W : Wheel} {wv : List Value} {fs : List Nat} (h : CkIn w b m now made l W wv fs) (hW : WOk now W) (hlen : W.flatten.length ≤ 1000) (hT : Tab w) :
    Calls Tryd.prog 21 #[.pointer (some ⟨b, 0, none⟩)] w fun e w' => Only w w' ∧ ((W.flatten = [] ∧ e = .returned (.tuple #[.int .i64 0, .bool false])) ∨ ∃ t : Nat, Next1 W t ∧ e = .returned (.tuple #[.int .i64 t, .bool true])) := by
  have H := Lib.hid (And.intro h (And.intro hW (And.intro hlen hT)))
  have lb := h.blk.lt
  clear h hW hlen hT
  go_enter Tryd.func21, Tryd.ntmps21
  go_wp2_with fail
  go_loopg [9] 7 (fun kk vi wr => ∃ L : Nat, L ≤ 7 ∧ kk = 7 - L ∧ vi = .int .i64 (L : Nat) ∧ Only w wr ∧ ∀ i, i < L * 64 → W.at i = [])
  case atStart => exact ⟨0, by omega, rfl, rfl, Stay.refl _ _, fun i hi => by omega⟩
  case round =>
    obtain ⟨L, hL7, hk, rfl, hO, hemp⟩ := hrel
    obtain ⟨wt, hwt⟩ : ∃ wt, wt = wr := ⟨_, rfl⟩
    rw [← hwt] at hO ⊢
    clear hwt
    by_cases hL : L < 7
    · have hC := H.out.1.only hO
      obtain ⟨f, hf, hf64⟩ := full_at hC.full hL
      have cf : wt.cell? ⟨b, 450 + L, none⟩ = some (.int .u64 f) := hC.blk.at (ck_atf now made m hC.vl hf)
      have lb2 := hC.blk.lt
      have hbits := (hC.full.2 L f hf).2
      have u1 : (L : Int) < 7 := by omega
      by_cases hf0 : f = 0
      · subst hf0
        have HX := Lib.hid (And.intro hO (And.intro hemp (And.intro hk hbits)))
        clear hO hemp hk hbits hC hf
        go_wp2_with fail
        go_roundg (7 - (L + 1))
        case measure => have := HX.out.2.2.1; omega
        case rel =>
          refine ⟨L + 1, by omega, rfl, by go_num, HX.out.1, fun i hi => ?_⟩
          by_cases hi2 : i < L * 64
          · exact HX.out.2.1 i hi2
          · have := HX.out.2.2.2 (i - L * 64) (by omega)
            rw [Nat.zero_testBit, show L * 64 + (i - L * 64) = i by omega] at this
            cases hh : W.at i with
            | nil => rfl
            | cons a r => exact absurd (this.2 (by rw [hh]; simp)) (by simp)
      · obtain ⟨hs64, hs1, hs2⟩ := ctz_bits hf0 hf64
        obtain ⟨s, hs⟩ : ∃ s, s = Lib.ctz 64 f := ⟨_, rfl⟩
        rw [← hs] at hs64 hs1 hs2
        obtain ⟨v, hv⟩ : ∃ v, wv[L * 64 + s]? = some v := ⟨_, List.getElem?_eq_getElem (by rw [hC.vl]; omega)⟩
        have hrow := hC.row _ v hv
        obtain ⟨n, hn⟩ : ∃ n, n = (W.at (L * 64 + s)).length := ⟨_, rfl⟩
        have hn0 : 0 < n := by
          have := (hbits s hs64).1 hs1
          rw [hn]
          exact List.length_pos_iff.2 this
        have hn1 : n ≤ 1000 := by
          rw [hn]
          have := flat_len_at (W := W) (L * 64 + s)
          have := H.out.2.2.1
          omega
        rw [← hn] at hrow
        obtain ⟨Av, cv, rfl⟩ := own_shape hrow
        have cv2 : wt.cell? ⟨b, 2 + L * 64 + s, none⟩ = some (.slice Av n cv) := by
          rw [hC.blk.cell, show 2 + L * 64 + s = 2 + (L * 64 + s) by omega, ck_atw now made fs m (by rw [hC.vl]; omega)]
          exact hv
        have b0 : ((f : Int) == 0) = false := by simp; omega
        have u2 : (s : Int) < 64 := by omega
        have HX := Lib.hid (And.intro hO (And.intro hemp (And.intro hrow (And.intro hn (And.intro hs (And.intro hbits (And.intro hs1 hs2)))))))
        have HT := Lib.hid (H.out.2.2.2.only hO)
        clear hO hemp hk hbits hC hf hv hrow hn hs hs1 hs2
        go_wp2_with fail
        refine (tz_any f hf0 hf64 wt HT.out).mono ?_
        rintro e w1 ⟨rfl, rfl⟩
        rw [← HX.out.2.2.2.2.1]
        go_wp2_with fail
        refine (minF_any HX.out.2.2.1 HX.out.2.2.2.1.symm hn0 (by omega)).mono ?_
        rintro e w2 ⟨t, hLeast, rfl, o2⟩
        obtain ⟨ti, td⟩ := t
        have H2 := Lib.hid (And.intro hLeast o2)
        clear hLeast o2
        go_wp2_with fail
        go_ret2
        refine ⟨Only.trans' HX.out.1 (H2.out.2.alloc _), .inr ⟨td, ⟨⟨⟨ti, td⟩, wmem.2 ⟨_, H2.out.1.1⟩, rfl⟩, fun y hy => ?_⟩, rfl⟩⟩
        have hF : First W (L * 64 + s) := ⟨by
          have := HX.out.2.2.2.1
          intro e
          rw [e] at this
          simp at this
          omega, fun j hj => ?_⟩
        · exact hF.least H.out.2.1 H2.out.1.1 H2.out.1.2 hy
        · by_cases hj2 : j < L * 64
          · exact HX.out.2.1 j hj2
          · have h1 := HX.out.2.2.2.2.2.2.2 (j - L * 64) (by omega)
            have h2 := HX.out.2.2.2.2.2.1 (j - L * 64) (by omega)
            rw [h1, show L * 64 + (j - L * 64) = j by omega] at h2
            cases hh : W.at j with
            | nil => rfl
            | cons a r => exact absurd (h2.2 (by rw [hh]; simp)) (by simp)
    · obtain rfl : L = 7 := by omega
      have HX := Lib.hid (And.intro hO hemp)
      clear hO hemp hk
      go_wp2_with fail
      go_ret2
      refine ⟨HX.out.1, .inl ⟨?_, rfl⟩⟩
      rw [List.eq_nil_iff_forall_not_mem]
      intro t ht
      obtain ⟨i, hi⟩ := wmem.1 ht
      by_cases h7 : i < 448
      · rw [HX.out.2 i (by omega)] at hi
        simp at hi
      · unfold Wheel.at at hi
        rw [List.getD_eq_getElem?_getD, List.getElem?_eq_none (by rw [H.out.1.wl]; omega)] at hi
        simp at hi
end Go.Proofs.YtbkbcpnpbfnmgaaDoor
