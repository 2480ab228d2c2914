/- The reference's Sound. -/
import Derived.Test.YtgjicobfbdikmaaLedRefG
set_option linter.unusedVariables false
set_option linter.unusedSimpArgs false
namespace Go.Proofs.Ytgjicobfbdikmaa
open Go Go.RowKit

def RL.sound (R : RL) : Bool := allShut R.es && decide (crsL R.es R.es.length = []) && decide (lkL R.lkd R.lkd.length = [])

set_option maxRecDepth 100000 in
set_option maxHeartbeats 4000000 in
theorem rsound_any (w : World) (a b : Value) (R : RL) (h : RAt w a b R) (hf : R.Fit) :
    Calls Try.prog 48 #[.agg #[a, b, .int .i64 R.time]] w fun e w' => e = .returned (.bool R.sound) ∧ Only w w' := by
  obtain ⟨Aa, ca, rfl⟩ := own_shape h.er
  obtain ⟨Ab, cb, rfl⟩ := own_shape h.br
  have hn := hf.n
  have H := Lib.hid (And.intro h hf)
  clear h hf
  go_enter Try.func48, Try.ntmps48
  go_upto_region 1 with fail
  obtain ⟨W0, hW0⟩ : ∃ W0 : World, W0 = w.alloc (.cells #[.slice Aa R.es.length ca, .slice Ab R.lkd.length cb, .int .i64 R.time] 49) := ⟨_, rfl⟩
  have hO0 : Only w W0 := by rw [hW0]; exact (Stay.refl _ w).alloc _
  have hB0 : Blk W0 w.heap.size 49 [.slice Aa R.es.length ca, .slice Ab R.lkd.length cb, .int .i64 R.time] := by rw [hW0]; exact Blk.new w [.slice Aa R.es.length ca, .slice Ab R.lkd.length cb, .int .i64 R.time] _
  rw [← hW0]
  have c1 := hB0.cell
  have l1 := hB0.lt
  have H0 := Lib.hid (And.intro hO0 hB0)
  clear hO0 hB0 hW0
  go_wp2_with fail
  go_loopg [8] (R.es.length) (fun kk vi wr => ∃ (i : Nat), i ≤ R.es.length ∧ kk = R.es.length - i ∧ vi = .int .i64 (i : Nat) ∧ Only W0 wr ∧ allShut (R.es.take i) = true)
  case atStart => exact ⟨0, Nat.zero_le _, rfl, rfl, Stay.refl _ _, rfl⟩
  case round =>
    obtain ⟨i, hi, hk2, rfl, hO4, hs⟩ := hrel
    obtain ⟨wz, rfl⟩ : ∃ wz : World, wz = wr := ⟨_, rfl⟩
    by_cases hlt2 : i < R.es.length
    · obtain ⟨x, hx⟩ : ∃ x, R.es[i]? = some x := ⟨_, List.getElem?_eq_getElem hlt2⟩
      obtain ⟨xb, xo, rfl, hxb, hxc⟩ := (own_sl H.out.1.er (H0.out.1.trans' hO4)).elem Ent.cells_length hx (by omega)
      have e0 := hxc 0 _ rfl
      have e1 := hxc 1 _ rfl
      have e2 := hxc 2 _ rfl
      have e3 := hxc 3 _ rfl
      simp only [Nat.add_zero] at e0 e1 e2 e3
      have u1 : (0 : Int) ≤ (i : Int) := by omega
      have u2 : (i : Int) < (R.es.length : Int) := by omega
      have HI := Lib.hid (And.intro hk2 (And.intro hO4 (And.intro hs hx)))
      clear hxc hx hk2 hO4 hs
      by_cases h0 : x.to = 0
      · have b0 : (x.to == 0) = true := by simp [h0]
        have HF := Lib.hid (show R.sound = false by
          unfold RL.sound allShut
          have : R.es.all (fun e => e.to != 0) = false := by
            rw [List.all_eq_false]
            exact ⟨x, List.mem_of_getElem? HI.out.2.2.2, by simp [h0]⟩
          rw [this]
          rfl)
        clear h0
        go_wp2_with fail
        go_ret
        exact ⟨by rw [HF.out]; rfl, H0.out.1.trans' (HI.out.2.1.alloc _)⟩
      · have b0 : (x.to == 0) = false := by simp [h0]
        have HF := Lib.hid h0
        clear h0
        go_wp2_with fail
        go_roundg (R.es.length - (i + 1))
        case measure => have := HI.out.1; omega
        case rel =>
          refine ⟨i + 1, by omega, rfl, by go_num, HI.out.2.1.alloc _, ?_⟩
          have h1 := HI.out.2.2.1
          unfold allShut at h1 ⊢
          rw [List.take_add_one, HI.out.2.2.2, List.all_append, h1]
          simp [HF.out]
    · obtain rfl : i = R.es.length := by omega
      rw [List.take_length] at hs
      have hB4 := hO4.blk H0.out.2
      have c1 := hB4.cell
      have l1 := hB4.lt
      have HI := Lib.hid (And.intro (H0.out.1.trans' hO4) (And.intro hs hB4))
      clear hk2 hO4 hs hB4
      go_wp2_with fail
      refine (rcrossed_any wz _ _ R (H.out.1.only HI.out.1) H.out.2).mono ?_
      rintro e w5 ⟨v5, rfl, hr5, hO5⟩
      obtain ⟨A5, c5, rfl⟩ := own_shape hr5
      have hB5 := hO5.blk HI.out.2.2
      have c1 := hB5.cell
      have l1 := hB5.lt
      obtain ⟨cl, hcl⟩ : ∃ cl, cl = crsL R.es R.es.length := ⟨_, rfl⟩
      rw [← hcl]
      have H5 := Lib.hid (And.intro hO5 hcl)
      clear hr5 hO5 hB5 hcl
      cases cl with
      | nil =>
        go_wp2_with fail
        refine (rleaks_any w5 _ _ R (H.out.1.only (HI.out.1.trans' H5.out.1)) H.out.2).mono ?_
        rintro e w6 ⟨v6, rfl, hr6, hO6⟩
        obtain ⟨A6, c6, rfl⟩ := own_shape hr6
        obtain ⟨ll, hll⟩ : ∃ ll, ll = lkL R.lkd R.lkd.length := ⟨_, rfl⟩
        rw [← hll]
        have H6 := Lib.hid (And.intro hO6 hll)
        clear hr6 hO6 hll
        cases ll with
        | nil =>
          go_wp2_with fail
          go_ret
          refine ⟨?_, (HI.out.1.trans' H5.out.1).trans' H6.out.1⟩
          unfold RL.sound
          rw [HI.out.2.1, ← H5.out.2, ← H6.out.2]
          rfl
        | cons z ll =>
          go_wp2_with fail
          go_ret
          refine ⟨?_, (HI.out.1.trans' H5.out.1).trans' H6.out.1⟩
          unfold RL.sound
          rw [HI.out.2.1, ← H5.out.2, ← H6.out.2]
          simp
          omega
      | cons z cl =>
        go_wp2_with fail
        go_ret
        refine ⟨?_, HI.out.1.trans' H5.out.1⟩
        unfold RL.sound
        rw [HI.out.2.1, ← H5.out.2]
        simp
        try omega

end Go.Proofs.Ytgjicobfbdikmaa
