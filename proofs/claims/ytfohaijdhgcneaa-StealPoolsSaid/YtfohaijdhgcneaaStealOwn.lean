/- A race of a law's own; awake. -/
import Derived.Test.YtfohaijdhgcneaaStealCopy
import Derived.Test.YtfohaijdhgcneaaIntEq
set_option linter.unusedVariables false
set_option linter.unusedSimpArgs false
namespace Go.Proofs.Ytfohaijdhgcneaa
open Go Go.RowKit

/-- A race that has been made since w0. -/
structure SR (w0 w : World) (L : Nat → Nat) (b : Nat) (R : Rc) : Prop where
  race : RaceOk w L b R
  new : ∀ k, L k ≠ 0 → w0.heap.size ≤ k
  only : Only w0 w
  made : Made R
section
variable {w0 w w' : World} {L : Nat → Nat} {b : Nat} {R : Rc}
theorem SR.then (h : SR w0 w L b R) (ho : Only w w') : SR w0 w' L b R := ⟨h.race.only ho, h.new, h.only.trans' ho, h.made⟩
theorem SR.ok (h : SR w0 w L b R) : R.Ok := h.race.ok
/-- What leaves the race alone. -/
theorem SR.stay {X : Nat → Prop} (h : SR w0 w L b R) (hx : Stay X w w') (hX : ∀ k, X k → L k = 0 ∧ w0.heap.size ≤ k) : SR w0 w' L b R :=
  ⟨h.race.stay hx (fun k hk => (hX k hk).1), h.new, h.only.trans hx (fun k hk e => by have := (hX k e).2; omega), h.made⟩
theorem sr_step (h : SR w0 w L b R) (i : Int) :
    Calls Try.prog 22 #[.pointer (some ⟨b, 0, none⟩), .int .i64 i] w fun e w' => e = .returned (.bool (R.step i).2) ∧ ∃ L', SR w0 w' L' b (R.step i).1 ∧ (∀ k, k < w.heap.size → L' k = L k) ∧ Stay (fun k => L k ≠ 0) w w' :=
  (step_any h.race i).mono fun e w' ⟨he, L', h1, h2, h3⟩ => ⟨he, L', ⟨h1, fun k hk => by
    by_cases hkw : k < w.heap.size
    · rw [h2 k hkw] at hk; exact h.new k hk
    · have := h.only.size; omega, h.only.trans h3 (fun k hk e => by have := h.new k e; omega), h.made.step i⟩, h2, h3⟩
theorem sr_new (w0 w : World) (ho : Only w0 w) (room : Nat) (own thv : List Int) (A B : Option Addr) (ca cb : Nat) (hA : Sl w w.heap.size A own.length ca 1 (ints own)) (hB : Sl w w.heap.size B thv.length cb 1 (ints thv)) (hv : Valid room own thv) :
    Calls Try.prog 38 #[.int .i64 room, .slice A own.length ca, .slice B thv.length cb] w fun e w' => ∃ b L, e = .returned (.tuple #[.pointer (some ⟨b, 0, none⟩), .int .i64 0]) ∧ SR w0 w' L b (Rc.start room own thv (thv.map Int.toNat)) ∧ Only w w' ∧ ∀ k, L k ≠ 0 → w.heap.size ≤ k :=
  (newrace_any w room own thv A B ca cb hA hB (by have := hv.r1; omega) (by have := hv.r2; omega) hv.o hv.t hv.ox hv.tx).mono fun e w' ⟨b, L, he, h1, h2, h3⟩ => ⟨b, L, he, ⟨h1, fun k hk => by have := h3 k hk; have := ho.size; omega, ho.trans' h2, Made.start hv⟩, h2, h3⟩
theorem sr_copy (h : SR w0 w L b R) :
    Calls Try.prog 23 #[.pointer (some ⟨b, 0, none⟩)] w fun e w' => ∃ b' L', e = .returned (.pointer (some ⟨b', 0, none⟩)) ∧ SR w0 w' L' b' R ∧ Only w w' ∧ ∀ k, L' k ≠ 0 → w.heap.size ≤ k :=
  (copy_any h.race h.made).mono fun e w' ⟨b', L', he, h1, h2, h3⟩ => ⟨b', L', he, ⟨h1, fun k hk => by have := h3 k hk; have := h.only.size; omega, h.only.trans' h2, h.made⟩, h2, h3⟩
end
def wake : Rc := Rc.start 2 [7, 0] [] []
theorem wake_end : (replay wake (List.replicate 20 0)).over = true ∧ (replay wake (List.replicate 20 0)).got 0 = [7, 7] ∧ (replay wake (List.replicate 20 0)).rest = [] := by decide +kernel
theorem wake_valid : Valid 2 [7, 0] [] := ⟨by decide, by decide, by decide, by decide, by decide, by decide⟩
theorem replay_rep (R : Rc) (i : Nat) (x : Int) : replay R (List.replicate (i + 1) x) = ((replay R (List.replicate i x)).step x).1 := by
  unfold replay
  rw [List.replicate_succ', List.foldl_append]
  rfl
/-- A literal row. -/
theorem lit_sl (w : World) (xs : List Int) : Sl (w.alloc (.cells (ints xs).toArray 3)) (w.alloc (.cells (ints xs).toArray 3)).heap.size (some ⟨w.heap.size, 0, none⟩) xs.length xs.length 1 (ints xs) ∨ 9223372036854775807 < xs.length := by
  by_cases h : xs.length ≤ 9223372036854775807
  · refine .inl ⟨by simp [ints], Nat.le_refl _, h, fun e => (by cases e), fun _ => ⟨_, _, rfl, by simp, fun j u hu => ?_⟩⟩
    rw [Nat.zero_add, (Blk.new w (ints xs) 3).cell j]
    exact hu
  · exact .inr (by omega)
set_option maxRecDepth 100000 in
set_option maxHeartbeats 4000000 in
theorem awake_any (w : World) : Calls Try.prog 14 #[] w fun e w' => e = .returned (.bool true) ∧ Only w w' := by
  go_enter Try.func14, Try.ntmps14
  go_wp2_with fail
  obtain ⟨w1, hw1⟩ : ∃ w1 : World, w1 = w.alloc (.cells #[.int .i64 7, .int .i64 0] 3) := ⟨_, rfl⟩
  rw [← hw1]
  have hO1 : Only w w1 := by rw [hw1]; exact (Stay.refl _ w).alloc _
  have hs1 : Sl w1 w1.heap.size (some ⟨w.heap.size, 0, none⟩) 2 2 1 (ints [7, 0]) := by rw [hw1]; exact (lit_sl w [7, 0]).resolve_right (by decide)
  have H1 := Lib.hid hO1
  clear hw1 hO1
  refine (sr_new w w1 H1.out 2 [7, 0] [] _ none 2 0 hs1 ⟨rfl, Nat.le_refl _, by omega, fun _ => rfl, fun h => absurd h (by simp)⟩ wake_valid).mono ?_
  rintro e w2 ⟨b, L, rfl, h2, _, _⟩
  have H2 := Lib.hid h2
  clear h2 hs1
  go_wp2_with fail
  go_loopg [10] 20 (fun k vi wr => ∃ (i : Nat) (L2 : Nat → Nat), i ≤ 20 ∧ k = 20 - i ∧ vi = .int .i64 (i : Nat) ∧ SR w wr L2 b (replay wake (List.replicate i 0)))
  case atStart => exact ⟨0, L, by omega, by omega, rfl, H2.out⟩
  case round =>
    obtain ⟨i, L2, hi, hk, rfl, hR⟩ := hrel
    obtain ⟨wt, hwt⟩ : ∃ wt, wt = wr := ⟨_, rfl⟩
    rw [← hwt] at hR ⊢
    clear hwt
    by_cases hp : i < 20
    · have HX := Lib.hid (And.intro hR hk)
      clear hR hk
      go_wp2_with fail
      refine (sr_step HX.out.1 0).mono ?_
      rintro e w3 ⟨rfl, L3, h3, _⟩
      have H3 := Lib.hid h3
      clear h3
      go_wp2_with fail
      go_roundg (20 - (i + 1))
      case measure => have := HX.out.2; omega
      case rel => exact ⟨i + 1, L3, by omega, rfl, by go_num, by rw [replay_rep]; exact H3.out⟩
    · obtain rfl : i = 20 := by omega
      have HX := Lib.hid hR
      clear hR hk
      go_wp2_with fail
      refine (over_any HX.out.race).mono ?_
      rintro e w4 ⟨rfl, h4⟩
      rw [wake_end.1]
      have H4 := Lib.hid (HX.out.then h4)
      clear h4
      go_wp2_with fail
      refine (got_any H4.out.race 0).mono ?_
      rintro e w5 ⟨v5, rfl, hr5, h5⟩
      rw [wake_end.2.1] at hr5
      obtain ⟨A5, c5, rfl⟩ := own_shape hr5
      have H5 := Lib.hid (And.intro (H4.out.then h5) hr5)
      clear h5 hr5
      go_wp2_with fail
      obtain ⟨w6, hw6⟩ : ∃ w6 : World, w6 = w5.alloc (.cells #[.int .i64 7, .int .i64 7] 3) := ⟨_, rfl⟩
      rw [← hw6]
      have hO6 : Only w5 w6 := by rw [hw6]; exact (Stay.refl _ w5).alloc _
      have hs6 : Sl w6 w6.heap.size (some ⟨w5.heap.size, 0, none⟩) 2 2 1 (ints [7, 7]) := by rw [hw6]; exact (lit_sl w5 [7, 7]).resolve_right (by decide)
      have H6 := Lib.hid (And.intro hO6 hs6)
      clear hw6 hO6 hs6
      refine (eqI_any w6 A5 (some ⟨w5.heap.size, 0, none⟩) c5 2 [7, 7] [7, 7] (own_sl H5.out.2 H6.out.1) H6.out.2).mono ?_
      rintro e w7 ⟨rfl, h7⟩
      have H7 := Lib.hid ((H5.out.1.then H6.out.1).then h7)
      clear h7
      rw [show (([7, 7] : List Int) == [7, 7]) = true from by decide]
      go_wp2_with fail
      refine (rest_any H7.out.race).mono ?_
      rintro e w8 ⟨v8, rfl, hr8, h8⟩
      rw [wake_end.2.2] at hr8
      obtain ⟨A8, c8, rfl⟩ := own_shape hr8
      have H8 := Lib.hid (H7.out.then h8)
      clear h8 hr8
      go_wp2_with fail
      go_ret
      exact ⟨rfl, H8.out.only⟩
end Go.Proofs.Ytfohaijdhgcneaa
