/- A race of a plan. -/
import Derived.Test.YtfohaijdhgcneaaStealClip
set_option linter.unusedVariables false
set_option linter.unusedSimpArgs false
namespace Go.Proofs.Ytfohaijdhgcneaa
open Go Go.RowKit

section
set_option maxRecDepth 100000
set_option maxHeartbeats 4000000
theorem made_ok (w0 w : World) (ho : Only w0 w) (room : Int) (own thv : List Int) (A B : Option Addr) (ca cb : Nat) (hA : Sl w w.heap.size A own.length ca 1 (ints own)) (hB : Sl w w.heap.size B thv.length cb 1 (ints thv)) (hv : Valid room (own.take 62) (thv.take 10)) :
    Calls Try.prog 13 #[.agg #[.int .i64 room, .slice A own.length ca, .slice B thv.length cb]] w fun e w' => ∃ b L, e = .returned (.tuple #[.pointer (some ⟨b, 0, none⟩), .int .i64 0]) ∧ SR w0 w' L b (Rc.start room.toNat (own.take 62) (thv.take 10) ((thv.take 10).map Int.toNat)) ∧ Only w w' ∧ ∀ k, L k ≠ 0 → w.heap.size ≤ k := by
  have HC := Lib.hid (clipped_any (w.alloc (.cells #[.int .i64 room, .slice A own.length ca, .slice B thv.length cb] 24)) room own thv A B ca cb (Sl.up hA ((Stay.refl _ w).alloc _)) (Sl.up hB ((Stay.refl _ w).alloc _)))
  have hl1 : (own.take 62).length ≤ 62 := by rw [List.length_take]; omega
  have hl2 : (thv.take 10).length ≤ 10 := by rw [List.length_take]; omega
  obtain ⟨o2, ho2⟩ : ∃ o, o = own.take 62 := ⟨_, rfl⟩
  obtain ⟨t2, ht2⟩ : ∃ o, o = thv.take 10 := ⟨_, rfl⟩
  rw [← ho2, ← ht2] at HC hv
  rw [← ho2] at hl1
  rw [← ht2] at hl2
  rw [← ho2, ← ht2]
  have HS := Lib.hid (And.intro hA (And.intro hB (And.intro ho hv)))
  clear hA hB ho hv ho2 ht2
  go_enter Try.func13, Try.ntmps13
  go_wp2_with fail
  have hC := HC.out
  obtain ⟨w1, hw1⟩ : ∃ w1, w1 = w.alloc (.cells #[.int .i64 room, .slice A own.length ca, .slice B thv.length cb] 24) := ⟨_, rfl⟩
  rw [← hw1] at hC ⊢
  have hO1 : Only w w1 := by rw [hw1]; exact (Stay.refl _ w).alloc _
  have hB1 : Blk w1 w.heap.size 24 [.int .i64 room, .slice A own.length ca, .slice B thv.length cb] := by rw [hw1]; exact Blk.newAt w [_, _, _] _ _ rfl
  have H1 := Lib.hid (And.intro hO1 hB1)
  clear hw1 hO1 hB1 HC
  refine hC.mono ?_
  clear hC
  rintro e w2 ⟨ov, tv, rfl, ro, rt, ho2⟩
  obtain ⟨Ao, co, rfl⟩ := own_shape ro
  obtain ⟨At, ct, rfl⟩ := own_shape rt
  have B2 := ho2.blk H1.out.2
  have c2 := B2.cell
  have f2 := B2.free
  have l2 := B2.lt
  have H2 := Lib.hid (And.intro ro (And.intro rt (And.intro ho2 (And.intro B2 (And.intro hl1 hl2)))))
  clear ro rt ho2 B2 hl1 hl2
  go_wp2_with fail
  obtain ⟨w3, hw3⟩ : ∃ w3, w3 = ((w2.setCell ⟨w.heap.size, 0, none⟩ (.int .i64 room)).setCell ⟨w.heap.size, 1, none⟩ (.slice Ao o2.length co)).setCell ⟨w.heap.size, 2, none⟩ (.slice At t2.length ct) := ⟨_, rfl⟩
  rw [← hw3]
  have hO3 : Only w w3 := by
    have h := H1.out.1.trans' H2.out.2.2.1
    rw [hw3]
    exact ((h.set (fun h => by simp at h) _).set (fun h => by simp at h) _).set (fun h => by simp at h) _
  have hr : ∀ (P : Option Addr) (d : Nat) (l : List Int), w2.ownsRow w1.heap.size 3 1 (.slice P l.length d) l.length (ints l) → Sl w3 w3.heap.size P l.length d 1 (ints l) := fun P d l h => by
    have n := own_ne_blk h H2.out.2.2.2.1 (by decide)
    rw [hw3]
    exact own_sl (own_set (own_set (own_set h _ n) _ n) _ n) (Stay.refl _ _)
  have H3 := Lib.hid (And.intro (hr Ao co o2 H2.out.1) (And.intro (hr At ct t2 H2.out.2.1) hO3))
  clear hw3 hO3 hr c2 f2 l2
  obtain ⟨rm, rfl⟩ : ∃ rm : Nat, room = (rm : Int) := ⟨room.toNat, by have := HS.out.2.2.2.r1; omega⟩
  refine (sr_new w0 w3 (HS.out.2.2.1.trans' H3.out.2.2) rm o2 t2 Ao At co ct H3.out.1 H3.out.2.1 HS.out.2.2.2).mono ?_
  rintro e w4 ⟨b, L, rfl, h4, h5, h6⟩
  have H4 := Lib.hid (And.intro h4 (And.intro h5 h6))
  clear h4 h5 h6
  go_wp2_with fail
  go_ret2
  exact ⟨b, L, rfl, by simpa using H4.out.1, H3.out.2.2.trans' H4.out.2.1, fun k hk => Nat.le_trans H3.out.2.2.size (H4.out.2.2 k hk)⟩
theorem made_no (w0 w : World) (ho : Only w0 w) (room : Int) (own thv : List Int) (A B : Option Addr) (ca cb : Nat) (hA : Sl w w.heap.size A own.length ca 1 (ints own)) (hB : Sl w w.heap.size B thv.length cb 1 (ints thv)) (hv : ¬ Valid room (own.take 62) (thv.take 10)) :
    Calls Try.prog 13 #[.agg #[.int .i64 room, .slice A own.length ca, .slice B thv.length cb]] w fun e w' => e = .returned (.tuple #[.pointer none, .int .i64 2]) ∧ Only w w' := by
  have HC := Lib.hid (clipped_any (w.alloc (.cells #[.int .i64 room, .slice A own.length ca, .slice B thv.length cb] 24)) room own thv A B ca cb (Sl.up hA ((Stay.refl _ w).alloc _)) (Sl.up hB ((Stay.refl _ w).alloc _)))
  have hl1 : (own.take 62).length ≤ 62 := by rw [List.length_take]; omega
  have hl2 : (thv.take 10).length ≤ 10 := by rw [List.length_take]; omega
  obtain ⟨o2, ho2⟩ : ∃ o, o = own.take 62 := ⟨_, rfl⟩
  obtain ⟨t2, ht2⟩ : ∃ o, o = thv.take 10 := ⟨_, rfl⟩
  rw [← ho2, ← ht2] at HC hv
  rw [← ho2] at hl1
  rw [← ht2] at hl2

  have HS := Lib.hid (And.intro hA (And.intro hB (And.intro ho hv)))
  clear hA hB ho hv ho2 ht2
  go_enter Try.func13, Try.ntmps13
  go_wp2_with fail
  have hC := HC.out
  obtain ⟨w1, hw1⟩ : ∃ w1, w1 = w.alloc (.cells #[.int .i64 room, .slice A own.length ca, .slice B thv.length cb] 24) := ⟨_, rfl⟩
  rw [← hw1] at hC ⊢
  have hO1 : Only w w1 := by rw [hw1]; exact (Stay.refl _ w).alloc _
  have hB1 : Blk w1 w.heap.size 24 [.int .i64 room, .slice A own.length ca, .slice B thv.length cb] := by rw [hw1]; exact Blk.newAt w [_, _, _] _ _ rfl
  have H1 := Lib.hid (And.intro hO1 hB1)
  clear hw1 hO1 hB1 HC
  refine hC.mono ?_
  clear hC
  rintro e w2 ⟨ov, tv, rfl, ro, rt, ho2⟩
  obtain ⟨Ao, co, rfl⟩ := own_shape ro
  obtain ⟨At, ct, rfl⟩ := own_shape rt
  have B2 := ho2.blk H1.out.2
  have c2 := B2.cell
  have f2 := B2.free
  have l2 := B2.lt
  have H2 := Lib.hid (And.intro ro (And.intro rt (And.intro ho2 (And.intro B2 (And.intro hl1 hl2)))))
  clear ro rt ho2 B2 hl1 hl2
  go_wp2_with fail
  obtain ⟨w3, hw3⟩ : ∃ w3, w3 = ((w2.setCell ⟨w.heap.size, 0, none⟩ (.int .i64 room)).setCell ⟨w.heap.size, 1, none⟩ (.slice Ao o2.length co)).setCell ⟨w.heap.size, 2, none⟩ (.slice At t2.length ct) := ⟨_, rfl⟩
  rw [← hw3]
  have hO3 : Only w w3 := by
    have h := H1.out.1.trans' H2.out.2.2.1
    rw [hw3]
    exact ((h.set (fun h => by simp at h) _).set (fun h => by simp at h) _).set (fun h => by simp at h) _
  have hr : ∀ (P : Option Addr) (d : Nat) (l : List Int), w2.ownsRow w1.heap.size 3 1 (.slice P l.length d) l.length (ints l) → Sl w3 w3.heap.size P l.length d 1 (ints l) := fun P d l h => by
    have n := own_ne_blk h H2.out.2.2.2.1 (by decide)
    rw [hw3]
    exact own_sl (own_set (own_set (own_set h _ n) _ n) _ n) (Stay.refl _ _)
  have H3 := Lib.hid (And.intro (hr Ao co o2 H2.out.1) (And.intro (hr At ct t2 H2.out.2.1) hO3))
  clear hw3 hO3 hr c2 f2 l2
  refine (newrace_bad w3 room o2 t2 Ao At co ct H3.out.1 H3.out.2.1 (by have := H2.out.2.2.2.2.1; omega) (by have := H2.out.2.2.2.2.2; omega) HS.out.2.2.2).mono ?_
  rintro e w4 ⟨rfl, h4⟩
  have H4 := Lib.hid h4
  clear h4
  go_wp2_with fail
  go_ret2
  exact ⟨rfl, H3.out.2.2.trans' H4.out⟩
end
end Go.Proofs.Ytfohaijdhgcneaa
