/- awake. -/
import Derived.Test.YtfmkdkpgehkfaaaLaw16
set_option linter.unusedVariables false
set_option linter.unusedSimpArgs false
namespace Go.Proofs.Ytfmkdkpgehkfaaa
open Go Go.RowKit

theorem nil_toList : (⟨#[]⟩ : ByteArray).toList = [] := by
  unfold ByteArray.toList ByteArray.toList.loop
  rfl
theorem nil_size : (⟨#[]⟩ : ByteArray).size = 0 := rfl
theorem valid_num (n : Int) (h1 : -1000000000000 ≤ n) (h2 : n ≤ 1000000000000) : valid (num n) = true := by
  simp [valid, num, nil_toList, h1, h2]
theorem valid_num7 : valid (num 7) = true := valid_num 7 (by omega) (by omega)
theorem offer7 : (Ch.new 1 0).offer (num 7) = ({ (Ch.new 1 0) with buf := [num 7] }, [], F.nil, true) := by
  simp [Ch.offer, valid_num7, Ch.new, takeW]
theorem take7 : ({ (Ch.new 1 0) with buf := [num 7] } : Ch).take = (Ch.new 1 0, num 7, [], F.nil, true) := by
  simp [Ch.take, Ch.new, takeW]

set_option maxRecDepth 100000 in
set_option maxHeartbeats 4000000 in
theorem awake_any (w : World) : Calls Try.prog 11 #[] w fun e w' => e = .returned (.bool true) ∧ Only w w' := by
  go_enter Try.func11, Try.ntmps11
  go_wp2_with fail
  refine (new_any 1 0 w (by decide)).mono ?_
  rintro e w1 ⟨rfl, hch, hO⟩
  have H1 := Lib.hid (And.intro hch hO)
  clear hch hO
  go_wp2_with fail
  refine (number_any 7 _).mono ?_
  rintro e w2 ⟨rfl, hO⟩
  have H2 := Lib.hid (And.intro (H1.out.1.only hO) hO)
  clear hO
  simp only [num, V.val]
  go_wp2_with fail
  refine (offer_any _ w.heap.size [] (Ch.new 1 0) (num 7) 0 H2.out.1 (Ch.new_ok (by decide)) (by omega) (by simp [num, nil_size])).mono ?_
  rintro e w3 ⟨dv, ns', rfl, h1, h2, h3, h4⟩
  rw [offer7] at h1 h2 ⊢
  have hns : ns' = [] := by
    match ns', h3 with
    | [], _ => rfl
    | k :: l, h => exact absurd (h k (by simp)) (by simp)
  subst hns
  obtain ⟨A1, c1, rfl⟩ := own_shape h2
  have H3 := Lib.hid (And.intro h1 h4)
  clear h1 h2 h3 h4
  simp only [List.length_nil, F.val, F.nil]
  go_wp2_with fail
  have ht := fun o => take_any (w3.alloc o) w.heap.size [] _ 0 (H3.out.1.only ((Stay.refl _ w3).alloc o)) (by
    have := (Ch.new_ok (cap := 1) (pol := 0) (by decide)).offer (num 7)
    rw [offer7] at this
    exact ⟨by simp [Ch.new], by simp [Ch.new], by simp [Ch.new], by simp [Ch.new], by simp [Ch.new], by simp [Ch.new], by simp [Ch.new], by simp [Ch.new]⟩)
  refine (ht _).mono ?_
  rintro e w4 ⟨dv, ns', rfl, h1, h2, h3, h4⟩
  rw [take7] at h1 h2 ⊢
  obtain ⟨A2, c2, rfl⟩ := own_shape h2
  have hb4 : Blk w4 w3.heap.size 42 [.int .i64 0, .string ⟨#[]⟩] := h4.blk (Blk.newAt w3 [.int .i64 0, .string ⟨#[]⟩] _ _ rfl) (by
    have := H3.out.1.lt w.heap.size (by simp)
    simp
    omega)
  have k0 := hb4.cell
  have kl := hb4.lt
  have H4 := Lib.hid (And.intro h1 h4)
  clear h1 h2 h3 h4 ht hb4
  simp only [List.length_nil, F.val, F.nil, num, V.val]
  go_wp2_with fail
  have q1 : ∀ o o', (((w4.alloc o).alloc o').drew).cell? ⟨w3.heap.size, 0, none⟩ = some (.int .i64 0) := fun o o' => ((World.cell?_alloc_past _ _ _ (by simp; omega)).trans (World.cell?_alloc_past _ _ _ kl)).trans (k0 0)
  go_region_held3 (fun w' => w'.cell? ⟨w3.heap.size, 0, none⟩ = some (.int .i64 0) ∧ w'.cell? ⟨w4.heap.size + 1, 0, none⟩ = some (.int .i64 0) ∧ w'.cell? ⟨w4.heap.size, 0, none⟩ = some (.int .i64 1) ∧ w'.cell? ⟨w4.heap.size, 1, none⟩ = some (.int .i64 7) ∧ w'.cell? ⟨w4.heap.size, 2, none⟩ = some (.string ⟨#[]⟩))
    (first
      | go_keep
      | (go_split_ands; refine ⟨?_, ?_, ?_, ?_, ?_⟩ <;> (apply Only.cell hO; assumption)))
    ((go_at_call 18; refine (number_any 7 _).mono ?_; rintro e w5 ⟨rfl, hO⟩; simp only [num, V.val]))
  go_wp2_with fail
  go_ret
  refine ⟨rfl, ?_⟩
  have m2 : Mine w.heap.size w w2 := Mine.only (H1.out.2.trans' H2.out.2)
  have m3 : Mine w.heap.size w w3 := Stay.trans m2 H3.out.2 (fun i _ h => by simp at h; exact Nat.le_of_eq h.symm)
  have m4 : Mine w.heap.size w w4 := Stay.trans (m3.alloc _) H4.out.2 (fun i _ h => by simp at h; exact Nat.le_of_eq h.symm)
  exact (((m4.alloc _).alloc _).drew.trans (Mine.only hO)).stay

end Go.Proofs.Ytfmkdkpgehkfaaa
