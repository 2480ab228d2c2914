/- The reference's Text and Valid. -/
import Derived.Test.YtfmkdkpgehkfaaaValid
set_option linter.unusedVariables false
set_option linter.unusedSimpArgs false
namespace Go.Proofs.Ytfmkdkpgehkfaaa
open Go Go.RowKit

set_option maxRecDepth 100000 in
set_option maxHeartbeats 400000 in
theorem rtext_any (s : ByteArray) (w : World) (hs : s.size ≤ 9223372036854775807) :
    Calls Try.prog 50 #[.string s] w fun e w' => e = .returned (.bool (textOk s)) ∧ Only w w' := by
  by_cases h60 : s.size ≤ 60
  · have h60' : ¬ (60 : Int) < (s.size : Int) := by omega
    go_enter Try.func50, Try.ntmps50
    go_wp2
    go_loop [3] (fun i => ∃ k : Nat, k ≤ s.size ∧ i = .int .i64 (k : Nat) ∧ (s.data.toList.take k).all okB = true) (fun i => s.size - (intOf i).toNat)
    case atStart => exact ⟨0, Nat.zero_le _, rfl, by simp⟩
    case round =>
      obtain ⟨k, hk, rfl, hall⟩ := hrel
      have HA := Lib.hid hall
      clear hall
      by_cases hlt : k < s.size
      · have hst := textOk_take s k hlt
        have hsf := textOk_false s k hlt
        have HS := Lib.hid (And.intro hst hsf)
        clear hst hsf
        by_cases hc : 32 ≤ s[k].toNat ∧ s[k].toNat ≤ 126
        · obtain ⟨hc1, hc2⟩ := hc
          go_wp2
          go_round
          case rel => exact ⟨k + 1, by omega, by go_num, by rw [HS.out.1, HA.out]; simp [okB, hc1, hc2]⟩
          case measure => simp [intOf]; omega
        · have hb : okB s[k] = false := by
            unfold okB
            simp only [Bool.and_eq_false_iff, decide_eq_false_iff_not]
            omega
          have HB := Lib.hid (HS.out.2 hb)
          clear hb
          by_cases hc1 : s[k].toNat < 32
          · go_wp2
            go_ret
            exact ⟨ret_bool HB.out.symm, Stay.refl _ _⟩
          · have hc2 : 126 < s[k].toNat := by omega
            go_wp2
            go_ret
            exact ⟨ret_bool HB.out.symm, Stay.refl _ _⟩
      · have hke : k = s.size := by omega
        have HT : Hid (textOk s = true) := by
          show textOk s = true
          have := HA.out
          rw [List.take_of_length_le (by simp; omega)] at this
          unfold textOk
          rw [show (s.data.toList.all fun c => decide (32 ≤ c.toNat) && decide (c.toNat ≤ 126)) = s.data.toList.all okB from rfl, this]
          simp [h60]
        clear hke
        go_wp2
        go_ret
        exact ⟨ret_bool HT.out.symm, Stay.refl _ _⟩
  · have h60' : (60 : Int) < (s.size : Int) := by omega
    have HT : Hid (textOk s = false) := by show textOk s = false; unfold textOk; simp [h60]
    clear h60
    go_enter Try.func50, Try.ntmps50
    go_wp2
    go_ret
    exact ⟨ret_bool HT.out.symm, Stay.refl _ _⟩

set_option maxRecDepth 100000 in
set_option maxHeartbeats 1000000 in
theorem rvalue_any (v : V) (w : World) (hs : v.s.size ≤ 9223372036854775807) :
    Calls Try.prog 45 #[v.val] w fun e w' => e = .returned (.bool (valid v)) ∧ Only w w' := by
  obtain ⟨k, n, s⟩ := v
  unfold V.val
  by_cases h0 : k = 0
  · subst h0
    go_enter Try.func45, Try.ntmps45
    go_wp2
    all_goals (go_ret; exact ⟨ret_bool (by first | (simp [valid, *]; done) | (simp [valid, *]; omega) | (rw [Bool.eq_iff_iff]; simp [valid, *])), (Stay.refl _ w).alloc _⟩)
  by_cases h1 : k = 1
  · subst h1
    go_enter Try.func45, Try.ntmps45
    go_wp2
    all_goals (go_ret; exact ⟨ret_bool (by first | (simp [valid, *]; done) | (simp [valid, *]; omega) | (rw [Bool.eq_iff_iff]; simp [valid, *])), (Stay.refl _ w).alloc _⟩)
  by_cases h2 : k = 2
  · subst h2
    go_enter Try.func45, Try.ntmps45
    go_wp2
    all_goals (go_ret; exact ⟨ret_bool (by first | (simp [valid, *]; done) | (simp [valid, *]; omega) | (rw [Bool.eq_iff_iff]; simp [valid, *])), (Stay.refl _ w).alloc _⟩)
  by_cases h3 : k = 3
  · subst h3
    by_cases hn : n = 0
    · subst hn
      go_enter Try.func45, Try.ntmps45
      go_wp2_with (go_at_call 50; refine (rtext_any s _ hs).mono ?_; rintro e w1 ⟨rfl, hO⟩)
      go_ret
      exact ⟨ret_bool (by simp [valid]), hO.behind⟩
    · go_enter Try.func45, Try.ntmps45
      go_wp2
      all_goals (go_ret; exact ⟨ret_bool (by first | (simp [valid, *]; done) | (simp [valid, *]; omega) | (rw [Bool.eq_iff_iff]; simp [valid, *])), (Stay.refl _ w).alloc _⟩)
  by_cases h4 : k = 4
  · subst h4
    go_enter Try.func45, Try.ntmps45
    go_wp2
    all_goals (go_ret; exact ⟨ret_bool (by first | (simp [valid, *]; done) | (simp [valid, *]; omega) | (rw [Bool.eq_iff_iff]; simp [valid, *])), (Stay.refl _ w).alloc _⟩)
  by_cases h5 : k = 5
  · subst h5
    go_enter Try.func45, Try.ntmps45
    go_wp2
    all_goals (go_ret; exact ⟨ret_bool (by first | (simp [valid, *]; done) | (simp [valid, *]; omega) | (rw [Bool.eq_iff_iff]; simp [valid, *])), (Stay.refl _ w).alloc _⟩)
  by_cases h6 : k = 6
  · subst h6
    go_enter Try.func45, Try.ntmps45
    go_wp2
    all_goals (go_ret; exact ⟨ret_bool (by first | (simp [valid, *]; done) | (simp [valid, *]; omega) | (rw [Bool.eq_iff_iff]; simp [valid, *])), (Stay.refl _ w).alloc _⟩)
  · go_enter Try.func45, Try.ntmps45
    go_wp2
    all_goals (go_ret; exact ⟨ret_bool (by first | (simp [valid, *]; done) | (simp [valid, *]; omega) | (rw [Bool.eq_iff_iff]; simp [valid, *])), (Stay.refl _ w).alloc _⟩)

end Go.Proofs.Ytfmkdkpgehkfaaa
