/- ClockParts walked. -/
import Derived.Test.YtbkbcpnpbfnmgaaDoorLawConcat
set_option linter.unusedVariables false
set_option linter.unusedSimpArgs false
namespace Go.Proofs.YtbkbcpnpbfnmgaaDoor
open Go Go.RowKit

set_option maxRecDepth 100000 in
set_option maxHeartbeats 4000000 in
theorem clockParts_any (w : World) (hT : Tab w) (A : Option Addr) (n ca : Nat) (ops : List KOp) (hl : Sl w w.heap.size A n ca 2 (ops.flatMap KOp.cells)) (hlen : ops.length = n) (x y : Int) :
    Calls Tryd.prog 10 #[.slice A n ca, .int .i64 x, .int .i64 y] w fun e w' => e = .returned (.bool true) ∧ Only w w' := by
  have hma := made_any w hT A n ca ops hl hlen
  obtain ⟨C, hC⟩ : ∃ C, C = Ck.new.runs (ops.take 60) := ⟨_, rfl⟩
  rw [← hC] at hma
  clear hl hlen hC
  have HM := Lib.hid hma
  clear hma
  go_enter Tryd.func10, Tryd.ntmps10
  go_wp2_with fail
  refine HM.out.mono ?_
  clear HM
  rintro e w1 ⟨b, S1, rfl, hOC1⟩
  have H1 := Lib.hid hOC1
  clear hOC1
  go_wp2_with fail
  refine (copy_any H1.out.ck).mono ?_
  rintro e w2 ⟨d, rfl, hD2, hO2⟩
  have H2 : Hid (CkAt w2 (From w1.heap.size w2) d C ∧ OC w w2 S1 b C) := Lib.hid ⟨hD2, H1.out.then hO2⟩
  clear hD2 hO2
  go_wp2_with fail
  refine (alike_any H2.out.2.ck H2.out.1).mono ?_
  rw [Ck.like_refl]
  rintro e w3 ⟨rfl, hO3⟩
  have H3 : Hid (CkAt w3 (From w1.heap.size w2) d C ∧ OC w w3 S1 b C) := Lib.hid ⟨H2.out.1.only hO3, H2.out.2.then hO3⟩
  have hz3 := hO3.size
  clear hO3
  go_wp2_with fail
  refine (now_any H3.out.2.ck).mono ?_
  rintro e w4 ⟨rfl, hO4⟩
  have H4 : Hid (CkAt w4 (From w1.heap.size w2) d C ∧ OC w w4 S1 b C ∧ w2.heap.size ≤ w4.heap.size) := Lib.hid ⟨H3.out.1.only hO4, H3.out.2.then hO4, Nat.le_trans hz3 hO4.size⟩
  clear hO4 hz3
  go_wp2_with fail
  have hcn := H1.out.ck.ok.now
  by_cases hx : x < C.now ∨ x > maxT
  · have ha := adve_any H4.out.2.1.ck H4.out.2.1.tabw H4.out.2.1.g x
    have e : C.adve x = (C, [], 2) := by unfold Ck.adve; rw [if_pos hx]
    rw [e] at ha
    clear e
    refine ha.mono ?_
    clear ha
    rintro e w5 ⟨v5, rfl, S5, hr5, hC5, hS5, hst5, _⟩
    obtain ⟨A5, c5, rfl⟩ := own_shape hr5
    simp only
    have hD5 : CkAt w5 (From w1.heap.size w2) d C := H4.out.1.stay hst5 (fun k hk hs => by have := H1.out.ck.lt hs; have := hk.1; omega)
    have H5 := Lib.hid (And.intro (H4.out.2.1.next hC5 hS5 hst5) hD5)
    clear hr5 hC5 hS5 hst5 hD5
    unfold maxT at hx hcn
    have fin : ∀ w6, Only w5 w6 → Calls Tryd.prog 15 #[] w6 fun e w' => e = .returned (.bool true) ∧ Only w w' := fun w6 ho => (awake_any _ (H5.out.1.then ho).tabw).mono (fun e w' ⟨h1, h2⟩ => ⟨h1, (H5.out.1.then ho).only.trans' h2⟩)
    have HF := Lib.hid fin
    clear fin
    by_cases hlt : x < C.now
    · have b1 : decide (x < (C.now : Int)) = true := decide_eq_true hlt
      go_wp2_with fail
      refine (alike_any H5.out.1.ck H5.out.2).mono ?_
      rw [Ck.like_refl]
      rintro e w6 ⟨rfl, hO6⟩
      have H6 := Lib.hid hO6
      clear hO6
      go_wp2_with fail
      refine (HF.out _ H6.out).mono ?_
      rintro e w7 ⟨rfl, hO7⟩
      have H7 := Lib.hid hO7
      clear hO7
      go_wp2_with fail
      go_ret
      exact ⟨rfl, H7.out⟩
    · have b1 : decide (x < (C.now : Int)) = false := decide_eq_false hlt
      have hgt : x > 1000000000000 := by omega
      have b2 : decide (x > 1000000000000) = true := decide_eq_true hgt
      go_wp2_with fail
      refine (alike_any H5.out.1.ck H5.out.2).mono ?_
      rw [Ck.like_refl]
      rintro e w6 ⟨rfl, hO6⟩
      have H6 := Lib.hid hO6
      clear hO6
      go_wp2_with fail
      refine (HF.out _ H6.out).mono ?_
      rintro e w7 ⟨rfl, hO7⟩
      have H7 := Lib.hid hO7
      clear hO7
      go_wp2_with fail
      go_ret
      exact ⟨rfl, H7.out⟩
  · have e : C.adve x = (C.adv x.toNat, C.dues x.toNat, 0) := by unfold Ck.adve; rw [if_neg hx]
    have ha := adve_any H4.out.2.1.ck H4.out.2.1.tabw H4.out.2.1.g x
    rw [e] at ha
    clear e
    refine ha.mono ?_
    clear ha
    rintro e w5 ⟨v5, rfl, S5, hr5, hC5, hS5, hst5, hn5⟩
    obtain ⟨A5, c5, rfl⟩ := own_shape hr5
    have hq5 := dues_len H1.out.ck.ok x.toNat
    obtain ⟨X, hX⟩ : ∃ X, X = C.dues x.toNat := ⟨_, rfl⟩
    rw [← hX] at hr5 hn5 hq5 ⊢
    obtain ⟨q5, hq⟩ : ∃ q, q = X.length := ⟨_, rfl⟩
    rw [← hq] at hr5 hn5 hq5 ⊢
    simp only
    have hD5 : CkAt w5 (From w1.heap.size w2) d C := H4.out.1.stay hst5 (fun k hk hs => by have := H1.out.ck.lt hs; have := hk.1; omega)
    have H5 := Lib.hid (And.intro (H4.out.2.1.next hC5 hS5 hst5) (And.intro hD5 (And.intro hr5 (And.intro hS5 (And.intro hn5 (And.intro hst5.size (And.intro hX hq)))))))
    clear hr5 hC5 hS5 hst5 hD5 hn5 hX hq
    go_wp2_with fail
    have hC1n : (C.adv x.toNat).now = x.toNat := rfl
    have hb := adve_any H5.out.1.ck H5.out.1.tabw H5.out.1.g y
    by_cases hy : y < x ∨ y > maxT
    · have e : (C.adv x.toNat).adve y = (C.adv x.toNat, [], 2) := by unfold Ck.adve; rw [if_pos (by rw [hC1n]; omega)]
      rw [e] at hb
      clear e hC1n
      refine hb.mono ?_
      clear hb
      rintro e w6 ⟨v6, rfl, S6, hr6, hC6, hS6, hst6, _⟩
      obtain ⟨A6, c6, rfl⟩ := own_shape hr6
      simp only
      have H6 := Lib.hid (H5.out.1.next hC6 hS6 hst6)
      clear hr6 hC6 hS6 hst6
      unfold maxT at hx hcn hy
      have fin : Calls Tryd.prog 15 #[] w6 fun e w' => e = .returned (.bool true) ∧ Only w w' := (awake_any _ H6.out.tabw).mono (fun e w' ⟨h1, h2⟩ => ⟨h1, H6.out.only.trans' h2⟩)
      have HF := Lib.hid fin
      clear fin
      by_cases hlt : y < x
      · have b1 : decide (y < x) = true := decide_eq_true hlt
        go_wp2_with fail
        refine HF.out.mono ?_
        rintro e w7 ⟨rfl, hO7⟩
        have H7 := Lib.hid hO7
        clear hO7
        go_wp2_with fail
        go_ret
        exact ⟨rfl, H7.out⟩
      · have b1 : decide (y < x) = false := decide_eq_false hlt
        have hgt : y > 1000000000000 := by omega
        have b2 : decide (y > 1000000000000) = true := decide_eq_true hgt
        go_wp2_with fail
        refine HF.out.mono ?_
        rintro e w7 ⟨rfl, hO7⟩
        have H7 := Lib.hid hO7
        clear hO7
        go_wp2_with fail
        go_ret
        exact ⟨rfl, H7.out⟩
    · have e : (C.adv x.toNat).adve y = ((C.adv x.toNat).adv y.toNat, (C.adv x.toNat).dues y.toNat, 0) := by unfold Ck.adve; rw [if_neg (by rw [hC1n]; omega)]
      rw [e] at hb
      have hq6 := dues_len H5.out.1.ck.ok y.toNat
      have hxy : x.toNat ≤ y.toNat := by omega
      have hdd := Ck.dues_dues (C := C) hxy
      rw [Ck.adv_adv hxy] at hb
      have he : C.adve y = (C.adv y.toNat, C.dues y.toNat, 0) := by unfold Ck.adve; rw [if_neg (by omega)]
      clear e hC1n
      refine hb.mono ?_
      clear hb
      rintro e w6 ⟨v6, rfl, S6, hr6, hC6, hS6, hst6, hn6⟩
      obtain ⟨A6, c6, rfl⟩ := own_shape hr6
      obtain ⟨Y, hY⟩ : ∃ Y, Y = (C.adv x.toNat).dues y.toNat := ⟨_, rfl⟩
      rw [← hY] at hr6 hn6 hq6 hdd ⊢
      rw [← H5.out.2.2.2.2.2.2.1] at hdd
      obtain ⟨q6, hq⟩ : ∃ q, q = Y.length := ⟨_, rfl⟩
      rw [← hq] at hr6 hn6 hq6 ⊢
      simp only
      have hT : ∀ k, From w1.heap.size w2 k → ¬ S5 k := fun k hk hs => by
        rcases H5.out.2.2.2.1 k hs with e | e
        · have := H1.out.ck.lt e; have := hk.1; omega
        · have := hk.2; have := H4.out.2.2; omega
      have hT6 : ∀ k, From w1.heap.size w2 k → ¬ S6 k := fun k hk hs => by
        rcases hS6 k hs with e | e
        · exact hT k hk e
        · have := hk.2; have := H4.out.2.2; have := H5.out.2.2.2.2.2.1; omega
      have hOC6 := H5.out.1.next hC6 hS6 hst6
      have hD6 : CkAt w6 (From w1.heap.size w2) d C := H5.out.2.1.stay hst6 (fun k hk => hT k hk)
      have hOD : OC w w6 (From w1.heap.size w2) d C := ⟨hD6, fun k hk => Nat.le_trans H1.out.only.size hk.1, hOC6.only, hOC6.tab⟩
      have hx6 := own_stay hst6 H5.out.2.2.1 H5.out.2.2.2.2.1
      have H6 := Lib.hid (And.intro hOC6 (And.intro hOD (And.intro hr6 (And.intro hx6 (And.intro hT6 (And.intro hdd (And.intro he (And.intro hq hst6.size))))))))
      clear hr6 hC6 hS6 hst6 hn6 hY hq hT hT6 hOC6 hD6 hOD hx6 hdd he
      go_wp2_with fail
      have hb := adve_any H6.out.2.1.ck H6.out.2.1.tabw H6.out.2.1.g y
      rw [H6.out.2.2.2.2.2.2.1] at hb
      refine hb.mono ?_
      clear hb
      rintro e w7 ⟨v7, rfl, S7, hr7, hD7, hS7, hst7, _⟩
      obtain ⟨A7, c7, rfl⟩ := own_shape hr7
      have hz := H5.out.2.2.2.2.2.1
      have hx7 := own_stay hst7 H6.out.2.2.2.1 (fun g hg hs => by have := (own_lt H5.out.2.2.1 g hg).1; have := hs.2; have := H4.out.2.2; omega)
      have hy7 := own_stay hst7 H6.out.2.2.1 (fun g hg hs => by have := (own_lt H6.out.2.2.1 g hg).1; have := hs.2; have := H4.out.2.2; omega)
      have hC7 := H6.out.1.ck.stay hst7 (fun k hk hs => H6.out.2.2.2.2.1 k hs hk)
      have hOD7 := H6.out.2.1.next hD7 hS7 hst7
      rw [← H6.out.2.2.2.2.2.1] at hr7 ⊢
      dsimp only at hr7 ⊢
      obtain ⟨Z, hZ⟩ : ∃ Z, Z = X ++ Y := ⟨_, rfl⟩
      rw [← hZ] at hr7 ⊢
      obtain ⟨q7, hq7⟩ : ∃ q, q = Z.length := ⟨_, rfl⟩
      rw [← hq7] at hr7 ⊢
      have H7 := Lib.hid (And.intro hx7 (And.intro hy7 (And.intro hC7 (And.intro hOD7 (And.intro hr7 (And.intro hZ hq7))))))
      clear hx7 hy7 hC7 hOD7 hr7 hD7 hS7 hst7 hZ hq7 hz
      go_wp2_with fail
      have hOa : Only w7 (w7.alloc (.cells #[.slice A5 q5 c5, .slice A6 q6 c6] 42)) := (Stay.refl _ w7).alloc _
      have hBa : Blk (w7.alloc (.cells #[.slice A5 q5 c5, .slice A6 q6 c6] 42)) w7.heap.size 42 [.slice A5 q5 c5, .slice A6 q6 c6] := Blk.new w7 [_, _] _
      have HA := Lib.hid (And.intro hOa hBa)
      clear hOa hBa
      refine (conc_any _ w7.heap.size A5 A6 q5 q6 c5 c6 X Y HA.out.2 (own_sl (own_only HA.out.1 H7.out.1) (Stay.refl _ _)) (own_sl (own_only HA.out.1 H7.out.2.1) (Stay.refl _ _)) (by omega) (by omega)).mono ?_
      rintro e w8 ⟨v8, rfl, hr8, hO8⟩
      obtain ⟨A8, c8, rfl⟩ := own_shape hr8
      have e8 : ints X ++ ints Y = ints Z := by rw [H7.out.2.2.2.2.2.1]; simp [ints]
      have q8 : q5 + q6 = q7 := by rw [H7.out.2.2.2.2.2.2, H7.out.2.2.2.2.2.1, List.length_append, H5.out.2.2.2.2.2.2.2, H6.out.2.2.2.2.2.2.2.1]
      rw [e8, q8] at hr8
      rw [q8]
      have H8 := Lib.hid (And.intro hr8 (HA.out.1.trans' hO8))
      clear hr8 hO8 e8 q8
      go_wp2_with fail
      have heq : Calls Tryd.prog 22 #[.slice A8 q7 c8, .slice A7 q7 c7] w8 fun e w' => e = .returned (.bool true) ∧ Only w8 w' := by
        have h1 := H8.out.1
        have h2 := own_only H8.out.2 H7.out.2.2.2.2.1
        rw [H7.out.2.2.2.2.2.2] at h1 h2 ⊢
        have := eqI_any w8 A8 A7 c8 c7 Z Z (own_sl h1 (Stay.refl _ _)) (own_sl h2 (Stay.refl _ _))
        rw [beq_self_eq_true] at this
        exact this
      refine heq.mono ?_
      clear heq
      rintro e w9 ⟨rfl, hO9⟩
      have H9 := Lib.hid (H8.out.2.trans' hO9)
      clear hO9
      go_wp2_with fail
      refine (alike_any (H7.out.2.2.1.only H9.out) (H7.out.2.2.2.1.ck.only H9.out)).mono ?_
      rw [Ck.like_refl]
      rintro e w10 ⟨rfl, hO10⟩
      have H10 := Lib.hid (H9.out.trans' hO10)
      clear hO10
      go_wp2_with fail
      refine (awake_any _ (H7.out.2.2.2.1.then H10.out).tabw).mono ?_
      rintro e w11 ⟨rfl, hO11⟩
      have H11 := Lib.hid ((H7.out.2.2.2.1.then H10.out).only.trans' hO11)
      clear hO11
      go_wp2_with fail
      go_ret
      exact ⟨rfl, H11.out⟩
end Go.Proofs.YtbkbcpnpbfnmgaaDoor
