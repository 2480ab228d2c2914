/- ClockFull walked. -/
import Derived.Test.YtbkbcpnpbfnmgaaDoorLawOuts
set_option linter.unusedVariables false
set_option linter.unusedSimpArgs false
namespace Go.Proofs.YtbkbcpnpbfnmgaaDoor
open Go Go.RowKit

theorem full_filter {l : List Tm} (hl : Nums 0 l) {k : Nat} (hk : k < l.length) : (l.filter fun t => decide ((t.id : Int) ≠ (k : Int) + 1)).length = l.length - 1 := by
  have e : l = l.take k ++ l[k] :: l.drop (k + 1) := by rw [← List.drop_eq_getElem_cons hk, List.take_append_drop]
  have hid := hl k _ (List.getElem?_eq_getElem hk)
  have h1 : (l.take k).filter (fun t => decide ((t.id : Int) ≠ (k : Int) + 1)) = l.take k := List.filter_eq_self.2 fun u hu => by
    obtain ⟨j, hj⟩ := List.mem_iff_getElem?.1 hu
    rw [List.getElem?_take] at hj
    split at hj
    · have := hl _ _ hj
      simp
      omega
    · cases hj
  have h2 : (l.drop (k + 1)).filter (fun t => decide ((t.id : Int) ≠ (k : Int) + 1)) = l.drop (k + 1) := List.filter_eq_self.2 fun u hu => by
    obtain ⟨j, hj⟩ := List.mem_iff_getElem?.1 hu
    rw [List.getElem?_drop] at hj
    have := hl _ _ hj
    simp
    omega
  have h3 : l.filter (fun t => decide ((t.id : Int) ≠ (k : Int) + 1)) = l.take k ++ l.drop (k + 1) := by
    conv => lhs; rw [e]
    rw [List.filter_append, List.filter_cons, if_neg (by simp; omega), h1, h2]
  rw [h3, List.length_append, List.length_take, List.length_drop]
  omega
set_option maxRecDepth 100000 in
set_option maxHeartbeats 4000000 in
theorem clockFull_any (w : World) (hT : Tab w) (x y : Int) (hx : (Lit.int .i64 x).wf = true) (hy : (Lit.int .i64 y).wf = true) :
    Calls Tryd.prog 3 #[.int .i64 x, .int .i64 y] w fun e w' => e = .returned (.bool true) ∧ Only w w' := by
  have HT := Lib.hid hT
  clear hT
  go_enter Tryd.func3, Tryd.ntmps3
  go_wp2_with fail
  refine (new_any w).mono ?_
  rintro e w1 ⟨rfl, hC1, hO1⟩
  have H1 : Hid (OC w w1 (From w.heap.size w1) (w.heap.size + 1) Ck.new) := Lib.hid ⟨hC1, fun k hk => hk.1, hO1, HT.out⟩
  clear hC1 hO1
  go_upto_region 3 with fail
  obtain ⟨st, hst⟩ : ∃ st : Nat, st = (x % 18446744073709551616 % 1000000000).toNat := ⟨_, rfl⟩
  have e6 : wrap64 ((IntKind.u64.wrap x).tmod 1000000000) = (st : Int) := by
    rw [IntKind.wrap_u64, Int.tmod_eq_emod_of_nonneg (by omega), IntWalk.wrap64_in _ ⟨by omega, by omega⟩]
    omega
  have hst9 : st < 1000000000 := by omega
  rw [e6]
  clear e6 hst
  go_upto_region 1 with fail
  go_loopg [21] 400 (fun kk vj wr => ∃ (i : Nat) (S : Nat → Prop) (l : List Tm), i ≤ 400 ∧ kk = 400 - i ∧ vj = .int .i64 (i : Nat) ∧ l.length = i ∧ Nums 0 l ∧ OC w wr S (w.heap.size + 1) ⟨0, i, l⟩)
  case atStart => exact ⟨0, _, [], by omega, rfl, rfl, rfl, fun i t h => by simp at h, H1.out⟩
  case round =>
    obtain ⟨i, S, l, hi, hk, rfl, hl, hnum, hO⟩ := hrel
    obtain ⟨wt, hwt⟩ : ∃ wt, wt = wr := ⟨_, rfl⟩
    rw [← hwt] at hO ⊢
    clear hwt
    by_cases hi4 : i < 400
    · obtain ⟨p, hp⟩ : ∃ p, p = i * st := ⟨_, rfl⟩
      have hpb : p ≤ 400 * 1000000000 := by rw [hp]; exact Nat.mul_le_mul (by omega) (by omega)
      obtain ⟨d, hd⟩ : ∃ d, d = p % 1000000007 := ⟨_, rfl⟩
      have e7 : wrap64 ((i : Int) * (st : Int)) = (p : Int) := by
        have : (i : Int) * (st : Int) = (p : Int) := by rw [hp]; simp
        rw [this]
        exact IntWalk.wrap64_in _ ⟨by omega, by omega⟩
      have hdb : d < 1000000007 := by rw [hd]; exact Nat.mod_lt _ (by decide)
      have e9 : wrap64 (d : Int) = (d : Int) := IntWalk.wrap64_in _ ⟨by clear e7 hd hpb; omega, by clear e7 hd hpb; omega⟩
      have e10 : wrap64 ((i : Int) + 1) = (i : Int) + 1 := IntWalk.wrap64_in _ ⟨by clear e7 hd hpb e9; omega, by clear e7 hd hpb e9; omega⟩
      have e8 : (p : Int).tmod 1000000007 = (d : Int) := by rw [Int.tmod_eq_emod_of_nonneg (Int.natCast_nonneg p), hd]; rfl
      have hm1 : i < maxT := Nat.lt_of_le_of_lt hi (by unfold maxT; decide)
      have hm2 : d ≤ maxT := Nat.le_trans (Nat.le_of_lt hdb) (by unfold maxT; decide)
      have hm3 : l.length < 400 := by rw [hl]; exact hi4
      have ha := arme_any (C := ⟨0, i, l⟩) hO.ck (show (⟨0, i, l⟩ : Ck).made < maxT from hm1) (d : Int)
      rw [Ck.arme_ok (C := ⟨0, i, l⟩) (d := d) (Nat.zero_le _) hm2 hm3] at ha
      clear hm1 hm2 hm3 hdb hpb
      have HX := Lib.hid (And.intro hO (And.intro hk (And.intro hl (And.intro hnum ha))))
      clear hO hk hl hnum ha hp hd
      go_wp2_with fail
      clear e7 e8 e9
      refine HX.out.2.2.2.2.mono ?_
      rintro e w2 ⟨rfl, S2, h2, hs2, hst2⟩
      have H2 := Lib.hid (HX.out.1.next h2 hs2 hst2)
      clear h2 hs2 hst2
      simp only
      go_wp2_with fail
      go_roundg (400 - (i + 1))
      case measure => have := HX.out.2.1; omega
      case rel =>
        refine ⟨i + 1, S2, l ++ [(⟨i + 1, d⟩ : Tm)], by omega, rfl, by go_num, by rw [List.length_append, HX.out.2.2.1]; rfl, ?_, by have := H2.out; exact this⟩
        have := HX.out.2.2.2.1.snoc d
        rw [HX.out.2.2.1, Nat.zero_add] at this
        exact this
    · obtain rfl : i = 400 := by omega
      have HX := Lib.hid (And.intro hO (And.intro hl hnum))
      clear hO hk hl hnum
      go_wp2_with fail
      have hlen : l.length = 400 := HX.out.2.1
      have ha := arme_any HX.out.1.ck (show (⟨0, 400, l⟩ : Ck).made < maxT from (show (400 : Nat) < maxT by unfold maxT; decide)) x
      have full : ∃ er : Int, (⟨0, 400, l⟩ : Ck).arme x = (⟨0, 400, l⟩, 0, er) ∧ ((er = 5 ∧ (er != 5) = false) ∨ (er = 2 ∧ (x < 0 ∨ x > 1000000000000))) := by
        by_cases hx : x < ((⟨0, 400, l⟩ : Ck).now : Int) ∨ x > maxT
        · exact ⟨2, by unfold Ck.arme; rw [if_pos hx], .inr ⟨rfl, by simpa [maxT] using hx⟩⟩
        · exact ⟨5, by unfold Ck.arme; rw [if_neg hx, if_pos (show 400 ≤ l.length by rw [hlen]; exact Nat.le_refl _)], .inl ⟨rfl, rfl⟩⟩
      obtain ⟨er, he, hcase⟩ := full
      rw [he] at ha
      have HL := Lib.hid hlen
      clear he hlen
      refine ha.mono ?_
      clear ha
      rintro e w2 ⟨rfl, S2, h2, hs2, hst2⟩
      have H2 := Lib.hid (HX.out.1.next h2 hs2 hst2)
      clear h2 hs2 hst2
      simp only
      obtain ⟨k, hk⟩ : ∃ k : Nat, k = (y % 18446744073709551616 % 400).toNat := ⟨_, rfl⟩
      have e6 : wrap64 (1 + wrap64 ((IntKind.u64.wrap y).tmod 400)) = (k : Int) + 1 := by
        rw [IntKind.wrap_u64, Int.tmod_eq_emod_of_nonneg (by omega), IntWalk.wrap64_in (y % 18446744073709551616 % 400) ⟨by omega, by omega⟩, IntWalk.wrap64_in _ ⟨by omega, by omega⟩]
        omega
      have hk4 : k < 400 := by omega
      clear hk
      have hnum := HX.out.2.2
      have hdis := dise_any H2.out.ck ((k : Int) + 1)
      have hds : (⟨0, 400, l⟩ : Ck).dise ((k : Int) + 1) = (⟨0, 400, l.filter fun t => decide ((t.id : Int) ≠ (k : Int) + 1)⟩, 0) := by
        unfold Ck.dise
        rw [if_pos ⟨l[k]'(by rw [HL.out]; exact hk4), List.getElem_mem _, by rw [hnum k _ (List.getElem?_eq_getElem (by rw [HL.out]; exact hk4))]; omega⟩]
      rw [hds] at hdis
      have hfl := full_filter hnum (k := k) (by rw [HL.out]; exact hk4)
      rw [HL.out] at hfl
      obtain ⟨fl, hfe⟩ : ∃ fl, fl = l.filter fun t => decide ((t.id : Int) ≠ (k : Int) + 1) := ⟨_, rfl⟩
      rw [← hfe] at hdis hfl
      have HD := Lib.hid (And.intro hdis hfl)
      clear hdis hfl hds hfe hnum
      have cases : er = 5 ∨ (er = 2 ∧ x < 0) ∨ (er = 2 ∧ ¬ x < 0 ∧ x > 1000000000000) := by
        rcases hcase with ⟨rfl, _⟩ | ⟨rfl, hx⟩
        · exact .inl rfl
        · by_cases h0 : x < 0
          · exact .inr (.inl ⟨rfl, h0⟩)
          · exact .inr (.inr ⟨rfl, h0, by omega⟩)
      clear hcase
      rcases cases with rfl | ⟨rfl, h0⟩ | ⟨rfl, h0, h1⟩
      · go_wp2_with fail
        refine HD.out.1.mono ?_
        rintro e w3 ⟨rfl, S3, h3, hs3, hst3⟩
        have H3 := Lib.hid (H2.out.next h3 hs3 hst3)
        clear h3 hs3 hst3
        go_wp2_with fail
        refine (lall_any H3.out.ck).mono ?_
        rintro e w4 ⟨v4, rfl, hr4, hO4⟩
        obtain ⟨A4, c4, rfl⟩ := own_shape hr4
        have e399 : (⟨0, 400, fl⟩ : Ck).all.length = 399 := (tsort_length _).trans HD.out.2
        rw [e399]
        have H4 := Lib.hid (H3.out.then hO4)
        clear hr4 hO4 e399
        go_wp2_with fail
        have ha := arme_any (C := ⟨0, 400, fl⟩) H4.out.ck (show (400 : Nat) < maxT by unfold maxT; decide) ((0 : Nat) : Int)
        rw [Ck.arme_ok (C := ⟨0, 400, fl⟩) (d := 0) (Nat.le_refl _) (Nat.zero_le _) (show fl.length < 400 by rw [HD.out.2]; decide)] at ha
        refine (show Calls Tryd.prog 12 #[.pointer (some ⟨w.heap.size + 1, 0, none⟩), .int .i64 0] w4 _ from ha).mono ?_
        clear ha
        rintro e w5 ⟨rfl, S5, h5, hs5, hst5⟩
        have H5 := Lib.hid (H4.out.next h5 hs5 hst5)
        clear h5 hs5 hst5
        dsimp only
        go_wp2_with fail
        have hf : ((⟨0, 400, fl⟩ : Ck).arm 0).arme 0 = ((⟨0, 400, fl⟩ : Ck).arm 0, 0, 5) := by
          unfold Ck.arme
          rw [if_neg (by simp [Ck.arm, maxT]), if_pos (by simp [Ck.arm, HD.out.2])]
        have ha := arme_any H5.out.ck (show (401 : Nat) < maxT by unfold maxT; decide) 0
        rw [hf] at ha
        refine ha.mono ?_
        clear ha hf
        rintro e w6 ⟨rfl, S6, h6, hs6, hst6⟩
        have H6 := Lib.hid (H5.out.next h6 hs6 hst6)
        clear h6 hs6 hst6
        dsimp only
        go_wp2_with fail
        refine (awake_any _ H6.out.tabw).mono ?_
        rintro e w7 ⟨rfl, hO7⟩
        have H7 := Lib.hid (H6.out.only.trans' hO7)
        clear hO7
        go_wp2_with fail
        go_ret
        exact ⟨rfl, H7.out⟩
      · have b0 : decide (x ≥ 0) = false := decide_eq_false (by omega)
        have b1 : ¬ x ≥ 0 := by omega
        go_wp2_with fail
        refine HD.out.1.mono ?_
        rintro e w3 ⟨rfl, S3, h3, hs3, hst3⟩
        have H3 := Lib.hid (H2.out.next h3 hs3 hst3)
        clear h3 hs3 hst3
        go_wp2_with fail
        refine (lall_any H3.out.ck).mono ?_
        rintro e w4 ⟨v4, rfl, hr4, hO4⟩
        obtain ⟨A4, c4, rfl⟩ := own_shape hr4
        have e399 : (⟨0, 400, fl⟩ : Ck).all.length = 399 := (tsort_length _).trans HD.out.2
        rw [e399]
        have H4 := Lib.hid (H3.out.then hO4)
        clear hr4 hO4 e399
        go_wp2_with fail
        have ha := arme_any (C := ⟨0, 400, fl⟩) H4.out.ck (show (400 : Nat) < maxT by unfold maxT; decide) ((0 : Nat) : Int)
        rw [Ck.arme_ok (C := ⟨0, 400, fl⟩) (d := 0) (Nat.le_refl _) (Nat.zero_le _) (show fl.length < 400 by rw [HD.out.2]; decide)] at ha
        refine (show Calls Tryd.prog 12 #[.pointer (some ⟨w.heap.size + 1, 0, none⟩), .int .i64 0] w4 _ from ha).mono ?_
        clear ha
        rintro e w5 ⟨rfl, S5, h5, hs5, hst5⟩
        have H5 := Lib.hid (H4.out.next h5 hs5 hst5)
        clear h5 hs5 hst5
        dsimp only
        go_wp2_with fail
        have hf : ((⟨0, 400, fl⟩ : Ck).arm 0).arme 0 = ((⟨0, 400, fl⟩ : Ck).arm 0, 0, 5) := by
          unfold Ck.arme
          rw [if_neg (by simp [Ck.arm, maxT]), if_pos (by simp [Ck.arm, HD.out.2])]
        have ha := arme_any H5.out.ck (show (401 : Nat) < maxT by unfold maxT; decide) 0
        rw [hf] at ha
        refine ha.mono ?_
        clear ha hf
        rintro e w6 ⟨rfl, S6, h6, hs6, hst6⟩
        have H6 := Lib.hid (H5.out.next h6 hs6 hst6)
        clear h6 hs6 hst6
        dsimp only
        go_wp2_with fail
        refine (awake_any _ H6.out.tabw).mono ?_
        rintro e w7 ⟨rfl, hO7⟩
        have H7 := Lib.hid (H6.out.only.trans' hO7)
        clear hO7
        go_wp2_with fail
        go_ret
        exact ⟨rfl, H7.out⟩
      · have b0 : decide (x ≥ 0) = true := decide_eq_true (by omega)
        have b1 : x ≥ 0 := by omega
        have b2 : decide (x ≤ 1000000000000) = false := decide_eq_false (by omega)
        have b3 : ¬ x ≤ 1000000000000 := by omega
        go_wp2_with fail
        refine HD.out.1.mono ?_
        rintro e w3 ⟨rfl, S3, h3, hs3, hst3⟩
        have H3 := Lib.hid (H2.out.next h3 hs3 hst3)
        clear h3 hs3 hst3
        go_wp2_with fail
        refine (lall_any H3.out.ck).mono ?_
        rintro e w4 ⟨v4, rfl, hr4, hO4⟩
        obtain ⟨A4, c4, rfl⟩ := own_shape hr4
        have e399 : (⟨0, 400, fl⟩ : Ck).all.length = 399 := (tsort_length _).trans HD.out.2
        rw [e399]
        have H4 := Lib.hid (H3.out.then hO4)
        clear hr4 hO4 e399
        go_wp2_with fail
        have ha := arme_any (C := ⟨0, 400, fl⟩) H4.out.ck (show (400 : Nat) < maxT by unfold maxT; decide) ((0 : Nat) : Int)
        rw [Ck.arme_ok (C := ⟨0, 400, fl⟩) (d := 0) (Nat.le_refl _) (Nat.zero_le _) (show fl.length < 400 by rw [HD.out.2]; decide)] at ha
        refine (show Calls Tryd.prog 12 #[.pointer (some ⟨w.heap.size + 1, 0, none⟩), .int .i64 0] w4 _ from ha).mono ?_
        clear ha
        rintro e w5 ⟨rfl, S5, h5, hs5, hst5⟩
        have H5 := Lib.hid (H4.out.next h5 hs5 hst5)
        clear h5 hs5 hst5
        dsimp only
        go_wp2_with fail
        have hf : ((⟨0, 400, fl⟩ : Ck).arm 0).arme 0 = ((⟨0, 400, fl⟩ : Ck).arm 0, 0, 5) := by
          unfold Ck.arme
          rw [if_neg (by simp [Ck.arm, maxT]), if_pos (by simp [Ck.arm, HD.out.2])]
        have ha := arme_any H5.out.ck (show (401 : Nat) < maxT by unfold maxT; decide) 0
        rw [hf] at ha
        refine ha.mono ?_
        clear ha hf
        rintro e w6 ⟨rfl, S6, h6, hs6, hst6⟩
        have H6 := Lib.hid (H5.out.next h6 hs6 hst6)
        clear h6 hs6 hst6
        dsimp only
        go_wp2_with fail
        refine (awake_any _ H6.out.tabw).mono ?_
        rintro e w7 ⟨rfl, hO7⟩
        have H7 := Lib.hid (H6.out.only.trans' hO7)
        clear hO7
        go_wp2_with fail
        go_ret
        exact ⟨rfl, H7.out⟩
end Go.Proofs.YtbkbcpnpbfnmgaaDoor
