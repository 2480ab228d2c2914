/- A pool: Next. -/
import Derived.Test.YtfohaijdhgcneaaPoolSteal
set_option linter.unusedVariables false
set_option linter.unusedSimpArgs false
namespace Go.Proofs.Ytfohaijdhgcneaa
open Go Go.RowKit

set_option maxRecDepth 100000 in
set_option maxHeartbeats 4000000 in
theorem next_out {w0 w : World} {b : Nat} {qs : List (List Int)} {qv : Value} {vs : List Value} (h : PoolAt w0 w b qs qv vs) (x y : Int) (hx : ¬ (1 ≤ x ∧ x ≤ (qs.length : Int))) :
    Calls Try.prog 29 #[.pointer (some ⟨b, 0, none⟩), .int .i64 x, .int .i64 y] w fun e w' => e = .returned (.tuple #[.int .i64 0, .int .i64 0, .bool false]) ∧ Only w w' := by
  have H := Lib.hid h
  clear h
  go_enter Try.func29, Try.ntmps29
  go_wp2_with fail
  refine (has_any H.out x).mono ?_
  rintro e w1 ⟨rfl, h1⟩
  rw [decide_eq_false hx]
  have H1 := Lib.hid h1
  clear h1 hx
  go_wp2_with fail
  go_ret3
  exact ⟨rfl, H1.out⟩
set_option maxRecDepth 100000 in
set_option maxHeartbeats 4000000 in
theorem next_own {w0 w : World} {b : Nat} {qs : List (List Int)} {qv : Value} {vs : List Value} (h : PoolAt w0 w b qs qv vs) {i : Nat} (hi : i < qs.length) (h8 : qs.length ≤ 8) {x : Int} {l : List Int} (hq : qs.getD i [] = x :: l) (hl : l.length ≤ 100000) (hw0 : w0.heap.size ≤ w.heap.size) (seed : Int) :
    Calls Try.prog 29 #[.pointer (some ⟨b, 0, none⟩), .int .i64 ((i : Int) + 1), .int .i64 seed] w fun e w' => e = .returned (.tuple #[.int .i64 x, .int .i64 ((i : Int) + 1), .bool true]) ∧ PoolPost w0 w b qv vs (qs.set i l) w' := by
  have H := Lib.hid h
  clear h
  go_enter Try.func29, Try.ntmps29
  go_wp2_with fail
  refine (has_any H.out ((i : Int) + 1)).mono ?_
  rintro e w1 ⟨rfl, h1⟩
  rw [decide_eq_true (p := 1 ≤ (i : Int) + 1 ∧ (i : Int) + 1 ≤ (qs.length : Int)) (by omega)]
  have hP := H.out.only h1
  obtain ⟨g, cap, A, c, e1, hg, hv, hc, hqu, hf⟩ := hP.at hi
  subst e1
  rw [hq] at hv hc hqu
  obtain ⟨ga, oa, ca, e4, hga, hlc, hcm, hcells⟩ := hqu.form (by simp)
  have e4' : A = some ⟨ga, oa, none⟩ ∧ c = ca := by simpa using e4
  obtain ⟨rfl, rfl⟩ := e4'
  have hx0 := hcells 0 x rfl
  rw [Nat.add_zero] at hx0
  have cb := hP.blk.cell
  have lb := hP.blk.lt
  have hgb : g ≠ b := own_ne_blk hP.row hP.blk (by decide) g rfl
  have w7 : IntKind.i64.wrap (i : Int) = (i : Int) := IntWalk.i64_in _ (by omega)
  have u3 : (0 : Int) ≤ (i : Int) := by omega
  have u4 : (i : Int) < (qs.length : Int) := by omega
  have htl := hqu.tail
  obtain ⟨n, hn⟩ : ∃ n, n = l.length := ⟨_, rfl⟩
  rw [List.length_cons, ← hn] at hv hc hqu hlc
  rw [← hn] at htl hl
  have u5 : (1 : Int) ≤ (n : Int) + 1 := by omega
  have hAx : ∃ Ax, (if c = 1 then some (⟨ga, oa, none⟩ : Addr) else some ⟨ga, oa + 1, none⟩) = Ax := ⟨_, rfl⟩
  obtain ⟨Ax, hAx⟩ := hAx
  have htl2 : Qu w1 w0.heap.size (.slice Ax n (c - 1)) l := by
    rw [← hAx]
    by_cases h1 : c = 1
    · rw [if_pos h1] at htl ⊢; exact htl
    · rw [if_neg h1] at htl ⊢; exact htl
  have H1 := Lib.hid (And.intro h1 (And.intro hP (And.intro hv (And.intro htl2 hn))))
  clear h1 hP hv hqu htl htl2 e4 hcells hq hn
  go_upto_region 9 with fail
  go_big_region
  go_wp2_with fail
  go_ret3
  have hd : Only w1 w1.drew := (Stay.refl _ w1).drew
  have hn : ∀ k, (Value.slice Ax n (c - 1)).ownBlock = some k → (Value.slice (some ⟨ga, oa, none⟩) (n + 1) c).ownBlock = some k ∨ w1.heap.size ≤ k := fun k hk => by
    rw [← hAx] at hk
    refine .inl ?_
    by_cases h1 : c = 1
    · rw [if_pos h1] at hk; exact hk
    · rw [if_neg h1] at hk; exact hk
  have hqq : Qu w1.drew w0.heap.size (.slice Ax n (c - 1)) l := H1.out.2.2.2.1.only hd
  have hp := H1.out.2.1.put (X := fun _ => False) hd H1.out.2.2.1 (fun k e => e.elim) hqq hn rfl
  have ht := H1.out.2.1.turns (X := fun _ => False) hd (.slice Ax n (c - 1)) H1.out.2.2.1 (fun k e => e.elim) hn rfl
  exact ⟨rfl, _, hp, (H1.out.1.mono (fun _ _ h => h.elim)).trans ht.1 (fun _ _ h => h), fun k hk => (ht.2 k hk).imp id (fun h => Nat.le_trans H1.out.1.size h)⟩
set_option maxRecDepth 100000 in
set_option maxHeartbeats 4000000 in
theorem next_none {w0 w : World} {b : Nat} {qs : List (List Int)} {qv : Value} {vs : List Value} (h : PoolAt w0 w b qs qv vs) {i : Nat} (hi : i < qs.length) (h8 : qs.length ≤ 8) (hl : ∀ j, (qs.getD j []).length ≤ 100000) (hq : qs.getD i [] = []) (hw0 : w0.heap.size ≤ w.heap.size) (seed : Int) (hno : pFind qs (i + 1) seed = none) :
    Calls Try.prog 29 #[.pointer (some ⟨b, 0, none⟩), .int .i64 ((i : Int) + 1), .int .i64 seed] w fun e w' => e = .returned (.tuple #[.int .i64 0, .int .i64 0, .bool false]) ∧ Only w w' := by
  have H := Lib.hid h
  clear h
  go_enter Try.func29, Try.ntmps29
  go_wp2_with fail
  refine (has_any H.out ((i : Int) + 1)).mono ?_
  rintro e w1 ⟨rfl, h1⟩
  rw [decide_eq_true (p := 1 ≤ (i : Int) + 1 ∧ (i : Int) + 1 ≤ (qs.length : Int)) (by omega)]
  have hP := H.out.only h1
  obtain ⟨g, cap, A, c, e1, hg, hv, hc, hqu, hf⟩ := hP.at hi
  subst e1
  rw [hq] at hc
  have cb := hP.blk.cell
  have lb := hP.blk.lt
  have w7 : IntKind.i64.wrap (i : Int) = (i : Int) := IntWalk.i64_in _ (by omega)
  have u3 : (0 : Int) ≤ (i : Int) := by omega
  have u4 : (i : Int) < (qs.length : Int) := by omega
  have H1 := Lib.hid (And.intro h1 (And.intro hP (And.intro hl hno)))
  clear h1 hP hv hqu hq hl hno
  go_wp2_with fail
  refine (steal_any H1.out.2.1 hi h8 H1.out.2.2.1 (Nat.le_trans hw0 H1.out.1.size) seed).mono ?_
  rintro e w2 (⟨_, rfl, ho⟩ | ⟨j, hj, _⟩)
  · have H2 := Lib.hid (H1.out.1.trans' ho)
    clear ho
    go_wp2_with fail
    go_ret3
    exact ⟨rfl, H2.out⟩
  · rw [H1.out.2.2.2] at hj
    cases hj
theorem half_len (qs : List (List Int)) (i j : Nat) : (pHalf qs i j).length = qs.length := by simp [pHalf]
set_option maxRecDepth 100000 in
set_option maxHeartbeats 4000000 in
theorem next_some {w0 w : World} {b : Nat} {qs : List (List Int)} {qv : Value} {vs : List Value} (h : PoolAt w0 w b qs qv vs) {i : Nat} (hi : i < qs.length) (h8 : qs.length ≤ 8) (hll : ∀ j, (qs.getD j []).length ≤ 100000) (hq0 : qs.getD i [] = []) {j : Nat} {x : Int} {l : List Int} (hq : (pHalf qs i j).getD i [] = x :: l) (hl : l.length ≤ 100000) (hw0 : w0.heap.size ≤ w.heap.size) (seed : Int) (hyes : pFind qs (i + 1) seed = some j) :
    Calls Try.prog 29 #[.pointer (some ⟨b, 0, none⟩), .int .i64 ((i : Int) + 1), .int .i64 seed] w fun e w' => e = .returned (.tuple #[.int .i64 x, .int .i64 ((j : Int) + 1), .bool true]) ∧ PoolPost w0 w b qv vs ((pHalf qs i j).set i l) w' := by
  have H := Lib.hid h
  clear h
  go_enter Try.func29, Try.ntmps29
  go_wp2_with fail
  refine (has_any H.out ((i : Int) + 1)).mono ?_
  rintro e w1 ⟨rfl, h1⟩
  rw [decide_eq_true (p := 1 ≤ (i : Int) + 1 ∧ (i : Int) + 1 ≤ (qs.length : Int)) (by omega)]
  have hP0 := H.out.only h1
  obtain ⟨g, cap, A0, c0, e1, hg, hv0, hc0, _, _⟩ := hP0.at hi
  subst e1
  rw [hq0] at hc0
  have cb := hP0.blk.cell
  have lb := hP0.blk.lt
  have w7 : IntKind.i64.wrap (i : Int) = (i : Int) := IntWalk.i64_in _ (by omega)
  have u3 : (0 : Int) ≤ (i : Int) := by omega
  have u4 : (i : Int) < (qs.length : Int) := by omega
  have bj : ((j : Int) + 1 == 0) = false := by simp; omega
  have H0 := Lib.hid (And.intro h1 (And.intro hP0 (And.intro hll hyes)))
  clear h1 hP0 hv0 hq0 hll hyes
  go_wp2_with fail
  refine (steal_any H0.out.2.1 hi h8 H0.out.2.2.1 (Nat.le_trans hw0 H0.out.1.size) seed).mono ?_
  rintro e w2 (⟨hno, _⟩ | ⟨j2, hj2, rfl, vs2, hP, hst2, hpb2⟩)
  · rw [H0.out.2.2.2] at hno
    cases hno
  obtain rfl : j = j2 := by rw [H0.out.2.2.2] at hj2; exact Option.some.inj hj2
  clear hj2 hc0 cb lb hg
  obtain ⟨g2, cap2, A, c, e1, hg, hv, hc, hqu, hf⟩ := hP.at (i := i) (by rw [half_len]; exact hi)
  rw [half_len] at e1
  obtain ⟨rfl, rfl⟩ : g = g2 ∧ cap = cap2 := by simpa using e1
  rw [hq] at hv hc hqu
  obtain ⟨ga, oa, ca, e4, hga, hlc, hcm, hcells⟩ := hqu.form (by simp)
  have e4' : A = some ⟨ga, oa, none⟩ ∧ c = ca := by simpa using e4
  obtain ⟨rfl, rfl⟩ := e4'
  have hx0 := hcells 0 x rfl
  rw [Nat.add_zero] at hx0
  have cb := hP.blk.cell
  have lb := hP.blk.lt
  have hgb : g ≠ b := own_ne_blk hP.row hP.blk (by decide) g rfl
  have htl := hqu.tail
  obtain ⟨n, hn⟩ : ∃ n, n = l.length := ⟨_, rfl⟩
  rw [List.length_cons, ← hn] at hv hc hqu hlc
  rw [← hn] at htl hl
  have u5 : (1 : Int) ≤ (n : Int) + 1 := by omega
  have hAx : ∃ Ax, (if c = 1 then some (⟨ga, oa, none⟩ : Addr) else some ⟨ga, oa + 1, none⟩) = Ax := ⟨_, rfl⟩
  obtain ⟨Ax, hAx⟩ := hAx
  have htl2 : Qu w2 w0.heap.size (.slice Ax n (c - 1)) l := by
    rw [← hAx]
    by_cases h1 : c = 1
    · rw [if_pos h1] at htl ⊢; exact htl
    · rw [if_neg h1] at htl ⊢; exact htl
  have H1 := Lib.hid (And.intro (And.intro hst2 hpb2) (And.intro hP (And.intro hv (And.intro htl2 hn))))
  clear hP hst2 hpb2 hv hqu htl htl2 e4 hcells hq hn
  go_upto_region 9 with fail
  go_big_region
  go_wp2_with fail
  go_ret3
  have hd : Only w2 w2.drew := (Stay.refl _ w2).drew
  have hn : ∀ k, (Value.slice Ax n (c - 1)).ownBlock = some k → (Value.slice (some ⟨ga, oa, none⟩) (n + 1) c).ownBlock = some k ∨ w2.heap.size ≤ k := fun k hk => by
    rw [← hAx] at hk
    refine .inl ?_
    by_cases h1 : c = 1
    · rw [if_pos h1] at hk; exact hk
    · rw [if_neg h1] at hk; exact hk
  have hqq : Qu w2.drew w0.heap.size (.slice Ax n (c - 1)) l := H1.out.2.2.2.1.only hd
  have hp := H1.out.2.1.put (X := fun _ => False) hd H1.out.2.2.1 (fun k e => e.elim) hqq hn (by rw [half_len])
  have ht := H1.out.2.1.turns (X := fun _ => False) hd (.slice Ax n (c - 1)) H1.out.2.2.1 (fun k e => e.elim) hn (by rw [half_len])
  have hz := H0.out.1.size
  refine ⟨rfl, _, hp, ((H0.out.1.mono (fun _ _ h => h.elim)).trans H1.out.1.1 (fun _ _ h => h)).trans ht.1 (fun k hk h => ?_), fun k hk => ?_⟩
  · rcases H1.out.1.2 k h with h2 | h2
    · exact h2
    · omega
  · have hz2 := H1.out.1.1.size
    rcases ht.2 k hk with h | h
    · rcases H1.out.1.2 k h with h2 | h2
      · exact .inl h2
      · exact .inr (by omega)
    · exact .inr (by omega)
end Go.Proofs.Ytfohaijdhgcneaa
