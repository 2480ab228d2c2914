/- slices.Concat at two slices of ints. -/
import Derived.Test.YtbkbcpnpbfnmgaaDoorLawOuts
set_option linter.unusedVariables false
set_option linter.unusedSimpArgs false
namespace Go.Proofs.YtbkbcpnpbfnmgaaDoor
open Go Go.RowKit

theorem hbInt : Tryd.t3.bytes = 8 := by kernel_rfl
theorem hsNew {n : Nat} (h : n ≠ 0) : Builtin.nextslicecap n 0 = n := by unfold Builtin.nextslicecap; rw [if_pos (by omega)]
set_option maxRecDepth 100000 in
set_option maxHeartbeats 4000000 in
theorem grow_any (w : World) (n : Nat) (hn : n ≤ 1000000) : Calls Tryd.prog 51 #[.slice none 0 0, .int .i64 n] w fun e w' => ∃ v, e = .returned v ∧ w'.ownsRow w.heap.size 3 1 v 0 (ints []) ∧ Only w w' := by
  obtain ⟨ii, hii0, hii1, hii2, hii3⟩ := info_parts infoI
  by_cases h0 : n = 0
  · subst h0
    go_enter Tryd.func51, Tryd.ntmps51
    go_wp2_with fail
    go_ret
    exact ⟨_, rfl, World.ownsRow_nil _ _ _ _, Stay.refl _ _⟩
  · have b0 : ¬ (n : Int) < 0 := by omega
    have b1 : decide ((n : Int) > 0) = true := by simp; omega
    have b2 : (n : Int) > 0 := by omega
    have b3 : wrap64 ((n : Int) - 0) = n := by unfold wrap64; omega
    go_enter Tryd.func51, Tryd.ntmps51
    go_wp2_with fail
    · exfalso
      rename_i h1 h2
      rw [hbInt] at h1
      omega
    · exfalso
      rename_i h1 h2
      rw [hbInt] at h1
      omega
    · exfalso
      rename_i h1 h2 h3 h4
      rw [hbInt, hsNew h0] at h1
      omega
    all_goals go_ret
    all_goals obtain ⟨c, hc⟩ : ∃ c, c = (Question.appendCap n 0 3).cut (w.tape w.drawn (Question.appendCap n 0 3)) := ⟨_, rfl⟩
    all_goals rw [← hc]
    all_goals (have hc1 : n ≤ c ∧ c ≤ maxLen := by
                rw [hc]
                unfold Question.cut maxLen
                have := Nat.mod_lt (w.tape w.drawn (Question.appendCap n 0 3)) (show 0 < 2 ^ 63 - n by omega)
                constructor
                · exact Nat.le_add_right _ _
                · simp only
                  omega)
    all_goals refine ⟨_, rfl, ⟨rfl, .inr ⟨w.heap.size, c, _, rfl, Nat.le_refl _, heap_alloc_at' _ _ _ rfl, Nat.zero_le _, hc1.2, ?_, ?_⟩⟩, ((Stay.refl _ w).alloc _).drew⟩
    · simp [Builtin.zeroCells]; omega
    · simp [ints]
set_option maxRecDepth 100000 in
set_option maxHeartbeats 4000000 in
theorem conc_any (w : World) (B : Nat) (A A' : Option Addr) (n n' c c' : Nat) (xs ys : List Int) (hB : Blk w B 42 [.slice A n c, .slice A' n' c']) (hx : Sl w w.heap.size A n c 1 (ints xs)) (hy : Sl w w.heap.size A' n' c' 1 (ints ys)) (hn : n ≤ 1000) (hn' : n' ≤ 1000) :
    Calls Tryd.prog 29 #[.slice (some ⟨B, 0, none⟩) 2 2] w fun e w' => ∃ v, e = .returned v ∧ w'.ownsRow w.heap.size 3 1 v (n + n') (ints xs ++ ints ys) ∧ Only w w' := by
  obtain ⟨ii, hii0, hii1, hii2, hii3⟩ := info_parts infoI
  have c0 := hB.cell 0
  have c1 := hB.cell 1
  simp only [List.getElem?_cons_zero, List.getElem?_cons_succ] at c0 c1
  have HB := Lib.hid (And.intro hB (And.intro hx hy))
  have hlx : (ints xs).length = n := by have := hx.1; omega
  have hly : (ints ys).length = n' := by have := hy.1; omega
  have HL := Lib.hid (And.intro hlx hly)
  clear hB hx hy hlx hly
  go_enter Tryd.func29, Tryd.ntmps29
  go_upto_region 3 with fail
  obtain ⟨N, hN⟩ : ∃ N, N = n + n' := ⟨_, rfl⟩
  have HN := Lib.hid hN
  have e1 : wrap64 ((0 : Int) + (n : Int)) = n := by unfold wrap64; omega
  have e3 : wrap64 (n : Int) = n := by unfold wrap64; omega
  have e2 : wrap64 ((n : Int) + (n' : Int)) = N := by unfold wrap64; omega
  have l1 : ¬ (n : Int) < 0 := by omega
  have l2 : ¬ (N : Int) < 0 := by omega
  have hNb : N ≤ 2000 := by omega
  clear hN
  go_loopg [3, 11] 2 (fun kk vs vj wr => ∃ (j : Nat) (s : Nat), j ≤ 2 ∧ kk = 2 - j ∧ vj = .int .i64 (j : Nat) ∧ vs = .int .i64 (s : Nat) ∧ s = (if j = 0 then 0 else if j = 1 then n else N) ∧ w = wr)
  case atStart => exact ⟨0, 0, by omega, rfl, rfl, rfl, rfl, rfl⟩
  case round =>
    obtain ⟨j, s, hj, hk, rfl, rfl, hs, rfl⟩ := hrel
    have hj3 : j = 0 ∨ j = 1 ∨ j = 2 := by omega
    have HK := Lib.hid hk
    clear hk
    rcases hj3 with rfl | rfl | rfl
    · obtain rfl : s = 0 := hs
      go_wp2_with fail
      go_roundg 1
      case measure => have := HK.out; omega
      case rel => exact ⟨1, n, by omega, rfl, rfl, by first | rfl | (rw [e1]) | go_num, rfl, rfl⟩
    · obtain rfl : s = n := hs
      go_wp2_with fail
      go_roundg 0
      case measure => have := HK.out; omega
      case rel => exact ⟨2, N, by omega, rfl, rfl, congrArg (Value.int .i64) (by have := HN.out; first | omega | (unfold wrap64; omega)), rfl, rfl⟩
    · obtain rfl : s = N := hs
      go_wp2_with fail
      refine (grow_any w s (by omega)).mono ?_
      rintro e w1 ⟨v1, rfl, hr1, hO1⟩
      obtain ⟨A1, p1, rfl⟩ := own_shape hr1
      have H1 := Lib.hid (And.intro hr1 hO1)
      have hz1 := hO1.size
      clear hr1 hO1 c0 c1
      go_upto_region 3 with fail
      go_loopg [6, 27] 2 (fun kk vo vj wr => ∃ (j q : Nat) (Ao : Option Addr) (co : Nat) (l : List Value), j ≤ 2 ∧ kk = 2 - j ∧ vj = .int .i64 (j : Nat) ∧ vo = .slice Ao q co ∧ q ≤ 1000 * j ∧ l = (if j = 0 then [] else if j = 1 then ints xs else ints xs ++ ints ys) ∧
        q = (if j = 0 then 0 else if j = 1 then n else n + n') ∧ wr.ownsRow w.heap.size 3 1 (.slice Ao q co) q l ∧ Only w wr)
      case atStart => exact ⟨0, 0, A1, p1, [], by omega, rfl, rfl, rfl, by omega, rfl, rfl, H1.out.1, H1.out.2⟩
      case round =>
        obtain ⟨j, q, Ao, co, l, hj, hk, rfl, rfl, hqj, hl, hq, hrow, hO⟩ := hrel
        obtain ⟨wt, hwt⟩ : ∃ wt, wt = wr := ⟨_, rfl⟩
        rw [← hwt] at hrow hO ⊢
        clear hwt
        have hj3 : j = 0 ∨ j = 1 ∨ j = 2 := by omega
        have c0' := (hO.blk HB.out.1).cell 0
        have c1' := (hO.blk HB.out.1).cell 1
        simp only [List.getElem?_cons_zero, List.getElem?_cons_succ] at c0' c1'
        have HK := Lib.hid (And.intro hk (And.intro hl hq))
        have HX := Lib.hid (And.intro hrow hO)
        have hon : ∀ (W : World), Stay (fun k => (Value.slice Ao q co).ownBlock = some k) wt W → Only w W := fun W hst => HX.out.2.trans hst (fun k hk e => by have := (own_lt HX.out.1 k e).1; omega)
        have HO := Lib.hid hon
        clear hk hl hq hrow hO hon
        rcases hj3 with rfl | rfl | rfl
        · go_wp2_with (at_builtin; refine wpList_append_sl _ rfl _ _ _ rfl w.heap.size 3 ii _ 1 8 Tryd.underlying42 hii0 hii1 hii2 hii3 rfl (by omega) _ q _ (by rfl) HX.out.1 _ A n c (ints xs) (by rfl) (HB.out.2.1.only HX.out.2) (fun u hu => by obtain ⟨y, _, rfl⟩ := List.mem_map.1 hu; rfl) (by simp only [maxLen]; omega) (by omega) (by have := HX.out.2.size; omega) ?_; intro A9 c9 w9 hown9 hst9 hnx9; have H9 := Lib.hid (And.intro hown9 (And.intro hst9 hnx9)); clear hown9 hst9 hnx9)
          go_roundg 1
          case measure => have := HK.out.1; omega
          case rel =>
            have hq0 : q = 0 := HK.out.2.2
            refine ⟨1, q + n, A9, c9, l ++ ints xs, by omega, rfl, by go_num, rfl, by omega, ?_, ?_, H9.out.1, HO.out _ H9.out.2.1⟩
            · rw [HK.out.2.1]; rfl
            · rw [hq0, Nat.zero_add]; rfl
        · go_wp2_with (at_builtin; refine wpList_append_sl _ rfl _ _ _ rfl w.heap.size 3 ii _ 1 8 Tryd.underlying42 hii0 hii1 hii2 hii3 rfl (by omega) _ q _ (by rfl) HX.out.1 _ A' n' c' (ints ys) (by rfl) (HB.out.2.2.only HX.out.2) (fun u hu => by obtain ⟨y, _, rfl⟩ := List.mem_map.1 hu; rfl) (by simp only [maxLen]; omega) (by omega) (by have := HX.out.2.size; omega) ?_; intro A9 c9 w9 hown9 hst9 hnx9; have H9 := Lib.hid (And.intro hown9 (And.intro hst9 hnx9)); clear hown9 hst9 hnx9)
          go_roundg 0
          case measure => have := HK.out.1; omega
          case rel =>
            have hq0 : q = n := HK.out.2.2
            refine ⟨2, q + n', A9, c9, l ++ ints ys, by omega, rfl, by go_num, rfl, by omega, ?_, ?_, H9.out.1, HO.out _ H9.out.2.1⟩
            · rw [HK.out.2.1]; rfl
            · rw [hq0]; rfl
        · go_wp2_with fail
          go_ret
          have e : q = n + n' := HK.out.2.2
          have e' : l = ints xs ++ ints ys := HK.out.2.1
          have h := HX.out.1
          rw [e, e'] at h
          rw [e]
          exact ⟨_, rfl, h, HX.out.2⟩
end Go.Proofs.YtbkbcpnpbfnmgaaDoor
