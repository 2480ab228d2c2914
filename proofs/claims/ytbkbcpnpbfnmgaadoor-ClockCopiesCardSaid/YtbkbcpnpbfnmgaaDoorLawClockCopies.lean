/- ClockCopies walked. -/
import Derived.Test.YtbkbcpnpbfnmgaaDoorLawOuts
set_option linter.unusedVariables false
set_option linter.unusedSimpArgs false
namespace Go.Proofs.YtbkbcpnpbfnmgaaDoor
open Go Go.RowKit

set_option maxRecDepth 100000 in
set_option maxHeartbeats 4000000 in
theorem clockCopies_any (w : World) (hT : Tab w) (A : Option Addr) (n ca : Nat) (ops : List KOp) (hl : Sl w w.heap.size A n ca 2 (ops.flatMap KOp.cells)) (hlen : ops.length = n)
    (A' : Option Addr) (n' ca' : Nat) (ops' : List KOp) (hl' : Sl w w.heap.size A' n' ca' 2 (ops'.flatMap KOp.cells)) (hlen' : ops'.length = n') :
    Calls Tryd.prog 9 #[.slice A n ca, .slice A' n' ca'] w fun e w' => e = .returned (.bool true) ∧ Only w w' := by
  have hnc := hl'.2.1
  have hcm := hl'.2.2.1
  have hma := made_any w hT A n ca ops hl hlen
  obtain ⟨C, hC⟩ : ∃ C, C = Ck.new.runs (ops.take 60) := ⟨_, rfl⟩
  have hm60 : C.made ≤ 60 := by
    have h1 := (Ck.runs_ok (ops.take 60) Ck.new_ok (by have : (ops.take 60).length ≤ 60 := (by rw [List.length_take]; omega); simp [Ck.new, maxT]; omega)).2
    have : (ops.take 60).length ≤ 60 := by rw [List.length_take]; omega
    rw [hC]
    simp only [Ck.new] at h1 ⊢
    omega
  rw [← hC] at hma
  have HL := Lib.hid (And.intro hl' (And.intro hlen' hm60))
  clear hl hlen hl' hlen' hm60 hC
  have HM := Lib.hid hma
  clear hma
  obtain ⟨ii, hii0, hii1, hii2, hii3⟩ := info_parts infoI
  go_enter Tryd.func9, Tryd.ntmps9
  go_wp2_with fail
  refine HM.out.mono ?_
  clear HM
  rintro e w1 ⟨b, S1, rfl, hOC1⟩
  have H1 := Lib.hid hOC1
  clear hOC1
  go_wp2_with fail
  refine (copy_any H1.out.ck).mono ?_
  rintro e w2 ⟨d, rfl, hD2, hO2⟩
  have H2 : Hid (OC w1 w2 (From w1.heap.size w2) d C ∧ Only w1 w2) := Lib.hid ⟨⟨hD2, fun k hk => hk.1, hO2, H1.out.tabw⟩, hO2⟩
  clear hD2 hO2
  go_wp2_with fail
  refine (now_any (H1.out.ck.only H2.out.2)).mono ?_
  rintro e w3 ⟨rfl, hO3⟩
  have H3 := Lib.hid (H2.out.2.trans' hO3)
  have H23 := Lib.hid hO3
  clear hO3
  go_wp2_with fail
  refine (lall_any (H1.out.ck.only H3.out)).mono ?_
  rintro e w4 ⟨v4, rfl, hr4, hO4⟩
  obtain ⟨A4, c4, rfl⟩ := own_shape hr4
  have H4 := Lib.hid (And.intro hr4 (And.intro (H3.out.trans' hO4) ((H2.out.1.then H23.out).then hO4)))
  clear hr4 hO4
  go_upto_region 2 with fail
  obtain ⟨m, hm⟩ : ∃ m, m = min n' 30 := ⟨_, rfl⟩
  have e0 : min (n' : Int) 30 = (m : Int) := by omega
  have e1 : max (m : Int) 0 = (m : Int) := by omega
  rw [e0, Int.toNat_natCast, e1]
  have hmn : m ≤ n' := by omega
  have hm30 : m ≤ 30 := by omega
  have hmc : m ≤ ca' := by omega
  obtain ⟨nC, hnC⟩ : ∃ nC, nC = C.all.length := ⟨_, rfl⟩
  rw [← hnC]
  have HC := Lib.hid hnC
  have HE := Lib.hid (And.intro e0 e1)
  clear hm hnC e0 e1
  go_loopg [9, 31] m (fun kk vo vj wr => ∃ (j : Nat) (T : Nat → Prop) (q : Nat) (Ao : Option Addr) (co : Nat), j ≤ m ∧ kk = m - j ∧ vj = .int .i64 (j : Nat) ∧ vo = .slice Ao q co ∧ q = (C.outs (ops'.take j)).length ∧ q ≤ 400 * j ∧
    Outs w1 wr T d (C.runs (ops'.take j)) w4.heap.size (.slice Ao q co) (C.outs (ops'.take j)) ∧ (∀ k, T k → From w1.heap.size w2 k ∨ w4.heap.size ≤ k) ∧ wr.ownsRow w3.heap.size 39 2 (.slice A4 nC c4) nC (C.all.flatMap Tm.cells) ∧ w4.heap.size ≤ wr.heap.size)
  case atStart => exact ⟨0, _, 0, none, 0, Nat.zero_le _, rfl, rfl, rfl, rfl, Nat.le_refl _, ⟨H4.out.2.2, World.ownsRow_nil _ _ _ _, fun g hg => by simp [Value.ownBlock] at hg⟩, fun k hk => .inl hk, by rw [HC.out]; exact H4.out.1, Nat.le_refl _⟩
  case round =>
    obtain ⟨j, T, q, Ao, co, hj, hk, rfl, rfl, hq, hq4, hO, hTk, hwas, hz4⟩ := hrel
    obtain ⟨wt, hwt⟩ : ∃ wt, wt = wr := ⟨_, rfl⟩
    rw [← hwt] at hO hwas hz4 ⊢
    clear hwt
    by_cases hjm : j < m
    · obtain ⟨o, ho⟩ : ∃ o, ops'[j]? = some o := ⟨_, List.getElem?_eq_getElem (by have := HL.out.2.1; omega)⟩
      have hw4 : Only w wt := H1.out.only.trans' hO.oc.only
      obtain ⟨ab, ao, rfl, hab, hcells⟩ := (HL.out.1.only hw4).elem KOp.cells_length ho (by omega)
      have g0 := hcells 0 _ rfl
      simp only [Nat.add_zero] at g0
      have g1 := hcells 1 _ rfl
      have hmade := (Ck.runs_ok (ops'.take j) H1.out.ck.ok (by have : (ops'.take j).length ≤ 30 := (by rw [List.length_take]; omega); have := HL.out.2.2; simp [maxT]; omega)).2
      have hmade' : (C.runs (ops'.take j)).made < maxT := by
        have : (ops'.take j).length ≤ 30 := by rw [List.length_take]; omega
        have := HL.out.2.2
        simp only [maxT]
        omega
      have hs := Ck.runs_succ (C := C) ho
      have hu := Ck.outs_succ (C := C) ho
      have hrl := Ck.run_len hO.oc.ck.ok o
      obtain ⟨Cj, hCj⟩ : ∃ Cj, Cj = C.runs (ops'.take j) := ⟨_, rfl⟩
      obtain ⟨uj, huj⟩ : ∃ uj, uj = C.outs (ops'.take j) := ⟨_, rfl⟩
      rw [← hCj] at hO hmade' hs hu hrl
      rw [← huj] at hO hq hu
      obtain ⟨kd, dn⟩ := o
      simp only at g0 g1
      have HX := Lib.hid (And.intro hO (And.intro hk (And.intro hs (And.intro hu (And.intro hTk (And.intro hwas (And.intro hz4 (And.intro hq hmade'))))))))
      clear hO hk hs hu hTk hwas hq hcells ho hCj huj hmade hmade' hw4
      go_wp2_with fail
      have hoa : Only wt (wt.alloc (.cells #[.int .i64 kd, .int .i64 dn] 55)) := (Stay.refl _ wt).alloc _
      have hOa := HX.out.1.then hoa
      refine (run_any hOa.oc.ck hOa.oc.tabw hOa.oc.g HX.out.2.2.2.2.2.2.2.2 ⟨kd, dn⟩).mono ?_
      rintro e w5 ⟨v5, rfl, hr5⟩
      obtain ⟨Av, cv, rfl⟩ := hr5.shape
      have hmid := hOa.mid hr5
      obtain ⟨rl, hrlq⟩ : ∃ rl, rl = (Cj.run ⟨kd, dn⟩).2 := ⟨_, rfl⟩
      obtain ⟨q5, hq5⟩ : ∃ q5, q5 = rl.length := ⟨_, rfl⟩
      rw [← hrlq] at hmid hrl hr5
      rw [← hrlq, ← hq5]
      rw [← hq5] at hmid hrl hr5
      rw [← HX.out.2.2.2.2.2.2.2.1] at hmid
      have hz45 : w4.heap.size ≤ w5.heap.size := by
        obtain ⟨_, _, _, _, h4, _⟩ := hr5
        have := HX.out.2.2.2.2.2.2.1
        have := hoa.size
        have := h4.size
        omega
      have H5 := Lib.hid (And.intro hOa (And.intro hr5 (And.intro hmid (And.intro hrlq (And.intro hq5 hoa)))))
      clear hOa hr5 hmid hoa hrlq hq5
      go_wp2_with (at_builtin; refine wpList_append_sl _ rfl _ _ _ rfl w4.heap.size 3 ii _ 1 8 Tryd.underlying42 hii0 hii1 hii2 hii3 rfl (by omega) _ q _ (by rfl) H5.out.2.2.1.1 _ Av q5 cv (ints rl) (by rfl) (own_sl H5.out.2.2.1.2 (Stay.refl _ _)) (fun u hu => by obtain ⟨y, _, rfl⟩ := List.mem_map.1 hu; rfl) (by simp only [maxLen]; omega) (by omega) (by omega) ?_; intro A9 c9 w9 hown9 hst9 hnx9; have H9 := Lib.hid (And.intro hown9 (And.intro hst9 hnx9)); clear hown9 hst9 hnx9)
      have hb1 : w1.heap.size ≤ w4.heap.size := H4.out.2.2.only.size
      obtain ⟨T', hO9, hT', hst9⟩ := H5.out.1.next (v' := .slice A9 (q + q5) c9) H5.out.2.1 hb1 (by rw [← HX.out.2.2.2.2.2.2.2.1, ← H5.out.2.2.2.2.1]; exact H9.out.1) H9.out.2.1 H9.out.2.2
      go_roundg (m - (j + 1))
      case measure => have := HX.out.2.1; omega
      case rel =>
        refine ⟨j + 1, T', q + q5, A9, c9, by omega, rfl, by go_num, rfl, ?_, by omega, ?_, ?_, ?_, ?_⟩
        · rw [HX.out.2.2.2.1, List.length_append, ← H5.out.2.2.2.1, ← H5.out.2.2.2.2.1, HX.out.2.2.2.2.2.2.2.1]
        · rw [HX.out.2.2.1, HX.out.2.2.2.1, ← H5.out.2.2.2.1]
          exact hO9
        · intro k hk
          rcases hT' k hk with e | e
          · exact HX.out.2.2.2.2.1 k e
          · have := HX.out.2.2.2.2.2.2.1; have := H5.out.2.2.2.2.2.size; exact .inr (by omega)
        · refine own_stay hst9 (own_only H5.out.2.2.2.2.2 HX.out.2.2.2.2.2.1) (fun g hg hs => ?_)
          have h1 := own_lt H4.out.1 g (by rw [← HC.out]; exact hg)
          rcases hs with e | e
          · rcases HX.out.2.2.2.2.1 g e with e | e
            · have := e.2; have := H23.out.size; omega
            · omega
          · have := (own_lt H5.out.2.2.1.1 g e).1; omega
        · have := hst9.size; have := HX.out.2.2.2.2.2.2.1; have := H5.out.2.2.2.2.2.size; omega
    · obtain rfl : j = m := by omega
      have HX := Lib.hid (And.intro hO (And.intro hwas (And.intro hTk (And.intro hz4 (And.intro hq hq4)))))
      clear hO hk hwas hTk hz4 hq hq4
      go_wp2_with fail
      refine (now_any (H1.out.ck.only HX.out.1.oc.only)).mono ?_
      rintro e w5 ⟨rfl, hO5⟩
      have H5 := Lib.hid hO5
      clear hO5
      have b0 : ((C.now : Int) == (C.now : Int)) = true := by simp
      go_wp2_with fail
      refine (lall_any (H1.out.ck.only (HX.out.1.oc.only.trans' H5.out))).mono ?_
      rintro e w6 ⟨v6, rfl, hr6, hO6⟩
      obtain ⟨A6, c6, rfl⟩ := own_shape hr6
      rw [← HC.out] at hr6 ⊢
      have H6 := Lib.hid (And.intro hr6 (H5.out.trans' hO6))
      clear hr6 hO6
      go_wp2_with fail
      refine (eqT_own (xs := C.all) (ys := C.all) (by rw [← HC.out]; exact H6.out.1) (by rw [← HC.out]; exact own_only H6.out.2 HX.out.2.1)).mono ?_
      rintro e w7 ⟨rfl, hO7⟩
      rw [decide_eq_true (rfl : C.all = C.all)]
      have H7 := Lib.hid (H6.out.2.trans' hO7)
      clear hO7
      go_upto_region 2 with fail
      rw [HE.out.1, Int.toNat_natCast, HE.out.2]
      go_loopg [10, 58] j (fun kk vo vj wr => ∃ (i : Nat) (S : Nat → Prop) (q2 : Nat) (At : Option Addr) (ct : Nat), i ≤ j ∧ kk = j - i ∧ vj = .int .i64 (i : Nat) ∧ vo = .slice At q2 ct ∧ q2 = (C.outs (ops'.take i)).length ∧ q2 ≤ 400 * i ∧
        Outs w wr S b (C.runs (ops'.take i)) w7.heap.size (.slice At q2 ct) (C.outs (ops'.take i)) ∧ (∀ k, S k → S1 k ∨ w7.heap.size ≤ k) ∧ CkAt wr T d (C.runs (ops'.take j)) ∧ wr.ownsRow w4.heap.size 3 1 (.slice Ao q co) q (ints (C.outs (ops'.take j))) ∧ w7.heap.size ≤ wr.heap.size)
      case atStart => exact ⟨0, _, 0, none, 0, Nat.zero_le _, rfl, rfl, rfl, rfl, Nat.le_refl _, ⟨(H1.out.then HX.out.1.oc.only).then H7.out, World.ownsRow_nil _ _ _ _, fun g hg => by simp [Value.ownBlock] at hg⟩, fun k hk => .inl hk, HX.out.1.oc.ck.only H7.out, own_only H7.out (by have := HX.out.1.row; rw [← HX.out.2.2.2.2.1] at this; exact this), Nat.le_refl _⟩
      case round =>
        obtain ⟨i, S, q2, At, ct, hi, hk, rfl, rfl, hq, hq4, hO, hSk, hD, hone, hz7⟩ := hrel
        obtain ⟨wt, hwt⟩ : ∃ wt, wt = wr := ⟨_, rfl⟩
        rw [← hwt] at hO hD hone hz7 ⊢
        clear hwt
        by_cases hij : i < j
        · obtain ⟨o, ho⟩ : ∃ o, ops'[i]? = some o := ⟨_, List.getElem?_eq_getElem (by have := HL.out.2.1; omega)⟩
          obtain ⟨ab, ao, rfl, hab, hcells⟩ := (HL.out.1.only hO.oc.only).elem KOp.cells_length ho (by omega)
          have g0 := hcells 0 _ rfl
          simp only [Nat.add_zero] at g0
          have g1 := hcells 1 _ rfl
          have hmade := (Ck.runs_ok (ops'.take i) H1.out.ck.ok (by have : (ops'.take i).length ≤ 30 := (by rw [List.length_take]; omega); have := HL.out.2.2; simp [maxT]; omega)).2
          have hmade' : (C.runs (ops'.take i)).made < maxT := by
            have : (ops'.take i).length ≤ 30 := by rw [List.length_take]; omega
            have := HL.out.2.2
            simp only [maxT]
            omega
          have hs := Ck.runs_succ (C := C) ho
          have hu := Ck.outs_succ (C := C) ho
          have hrl := Ck.run_len hO.oc.ck.ok o
          obtain ⟨Cj, hCj⟩ : ∃ Cj, Cj = C.runs (ops'.take i) := ⟨_, rfl⟩
          obtain ⟨uj, huj⟩ : ∃ uj, uj = C.outs (ops'.take i) := ⟨_, rfl⟩
          rw [← hCj] at hO hmade' hs hu hrl
          rw [← huj] at hO hq hu
          obtain ⟨kd, dn⟩ := o
          simp only at g0 g1
          have HY := Lib.hid (And.intro hO (And.intro hk (And.intro hs (And.intro hu (And.intro hSk (And.intro hD (And.intro hz7 (And.intro hq (And.intro hmade' hone)))))))))
          clear hO hk hs hu hSk hD hone hq hcells ho hCj huj hmade hmade'
          go_wp2_with fail
          have hoa : Only wt (wt.alloc (.cells #[.int .i64 kd, .int .i64 dn] 55)) := (Stay.refl _ wt).alloc _
          have hOa := HY.out.1.then hoa
          refine (run_any hOa.oc.ck hOa.oc.tabw hOa.oc.g HY.out.2.2.2.2.2.2.2.2.1 ⟨kd, dn⟩).mono ?_
          rintro e w8 ⟨v8, rfl, hr5⟩
          obtain ⟨Av, cv, rfl⟩ := hr5.shape
          have hmid := hOa.mid hr5
          obtain ⟨rl, hrlq⟩ : ∃ rl, rl = (Cj.run ⟨kd, dn⟩).2 := ⟨_, rfl⟩
          obtain ⟨q5, hq5⟩ : ∃ q5, q5 = rl.length := ⟨_, rfl⟩
          rw [← hrlq] at hmid hrl hr5
          rw [← hrlq, ← hq5]
          rw [← hq5] at hmid hrl hr5
          rw [← HY.out.2.2.2.2.2.2.2.1] at hmid
          have hz78 : w7.heap.size ≤ w8.heap.size := by
            obtain ⟨_, _, _, _, h4, _⟩ := hr5
            have := hoa.size
            have := h4.size
            omega
          have H8 := Lib.hid (And.intro hOa (And.intro hr5 (And.intro hmid (And.intro hrlq (And.intro hq5 hoa)))))
          clear hOa hr5 hmid hoa hrlq hq5
          go_wp2_with (at_builtin; refine wpList_append_sl _ rfl _ _ _ rfl w7.heap.size 3 ii _ 1 8 Tryd.underlying42 hii0 hii1 hii2 hii3 rfl (by omega) _ q2 _ (by rfl) H8.out.2.2.1.1 _ Av q5 cv (ints rl) (by rfl) (own_sl H8.out.2.2.1.2 (Stay.refl _ _)) (fun u hu => by obtain ⟨y, _, rfl⟩ := List.mem_map.1 hu; rfl) (by simp only [maxLen]; omega) (by omega) (by omega) ?_; intro A9 c9 w9 hown9 hst9 hnx9; have H9 := Lib.hid (And.intro hown9 (And.intro hst9 hnx9)); clear hown9 hst9 hnx9)
          have hb1 : w.heap.size ≤ w7.heap.size := ((H1.out.then HX.out.1.oc.only).then H7.out).only.size
          obtain ⟨S', hO9, hS', hst9⟩ := H8.out.1.next (v' := .slice A9 (q2 + q5) c9) H8.out.2.1 hb1 (by rw [← HY.out.2.2.2.2.2.2.2.1, ← H8.out.2.2.2.2.1]; exact H9.out.1) H9.out.2.1 H9.out.2.2
          have hz0 := HX.out.1.oc.only.size
          have hz1 := H7.out.size
          have hsep : ∀ g, w1.heap.size ≤ g → g < w7.heap.size → ¬ (S g ∨ (Value.slice At q2 ct).ownBlock = some g) := fun g hg hg7 hs => by
            rcases hs with e | e
            · rcases HY.out.2.2.2.2.1 g e with e | e
              · have := H1.out.ck.lt e; omega
              · omega
            · have := (own_lt H8.out.2.2.1.1 g e).1; omega
          go_roundg (j - (i + 1))
          case measure => have := HY.out.2.1; omega
          case rel =>
            refine ⟨i + 1, S', q2 + q5, A9, c9, by omega, rfl, by go_num, rfl, ?_, by omega, ?_, ?_, ?_, ?_, ?_⟩
            · rw [HY.out.2.2.2.1, List.length_append, ← H8.out.2.2.2.1, ← H8.out.2.2.2.2.1, HY.out.2.2.2.2.2.2.2.1]
            · rw [HY.out.2.2.1, HY.out.2.2.2.1, ← H8.out.2.2.2.1]
              exact hO9
            · intro k hk
              rcases hS' k hk with e | e
              · exact HY.out.2.2.2.2.1 k e
              · have := H8.out.2.2.2.2.2.size; exact .inr (by omega)
            · refine (HY.out.2.2.2.2.2.1.only H8.out.2.2.2.2.2).stay hst9 (fun k hk => hsep k ?_ ?_)
              · have := HX.out.1.oc.ge k hk; omega
              · have := HX.out.1.oc.ck.lt hk; omega
            · refine own_stay hst9 (own_only H8.out.2.2.2.2.2 HY.out.2.2.2.2.2.2.2.2.2) (fun g hg => hsep g ?_ ?_)
              · have := (own_lt HX.out.1.row g (by exact hg)).1; have := H4.out.2.2.only.size; omega
              · have := (own_lt HX.out.1.row g (by exact hg)).2; omega
            · have := hst9.size; have := H8.out.2.2.2.2.2.size; omega
        · obtain rfl : i = j := by omega
          have HY := Lib.hid (And.intro hO (And.intro hD (And.intro hone hq)))
          clear hO hk hSk hD hone hz7 hq hq4
          have hqq : q2 = q := by rw [HY.out.2.2.2, HX.out.2.2.2.2.1]
          subst hqq
          go_wp2_with fail
          have hrow := HY.out.1.row
          rw [← HY.out.2.2.2] at hrow
          obtain ⟨uu, huu⟩ : ∃ uu, uu = C.outs (ops'.take i) := ⟨_, rfl⟩
          have hlu : q2 = uu.length := by rw [huu]; exact HY.out.2.2.2
          refine (show Calls Tryd.prog 22 #[.slice Ao q2 co, .slice At q2 ct] wt fun e w' => e = .returned (.bool true) ∧ Only wt w' from ?_).mono ?_
          · have h1 := HY.out.2.2.1
            rw [← huu] at h1 hrow
            rw [hlu] at h1 hrow ⊢
            have := eqI_any wt Ao At co ct uu uu (own_sl h1 (Stay.refl _ _)) (own_sl hrow (Stay.refl _ _))
            rw [beq_self_eq_true] at this
            exact this
          clear hrow hlu huu
          rintro e w8 ⟨rfl, hO8⟩
          have H8 := Lib.hid hO8
          clear hO8
          go_wp2_with fail
          refine (alike_any (HY.out.1.oc.ck.only H8.out) (HY.out.2.1.only H8.out)).mono ?_
          rw [Ck.like_refl]
          rintro e w9 ⟨rfl, hO9⟩
          have H9 := Lib.hid (H8.out.trans' hO9)
          clear hO9
          go_wp2_with fail
          refine (awake_any _ (HY.out.1.oc.then H9.out).tabw).mono ?_
          rintro e w10 ⟨rfl, hO10⟩
          have H10 := Lib.hid ((HY.out.1.oc.then H9.out).only.trans' hO10)
          clear hO10
          go_wp2_with fail
          go_ret
          exact ⟨rfl, H10.out⟩
end Go.Proofs.YtbkbcpnpbfnmgaaDoor
