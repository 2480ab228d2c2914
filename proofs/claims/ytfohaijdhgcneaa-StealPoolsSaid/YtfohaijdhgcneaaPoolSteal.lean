/- A pool: whom to steal from. -/
import Derived.Test.YtfohaijdhgcneaaPoolOps
import Derived.Deep.CutRange
import Derived.Deep.RegionHeld3
set_option linter.unusedVariables false
set_option linter.unusedSimpArgs false
namespace Go.Proofs.Ytfohaijdhgcneaa
open Go Go.RowKit

/-- The k-th other worker from f on, counted from 0. -/
def vic (n worker f k : Nat) : Nat := (worker + (f + k) % (n - 1)) % n
theorem vic_lt {n worker f k : Nat} (h : 1 ≤ n) : vic n worker f k < n := Nat.mod_lt _ (by omega)
theorem vic_ne {n i f k : Nat} (hi : i < n) (h : 2 ≤ n) : vic n (i + 1) f k ≠ i := by
  unfold vic
  obtain ⟨j, hj⟩ : ∃ j, j = (f + k) % (n - 1) := ⟨_, rfl⟩
  have hjl : j < n - 1 := by rw [hj]; exact Nat.mod_lt _ (by omega)
  rw [← hj]
  by_cases h2 : i + 1 + j < n
  · rw [Nat.mod_eq_of_lt h2]; omega
  · rw [Nat.mod_eq_sub_mod (by omega), Nat.mod_eq_of_lt (by omega)]; omega
/-- A number of others from a seed. -/
def fromOf (n : Nat) (seed : Int) : Nat := (seed % ((n - 1 : Nat) : Int)).toNat
def pFind (qs : List (List Int)) (worker : Nat) (seed : Int) : Option Nat := ((List.range (qs.length - 1)).map (vic qs.length worker (fromOf qs.length seed))).find? fun j => decide (qs.getD j [] ≠ [])
def pHalf (qs : List (List Int)) (i j : Nat) : List (List Int) := (qs.set i ((qs.getD j []).take (((qs.getD j []).length + 1) / 2))).set j ((qs.getD j []).drop (((qs.getD j []).length + 1) / 2))
theorem from_tmod {m : Nat} (h : 0 < m) (seed : Int) : (seed.tmod (m : Int) + (m : Int)).tmod (m : Int) = ((seed % (m : Int)).toNat : Int) ∧ - (m : Int) < seed.tmod (m : Int) ∧ seed.tmod (m : Int) < (m : Int) := by
  have hm : (0 : Int) < (m : Int) := by omega
  have h1 := Int.tmod_lt_of_pos seed hm
  have h2 : -(m : Int) < seed.tmod (m : Int) := by
    have := Int.tmod_lt_of_pos (-seed) hm
    rw [Int.neg_tmod] at this
    omega
  refine ⟨?_, h2, h1⟩
  rw [Int.tmod_eq_emod_of_nonneg (by omega), Int.add_emod_right, Int.toNat_of_nonneg (Int.emod_nonneg _ (by omega))]
  have h3 := Int.tmod_add_mul_tdiv seed (m : Int)
  have h4 : (seed.tmod (m : Int) + (m : Int) * seed.tdiv (m : Int)) % (m : Int) = seed.tmod (m : Int) % (m : Int) := Int.add_mul_emod_self_left _ _ _
  rw [h3] at h4
  exact h4.symm
theorem Sl.front {w : World} {B : Nat} {A : Option Addr} {cap : Nat} {l : List Int} (h : Sl w B A l.length cap 1 (ints l)) {m : Nat} (hm : m ≤ l.length) : Sl w B A (l.take m).length cap 1 (ints (l.take m)) := by
  have hl : (l.take m).length = m := by rw [List.length_take]; omega
  rw [hl]
  refine ⟨by simp [ints, hm], by have := h.2.1; omega, h.2.2.1, h.2.2.2.1, fun h0 => ?_⟩
  obtain ⟨b, off, e, hb, hc⟩ := h.2.2.2.2 (by omega)
  refine ⟨b, off, e, hb, fun j u hu => hc j u ?_⟩
  unfold ints at hu ⊢
  rw [List.map_take, List.getElem?_take] at hu
  split at hu
  · exact hu
  · cases hu
set_option maxRecDepth 100000 in
set_option maxHeartbeats 4000000 in
theorem steal_any {w0 w : World} {b : Nat} {qs : List (List Int)} {qv : Value} {vs : List Value} (h : PoolAt w0 w b qs qv vs) {i : Nat} (hi : i < qs.length) (h8 : qs.length ≤ 8) (hl : ∀ j, (qs.getD j []).length ≤ 100000) (hw0 : w0.heap.size ≤ w.heap.size) (seed : Int) :
    Calls Try.prog 51 #[.pointer (some ⟨b, 0, none⟩), .int .i64 ((i : Int) + 1), .int .i64 seed] w fun e w' =>
      (pFind qs (i + 1) seed = none ∧ e = .returned (.int .i64 0) ∧ Only w w') ∨ ∃ j, pFind qs (i + 1) seed = some j ∧ e = .returned (.int .i64 ((j : Int) + 1)) ∧ PoolPost w0 w b qv vs (pHalf qs i j) w' := by
  obtain ⟨g, cap, e1, _, hg⟩ := h.row.form (by omega)
  subst e1
  have cb := h.blk.cell
  have lb := h.blk.lt
  have H := Lib.hid h
  clear h
  obtain ⟨m, hm⟩ : ∃ m, qs.length = m + 1 := ⟨qs.length - 1, by omega⟩
  rw [hm] at cb
  have hm7 : m ≤ 7 := by omega
  have him : i < m + 1 := by omega
  go_enter Try.func51, Try.ntmps51
  by_cases hm0 : m = 0
  · subst hm0
    go_wp2_with fail
    go_ret
    refine .inl ⟨?_, rfl, Stay.refl _ w⟩
    unfold pFind
    rw [hm]
    rfl
  · have hw1 : IntKind.i64.wrap (m : Int) = (m : Int) := IntWalk.i64_in _ (by omega)
    obtain ⟨f1, f2, f3⟩ := from_tmod (m := m) (by omega) seed
    have hf : fromOf qs.length seed = (seed % (m : Int)).toNat := by unfold fromOf; rw [hm]; rfl
    obtain ⟨f, hf2⟩ : ∃ f, f = (seed % (m : Int)).toNat := ⟨_, rfl⟩
    rw [← hf2] at f1 hf
    have hfm : f < m := by
      have := Int.emod_lt_of_pos seed (show (0 : Int) < (m : Int) by omega)
      have := Int.emod_nonneg seed (show (m : Int) ≠ 0 by omega)
      omega
    have hw2 : IntKind.i64.wrap (seed.tmod (m : Int) + (m : Int)) = seed.tmod (m : Int) + (m : Int) := IntWalk.i64_in _ (by omega)
    have HF := Lib.hid (And.intro hf hm)
    clear hf hf2 f2 f3
    go_wp2_with fail
    clear f1 hw2
    go_loopg [29] m (fun kk vi wr => ∃ k : Nat, k ≤ m ∧ kk = m - k ∧ vi = .int .i64 (k : Nat) ∧ Only w wr ∧ ∀ k', k' < k → qs.getD (vic (m + 1) (i + 1) f k') [] = [])
    case atStart => exact ⟨0, by omega, rfl, rfl, Stay.refl _ _, fun k' h => by omega⟩
    case round =>
      obtain ⟨k, hk, hkk, rfl, hO, hemp⟩ := hrel
      obtain ⟨wt, hwt⟩ : ∃ wt, wt = wr := ⟨_, rfl⟩
      rw [← hwt] at hO ⊢
      clear hwt
      by_cases hkm : k < m
      · have hP := H.out.only hO
        have cb := hP.blk.cell
        rw [hm] at cb
        have lb := hP.blk.lt
        obtain ⟨j, hj⟩ : ∃ j, j = vic (m + 1) (i + 1) f k := ⟨_, rfl⟩
        obtain ⟨r, hr⟩ : ∃ r, r = (f + k) % m := ⟨_, rfl⟩
        have hrm : r < m := by rw [hr]; exact Nat.mod_lt _ (by omega)
        have hjv : j = (i + 1 + r) % (m + 1) := by rw [hj, hr]; rfl
        have hjl : j < m + 1 := by rw [hjv]; exact Nat.mod_lt _ (by omega)
        have t1 : ((f : Int) + (k : Int)).tmod (m : Int) = (r : Int) := by
          rw [rem_place _ m (by omega), hr, show ((f : Int) + (k : Int)).toNat = f + k by omega]
        have t2 : ((i : Int) + 1 + (r : Int)).tmod ((m : Int) + 1) = (j : Int) := by
          have := rem_place ((i : Int) + 1 + (r : Int)) (m + 1) (by omega)
          rw [show (((m + 1 : Nat)) : Int) = (m : Int) + 1 by omega, show ((i : Int) + 1 + (r : Int)).toNat = i + 1 + r by omega] at this
          rw [this, hjv]
        have v1 : IntKind.i64.wrap ((f : Int) + (k : Int)) = (f : Int) + (k : Int) := IntWalk.i64_in _ (by omega)
        have v2 : IntKind.i64.wrap ((i : Int) + 1 + (r : Int)) = (i : Int) + 1 + (r : Int) := IntWalk.i64_in _ (by omega)
        obtain ⟨g2, cap2, Aj, cj, e2, _, hvj, hcj, hqj, _⟩ := hP.at (i := j) (by omega)
        obtain ⟨rfl, rfl⟩ : g = g2 ∧ cap = cap2 := by simpa using e2
        have u1 : (0 : Int) ≤ (j : Int) := by omega
        have u2 : (j : Int) < (m : Int) + 1 := by omega
        have HK := Lib.hid (And.intro hO (And.intro hemp (And.intro hkk (And.intro hP (And.intro hvj (And.intro hqj (And.intro hj hm)))))))
        clear hO hemp hkk hP hvj hqj hj hjv hr e2 hm
        go_upto_region 8 with fail
        go_big_region
        have hcjd : wt.drew.cell? ⟨g, j, none⟩ = some (.slice Aj (qs.getD j []).length cj) := hcj
        obtain ⟨l, hll⟩ : ∃ l, l = qs.getD j [] := ⟨_, rfl⟩
        have hlj := hl j
        rw [← hll] at hcj hcjd hlj
        have HLL := Lib.hid hll
        clear hll
        by_cases hl0 : l.length = 0
        · rw [hl0] at hcj hcjd
          go_wp2_with fail
          go_roundg (m - (k + 1))
          case measure => have := HK.out.2.2.1; omega
          case rel =>
            refine ⟨k + 1, by omega, rfl, by go_num, HK.out.1.drew, fun k' hk' => ?_⟩
            by_cases hkk : k' = k
            · subst hkk
              have h1 := HK.out.2.2.2.2.2.2.1
              rw [← h1, ← HLL.out]
              exact List.eq_nil_of_length_eq_zero hl0
            · exact HK.out.2.1 k' (by omega)
        · obtain ⟨hf, hhf⟩ : ∃ hf, hf = (l.length + 1) / 2 := ⟨_, rfl⟩
          have w5 : IntKind.i64.wrap ((l.length : Int) + 1) = (l.length : Int) + 1 := IntWalk.i64_in _ (by omega)
          have q5 : ((l.length : Int) + 1).tdiv 2 = (hf : Int) := by
            rw [Int.tdiv_eq_ediv_of_nonneg (by omega)]
            omega
          have w6 : IntKind.i64.wrap (hf : Int) = (hf : Int) := IntWalk.i64_in _ (by omega)
          have w7 : IntKind.i64.wrap (i : Int) = (i : Int) := IntWalk.i64_in _ (by omega)
          have w8 : IntKind.i64.wrap ((j : Int) + 1) = (j : Int) + 1 := IntWalk.i64_in _ (by omega)
          have HH := Lib.hid hhf
          have hfl : hf ≤ l.length := by omega
          clear hhf
          go_upto_region 12 with fail
          obtain ⟨wd, hwd⟩ : ∃ wd, wd = wt.drew := ⟨_, rfl⟩
          have hOd : Only wt wd := by rw [hwd]; exact (Stay.refl _ wt).drew
          rw [← hwd]
          have hPd := HK.out.2.2.2.1.only hOd
          have hQd := HK.out.2.2.2.2.2.1.only hOd
          have hmd := HK.out.2.2.2.2.2.2.2
          obtain ⟨g3, cap3, Ai, ci, e3, _, hvi, hci, hqi, hfi⟩ := hPd.at (i := i) hi
          have e3' : g = g3 ∧ cap = cap3 := by simpa using e3
          obtain ⟨rfl, rfl⟩ := e3'
          rw [← HLL.out] at hQd
          have cbd := hPd.blk.cell
          rw [hmd] at cbd
          have lbd := hPd.blk.lt
          have hgb : g ≠ b := own_ne_blk hPd.row hPd.blk (by decide) g rfl
          have u3 : (0 : Int) ≤ (i : Int) := by omega
          have u4 : (i : Int) < (m : Int) + 1 := by omega
          have u5 : (0 : Int) ≤ (hf : Int) := by omega
          have u6 : (hf : Int) ≤ (cj : Int) := by have := hQd.sl.2.1; omega
          have hft : hf = (l.take hf).length := by rw [List.length_take]; omega
          have hsl := hQd.sl.front hfl
          rw [← hft] at hsl
          have hcl : ∀ W, Only wd W → Calls Try.prog 37 #[.slice Aj hf cj] W fun e w' => ∃ v', e = .returned v' ∧ w'.ownsRow W.heap.size 3 1 v' hf (ints (l.take hf)) ∧ Only W w' := fun W hW => by
            have := cloneI_any W Aj cj (l.take hf) (by rw [← hft]; exact Sl.later hsl hW hW.size) (by omega)
            rwa [← hft] at this
          have HD := Lib.hid (And.intro hPd (And.intro hQd (And.intro hvi (And.intro hqi (And.intro (HK.out.1.trans' hOd) (And.intro hcl hft))))))
          clear hwd hOd hPd hQd hvi hqi hmd e3 hft hsl hcl hcj hcjd cb lb
          go_cut [] from 13 to 82 (fun we => ∃ vs', PoolAt w0 we b (qs.set i (l.take hf)) (.slice (some ⟨g, 0, none⟩) qs.length cap) vs' ∧ Stay (PBlk b (.slice (some ⟨g, 0, none⟩) qs.length cap) vs) wd we ∧ (∀ k, PBlk b (.slice (some ⟨g, 0, none⟩) qs.length cap) vs' k → PBlk b (.slice (some ⟨g, 0, none⟩) qs.length cap) vs k ∨ wd.heap.size ≤ k) ∧ vs'[j]? = vs[j]?)
          case first =>
            go_region_held3 (fun w' => w'.cell? ⟨b, 0, none⟩ = some (.slice (some ⟨g, 0, none⟩) (m + 1) cap))
              (first
                | go_keep
                | exact cbe 0
                | exact cell_off (cbe 0) hgb)
              ((go_at_call 37; refine (HD.out.2.2.2.2.2.1 _ (by first | exact (Stay.refl _ wd).drew | exact Stay.refl _ wd)).mono ?_; rintro e we ⟨ve, rfl, hre, hoe⟩; obtain ⟨Ae, ce, rfl⟩ := own_shape hre; have hoe2 : Only wd we := Only.trans' (by first | exact (Stay.refl _ wd).drew | exact Stay.refl _ wd) hoe; have cbe := (hoe2.blk HD.out.1.blk).cell; rw [HK.out.2.2.2.2.2.2.2] at cbe; have lbe := (hoe2.blk HD.out.1.blk).lt; have hcie := hoe2.cell hci; have hfie := hoe2.free hci hfi; have HE := Lib.hid (And.intro hre hoe2); clear hre hoe hoe2))
            all_goals
              go_wp2_with fail
              go_meet
              case rel =>
                have hzw : w0.heap.size ≤ wd.heap.size := Nat.le_trans hw0 HD.out.2.2.2.2.1.size
                have hre := HE.out.1
                have hq : Qu we w0.heap.size (.slice Ae hf ce) (l.take hf) := Qu.rebase (Qu.of_row (l := l.take hf) (v := .slice Ae hf ce) (by rw [← HD.out.2.2.2.2.2.2]; exact hre)) hzw
                have hn : ∀ k, (Value.slice Ae hf ce).ownBlock = some k → (Value.slice Ai (qs.getD i []).length ci).ownBlock = some k ∨ wd.heap.size ≤ k := fun k hk => .inr (own_lt hre k hk).1
                have hp := HD.out.1.put (X := fun _ => False) HE.out.2 HD.out.2.2.1 (fun k e => e.elim) hq hn rfl
                have ht := HD.out.1.turns (X := fun _ => False) HE.out.2 (.slice Ae hf ce) HD.out.2.2.1 (fun k e => e.elim) hn rfl
                refine ⟨_, hp, ht.1, ht.2, ?_⟩
                rw [List.getElem?_set, if_neg]
                rw [HK.out.2.2.2.2.2.2.1]
                exact fun e => vic_ne (n := m + 1) him (by omega) e.symm
          case rest =>
            obtain ⟨vs', hP', hst, hpb, hvj⟩ := hcut
            have hji : i ≠ j := by
              rw [HK.out.2.2.2.2.2.2.1]
              exact fun e => vic_ne (n := m + 1) him (by omega) e.symm
            have hvj2 : vs'[j]? = some (.slice Aj l.length cj) := by rw [hvj, HLL.out]; exact HK.out.2.2.2.2.1
            have hqj2 : (qs.set i (l.take hf))[j]? = some l := by
              rw [List.getElem?_set, if_neg hji, HLL.out, List.getD_eq_getElem?_getD, List.getElem?_eq_getElem (by have := HK.out.2.2.2.2.2.2.2; omega)]
              rfl
            have hQc := hP'.q j _ l hvj2 hqj2
            obtain ⟨ga, oa, ca', e4, hga, hlc, hcm, hcells⟩ := hQc.form (by omega)
            have e4' : Aj = some ⟨ga, oa, none⟩ ∧ cj = ca' := by simpa using e4
            obtain ⟨rfl, rfl⟩ := e4'
            have hsl2 : Sl wc wc.heap.size (if cj = hf then some ⟨ga, oa, none⟩ else some ⟨ga, oa + hf, none⟩) (l.drop hf).length (cj - hf) 1 (ints (l.drop hf)) := by
              have hdl : (l.drop hf).length = l.length - hf := List.length_drop ..
              refine ⟨by simp [ints], by omega, by simp only [maxLen] at hcm; omega, fun e => (by split at e <;> cases e), fun h0 => ?_⟩
              by_cases hc : cj = hf
              · omega
              · rw [if_neg hc]
                refine ⟨ga, oa + hf, rfl, hga, fun jj u hu => ?_⟩
                unfold ints at hu
                rw [List.getElem?_map, Option.map_eq_some_iff] at hu
                obtain ⟨x, hx, rfl⟩ := hu
                rw [List.getElem?_drop] at hx
                rw [Nat.add_assoc]
                exact hcells (hf + jj) x hx
            have cbc := hP'.blk.cell
            rw [HK.out.2.2.2.2.2.2.2] at cbc
            have lbc := hP'.blk.lt
            have hrw := hP'.row
            rw [List.length_set] at hrw
            have hcjc := hrw.cellAt j (by have := HK.out.2.2.2.2.2.2.2; omega)
            rw [hvj2] at hcjc
            have hfjc := hrw.frozenAt j
            have hgc := (own_lt hrw g rfl).2
            have u7 : (0 : Int) ≤ (j : Int) := by omega
            have u8 : (j : Int) < (m : Int) + 1 := by omega
            have u9 : (hf : Int) ≤ (l.length : Int) := by omega
            have hdl : (l.drop hf).length = l.length - hf := List.length_drop ..
            obtain ⟨Ax, hAx⟩ : ∃ Ax, (if cj = hf then some (⟨ga, oa, none⟩ : Addr) else some ⟨ga, oa + hf, none⟩) = Ax := ⟨_, rfl⟩
            rw [hAx] at hsl2
            have hcl2 : ∀ W, Only wc W → Calls Try.prog 37 #[.slice Ax (l.length - hf) (cj - hf)] W fun e w' => ∃ v', e = .returned v' ∧ w'.ownsRow W.heap.size 3 1 v' (l.length - hf) (ints (l.drop hf)) ∧ Only W w' := fun W hW => by
              have := cloneI_any W _ (cj - hf) (l.drop hf) (Sl.later hsl2 hW hW.size) (by omega)
              rwa [hdl] at this
            have HC2 := Lib.hid (And.intro hcl2 hdl)
            clear hcl2 hdl
            have HC := Lib.hid (And.intro hP' (And.intro hst (And.intro hpb (And.intro hvj2 (And.intro hsl2 hji)))))
            clear hP' hst hpb hvj hvj2 hqj2 hQc e4 hlc hcm hcells hsl2 hrw hci hfi cbd lbd
            go_upto_region 13 with fail
            go_region_held3 (fun w' => w'.cell? ⟨b, 0, none⟩ = some (.slice (some ⟨g, 0, none⟩) (m + 1) cap))
              (first
                | go_keep
                | exact cbe 0
                | exact cell_off (cbe 0) hgb)
              ((go_at_call 37; refine (HC2.out.1 _ (by first | exact (Stay.refl _ wc).drew | exact Stay.refl _ wc)).mono ?_; rintro e we ⟨ve, rfl, hre, hoe⟩; obtain ⟨Ae, ce, rfl⟩ := own_shape hre; have hoe2 : Only wc we := Only.trans' (by first | exact (Stay.refl _ wc).drew | exact Stay.refl _ wc) hoe; have cbe := (hoe2.blk HC.out.1.blk).cell; rw [HK.out.2.2.2.2.2.2.2] at cbe; have lbe := (hoe2.blk HC.out.1.blk).lt; have hcie := hoe2.cell hcjc; have hfie := hoe2.free hcjc hfjc; have HE := Lib.hid (And.intro hre hoe2); clear hre hoe hoe2))
            go_wp2_with fail
            go_ret
            have hzw : w0.heap.size ≤ wc.heap.size := Nat.le_trans hw0 (Nat.le_trans HD.out.2.2.2.2.1.size HC.out.2.1.size)
            have hre := HE.out.1
            have hq : Qu we w0.heap.size (.slice Ae (l.length - hf) ce) (l.drop hf) := Qu.rebase (Qu.of_row (l := l.drop hf) (v := .slice Ae (l.length - hf) ce) (by rw [HC2.out.2]; exact hre)) hzw
            have hn : ∀ k, (Value.slice Ae (l.length - hf) ce).ownBlock = some k → (Value.slice (some ⟨ga, oa, none⟩) l.length cj).ownBlock = some k ∨ wc.heap.size ≤ k := fun k hk => .inr (own_lt hre k hk).1
            have hqv : (Value.slice (some ⟨g, 0, none⟩) qs.length cap) = .slice (some ⟨g, 0, none⟩) (qs.set i (l.take hf)).length cap := by rw [List.length_set]
            have hp := HC.out.1.put (X := fun _ => False) HE.out.2 HC.out.2.2.2.1 (fun k e => e.elim) hq hn hqv
            have ht := HC.out.1.turns (X := fun _ => False) HE.out.2 (.slice Ae (l.length - hf) ce) HC.out.2.2.2.1 (fun k e => e.elim) hn hqv
            refine .inr ⟨j, ?_, rfl, vs'.set j (.slice Ae (l.length - hf) ce), ?_, ?_, ?_⟩
            · have hqm := HK.out.2.2.2.2.2.2.2
              have hjv := HK.out.2.2.2.2.2.2.1
              unfold pFind
              rw [List.find?_eq_some_iff_getElem]
              have hne : qs.getD j [] ≠ [] := fun e => hl0 (by rw [HLL.out, e]; rfl)
              refine ⟨by simpa using hne, k, by simp; omega, ?_, fun k' hk' => ?_⟩
              · simp only [List.getElem_map, List.getElem_range]
                rw [HF.out.1, hqm, ← hjv]
              · simp only [List.getElem_map, List.getElem_range]
                rw [HF.out.1, hqm, HK.out.2.1 k' hk']
                rfl
            · unfold pHalf
              rw [← HLL.out, ← HH.out]
              exact hp
            · exact ((HD.out.2.2.2.2.1.mono (fun _ _ h => h.elim)).trans HC.out.2.1 (fun _ _ h => h)).trans ht.1 (fun k hk h => by
                rcases HC.out.2.2.1 k h with h2 | h2
                · exact h2
                · have := HD.out.2.2.2.2.1.size; omega)
            · intro k hk
              rcases ht.2 k hk with h | h
              · rcases HC.out.2.2.1 k h with h2 | h2
                · exact .inl h2
                · exact .inr (Nat.le_trans HD.out.2.2.2.2.1.size h2)
              · exact .inr (Nat.le_trans (Nat.le_trans HD.out.2.2.2.2.1.size HC.out.2.1.size) h)
      · obtain rfl : k = m := by omega
        have HK := Lib.hid (And.intro hO hemp)
        clear hO hemp hkk
        go_wp2_with fail
        go_ret
        refine .inl ⟨?_, rfl, HK.out.1⟩
        unfold pFind
        rw [List.find?_eq_none]
        intro j hj
        obtain ⟨k', hk', rfl⟩ := List.mem_map.1 hj
        rw [List.mem_range] at hk'
        rw [HF.out.1, HF.out.2]
        have := HK.out.2 k' (by have := HF.out.2; omega)
        rw [this]
        simp
end Go.Proofs.Ytfohaijdhgcneaa
