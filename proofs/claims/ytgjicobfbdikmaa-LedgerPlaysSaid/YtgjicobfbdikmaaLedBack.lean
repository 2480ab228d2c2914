/- slices.Backward on ints: what the loop's body is handed. -/
import Derived.RangeFuncNested
import Derived.RangeFuncBound
import Derived.RangeFuncCalls
import Derived.RangeFuncLeaves
import Derived.RangeFuncBox
import Derived.Shelf.Abstract
import Derived.Shelf.RegionOpen
import Derived.WalkKit
import Derived.OwnWalkIn
import Derived.TacticsInMore
import Derived.LoopNIn
import Derived.LoopIn
import Derived.Test.YtgjicobfbdikmaaLedRel
set_option linter.unusedVariables false
set_option linter.unusedSimpArgs false
namespace Go.Proofs.Ytgjicobfbdikmaa
open Go Go.Proofs Go.RowKit Go.Shelf
attribute [local go_sem] Oper.semAt_some

/-- A place of zs, and what stands there. -/
def BK (zs : List Int) : Type := { p : Nat × Int // zs[p.1]? = some p.2 }
/-- The k-th from behind. -/
def bk (zs : List Int) (k : Nat) (hk : k < zs.length) : BK zs := ⟨(zs.length - 1 - k, zs[zs.length - 1 - k]'(by omega)), List.getElem?_eq_getElem _⟩
/-- What has come when k rounds are over. -/
def upto (zs : List Int) : (k : Nat) → k ≤ zs.length → List (BK zs)
  | 0, _ => []
  | k + 1, h => upto zs k (by omega) ++ [bk zs k (by omega)]
theorem upto_length (zs : List Int) : ∀ (k : Nat) (h : k ≤ zs.length), (upto zs k h).length = k
  | 0, _ => rfl
  | k + 1, h => by simp [upto, upto_length zs k]
theorem upto_mem (zs : List Int) : ∀ (k : Nat) (h : k ≤ zs.length) (j : Nat), j < k → ∃ y ∈ upto zs k h, y.1.1 = zs.length - 1 - j
  | k + 1, h, j, hj => by
    by_cases e : j = k
    · subst e
      exact ⟨_, by simp only [upto]; exact List.mem_append.2 (.inr (List.mem_cons_self ..)), rfl⟩
    · obtain ⟨y, hy, e2⟩ := upto_mem zs k (by omega) j (by omega)
      exact ⟨y, by simp only [upto]; exact List.mem_append.2 (.inl hy), e2⟩
/-- The slice value sv holds the ints zs, in a block below n₀; or it is empty. -/
def HInts (n₀ : Nat) (W : World) (sv : Value) (zs : List Int) : Prop :=
  ∃ A cap, sv = .slice A zs.length cap ∧ (0 < zs.length → ∃ b off, A = some ⟨b, off, none⟩ ∧ b < n₀ ∧ ∀ j, j < zs.length → W.cell? ⟨b, off + j, none⟩ = some (.int .i64 (zs[j]?.getD 0)))
theorem HInts.below {n₀ : Nat} {A B : World} (h : Below n₀ A B) {sv : Value} {zs : List Int} : HInts n₀ A sv zs → HInts n₀ B sv zs
  | ⟨a, cap, e, hc⟩ => ⟨a, cap, e, fun h0 => by
    obtain ⟨b, off, e, hb, hc⟩ := hc h0
    exact ⟨b, off, e, hb, fun j hj => (h.cell (p := ⟨b, off + j, none⟩) hb).trans (hc j hj)⟩⟩

set_option maxRecDepth 100000 in
set_option maxHeartbeats 2000000 in
theorem back1_in (F : Fence) (n : Nat) (h8 : F.fn 51) (hro : F.round = none) (hn : 1 ≤ n) (l Bs n₀ : Nat) (sv : Value) (zs : List Int) (hreach : zs.length ≤ 1000000) (J Jx : List (BK zs) → World → Prop)
    (hY : ∀ pre x W, J pre W → pre.length < zs.length → YieldAt F (n - 1) Try.prog l #[.int .i64 (x.1.1 : Int), .int .i64 x.1.2] W fun e W' =>
      (e = .returned (.bool true) ∧ J (pre ++ [x]) W' ∧ Below n₀ W W') ∨ (e = .returned (.bool false) ∧ Jx (pre ++ [x]) W'))
    (W : World) (hBs : W.cell? ⟨Bs, 0, none⟩ = some sv) (hBn : Bs < n₀) (hI : HInts n₀ W sv zs) (h0 : J [] W) :
    CallsIn F n Try.prog 51 #[.func (.yield l) #[] #[], .pointer (some ⟨Bs, 0, none⟩)] W fun e W' => (∃ v, e = .returned v) ∧
      ((∃ ys, ys = upto zs zs.length (Nat.le_refl _) ∧ J ys W') ∨ (∃ pre, (∃ k, ∃ h : k ≤ zs.length, pre = upto zs k h) ∧ Jx pre W')) := by
  obtain ⟨A, cap, rfl, hc⟩ := hI
  refine callsIn_of_wp Try.func51 rfl h8 ?_ hro
  simp only [Try.ntmps51, List.size_toArray, List.length_cons, List.length_nil, Nat.reduceAdd, Nat.reduceSub, Array.replicate_succ, Array.replicate_zero, List.push_toArray, List.append_toArray, List.nil_append, List.cons_append]
  gi_wp2
  gi_loopw [3] (fun i wr => ∃ k : Nat, ∃ hk : k ≤ zs.length, i = .int .i64 ((zs.length : Int) - 1 - k) ∧ J (upto zs k hk) wr ∧ Below n₀ W wr)
    (fun i _ => (intOf i + 1).toNat)
  case atStart => exact ⟨0, Nat.zero_le _, by simp, h0, Below.refl _ _⟩
  case round =>
    obtain ⟨k, hk, rfl, hJs, hnx⟩ := hrel
    have hBs' : wr.cell? ⟨Bs, 0, none⟩ = some (.slice A zs.length cap) := (hnx.cell (p := ⟨Bs, 0, none⟩) hBn).trans hBs
    by_cases hlt : k < zs.length
    · obtain ⟨b, off, rfl, hb, hcs⟩ := hc (by omega)
      obtain ⟨m, hm⟩ : ∃ m : Nat, zs.length - 1 - k = m := ⟨_, rfl⟩
      have hmi : (zs.length : Int) - 1 - k = (m : Int) := by omega
      have hcx : wr.cell? ⟨b, off + m, none⟩ = some (.int .i64 (zs[m]?.getD 0)) := (hnx.cell (p := ⟨b, off + m, none⟩) hb).trans (hcs m (by omega))
      have hbk : (bk zs k hlt).1 = (m, zs[m]?.getD 0) := by
        subst hm
        have e : zs[zs.length - 1 - k]?.getD 0 = zs[zs.length - 1 - k]'(by omega) := by rw [List.getElem?_eq_getElem (by omega)]; rfl
        rw [e]
        rfl
      obtain ⟨fn, tmps, assign, body, hy, hR⟩ := hY _ (bk zs k hlt) wr hJs (by rw [upto_length]; exact hlt)
      rw [hbk] at hy
      dsimp only at hy
      rw [hmi]
      have hm0 : (0 : Int) ≤ (m : Int) := by omega
      have hm1 : (m : Int) < (zs.length : Int) := by omega
      gi_wp2
      refine hR.mono ?_
      rintro e W3 (⟨rfl, hJ3, hk3⟩ | ⟨rfl, hJx3⟩)
      · gi_wp2
        go_roundw
        case rel => exact ⟨k + 1, by omega, congrArg (Value.int .i64) (by push_cast; omega), hJ3, hnx.trans hk3⟩
        case measure => simp [intOf]
      · gi_wp2
        refine bodyPost_ret (results_none rfl _ _ _) rfl ?_
        exact ⟨⟨_, rfl⟩, .inr ⟨_, ⟨k + 1, by omega, rfl⟩, hJx3⟩⟩
    · obtain rfl : k = zs.length := by omega
      have hmi : (zs.length : Int) - 1 - (zs.length : Nat) = -1 := by omega
      rw [hmi]
      gi_wp2
      go_end0
      exact ⟨⟨_, rfl⟩, .inl ⟨_, rfl, hJs⟩⟩

set_option maxHeartbeats 1000000 in
theorem back_in (F : Fence) (n : Nat) (h6 : F.fn 34) (hro : F.round = none) (a : Option Addr) (len cap : Nat) (w : World) :
    CallsIn F n Try.prog 34 #[.slice a len cap] w fun e w' => e = .returned (.func (.func 51) #[] #[.pointer (some ⟨w.heap.size, 0, none⟩)]) ∧ w' = w.alloc (.cells #[.slice a len cap] 37) := by
  refine callsIn_of_wp Try.func34 rfl h6 ?_ hro
  simp only [Try.ntmps34, List.size_toArray, List.length_cons, List.length_nil, Nat.reduceAdd, Nat.reduceSub, Array.replicate_succ, Array.replicate_zero, List.push_toArray, List.append_toArray, List.nil_append, List.cons_append]
  gi_wp2
  go_ret
  exact ⟨rfl, rfl⟩

theorem back_stops (F : Fence) (n : Nat) (h8 : F.fn 51) (hro : F.round = none) (hn : 1 ≤ n) (Bs n₀ : Nat) (sv : Value) (zs : List Int) (hreach : zs.length ≤ 1000000) (w : World) (hBs : Bs < n₀) (hn₀ : n₀ ≤ w.heap.size)
    (hc : w.cell? ⟨Bs, 0, none⟩ = some sv) (hI : HInts n₀ w sv zs) :
    SeqStopsK F n Try.prog 51 #[.pointer (some ⟨Bs, 0, none⟩)] (fun x : BK zs => #[Value.int .i64 (x.1.1 : Int), Value.int .i64 x.1.2]) (Below n₀) (fun ys => ys = upto zs zs.length (Nat.le_refl _))
      (fun pre => ∃ k, ∃ h : k ≤ zs.length, pre = upto zs k h) zs.length w := fun l J Jx W hW _ _ hY h0 => by
  have hc' := (hW.cell (p := ⟨Bs, 0, none⟩) (Nat.lt_of_lt_of_le hBs hn₀)).trans hc
  exact back1_in F n h8 hro hn l Bs n₀ sv zs hreach J Jx hY W hc' hBs (hI.below (hW.mono hn₀)) h0

end Go.Proofs.Ytgjicobfbdikmaa
