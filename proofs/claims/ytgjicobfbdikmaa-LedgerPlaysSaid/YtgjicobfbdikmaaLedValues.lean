/- maps.Values of what the tasks hold. -/
import Derived.RangeFuncFrom
import Derived.RangeFuncKeeps
import Derived.Shelf.AbstractIn
import Derived.RangeFuncMany
import Derived.Sort.KeysCollected
import Derived.RegionIn
import Derived.Test.YtgjicobfbdikmaaIRange
import Derived.Test.YtgjicobfbdikmaaLedLog
set_option linter.unusedVariables false
set_option linter.unusedSimpArgs false
namespace Go.Proofs.Ytgjicobfbdikmaa
open Go Go.Proofs Go.RowKit Go.Shelf Go.Sort
attribute [local go_sem] Oper.semAt_some

/-- What a task holds. -/
def HV (hs : List (Int × Hd)) : Type := { p : Int × Hd // p ∈ hs }

theorem count_le : ∀ (n : Nat) (l : List Int), l.Nodup → (∀ x ∈ l, 1 ≤ x ∧ x ≤ (n : Int)) → l.length ≤ n
  | 0, l, _, h => by
    cases l with
    | nil => simp
    | cons a l => have := h a (List.mem_cons_self ..); omega
  | n + 1, l, hn, h => by
    have h1 := count_le n (l.erase ((n : Int) + 1)) (hn.erase _) (fun x hx => by
      have h2 := (hn.mem_erase_iff).1 hx
      have := h x h2.2
      have := h2.1
      push_cast at *
      omega)
    have h2 := List.length_erase_le (a := (n : Int) + 1) (l := l)
    have h3 : l.length ≤ (l.erase ((n : Int) + 1)).length + 1 := by
      rw [List.length_erase]
      split <;> omega
    omega
theorem LTab.count {w : World} {S : Nat → Prop} {b m : Nat} {L : Lg} {ev cv kv : Value} {hs : List (Int × Hd)} (ht : LTab w S b L m ev cv kv hs) : hs.length ≤ 64 := by
  have := count_le 64 (hs.map (·.1)) ht.keys (fun x hx => by
    obtain ⟨p, hp, rfl⟩ := List.mem_map.1 hx
    exact ht.kb p hp)
  simpa using this
theorem LTab.wf {w : World} {S : Nat → Prop} {b m : Nat} {L : Lg} {ev cv kv : Value} {hs : List (Int × Hd)} (ht : LTab w S b L m ev cv kv hs) : ∀ p ∈ hs, (Lit.int .i64 p.1).wf = true := by
  intro p hp
  have := ht.kb p hp
  have h1 : IntKind.i64.min ≤ p.1 := by show (-9223372036854775808 : Int) ≤ p.1; omega
  have h2 : p.1 ≤ IntKind.i64.max := by show p.1 ≤ (9223372036854775807 : Int); omega
  simp only [Lit.wf, Bool.and_eq_true, decide_eq_true_eq]
  exact ⟨h1, h2⟩

set_option maxRecDepth 100000 in
set_option maxHeartbeats 2000000 in
theorem values1_in (F : Fence) (n : Nat) (h8 : F.fn 66) (hro : F.round = none) (hn : 1 ≤ n) (l Bm b : Nat) (hs : List (Int × Hd)) (hwf : ∀ p ∈ hs, (Lit.int .i64 p.1).wf = true) (hle : hs.length ≤ 64) (J Jx : List (HV hs) → World → Prop)
    (hY : ∀ pre x W, J pre W → pre.length < hs.length → YieldAt F (n - 1) Try.prog l #[pv x.1.2.b] W fun e W' =>
      (e = .returned (.bool true) ∧ J (pre ++ [x]) W' ∧ KeepsWalks W W') ∨ (e = .returned (.bool false) ∧ Jx (pre ++ [x]) W'))
    (W : World) (hJ : AbidesFrom W.heap.size J) (hm : W.cell? ⟨Bm, 0, none⟩ = some (.map (some b))) (hown : IMap W b (hmap hs)) (h0 : J [] W) :
    CallsIn F n Try.prog 66 #[.func (.yield l) #[] #[], .pointer (some ⟨Bm, 0, none⟩)] W fun e W' => (∃ v, e = .returned v) ∧
      ((∃ xs, (∀ p ∈ hs, ∃ x ∈ xs, x.1 = p) ∧ J xs W') ∨ (∃ pre, True ∧ Jx pre W')) := by
  refine callsIn_of_wp Try.func66 rfl h8 ?_ hro
  simp only [Try.ntmps66, List.size_toArray, List.length_cons, List.length_nil, Nat.reduceAdd, Nat.reduceSub, Array.replicate_succ, Array.replicate_zero, List.push_toArray, List.append_toArray, List.nil_append, List.cons_append]
  gi_wp2_with (first
    | (gi_at_range; refine wpListIn_rangeV _ rfl _ 56 rfl 3 59 Try.underlying3 Try.underlying56 b Hd.b hs rfl hown hwf (by simp only [maxLen]; omega) ?_; intro w0 hrg0 hg0 hs0)
    | gi_in)
  go_frame
  gi_loopw [4] (fun _ wr => ∃ (cnt : Nat) (pre : List (HV hs)), Rng Try.prog 3 wr b W.heap.size Hd.b hs (pre.map (·.1)) cnt ∧ pre.length + cnt ≤ hs.length ∧ J pre wr) (fun _ wr => wr.rangeLeft b W.heap.size)
  case atStart =>
    exact ⟨_, [], hrg0, by simp, hJ [] W w0 none h0 hg0 (fun r e => by cases e)⟩
  case round =>
    obtain ⟨cnt, pre, hrg, hcs, hJs⟩ := hrel
    gi_wp2_with (first
      | (gi_at_next; refine wpListIn_nextV _ rfl _ rfl 3 Try.underlying3 b W.heap.size Hd.b hs _ _ rfl hrg ?_ ?_)
      | gi_in)
    · intro hd
      gi_wp2
      go_end0
      exact ⟨⟨_, rfl⟩, .inl ⟨_, fun p hp => by
        obtain ⟨x, hx, e⟩ := hd p.1 p.2 hp
        exact ⟨x, hx, e⟩, hJs⟩⟩
    · intro pk ph w2 cnt2 hp hns hrg2 hlt hg2 hs2 hen
      have hJ2 : J pre w2 := hJ _ wr w2 (some W.heap.size) hJs hg2 (fun r e => by cases e; exact ⟨Nat.le_refl _, hrg.iter⟩)
      obtain ⟨fn, tmps, assign, body, hy, hR⟩ := hY pre ⟨(pk, ph), hp⟩ w2 hJ2 (by omega)
      dsimp only at hy
      clear hs2
      gi_wp2
      refine hR.mono ?_
      rintro e W3 (⟨rfl, hJ3, hk3⟩ | ⟨rfl, hJx3⟩)
      · gi_wp2
        have hrg3 := hrg2.walks hk3
        go_roundw
        case rel => exact ⟨cnt2, pre ++ [⟨(pk, ph), hp⟩], by rw [List.map_append]; exact hrg3, by rw [List.length_append]; show pre.length + 1 + cnt2 ≤ _; omega, hJ3⟩
        case measure => rw [hrg3.left_eq, hrg.left_eq]; exact hlt
      · gi_wp2
        refine bodyPost_ret (results_none rfl _ _ _) rfl ?_
        exact ⟨⟨_, rfl⟩, .inr ⟨_, trivial, hJx3⟩⟩

set_option maxHeartbeats 1000000 in
theorem values_in (F : Fence) (n : Nat) (h6 : F.fn 41) (hro : F.round = none) (mb : Option Nat) (w : World) :
    CallsIn F n Try.prog 41 #[.map mb] w fun e w' => e = .returned (.func (.func 66) #[] #[.pointer (some ⟨w.heap.size, 0, none⟩)]) ∧ w' = w.alloc (.cells #[.map mb] 56) := by
  refine callsIn_of_wp Try.func41 rfl h6 ?_ hro
  simp only [Try.ntmps41, List.size_toArray, List.length_cons, List.length_nil, Nat.reduceAdd, Nat.reduceSub, Array.replicate_succ, Array.replicate_zero, List.push_toArray, List.append_toArray, List.nil_append, List.cons_append]
  gi_wp2
  go_ret
  exact ⟨rfl, rfl⟩

theorem values_stops (F : Fence) (n : Nat) (h8 : F.fn 66) (hro : F.round = none) (hn : 1 ≤ n) (Bm b : Nat) (hs : List (Int × Hd)) (hwf : ∀ p ∈ hs, (Lit.int .i64 p.1).wf = true) (hle : hs.length ≤ 64) (w : World) (hBm : Bm < w.heap.size)
    (hm : w.cell? ⟨Bm, 0, none⟩ = some (.map (some b))) (hown : IMap w b (hmap hs)) :
    SeqStopsK F n Try.prog 66 #[.pointer (some ⟨Bm, 0, none⟩)] (fun x : HV hs => #[pv x.1.2.b]) KeepsWalks (fun xs => ∀ p ∈ hs, ∃ x ∈ xs, x.1 = p) (fun _ => True) hs.length w := fun l J Jx W hW hJ _ hY h0 => by
  have hm' := (hW.cell (p := ⟨Bm, 0, none⟩) hBm).trans hm
  exact values1_in F n h8 hro hn l Bm b hs hwf hle J Jx hY W hJ hm' (hown.only (Stay.of_below hW)) h0

end Go.Proofs.Ytgjicobfbdikmaa
