/- slices.Sorted of slices.Values, on ints. -/
import Derived.Test.YtgjicobfbdikmaaLedBack
import Derived.Test.YtgjicobfbdikmaaLedTight
import Derived.Test.YtgjicobfbdikmaaIntSort
import Derived.Maps.OwnIn
set_option linter.unusedVariables false
set_option linter.unusedSimpArgs false
namespace Go.Proofs.Ytgjicobfbdikmaa
open Go Go.Proofs Go.RowKit Go.Shelf
attribute [local go_sem] Oper.semAt_some

set_option maxRecDepth 100000 in
set_option maxHeartbeats 2000000 in
theorem svals1_in (F : Fence) (n : Nat) (h8 : F.fn 65) (hro : F.round = none) (hn : 1 ≤ n) (l Bs n₀ : Nat) (sv : Value) (zs : List Int) (hreach : zs.length ≤ 1000000) (J Jx : List Int → World → Prop)
    (hY : ∀ pre x W, J pre W → pre.length < zs.length → YieldAt F (n - 1) Try.prog l #[.int .i64 x] W fun e W' =>
      (e = .returned (.bool true) ∧ J (pre ++ [x]) W' ∧ Below n₀ W W') ∨ (e = .returned (.bool false) ∧ Jx (pre ++ [x]) W'))
    (W : World) (hBs : W.cell? ⟨Bs, 0, none⟩ = some sv) (hBn : Bs < n₀) (hI : HInts n₀ W sv zs) (h0 : J [] W) :
    CallsIn F n Try.prog 65 #[.func (.yield l) #[] #[], .pointer (some ⟨Bs, 0, none⟩)] W fun e W' => (∃ v, e = .returned v) ∧
      ((∃ ys, ys = zs ∧ J ys W') ∨ (∃ pre, True ∧ Jx pre W')) := by
  obtain ⟨A, cap, rfl, hc⟩ := hI
  refine callsIn_of_wp Try.func65 rfl h8 ?_ hro
  simp only [Try.ntmps65, List.size_toArray, List.length_cons, List.length_nil, Nat.reduceAdd, Nat.reduceSub, Array.replicate_succ, Array.replicate_zero, List.push_toArray, List.append_toArray, List.nil_append, List.cons_append]
  gi_wp2
  gi_loopw [4, 7] (fun _ i wr => ∃ k : Nat, ∃ hk : k ≤ zs.length, i = .int .i64 (k : Nat) ∧ J (zs.take k) wr ∧ Below n₀ W wr)
    (fun _ i _ => zs.length - (intOf i).toNat)
  case atStart => exact ⟨0, Nat.zero_le _, rfl, h0, Below.refl _ _⟩
  case round =>
    obtain ⟨k, hk, rfl, hJs, hnx⟩ := hrel
    have hBs' : wr.cell? ⟨Bs, 0, none⟩ = some (.slice A zs.length cap) := (hnx.cell (p := ⟨Bs, 0, none⟩) hBn).trans hBs
    by_cases hlt : k < zs.length
    · obtain ⟨b, off, rfl, hb, hcs⟩ := hc (by omega)
      obtain ⟨x, hx⟩ : ∃ x, zs[k]? = some x := ⟨_, List.getElem?_eq_getElem hlt⟩
      have hcx : wr.cell? ⟨b, off + k, none⟩ = some (.int .i64 x) := by
        have := (hnx.cell (p := ⟨b, off + k, none⟩) hb).trans (hcs k hlt)
        rw [hx] at this
        exact this
      have hJx' : zs.take (k + 1) = zs.take k ++ [x] := by rw [List.take_add_one, hx]; rfl
      obtain ⟨fn, tmps, assign, body, hy, hR⟩ := hY _ x wr hJs (by rw [List.length_take]; omega)
      rw [← hJx'] at hR
      have hk0 : (0 : Int) ≤ (k : Int) := by omega
      have hk1 : (k : Int) < (zs.length : Int) := by omega
      have HK := Lib.hid (And.intro hlt hx)
      clear hlt hx hJx'
      gi_wp2
      refine hR.mono ?_
      rintro e W3 (⟨rfl, hJ3, hk3⟩ | ⟨rfl, hJx3⟩)
      · gi_wp2
        go_roundw
        case rel => exact ⟨k + 1, by have := HK.out.1; omega, by go_num, hJ3, hnx.trans hk3⟩
        case measure => have := HK.out.1; simp [intOf]; omega
      · gi_wp2
        refine bodyPost_ret (results_none rfl _ _ _) rfl ?_
        exact ⟨⟨_, rfl⟩, .inr ⟨_, trivial, hJx3⟩⟩
    · obtain rfl : k = zs.length := by omega
      gi_wp2
      go_end0
      exact ⟨⟨_, rfl⟩, .inl ⟨_, rfl, by rw [List.take_length] at hJs; exact hJs⟩⟩

set_option maxHeartbeats 1000000 in
theorem svals_in (F : Fence) (n : Nat) (h6 : F.fn 40) (hro : F.round = none) (a : Option Addr) (len cap : Nat) (w : World) :
    CallsIn F n Try.prog 40 #[.slice a len cap] w fun e w' => e = .returned (.func (.func 65) #[] #[.pointer (some ⟨w.heap.size, 0, none⟩)]) ∧ w' = w.alloc (.cells #[.slice a len cap] 37) := by
  refine callsIn_of_wp Try.func40 rfl h6 ?_ hro
  simp only [Try.ntmps40, List.size_toArray, List.length_cons, List.length_nil, Nat.reduceAdd, Nat.reduceSub, Array.replicate_succ, Array.replicate_zero, List.push_toArray, List.append_toArray, List.nil_append, List.cons_append]
  gi_wp2
  go_ret
  exact ⟨rfl, rfl⟩

theorem svals_stops (F : Fence) (n : Nat) (h8 : F.fn 65) (hro : F.round = none) (hn : 1 ≤ n) (Bs n₀ : Nat) (sv : Value) (zs : List Int) (hreach : zs.length ≤ 1000000) (w : World) (hBs : Bs < n₀) (hn₀ : n₀ ≤ w.heap.size)
    (hc : w.cell? ⟨Bs, 0, none⟩ = some sv) (hI : HInts n₀ w sv zs) :
    SeqStopsK F n Try.prog 65 #[.pointer (some ⟨Bs, 0, none⟩)] (fun x : Int => #[Value.int .i64 x]) (Below n₀) (fun ys => ys = zs) (fun _ => True) zs.length w := fun l J Jx W hW _ _ hY h0 => by
  have hc' := (hW.cell (p := ⟨Bs, 0, none⟩) (Nat.lt_of_lt_of_le hBs hn₀)).trans hc
  exact svals1_in F n h8 hro hn l Bs n₀ sv zs hreach J Jx hY W hc' hBs (hI.below (hW.mono hn₀)) h0

/-- The slice that grows, in its box. -/
def Grows (B : Nat) (pre : List Int) (W : World) : Prop := ∃ v, Blk W B 37 [v] ∧ W.ownsRow B 3 1 v pre.length (ints pre)
theorem Grows.turn {B D : Nat} {pre : List Int} {W W' : World} {row : Option Nat} (h : Grows B pre W) (hg : W.grownBy W' row) (hr : ∀ r, row = some r → D ≤ r ∧ ∃ o : Obj, W.heap[r]? = some o ∧ o.isCells = false) : Grows B pre W' := by
  obtain ⟨v, hB, ho⟩ := h
  have hs : Stay (fun k => row = some k) W W' := Stay.of_grown hg (fun _ _ e => e)
  have nc : ∀ k, IsC W k → ¬ row = some k := fun k hk e => by
    obtain ⟨o, ho, hc⟩ := hk
    obtain ⟨_, o', ho', hc'⟩ := hr k e
    rw [ho] at ho'
    cases ho'
    rw [hc] at hc'
    cases hc'
  exact ⟨v, hs.blk hB (nc _ hB.isC), own_stay hs ho (fun g hg => nc g (own_isC ho g hg))⟩

set_option maxRecDepth 100000 in
set_option maxHeartbeats 4000000 in
theorem appendSeq_in (w : World) (Bs : Nat) (sv : Value) (zs : List Int) (hreach : zs.length ≤ 1000000) (hB : Bs < w.heap.size) (hc : w.cell? ⟨Bs, 0, none⟩ = some sv) (hI : HInts w.heap.size w sv zs) :
    Calls Try.prog 78 #[.slice none 0 0, .func (.func 65) #[] #[.pointer (some ⟨Bs, 0, none⟩)]] w fun e w' => ∃ v, e = .returned v ∧ w'.ownsRow w.heap.size 3 1 v zs.length (ints zs) ∧ Only w w' := by
  obtain ⟨ii, hii0, hii1, hii2, hii3⟩ := info_parts infoI
  obtain ⟨w0, hw0⟩ : ∃ w0 : World, w0 = w.alloc (.cells #[.slice none 0 0] 37) := ⟨_, rfl⟩
  have hO0 : Only w w0 := by rw [hw0]; exact (Stay.refl _ w).alloc _
  have hz0 : w0.heap.size = w.heap.size + 1 := by rw [hw0]; simp
  have hB0 : Blk w0 w.heap.size 37 [.slice none 0 0] := by rw [hw0]; exact Blk.new w [.slice none 0 0] _
  have hc0 : w0.cell? ⟨Bs, 0, none⟩ = some sv := hO0.cell hc
  have hI0 : HInts w.heap.size w0 sv zs := hI.below (Stay.below hO0 (Nat.le_refl _) (fun _ _ => id))
  have H := Lib.hid (And.intro hO0 (And.intro hB0 (And.intro hc0 hI0)))
  clear hO0 hB0 hc hI hc0 hI0
  refine (callsIn_wide (n := 8)).1 ?_
  refine callsIn_of_wp_marks Try.func78 rfl trivial ?_ rfl
  simp only [Try.ntmps78, List.size_toArray, List.length_cons, List.length_nil, Nat.reduceAdd, Nat.reduceSub, Array.replicate_succ, Array.replicate_zero, List.push_toArray, List.append_toArray, List.nil_append, List.cons_append]
  gi_wp2_with fail
  rw [← hw0]
  clear hw0
  refine wpIn_rangeFunc_ownG rfl (by omega) (gf := 65) (lb := #[.pointer (some ⟨Bs, 0, none⟩)]) rfl trivial (enters_of Try.func65 (by kernel_rfl) rfl)
    (svals_stops Fence.wide _ trivial rfl (by omega) Bs w.heap.size sv zs hreach w0 hB (by omega) H.out.2.2.1 H.out.2.2.2) belowK_t (belowK_b (by omega)) (Below.refl _ _) (fun _ => rfl)
    (fun (pre : List Int) W => Grows w.heap.size pre W ∧ Below w.heap.size w W)
    (fun c (pre : List Int) W => False)
    (OwnFrom.and (fun pre W W' row h hg hr => h.turn hg hr) (ownFrom_below (Nat.le_refl _) (by omega)))
    (fun c pre W W' row hs hg hr => hs)
    ⟨⟨_, H.out.2.1, World.ownsRow_nil _ _ _ _⟩, Stay.below H.out.1 (Nat.le_refl _) (fun _ _ => id)⟩
    (fun (y : Int) => { tmps := #[.slice none 0 0, .func (.func 65) #[] #[.pointer (some ⟨Bs, 0, none⟩)], .pointer (some ⟨w.heap.size, 0, none⟩), undef, .slice none 0 0, .int .i64 y, .func (.func 65) #[] #[.pointer (some ⟨Bs, 0, none⟩)], .int .i64 y, undef, undef, undef, undef, undef], defers := [] }) ?assign ?body ?done ?stop
  case assign =>
    intro l y W K hK
    gi_wp2
    exact hK
  case body =>
    rintro l pre y W ⟨⟨v, hB, hv⟩, hb⟩ hpl
    obtain ⟨A, c, rfl⟩ := own_shape hv
    have k0 := hB.cell
    have l0 := hB.lt
    have f0 := hB.free
    have hv' := Lib.hid hv
    have hWz := hb.size
    have HW := Lib.hid (And.intro hB (And.intro hb hpl))
    clear hB hb hpl hv
    gi_wp2_with (gi_at_builtin; refine wpListIn_append_own_at _ rfl _ _ _ rfl w.heap.size 3 ii _ 1 8 Try.underlying37 hii0 hii1 hii2 hii3 rfl (by omega) _ pre.length _ (by rfl) (own_alloc hv'.out _) ⟨W.heap.size, 0, none⟩ 1 1 [.int .i64 y] (by rfl) (by rfl) (World.news_of_block (cs := [Value.int .i64 y].toArray) (t := 3) (fr := (0, 0)) (heap_alloc_at' _ _ _ (by simp))) (by simp [Value.oneCell']) (by have := HW.out.2.2; simp only [maxLen]; omega) (by have := HW.out.2.2; omega) (by simp; omega) ?_; intro v1 w1 hown hgrow hnil hat; obtain ⟨A1, c11, hv1⟩ := own_shape hown; subst hv1; have BH := (grown_stay hgrow).blk (HW.out.1.alloc _) (fun e => own_ne_blk hv'.out HW.out.1 (by decide) _ e rfl); have c1 := BH.cell; have f1 := BH.free; have l1 := BH.lt; have HG := Lib.hid (And.intro hown (And.intro (grown_stay hgrow) (And.intro hat BH))); clear hown hgrow hat hnil BH)
    have hBn := HG.out.2.2.2.set 0 (.slice A1 (pre.length + 1) c11)
    have hgb : ∀ g, (Value.slice A1 (pre.length + 1) c11).ownBlock = some g → g ≠ w.heap.size := own_ne_blk HG.out.1 HG.out.2.2.2 (by decide)
    have hrow : (w1.setCell ⟨w.heap.size, 0, none⟩ (.slice A1 (pre.length + 1) c11)).ownsRow w.heap.size 3 1 (.slice A1 (pre.length + 1) c11) (pre.length + 1) (ints pre ++ [.int .i64 y]) := own_set HG.out.1 _ (fun g hg => hgb g hg)
    have hst : Stay (fun j => j = w.heap.size ∨ (Value.slice A pre.length c).ownBlock = some j) W (w1.setCell ⟨w.heap.size, 0, none⟩ (.slice A1 (pre.length + 1) c11)) := ((((Stay.refl (fun j => j = w.heap.size ∨ (Value.slice A pre.length c).ownBlock = some j) W).alloc _).trans HG.out.2.1 (fun _ _ h => .inr h))).put (.inl rfl) _ _
    have hlow : ∀ j, (j = w.heap.size ∨ (Value.slice A pre.length c).ownBlock = some j) → w.heap.size ≤ j := fun j hj => by
      rcases hj with rfl | h
      · exact Nat.le_refl _
      · exact (own_lt hv'.out j h).1
    refine ⟨keepsFrom_of hst (fun j hj => ?_), Stay.below hst (Nat.le_of_lt l0) (fun i hi hj => by have := hlow i hj; omega), ⟨_, hBn, ?_⟩, HW.out.2.1.trans (Stay.below hst (Nat.le_of_lt l0) (fun i hi hj => by have := hlow i hj; omega))⟩
    · rcases hj with rfl | h
      · exact .inl (by omega)
      · exact .inr (own_isC hv'.out j h)
    · have e : (pre ++ [y]).length = pre.length + 1 := by simp
      rw [e]
      simpa [ints] using hrow
  case done =>
    rintro D xs W hD rfl ⟨⟨v, hB, hv⟩, hb⟩ hK
    have k0 := hB.cell
    have l0 := hB.lt
    have HD := Lib.hid (And.intro hB (And.intro hv (And.intro hb hK)))
    clear hB hv hb hK
    gi_wp2_with fail
    have hsD : Stay (fun j => j = D) W (W.putObj D (.deferred none)) := Stay.of_grown (grownBy_putObj' _ D (.deferred none)) (fun k _ e => by cases e; rfl)
    refine ⟨by simp, .inl ⟨_, _, rfl, run_takeDeferred HD.out.2.2.2, ?_⟩⟩
    refine ⟨v, by simp [results, Try.f78, go_sem], v, rfl, ?_, ?_⟩
    · refine own_stay hsD HD.out.2.1 (fun g hg e => ?_)
      obtain ⟨o, ho, hcc⟩ := own_isC HD.out.2.1 g hg
      rw [e, HD.out.2.2.2] at ho
      cases ho
      cases hcc
    · exact (Stay.of_below HD.out.2.2.1 : Only w W).trans hsD (fun j hj e => by omega)
  case stop =>
    rintro D c pre W hD _ h
    exact h.elim


set_option maxRecDepth 100000 in
set_option maxHeartbeats 1000000 in
theorem sortedV_any (w : World) (Bs : Nat) (sv : Value) (zs : List Int) (hreach : zs.length ≤ 1000000) (hB : Bs < w.heap.size) (hc : w.cell? ⟨Bs, 0, none⟩ = some sv) (hI : HInts w.heap.size w sv zs) :
    Calls Try.prog 39 #[.func (.func 65) #[] #[.pointer (some ⟨Bs, 0, none⟩)]] w fun e w' => ∃ v, e = .returned v ∧ w'.ownsRow w.heap.size 3 1 v zs.length (ints (srt zs)) ∧ Only w w' := by
  have hcol : Calls Try.prog 64 #[.func (.func 65) #[] #[.pointer (some ⟨Bs, 0, none⟩)]] w fun e w' => ∃ v, e = .returned v ∧ w'.ownsRow w.heap.size 3 1 v zs.length (ints zs) ∧ Only w w' := by
    have H := Lib.hid (And.intro hB (And.intro hc hI))
    clear hB hc hI
    go_enter Try.func64, Try.ntmps64
    go_wp2_with fail
    refine (appendSeq_in w Bs sv zs hreach H.out.1 H.out.2.1 H.out.2.2).mono ?_
    rintro e w1 ⟨v, rfl, h1, h2⟩
    have H1 := Lib.hid (And.intro h1 h2)
    clear h1 h2
    go_wp2_with fail
    go_ret
    exact ⟨v, rfl, H1.out⟩
  have HC := Lib.hid hcol
  clear hcol hB hc hI
  go_enter Try.func39, Try.ntmps39
  go_wp2_with fail
  refine HC.out.mono ?_
  rintro e w1 ⟨v, rfl, h1, h2⟩
  have H1 := Lib.hid (And.intro h1 h2)
  clear h1 h2
  go_wp2_with fail
  refine (sortI_any w1 w.heap.size v zs H1.out.1 (by omega)).mono ?_
  rintro e w2 ⟨rfl, h21, h22⟩
  have H2 := Lib.hid (And.intro h21 (H1.out.2.trans h22 (fun i hi e => by have := (own_lt H1.out.1 i e).1; omega)))
  clear h21 h22
  go_wp2_with fail
  go_ret
  exact ⟨v, rfl, H2.out⟩

end Go.Proofs.Ytgjicobfbdikmaa
