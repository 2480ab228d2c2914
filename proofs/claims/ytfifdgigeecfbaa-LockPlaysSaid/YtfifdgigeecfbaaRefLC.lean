/- The reference's Stuck; agree; play. -/
import Derived.Test.YtfifdgigeecfbaaLawLockFree
import Derived.Test.YtfifdgigeecfbaaRefLB
import Derived.Test.YtfifdgigeecfbaaLockMade
import Derived.Test.YtfifdgigeecfbaaLawLockCopies
import Derived.Test.YtfifdgigeecfbaaLockRun
import Derived.Deep.DeepCutAuto
import Derived.Deep.CutBlock
set_option linter.unusedVariables false
set_option linter.unusedSimpArgs false
namespace Go.Proofs.Ytfifdgigeecfbaa
open Go Go.RowKit

theorem srt_self {l : List Int} (h : l.Pairwise (fun a b => a ≤ b)) : srt l = l :=
  ((srt_perm_self l).eq_of_pairwise (le := fun a b : Int => a ≤ b) (fun a b _ _ h1 h2 => by omega) (srt_sorted l) h)
theorem srt_push {l : List Int} {x : Int} : srt (srt l ++ [x]) = srt (l ++ [x]) := srt_perm ((srt_perm_self l).append_right _)
/-- x stands at k among what was sorted. -/
theorem ins_done {acc : List Int} {x : Int} {k : Nat} (ha : acc.Pairwise (fun a b => a ≤ b)) (hk : k ≤ acc.length) (hd : ∀ y ∈ acc.drop k, x < y) (hs : k = 0 ∨ ∃ y, acc[k - 1]? = some y ∧ y ≤ x) :
    acc.take k ++ x :: acc.drop k = srt (acc ++ [x]) := by
  have hp : (acc.take k ++ x :: acc.drop k).Perm (acc ++ [x]) := by
    have e : acc ++ [x] = acc.take k ++ (acc.drop k ++ [x]) := by rw [← List.append_assoc, List.take_append_drop]
    rw [e]
    exact List.Perm.append_left _ (List.perm_append_singleton x _).symm
  rw [← srt_perm hp]
  symm
  apply srt_self
  have ha' := ha
  rw [← List.take_append_drop k acc, List.pairwise_append] at ha'
  rw [List.pairwise_append]
  have hx : ∀ a ∈ acc.take k, a ≤ x := fun a hm => by
    rcases hs with h0 | ⟨y, hy, hyx⟩
    · subst h0
      simp at hm
    · obtain ⟨j, hj, rfl⟩ := List.getElem_of_mem hm
      rw [List.length_take] at hj
      rw [List.getElem_take]
      obtain ⟨hk1, rfl⟩ := List.getElem?_eq_some_iff.1 hy
      by_cases e : j = k - 1
      · subst e; exact hyx
      · have := List.pairwise_iff_getElem.1 ha j (k - 1) (by omega) hk1 (by omega)
        omega
  refine ⟨ha'.1, List.pairwise_cons.2 ⟨fun a hm => by have := hd a hm; omega, ha'.2.1⟩, fun a hm b hb => ?_⟩
  rcases List.mem_cons.1 hb with rfl | hb
  · exact hx a hm
  · exact ha'.2.2 a hm b hb
/-- The list with x at k, cell by cell. -/
theorem ins_at {acc : List Int} {x : Int} {k : Nat} (hk : k ≤ acc.length) : (acc.take k ++ x :: acc.drop k)[k]? = some x := by
  rw [List.getElem?_append_right (by rw [List.length_take]; omega), List.length_take, show k - min k acc.length = 0 by omega]
  rfl
theorem ins_before {acc : List Int} {x : Int} {k : Nat} (h0 : 0 < k) (hk : k ≤ acc.length) : (acc.take k ++ x :: acc.drop k)[k - 1]? = acc[k - 1]? := by
  rw [List.getElem?_append_left (by rw [List.length_take]; omega), List.getElem?_take_of_lt (by omega)]
/-- One exchange. -/
theorem ins_swap {acc : List Int} {x y : Int} {k : Nat} (h0 : 0 < k) (hk : k ≤ acc.length) (hy : acc[k - 1]? = some y) :
    ((acc.take k ++ x :: acc.drop k).set k y).set (k - 1) x = acc.take (k - 1) ++ x :: acc.drop (k - 1) := by
  obtain ⟨hk1, hy1⟩ := List.getElem?_eq_some_iff.1 hy
  have e1 : acc.take k = acc.take (k - 1) ++ [y] := by
    have := List.take_succ_eq_append_getElem hk1
    rw [show k - 1 + 1 = k by omega, hy1] at this
    exact this
  have e2 : acc.drop (k - 1) = y :: acc.drop k := by
    have := List.drop_eq_getElem_cons hk1
    rw [show k - 1 + 1 = k by omega, hy1] at this
    exact this
  have l1 : (acc.take (k - 1)).length = k - 1 := by rw [List.length_take]; omega
  rw [e1, e2, List.append_assoc]
  rw [List.set_append_right _ _ (by omega), l1, show k - (k - 1) = 1 by omega]
  simp only [List.cons_append, List.nil_append, List.set_cons_succ, List.set_cons_zero]
  rw [List.set_append_right _ _ (by omega), l1, show k - 1 - (k - 1) = 0 by omega]
  rfl
theorem ins_drop {acc : List Int} {x y : Int} {k : Nat} (h0 : 0 < k) (hk : k ≤ acc.length) (hy : acc[k - 1]? = some y) (hd : ∀ z ∈ acc.drop k, x < z) (hx : x < y) : ∀ z ∈ acc.drop (k - 1), x < z := fun z hz => by
  obtain ⟨hk1, hy1⟩ := List.getElem?_eq_some_iff.1 hy
  have e2 : acc.drop (k - 1) = y :: acc.drop k := by
    have := List.drop_eq_getElem_cons hk1
    rw [show k - 1 + 1 = k by omega, hy1] at this
    exact this
  rw [e2] at hz
  rcases List.mem_cons.1 hz with rfl | hz
  · exact hx
  · exact hd z hz
theorem ins_length {acc : List Int} {x : Int} {k : Nat} (hk : k ≤ acc.length) : (acc.take k ++ x :: acc.drop k).length = acc.length + 1 := by simp; omega

/-- Beside nothing. -/
theorem StsR.x {w : World} {A : Option Addr} {n c : Nat} {ks : List Lk} (h : StsR w A n c ks) : StsX w (fun _ => False) A n c ks := by
  obtain ⟨vs, h1, h2, h3, h4⟩ := h
  refine ⟨vs, h1, h2, h3, fun _ _ _ hx => hx.elim, fun i k hv wv hk hv' => ?_⟩
  obtain ⟨a1, a2, a3, a4, e1, e2, h5⟩ := h4 i k hv wv hk hv'
  exact ⟨a1, a2, a3, a4, e1, e2, h5, fun _ _ _ hx => hx.elim, fun _ _ _ hx => hx.elim⟩

set_option maxRecDepth 100000 in
set_option maxHeartbeats 8000000 in
theorem rstuck_any (w : World) (A : Option Addr) (c : Nat) (t : Tb) (d : Int) (h : StsR w A t.ls.length c t.ls) (hok : t.Ok d) (hc : t.Cons) (hd : d ≤ 1000000) :
    Calls Try.prog 47 #[tv A t.ls.length c] w fun e w' => ∃ A' c', e = .returned (.slice A' t.stuck.length c') ∧ Sl w' w'.heap.size A' t.stuck.length c' 1 (ints t.stuck) ∧ Only w w' := by
  obtain ⟨_, b1, b2⟩ := h.bounds
  have hn := hok.n
  obtain ⟨ii, hii0, hii1, hii2, hii3⟩ := info_parts infoI
  have hO1 : Only w (w.alloc (.cells #[.slice A t.ls.length c] 57)) := (Stay.refl _ w).alloc _
  have HO := Lib.hid (And.intro hO1 (Blk.newAt w [.slice A t.ls.length c] 57 w.heap.size rfl))
  have H := Lib.hid (And.intro hok (And.intro hc (((h.x.more (Y := fun b => b = w.heap.size) (fun b hb => by omega)).only hO1).sub (Y := fun b => b = w.heap.size) (fun b hb => .inr hb))))
  clear h hok hc hO1
  unfold tv
  go_enter Try.func47, Try.ntmps47
  go_wp2_with fail
  go_loopg [3] (t.meas + 1) (fun kk va wr => ∃ (t' : Tb) (A' : Option Addr) (c' : Nat) (again : Bool), va = .bool again ∧ kk = (if again then t'.meas + 1 else 0) ∧ t'.Ok d ∧ t'.Cons ∧ t'.nf = t.nf ∧ (again = false → t'.pick = none) ∧ Only w wr ∧ Blk wr w.heap.size 57 [.slice A' t'.ls.length c'] ∧ StsX wr (fun b => b = w.heap.size) A' t'.ls.length c' t'.ls)
  case atStart => exact ⟨t, A, c, true, rfl, rfl, H.out.1, H.out.2.1, rfl, (fun h => by cases h), HO.out.1, HO.out.2, H.out.2.2⟩
  case round =>
    obtain ⟨t', A', c', again, rfl, hk, hok', hc', hnf, hag, hO, hB, hst⟩ := hrel
    obtain ⟨w3, rfl⟩ : ∃ w3 : World, w3 = wr := ⟨_, rfl⟩
    have hn' := hok'.n
    cases again with
    | true =>
      have c1 := hB.cell
      have l1 := hB.lt
      have HX := Lib.hid (And.intro hk (And.intro hok' (And.intro hc' (And.intro hnf (And.intro hO (And.intro hB hst))))))
      clear hk hok' hc' hnf hag hO hB hst
      go_wp2_with fail
      refine (rfreed_any w3 (fun b => b = w.heap.size) A' c' t' d HX.out.2.2.2.2.2.2 (fun b hb => by omega) HX.out.2.1 HX.out.2.2.1 hd).mono ?_
      rintro e w4 ⟨v4, rfl, A4, c4, rfl, hst4, hO4⟩
      obtain ⟨t2, ht2⟩ : ∃ t2, t'.frees.getD t' = t2 := ⟨_, rfl⟩
      obtain ⟨ag, hag⟩ : ∃ ag, t'.frees.isSome = ag := ⟨_, rfl⟩
      rw [ht2] at hst4 ⊢
      rw [hag]
      have hfacts : t2.Ok d ∧ t2.Cons ∧ t2.nf = t.nf ∧ (ag = false → t2.pick = none) ∧ (ag = true → t2.meas + 1 = t'.meas) := by
        cases hf : t'.frees with
        | none =>
          rw [hf] at ht2 hag
          simp at ht2 hag
          subst ht2 hag
          refine ⟨HX.out.2.1, HX.out.2.2.1, HX.out.2.2.2.1, fun _ => ?_, (fun h => by cases h)⟩
          unfold Tb.frees at hf
          cases hp : t'.pick with
          | none => rfl
          | some x => rw [hp] at hf; cases hf
        | some u =>
          rw [hf] at ht2 hag
          simp at ht2 hag
          subst ht2 hag
          have hu := frees_ok HX.out.2.1 hf
          exact ⟨hu, frees_cons HX.out.2.1 HX.out.2.2.1 hf, by rw [← nf_step HX.out.2.1 hf]; exact HX.out.2.2.2.1, (fun h => by cases h), fun _ => frees_meas HX.out.2.1 hf⟩
      have hB4 := hO4.blk HX.out.2.2.2.2.2.1
      clear c1 l1
      have c1 := hB4.cell
      have l1 := hB4.lt
      have f1 := hB4.free
      have H4 := Lib.hid (And.intro hst4 (And.intro hO4 (And.intro hfacts hB4)))
      clear hst4 hO4 hfacts hB4 ht2 hag
      unfold tv
      go_wp2_with fail
      go_roundg (if ag then t2.meas + 1 else 0)
      case measure =>
        have h1 := HX.out.1
        have h2 := H4.out.2.2.1.2.2.2.2
        cases ag with
        | true => have := h2 rfl; simp at h1 ⊢; omega
        | false => simp at h1 ⊢; omega
      case rel =>
        obtain ⟨f2, f3, f4, f5, f6⟩ := H4.out.2.2.1
        refine ⟨t2, A4, c4, ag, rfl, rfl, f2, f3, f4, f5, Mine.stay ((Mine.only (HX.out.2.2.2.2.1.trans' H4.out.2.1)).put (Nat.le_refl _) _ _), ?_, H4.out.1.stay (Stay.put (S := fun b => b = w.heap.size) (Stay.refl _ w4) rfl _ _)⟩
        have := H4.out.2.2.2.set 0 (.slice A4 t2.ls.length c4)
        exact this
    | false =>
      have c1 := hB.cell
      have l1 := hB.lt
      have q1 := hst.rd.bounds
      have hq1 := q1.2.1
      have hq2 := q1.2.2
      have HX := Lib.hid (And.intro hO (And.intro hst.rd (And.intro (waiters_stuck H.out.1 H.out.2.1 hok' hc' hnf (hag rfl)) hok')))
      clear hk hok' hc' hnf hag hO hB hst q1
      go_wp2_with fail
      go_loopg [4, 20] (t'.ls.length) (fun kk vx vi wr => ∃ (i : Nat) (vo : Value) (acc : List Int), vo = vx ∧ i ≤ t'.ls.length ∧ kk = t'.ls.length - i ∧ vi = .int .i64 (i : Nat) ∧ wr.ownsRow w3.heap.size 3 1 vo acc.length (ints acc) ∧ acc = srt (Tb.waiters (t'.ls.take i)) ∧ acc.length ≤ 1000000 * i ∧ Only w3 wr)
      case atStart => exact ⟨0, _, [], rfl, Nat.zero_le _, rfl, rfl, World.ownsRow_nil _ _ _ _, by simp [Tb.waiters, srt], Nat.le_refl _, Stay.refl _ _⟩
      case round =>
        obtain ⟨i, vo, acc, rfl, hi, hk, rfl, hown, hacc, hal, hO⟩ := hrel
        obtain ⟨w4, rfl⟩ : ∃ w4 : World, w4 = wr := ⟨_, rfl⟩
        by_cases hlt : i < t'.ls.length
        · obtain ⟨k, hkk⟩ : ∃ k, t'.ls[i]? = some k := ⟨_, List.getElem?_eq_getElem hlt⟩
          obtain ⟨xb, xo, A1, c1', A2, c2', rfl, hxb3, hxc3, hr1⟩ := HX.out.2.1.elem hkk
          have hxb : xb < w4.heap.size := Nat.lt_of_lt_of_le hxb3 hO.size
          have e0 := hO.cell (hxc3 0 _ rfl)
          have e1 := hO.cell (hxc3 1 _ rfl)
          have e2 := hO.cell (hxc3 2 _ rfl)
          have e3 := hO.cell (hxc3 3 _ rfl)
          simp only [Nat.add_zero] at e0
          have hwd : (k.waiting.length : Int) ≤ d := (HX.out.2.2.2.lk k (List.mem_of_getElem? hkk)).wlen
          have q3 := hr1.ws.2.1
          have q4 := hr1.ws.2.2.1
          have htk : Hid _ := Lib.hid (show Tb.waiters (t'.ls.take (i + 1)) = Tb.waiters (t'.ls.take i) ++ k.waiting by
            rw [List.take_succ_eq_append_getElem hlt, (List.getElem?_eq_some_iff.1 hkk).2]
            simp [Tb.waiters])
          have hO1 : Only w4 (w4.alloc (.cells (stc k A1 c1' A2 c2').toArray 42)) := (Stay.refl _ w4).alloc _
          have HY := Lib.hid (And.intro hk (And.intro (hO.trans' hO1) (And.intro hr1 (And.intro hown (And.intro hacc hal)))))
          clear hk hO hr1 hxb3 hxc3 hkk hown hacc hal hO1
          go_wp2_with fail
          go_loopg [4, 27] (k.waiting.length) (fun kk vx vj wr => ∃ (j : Nat) (vp : Value) (acc2 : List Int), vp = vx ∧ j ≤ k.waiting.length ∧ kk = k.waiting.length - j ∧ vj = .int .i64 (j : Nat) ∧ wr.ownsRow w3.heap.size 3 1 vp acc2.length (ints acc2) ∧ acc2 = srt (Tb.waiters (t'.ls.take i) ++ k.waiting.take j) ∧ acc2.length = acc.length + j ∧ Only w3 wr)
          case atStart => exact ⟨0, _, acc, rfl, Nat.zero_le _, rfl, rfl, own_alloc HY.out.2.2.2.1 _, by rw [HY.out.2.2.2.2.1]; simp, rfl, HY.out.2.1⟩
          case round =>
            obtain ⟨j, vp, acc2, rfl, hj, hk2, rfl, hown2, hacc2, hal2, hO2⟩ := hrel
            obtain ⟨w5, rfl⟩ : ∃ w5 : World, w5 = wr := ⟨_, rfl⟩
            by_cases hlt2 : j < k.waiting.length
            · obtain ⟨x, hx⟩ : ∃ x, k.waiting[j]? = some x := ⟨_, List.getElem?_eq_getElem hlt2⟩
              obtain ⟨yb, yo, rfl, hyb, hyc⟩ := (HY.out.2.2.1.only hO2).ws.ints_at (by omega)
              have y0 := hyc j hlt2
              rw [List.getD_eq_getElem?_getD, hx] at y0
              simp only [Option.getD_some] at y0
              have hsz := hO2.size
              have htk2 : Hid _ := Lib.hid (show k.waiting.take (j + 1) = k.waiting.take j ++ [x] by
                rw [List.take_succ_eq_append_getElem hlt2, (List.getElem?_eq_some_iff.1 hx).2])
              have hl5 : acc2.length ≤ 1000000 * i + j := by have := HY.out.2.2.2.2.2; omega
              have HZ := Lib.hid (And.intro hk2 (And.intro hO2 (And.intro hown2 (And.intro hacc2 hal2))))
              clear hk2 hO2 hown2 hacc2 hal2 hyc hx e0 e1 e2 e3
              go_upto_region 12 with (at_builtin; refine wpList_append_lies _ rfl _ _ _ rfl w3.heap.size 3 ii _ 1 8 Try.underlying29 hii0 hii1 hii2 hii3 rfl (by omega) _ acc2.length _ (by rfl) (own_alloc HZ.out.2.2.1 _) ⟨w5.heap.size, 0, none⟩ 1 1 [.int .i64 x] (by rfl) (by rfl) (World.news_of_block (cs := [Value.int .i64 x].toArray) (t := 3) (fr := (0, 0)) (heap_alloc_at' _ _ _ (by simp))) (by simp [Value.oneCell']) (by omega) (by simp only [maxLen]; omega) (by omega) (by simp; omega) (w5.heap.size + 1) (by simp) ?_; intro g cap w6 hown hgrow hat hlt3)
              have hO36 : Only w3 w6 := Mine.stay ((Mine.only (HZ.out.2.1.trans' ((Stay.refl _ w5).alloc (.cells [.int .i64 x].toArray 3)))).trans (Stay.mono (grown_stay hgrow) (fun i _ hi => (own_lt HZ.out.2.2.1 i hi).1)))
              have HG := Lib.hid (And.intro hown hO36)
              clear hown hgrow hat hlt3 hO36 y0
              go_wp2_with fail
              go_loopg [9] (acc2.length) (fun kk vk wr => ∃ (q : Nat), q ≤ acc2.length ∧ kk = q ∧ vk = .int .i64 (q : Nat) ∧ wr.ownsRow w3.heap.size 3 1 (.slice (some ⟨g, 0, none⟩) (acc2.length + 1) cap) (acc2.length + 1) (ints (acc2.take q ++ x :: acc2.drop q)) ∧ (∀ z ∈ acc2.drop q, x < z) ∧ Only w3 wr)
              case atStart => exact ⟨acc2.length, Nat.le_refl _, rfl, by go_num, by rw [List.take_length, List.drop_length]; simpa [ints] using HG.out.1, by rw [List.drop_length]; simp, HG.out.2⟩
              case round =>
                obtain ⟨q, hq, hk3, rfl, hown3, hgt, hO3⟩ := hrel
                obtain ⟨w7, rfl⟩ : ∃ w7 : World, w7 = wr := ⟨_, rfl⟩
                have z0 := hown3.cellAt q (by omega)
                rw [show (ints (acc2.take q ++ x :: acc2.drop q))[q]? = some (.int .i64 x) by unfold ints; rw [List.getElem?_map, ins_at hq]; rfl] at z0
                have fz := hown3.frozenAt
                have hgl := (own_lt hown3 g rfl).2
                by_cases hq0 : 0 < q
                · obtain ⟨y, hy⟩ : ∃ y, acc2[q - 1]? = some y := ⟨_, List.getElem?_eq_getElem (by omega)⟩
                  have z1 := hown3.cellAt (q - 1) (by omega)
                  rw [show (ints (acc2.take q ++ x :: acc2.drop q))[q - 1]? = some (.int .i64 y) by unfold ints; rw [List.getElem?_map, ins_before hq0 hq, hy]; rfl] at z1
                  have HV := Lib.hid (And.intro hk3 (And.intro hown3 (And.intro hgt (And.intro hO3 hy))))
                  clear hk3 hown3 hgt hO3 hy
                  have hb1 : ((q : Int) > 0) := by omega
                  by_cases hxy : x < y
                  · have hxyh : Hid _ := Lib.hid hxy
                    go_wp2_with fail
                    go_big_region
                    go_wp2_with fail
                    go_roundg (q - 1)
                    case measure => have := HV.out.1; omega
                    case rel =>
                      have o2 := ((HV.out.2.1.stored q (.int .i64 y)).1.stored (q - 1) (.int .i64 x)).1
                      have e := congrArg ints (ins_swap (x := x) hq0 hq HV.out.2.2.2.2)
                      simp only [ints, List.map_set] at e
                      have hg3 := (own_lt HV.out.2.1 g rfl).1
                      have hO7 : Only w3 (((w7.setCell ⟨g, q, none⟩ (.int .i64 y)).setCell ⟨g, q - 1, none⟩ (.int .i64 x)).drew) := (Mine.stay (((Mine.only HV.out.2.2.2.1).put hg3 _ _).put hg3 _ _)).drew
                      refine ⟨q - 1, by omega, rfl, congrArg (Value.int .i64) (by omega), own_only ((Stay.refl _ _).drew) ?_, ins_drop hq0 hq HV.out.2.2.2.2 HV.out.2.2.1 hxyh.out, hO7⟩
                      unfold ints at o2 ⊢
                      rw [e] at o2
                      exact o2
                  · have hxyh : Hid _ := Lib.hid hxy
                    go_wp2_with fail
                    go_big_region
                    go_wp2_with fail
                    go_roundg (k.waiting.length - (j + 1))
                    case measure => have := HZ.out.1; omega
                    case rel =>
                      have hOd : Only w7 w7.drew := (Stay.refl _ w7).drew
                      have hsa : acc2.Pairwise (fun a b => a ≤ b) := by rw [HZ.out.2.2.2.1]; exact srt_sorted _
                      refine ⟨j + 1, _, acc2.take q ++ x :: acc2.drop q, rfl, by omega, rfl, by go_num, by rw [ins_length hq]; exact own_only hOd HV.out.2.1, ?_, by rw [ins_length hq]; have := HZ.out.2.2.2.2; omega, HV.out.2.2.2.1.trans' hOd⟩
                      rw [ins_done hsa hq HV.out.2.2.1 (.inr ⟨y, HV.out.2.2.2.2, by have := hxyh.out; omega⟩), htk2.out, ← List.append_assoc, ← srt_push (l := Tb.waiters (List.take i t'.ls) ++ List.take j k.waiting), ← HZ.out.2.2.2.1]
                · have hb1 : decide ((q : Int) > 0) = false := decide_eq_false (by omega)
                  have HV := Lib.hid (And.intro hk3 (And.intro hown3 (And.intro hgt hO3)))
                  have hqz : q = 0 := by omega
                  clear hk3 hown3 hgt hO3
                  go_wp2_with fail
                  go_big_region
                  go_wp2_with fail
                  go_roundg (k.waiting.length - (j + 1))
                  case measure => have := HZ.out.1; omega
                  case rel =>
                    have hOd : Only w7 w7.drew := (Stay.refl _ w7).drew
                    have hsa : acc2.Pairwise (fun a b => a ≤ b) := by rw [HZ.out.2.2.2.1]; exact srt_sorted _
                    refine ⟨j + 1, _, acc2.take q ++ x :: acc2.drop q, rfl, by omega, rfl, by go_num, by rw [ins_length hq]; exact own_only hOd HV.out.2.1, ?_, by rw [ins_length hq]; have := HZ.out.2.2.2.2; omega, HV.out.2.2.2.trans' hOd⟩
                    rw [ins_done hsa hq HV.out.2.2.1 (.inl hqz), htk2.out, ← List.append_assoc, ← srt_push (l := Tb.waiters (List.take i t'.ls) ++ List.take j k.waiting), ← HZ.out.2.2.2.1]
            · have hje : j = k.waiting.length := by omega
              subst hje
              rw [List.take_length] at hacc2
              have HZ := Lib.hid (And.intro hk2 (And.intro hown2 (And.intro hacc2 (And.intro hal2 hO2))))
              clear hk2 hown2 hacc2 hal2 hO2 e0 e1 e2 e3
              go_wp2_with fail
              go_roundg (t'.ls.length - (i + 1))
              case measure => have := HY.out.1; omega
              case rel => exact ⟨i + 1, _, acc2, rfl, by omega, rfl, by go_num, HZ.out.2.1, by rw [HZ.out.2.2.1, htk.out], by have := HZ.out.2.2.2.1; have := HY.out.2.2.2.2.2; omega, HZ.out.2.2.2.2⟩
        · have hie : i = t'.ls.length := by omega
          subst hie
          rw [List.take_length] at hacc
          obtain ⟨A5, c5, rfl⟩ := own_shape hown
          have he : acc = t.stuck := by rw [hacc]; exact HX.out.2.2.1
          subst he
          have HZ := Lib.hid (And.intro hown (HX.out.1.trans' hO))
          clear hk hown hacc hal hO
          go_wp2_with fail
          go_ret
          exact ⟨A5, c5, rfl, own_sl' HZ.out.1, HZ.out.2⟩

def Lk.zero : Lk := ⟨0, 0, [], []⟩
/-- The state of a lock, or the zero state. -/
def Tb.stk (t : Tb) (n : Int) : Lk := if t.asked n 1 = 0 then (t.ls[(n - 1).toNat]?).getD Lk.zero else Lk.zero
theorem zero_rd (w : World) : Rd w Lk.zero none 0 none 0 := by
  have hh : Lk.zero.holders = [] := by simp [Lk.holders, Lk.zero, srt]
  exact ⟨by rw [hh]; exact Sl.zero _ _ _, Sl.zero _ _ _⟩
theorem zero_stv : stv Lk.zero none 0 none 0 = zst := by
  have hh : Lk.zero.holders = [] := by simp [Lk.holders, Lk.zero, srt]
  unfold stv
  rw [hh]
  rfl
theorem state_rd (w : World) (S : Nat → Prop) (b : Nat) (t : Tb) (d lock : Int) (h : TabAt w S b t) (hok : t.Ok d) (hd : d ≤ 1000000) :
    Calls Try.prog 19 #[.pointer (some ⟨b, 0, none⟩), .int .i64 lock] w fun e w' => ∃ A c A' c', e = .returned (.tuple #[stv (t.stk lock) A c A' c', .int .i64 (t.asked lock 1)]) ∧ Rd w' (t.stk lock) A c A' c' ∧ Only w w' :=
  (state_any w S b t d lock h hok hd).mono fun e w' hp => by
    obtain ⟨hO, hp⟩ := hp
    rcases hp with ⟨h1, rfl⟩ | ⟨k, v, h1, h2, rfl, hv, wv, rfl, r1, r2⟩
    · unfold Tb.stk
      rw [if_neg h1]
      exact ⟨none, 0, none, 0, by rw [zero_stv], zero_rd _, hO⟩
    · unfold Tb.stk
      rw [if_pos h1, h2, h1]
      obtain ⟨A1, c1, rfl⟩ := own_shape r1
      obtain ⟨A2, c2, rfl⟩ := own_shape r2
      exact ⟨A1, c1, A2, c2, rfl, ⟨own_sl' r1, own_sl' r2⟩, hO⟩
theorem rstate_rd (w : World) (A : Option Addr) (c : Nat) (t : Tb) (lock : Int) (h : StsR w A t.ls.length c t.ls) (hn : t.ls.length ≤ 1000000) :
    Calls Try.prog 48 #[tv A t.ls.length c, .int .i64 lock] w fun e w' => ∃ A c A' c', e = .returned (.tuple #[stv (t.stk lock) A c A' c', .int .i64 (t.asked lock 1)]) ∧ Rd w' (t.stk lock) A c A' c' ∧ Only w w' :=
  (rstate_any w A c t lock h hn).mono fun e w' hp => by
    obtain ⟨hp, hO⟩ := hp
    rcases hp with ⟨h1, k, A, c, A', c', h2, rfl, h3⟩ | ⟨h1, rfl⟩
    · unfold Tb.stk
      rw [if_pos h1, h2, h1]
      exact ⟨A, c, A', c', rfl, h3, hO⟩
    · unfold Tb.stk
      rw [if_neg (by omega), h1]
      exact ⟨none, 0, none, 0, by rw [zero_stv], zero_rd _, hO⟩

set_option maxRecDepth 100000 in
set_option maxHeartbeats 8000000 in
theorem agree_any {w W : World} {S : Nat → Prop} {b : Nat} {t : Tb} {d : Int} (h : OT w W S b t d) (hc : t.Cons) (hd : d ≤ 1000000) (A : Option Addr) (c : Nat) (hr : StsR W A t.ls.length c t.ls) :
    Calls Try.prog 27 #[.pointer (some ⟨b, 0, none⟩), tv A t.ls.length c] W fun e w' => e = .returned (.bool true) ∧ Only W w' := by
  obtain ⟨_, b1, b2⟩ := hr.bounds
  have hn := h.ok.n
  have hO1 : Only W (W.alloc (.cells #[.slice A t.ls.length c] 57)) := (Stay.refl _ W).alloc _
  have hB := Blk.newAt W [.slice A t.ls.length c] 57 W.heap.size rfl
  have H := Lib.hid (And.intro h (And.intro hc (And.intro hr (And.intro hO1 hB))))
  have hO0 : ∀ o, Only W ((W.alloc o).drew) := fun o => ((Stay.refl (fun _ => False) W).alloc o).drew
  have HO := Lib.hid hO0
  clear h hc hr hB hO1 hO0
  unfold tv
  go_enter Try.func27, Try.ntmps27
  go_upto_region 1 with fail
  go_region_held3 (fun w' => w'.cell? ⟨W.heap.size, 0, none⟩ = some (.slice A t.ls.length c))
    (first
      | go_keep
      | (first | (apply Only.cell hOz; assumption) | (apply Only.cell hOy; assumption) | (apply Only.cell hOx; assumption)))
    (first
      | (go_at_call 22; refine (ot_stuck (H.out.1.step (HO.out _)) H.out.2.1 hd).mono ?_; rintro e w2 ⟨B1, d1, rfl, hrow, hOx⟩)
      | (go_at_call 47; refine (rstuck_any _ A c t d (H.out.2.2.1.only ((HO.out _).trans' hOx)) H.out.1.ok H.out.2.1 hd).mono ?_; rintro e w3 ⟨B2, d2, rfl, hsl, hOy⟩)
      | (go_at_call 15; refine (eqI_any _ B1 B2 d1 d2 t.stuck t.stuck (own_sl hrow.row hOy) hsl).mono ?_; rintro e w4 ⟨rfl, hOz⟩; simp only [beq_self_eq_true]))
  have hO4 : Only W w4 := (((HO.out _).trans' hOx).trans' hOy).trans' hOz
  have hBt := hOz.blk (hOy.blk (hOx.blk (Blk.newAt W [.slice A t.ls.length c] 57 W.heap.size rfl).drew))
  have HB := Lib.hid (And.intro hO4 hBt)
  clear hOx hOy hOz hO4 hrow hsl hBt
  go_wp2_with fail
  go_loopg [5] (t.ls.length + 2) (fun kk vn wr => ∃ n : Nat, n ≤ t.ls.length + 2 ∧ kk = t.ls.length + 2 - n ∧ vn = .int .i64 (n : Nat) ∧ Only W wr ∧ Blk wr W.heap.size 57 [.slice A t.ls.length c])
  case atStart => exact ⟨0, by omega, rfl, rfl, HB.out.1, HB.out.2⟩
  case round =>
    obtain ⟨n, hnl, hk, rfl, hO, hB⟩ := hrel
    obtain ⟨w5, rfl⟩ : ∃ w5 : World, w5 = wr := ⟨_, rfl⟩
    have c1 := hB.cell
    have l1 := hB.lt
    have HY := Lib.hid (And.intro hk (And.intro hO hB))
    clear hk hO hB
    by_cases hlt : n < t.ls.length + 2
    · have hle : (n : Int) ≤ (t.ls.length : Int) + 1 := by omega
      go_wp2_with fail
      refine (state_rd w5 S b t d n (H.out.1.step HY.out.2.1).lies H.out.1.ok hd).mono ?_
      rintro e w6 ⟨A1, c1', A2, c2', rfl, hr1, hO6⟩
      clear c1 l1
      have hB6 := hO6.blk HY.out.2.2
      have c1 := hB6.cell
      have l1 := hB6.lt
      obtain ⟨k, hkk⟩ : ∃ k, t.stk (n : Int) = k := ⟨_, rfl⟩
      obtain ⟨er, her⟩ : ∃ er, t.asked (n : Int) 1 = er := ⟨_, rfl⟩
      rw [hkk] at hr1 ⊢
      rw [her]
      have hOa : Only w6 (w6.alloc (.cells (stc k A1 c1' A2 c2').toArray 42)) := (Stay.refl _ w6).alloc _
      have H6 := Lib.hid (And.intro hr1 (And.intro hO6 (And.intro (hOa.blk hB6) (And.intro (Blk.new w6 (stc k A1 c1' A2 c2') 42) (And.intro hOa (And.intro hkk her))))))
      clear hr1 hO6 hB6 hkk her hOa
      unfold stv
      go_wp2_with fail
      refine (show Calls _ _ _ (w6.alloc (.cells (stc k A1 c1' A2 c2').toArray 42)) _ from rstate_rd _ A c t n (H.out.2.2.1.only (HY.out.2.1.trans' (H6.out.2.1.trans' H6.out.2.2.2.2.1))) (by omega)).mono ?_
      rintro e w7 ⟨B1, d1, B2, d2, rfl, hr2, hO7⟩
      rw [H6.out.2.2.2.2.2.1] at hr2 ⊢
      rw [H6.out.2.2.2.2.2.2]
      clear c1 l1
      have hB7 := hO7.blk H6.out.2.2.1
      have hS7 := hO7.blk H6.out.2.2.2.1
      have hOb : Only w7 (w7.alloc (.cells (stc k B1 d1 B2 d2).toArray 42)) := (Stay.refl _ w7).alloc _
      have k0 := (hOb.blk hS7).cell
      have kl := (hOb.blk hS7).lt
      have m0 := (Blk.new w7 (stc k B1 d1 B2 d2) 42).cell
      have ml := (Blk.new w7 (stc k B1 d1 B2 d2) 42).lt
      have hOd : ∀ o, Only w7 ((w7.alloc o).drew) := fun o => ((Stay.refl (fun _ => False) w7).alloc o).drew
      have H7 := Lib.hid (And.intro hr2 (And.intro hO7 (And.intro hB7 (And.intro (H6.out.1.only (H6.out.2.2.2.2.1.trans' hO7)) hOd))))
      unfold stc at k0 kl m0 ml
      have z0 := k0 0
      have z1 := k0 1
      have z2 := k0 2
      have z3 := k0 3
      have y0 := m0 0
      have y1 := m0 1
      have y2 := m0 2
      have y3 := m0 3
      simp only [List.getElem?_cons_zero, List.getElem?_cons_succ] at z0 z1 z2 z3 y0 y1 y2 y3
      clear hr2 hO7 hB7 hS7 hOb k0 m0 hOd
      unfold stv
      go_wp2_with fail
      refine (show Calls _ _ _ (w7.alloc (.cells (stc k B1 d1 B2 d2).toArray 42)) _ from same_any _ k A1 A2 B1 B2 c1' c2' d1 d2 (H7.out.2.2.2.1.only ((Stay.refl _ w7).alloc _)) (H7.out.1.only ((Stay.refl _ w7).alloc _))).mono ?_
      rintro e w8 ⟨rfl, hOx⟩
      have hO78 : Only w7 w8 := hOx.behind
      have H8 := Lib.hid (And.intro (HY.out.2.1.trans' (H6.out.2.1.trans' (H6.out.2.2.2.2.1.trans' (H7.out.2.1.trans' hO78)))) (hO78.blk H7.out.2.2.1))
      clear hO78 hOx z0 z1 z2 z3 y0 y1 y2 y3 kl ml
      go_wp2_with fail
      go_roundg (t.ls.length + 2 - (n + 1))
      case measure => have := HY.out.1; omega
      case rel => exact ⟨n + 1, by omega, rfl, by go_num, H8.out.1, H8.out.2⟩
    · have hle : decide ((n : Int) ≤ (t.ls.length : Int) + 1) = false := decide_eq_false (by omega)
      go_wp2_with fail
      go_ret
      exact ⟨rfl, HY.out.2.1⟩

/-- A table in S and the reference's, beside S and X. -/
structure PL (w W : World) (S X : Nat → Prop) (b : Nat) (t : Tb) (d : Int) (A : Option Addr) (c : Nat) : Prop where
  ot : OT w W S b t d
  cons : t.Cons
  st : StsX W (fun k => S k ∨ X k) A t.ls.length c t.ls
/-- The reference's table behind a call on the table; N are own boxes. -/
theorem PL.ref {w W W1 W3 : World} {S X N : Nat → Prop} {b : Nat} {t : Tb} {d : Int} {A : Option Addr} {c : Nat} (h : PL w W S X b t d A c) (hO : Only W W1) (hs : Stay S W1 W3) (hX : ∀ k, X k → k < W.heap.size) (hN : ∀ k, N k → W.heap.size ≤ k ∧ k < W3.heap.size) :
    StsX W3 (fun k => (grow S W1 W3 k ∨ X k) ∨ N k) A t.ls.length c t.ls ∧ ∀ k, ((grow S W1 W3 k ∨ X k) ∨ N k) → k < W3.heap.size := by
  have hz := hO.size
  have hz3 := hs.size
  refine ⟨(((h.st.more (Y := fun k => W.heap.size ≤ k) (fun b hb => hb)).only hO).stay (hs.mono (fun _ _ h => .inl (.inl h)))).sub (fun k hk => ?_), fun k hk => ?_⟩
  · rcases hk with (hk | hk) | hk
    · rcases hk with hk | hk
      · exact .inl (.inl hk)
      · exact .inr (Nat.le_trans hz hk.1)
    · exact .inl (.inr hk)
    · exact .inr (hN k hk).1
  · rcases hk with (hk | hk) | hk
    · exact hk.lt (fun k hk => Nat.lt_of_lt_of_le (h.ot.lies.lt k hk) hz) hz3
    · have := hX k hk; omega
    · exact (hN k hk).2
/-- What stands ahead of the last comparison. -/
def PMid (w W : World) (S X : Nat → Prop) (d : Int) (wc : World) (b : Nat) (A : Option Addr) (c n : Nat) : Prop :=
  ∃ (S' : Nat → Prop) (t : Tb), n = t.ls.length ∧ OT w wc S' b t (d + 1) ∧ t.Cons ∧ StsX wc (fun k => (S' k ∨ X k) ∨ (k = W.heap.size ∨ k = W.heap.size + 2)) A t.ls.length c t.ls ∧
    Blk wc W.heap.size 57 [.slice A n c] ∧ Blk wc (W.heap.size + 2) 57 [.slice none 0 0] ∧ Stay S W wc ∧ (∀ k, S' k → S k ∨ W.heap.size + 3 ≤ k)
/-- The box of the reference's table is written. -/
theorem PMid.mk {w W W1 W3 W4 : World} {S X : Nat → Prop} {b : Nat} {t t' : Tb} {d d' : Int} {A4 : Option Addr} {c4 : Nat} {u : Value} (h : OT w W S b t d) (hO : Only W W1) (h1 : W1.heap.size = W.heap.size + 3) (hs : Stay S W1 W3) (hO4 : Only W3 W4)
    (hot : OT w W3 (grow S W1 W3) b t' d') (hd : d' ≤ d + 1) (hc : t'.Cons) (hst : StsX W4 (fun k => (grow S W1 W3 k ∨ X k) ∨ (k = W.heap.size ∨ k = W.heap.size + 2)) A4 t'.ls.length c4 t'.ls)
    (h4 : Blk W4 W.heap.size 57 [u]) (h7 : Blk W4 (W.heap.size + 2) 57 [.slice none 0 0]) :
    PMid w W S X d ((W4.setCell ⟨W.heap.size, 0, none⟩ (.slice A4 t'.ls.length c4)).alloc (.cells #[.slice A4 t'.ls.length c4] 57)) b A4 c4 t'.ls.length := by
  have hn : ∀ k, S k → k < W.heap.size := h.lies.lt
  have hwz := h.only.size
  have hsz := h1
  have hs3 := hs.size
  have hP : Stay (fun k => k = W.heap.size) W4 ((W4.setCell ⟨W.heap.size, 0, none⟩ (.slice A4 t'.ls.length c4)).alloc (.cells #[.slice A4 t'.ls.length c4] 57)) := ((Stay.refl (fun k => k = W.heap.size) W4).put rfl _ _).alloc _
  have hS' : ∀ k, grow S W1 W3 k → S k ∨ W.heap.size + 3 ≤ k := fun k hk => by
    rcases hk with hk | hk
    · exact .inl hk
    · exact .inr (by omega)
  refine ⟨grow S W1 W3, t', rfl, (((hot.more hd).step hO4).aside hP (fun k hk => by omega) (fun k hk e => ?_)), hc, hst.stay (hP.mono (fun k _ hk => .inr (.inl hk))), ?_, hP.blk h7 (by omega), ?_, hS'⟩
  · rcases hS' k hk with hk | hk
    · have := hn k hk; omega
    · omega
  · have := (h4.set 0 (.slice A4 t'.ls.length c4)).alloc (.cells #[.slice A4 t'.ls.length c4] 57)
    exact this
  · exact (((hO.mono (fun _ _ h => h.elim)).trans (hs.trans hO4 (fun _ _ h => h.elim)) (fun _ _ h => h)).new (Nat.le_refl _) _ _).alloc _

set_option maxRecDepth 100000 in
set_option maxHeartbeats 16000000 in
theorem play_any {w W : World} {S X : Nat → Prop} {b : Nat} {t : Tb} {d : Int} {A : Option Addr} {c : Nat} (h : PL w W S X b t d A c) (hX : ∀ k, X k → k < W.heap.size) (hd : d + 1 ≤ 1000000) (o : Op3) :
    Calls Try.prog 26 #[.pointer (some ⟨b, 0, none⟩), tv A t.ls.length c, .agg #[.int .i64 o.kind, .int .i64 o.lock, .int .i64 o.party]] W fun e w' => ∃ S' b' t' A' c', e = .returned (.tuple #[.pointer (some ⟨b', 0, none⟩), tv A' t'.ls.length c', .bool true]) ∧ PL w w' S' X b' t' (d + 1) A' c' ∧ Stay S W w' ∧ (∀ k, S' k → S k ∨ W.heap.size ≤ k) := by
  obtain ⟨_, b1, b2⟩ := h.st.rd.bounds
  have hn := h.ot.ok.n
  have H := Lib.hid h
  have HX := Lib.hid hX
  obtain ⟨W1, hW1⟩ : ∃ W1 : World, W1 = ((W.alloc (.cells #[.slice A t.ls.length c] 57)).alloc (.cells #[.int .i64 o.kind, .int .i64 o.lock, .int .i64 o.party] 31)).alloc (.cells #[.slice none 0 0] 57) := ⟨_, rfl⟩
  have hO1 : Only W W1 := by rw [hW1]; exact (((Stay.refl _ W).alloc _).alloc _).alloc _
  have hz1 : W1.heap.size = W.heap.size + 3 := by rw [hW1]; simp
  have hB4 : Blk W1 W.heap.size 57 [.slice A t.ls.length c] := by rw [hW1]; exact ((Blk.newAt W [.slice A t.ls.length c] 57 W.heap.size rfl).alloc _).alloc _
  have hB5 : Blk W1 (W.heap.size + 1) 31 [.int .i64 o.kind, .int .i64 o.lock, .int .i64 o.party] := by rw [hW1]; exact (Blk.newAt (W.alloc (.cells #[.slice A t.ls.length c] 57)) [.int .i64 o.kind, .int .i64 o.lock, .int .i64 o.party] 31 (W.heap.size + 1) (by simp)).alloc _
  have hB7 : Blk W1 (W.heap.size + 2) 57 [.slice none 0 0] := by rw [hW1]; exact Blk.newAt ((W.alloc (.cells #[.slice A t.ls.length c] 57)).alloc (.cells #[.int .i64 o.kind, .int .i64 o.lock, .int .i64 o.party] 31)) [.slice none 0 0] 57 (W.heap.size + 2) (by simp)
  have H1 := Lib.hid (And.intro hO1 (And.intro hB4 (And.intro hB5 (And.intro hB7 hW1))))
  have hSn : Hid (∀ k, k < W.heap.size + 3 → W.heap.size ≤ k → ¬ S k) := fun k hk hk' hs => by have := H.out.ot.lies.lt k hs; omega
  have k0 := hB5.cell
  have kl := hB5.lt
  clear h hX hO1 hB4 hB5 hB7
  unfold tv
  go_enter Try.func26, Try.ntmps26
  go_upto_block 0 with fail
  rw [← hW1]
  clear hW1
  go_cut [0, 9] (fun vt vo wc => ∃ b' A' c' n', vt = .pointer (some ⟨b', 0, none⟩) ∧ vo = .bool true ∧ PMid w W S X d wc b' A' c' n')
  case first =>
    by_cases h0 : o.kind = 0
    · have b0 : (o.kind == 0) = true := by simp [h0]
      clear h0
      go_wp2_with fail
      refine (ot_make (H.out.ot.step H1.out.1) o.lock).mono ?_
      rintro e w3 ⟨rfl, hT, hs⟩
      obtain ⟨t', n, er, hm⟩ : ∃ t' n er, t.make o.lock = (t', n, er) := ⟨_, _, _, rfl⟩
      rw [hm] at hT ⊢
      simp only at hT ⊢
      have hcc : t'.Cons := by have := H.out.cons.make o.lock; rw [hm] at this; exact this
      have q4 := hs.blk H1.out.2.1 (hSn.out _ (by omega) (by omega))
      have q5 := hs.blk H1.out.2.2.1 (hSn.out _ (by omega) (by omega))
      have q7 := hs.blk H1.out.2.2.2.1 (hSn.out _ (by omega) (by omega))
      have hr := H.out.ref (N := fun k => k = W.heap.size ∨ k = W.heap.size + 2) H1.out.1 hs HX.out (fun k hk => by have := q7.lt; omega)
      clear k0 kl
      have k0 := q5.cell
      have kl := q5.lt
      have k4 := q4.cell
      have l4 := q4.lt
      have H3 := Lib.hid (And.intro hT (And.intro hs (And.intro hcc (And.intro q4 (And.intro q5 (And.intro q7 (And.intro hr hm)))))))
      clear hT hs hcc q4 q5 q7 hr hm
      go_wp2_with fail
      refine (rmake_any w3 _ A c t o.lock H3.out.2.2.2.2.2.2.1.1 H3.out.2.2.2.2.2.2.1.2 hn).mono ?_
      rintro e w4 ⟨v4, rfl, hv4⟩
      rw [H3.out.2.2.2.2.2.2.2] at hv4 ⊢
      obtain ⟨A4, c4', rfl, hst4, hO4⟩ := hv4
      clear k0 kl k4 l4
      have q4 := hO4.blk H3.out.2.2.2.1
      have q7 := hO4.blk H3.out.2.2.2.2.2.1
      have k4 := q4.cell
      have l4 := q4.lt
      have f4 := q4.free
      have H4 := Lib.hid (And.intro hst4 (And.intro hO4 (And.intro q4 q7)))
      clear hst4 hO4 q4 q7
      simp only
      unfold tv
      go_wp2_with fail
      go_meet
      case rel => exact ⟨_, _, _, _, rfl, rfl, PMid.mk H.out.ot H1.out.1 hz1 H3.out.2.1 H4.out.2.1 H3.out.1 (by omega) H3.out.2.2.1 H4.out.1 H4.out.2.2.1 H4.out.2.2.2⟩
    have b0 : (o.kind == 0) = false := by simp [h0]
    by_cases h1 : o.kind = 1
    · have b1 : (o.kind == 1) = true := by simp [h1]
      clear h1
      go_wp2_with fail
      refine (ot_hold (H.out.ot.step H1.out.1) (by omega) o.lock o.party).mono ?_
      rintro e w3 ⟨rfl, hT, hs⟩
      obtain ⟨t', n, er, hm⟩ : ∃ t' n er, t.hold o.lock o.party = (t', n, er) := ⟨_, _, _, rfl⟩
      rw [hm] at hT ⊢
      simp only at hT ⊢
      have hcc : t'.Cons := by have := H.out.cons.hold o.lock o.party; rw [hm] at this; exact this
      have q4 := hs.blk H1.out.2.1 (hSn.out _ (by omega) (by omega))
      have q5 := hs.blk H1.out.2.2.1 (hSn.out _ (by omega) (by omega))
      have q7 := hs.blk H1.out.2.2.2.1 (hSn.out _ (by omega) (by omega))
      have hr := H.out.ref (N := fun k => k = W.heap.size ∨ k = W.heap.size + 2) H1.out.1 hs HX.out (fun k hk => by have := q7.lt; omega)
      clear k0 kl
      have k0 := q5.cell
      have kl := q5.lt
      have k4 := q4.cell
      have l4 := q4.lt
      have H3 := Lib.hid (And.intro hT (And.intro hs (And.intro hcc (And.intro q4 (And.intro q5 (And.intro q7 (And.intro hr hm)))))))
      clear hT hs hcc q4 q5 q7 hr hm
      go_wp2_with fail
      refine (rhold_any w3 _ A c t d o.lock o.party H3.out.2.2.2.2.2.2.1.1 H3.out.2.2.2.2.2.2.1.2 H.out.ot.ok H.out.cons (by omega)).mono ?_
      rintro e w4 ⟨v4, rfl, hv4⟩
      rw [H3.out.2.2.2.2.2.2.2] at hv4 ⊢
      obtain ⟨A4, c4', rfl, hst4, hO4⟩ := hv4
      clear k0 kl k4 l4
      have q4 := hO4.blk H3.out.2.2.2.1
      have q7 := hO4.blk H3.out.2.2.2.2.2.1
      have k4 := q4.cell
      have l4 := q4.lt
      have f4 := q4.free
      have H4 := Lib.hid (And.intro hst4 (And.intro hO4 (And.intro q4 q7)))
      clear hst4 hO4 q4 q7
      simp only
      unfold tv
      go_wp2_with fail
      go_meet
      case rel => exact ⟨_, _, _, _, rfl, rfl, PMid.mk H.out.ot H1.out.1 hz1 H3.out.2.1 H4.out.2.1 H3.out.1 (by omega) H3.out.2.2.1 H4.out.1 H4.out.2.2.1 H4.out.2.2.2⟩
    have b1 : (o.kind == 1) = false := by simp [h1]
    by_cases h2 : o.kind = 2
    · have b2 : (o.kind == 2) = true := by simp [h2]
      clear h2
      go_wp2_with fail
      refine (ot_free (H.out.ot.step H1.out.1) (by omega) o.lock o.party).mono ?_
      rintro e w3 ⟨rfl, hT, hs⟩
      obtain ⟨t', n, er, hm⟩ : ∃ t' n er, t.free o.lock o.party = (t', n, er) := ⟨_, _, _, rfl⟩
      rw [hm] at hT ⊢
      simp only at hT ⊢
      have hcc : t'.Cons := by have := H.out.cons.free H.out.ot.ok o.lock o.party; rw [hm] at this; exact this
      have q4 := hs.blk H1.out.2.1 (hSn.out _ (by omega) (by omega))
      have q5 := hs.blk H1.out.2.2.1 (hSn.out _ (by omega) (by omega))
      have q7 := hs.blk H1.out.2.2.2.1 (hSn.out _ (by omega) (by omega))
      have hr := H.out.ref (N := fun k => k = W.heap.size ∨ k = W.heap.size + 2) H1.out.1 hs HX.out (fun k hk => by have := q7.lt; omega)
      clear k0 kl
      have k0 := q5.cell
      have kl := q5.lt
      have k4 := q4.cell
      have l4 := q4.lt
      have H3 := Lib.hid (And.intro hT (And.intro hs (And.intro hcc (And.intro q4 (And.intro q5 (And.intro q7 (And.intro hr hm)))))))
      clear hT hs hcc q4 q5 q7 hr hm
      go_wp2_with fail
      refine (rfree_any w3 _ A c t d o.lock o.party H3.out.2.2.2.2.2.2.1.1 H3.out.2.2.2.2.2.2.1.2 H.out.ot.ok (by omega)).mono ?_
      rintro e w4 ⟨v4, rfl, hv4⟩
      rw [H3.out.2.2.2.2.2.2.2] at hv4 ⊢
      obtain ⟨A4, c4', rfl, hst4, hO4⟩ := hv4
      clear k0 kl k4 l4
      have q4 := hO4.blk H3.out.2.2.2.1
      have q7 := hO4.blk H3.out.2.2.2.2.2.1
      have k4 := q4.cell
      have l4 := q4.lt
      have f4 := q4.free
      have H4 := Lib.hid (And.intro hst4 (And.intro hO4 (And.intro q4 q7)))
      clear hst4 hO4 q4 q7
      simp only
      unfold tv
      go_wp2_with fail
      go_meet
      case rel => exact ⟨_, _, _, _, rfl, rfl, PMid.mk H.out.ot H1.out.1 hz1 H3.out.2.1 H4.out.2.1 H3.out.1 (by omega) H3.out.2.2.1 H4.out.1 H4.out.2.2.1 H4.out.2.2.2⟩
    have b2 : (o.kind == 2) = false := by simp [h2]
    by_cases h3 : o.kind = 3
    · have b3 : (o.kind == 3) = true := by simp [h3]
      clear h3
      go_wp2_with fail
      refine (ot_withdraw (H.out.ot.step H1.out.1) H.out.cons o.party).mono ?_
      rintro e w3 ⟨rfl, hT, hs⟩
      obtain ⟨t', n, hm⟩ : ∃ t' n, t.withdraw o.party = (t', n) := ⟨_, _, rfl⟩
      rw [hm] at hT ⊢
      simp only at hT ⊢
      have hcc : t'.Cons := by have := H.out.cons.withdraw o.party; rw [hm] at this; exact this
      have q4 := hs.blk H1.out.2.1 (hSn.out _ (by omega) (by omega))
      have q5 := hs.blk H1.out.2.2.1 (hSn.out _ (by omega) (by omega))
      have q7 := hs.blk H1.out.2.2.2.1 (hSn.out _ (by omega) (by omega))
      have hr := H.out.ref (N := fun k => k = W.heap.size ∨ k = W.heap.size + 2) H1.out.1 hs HX.out (fun k hk => by have := q7.lt; omega)
      clear k0 kl
      have k0 := q5.cell
      have kl := q5.lt
      have k4 := q4.cell
      have l4 := q4.lt
      have H3 := Lib.hid (And.intro hT (And.intro hs (And.intro hcc (And.intro q4 (And.intro q5 (And.intro q7 (And.intro hr hm)))))))
      clear hT hs hcc q4 q5 q7 hr hm
      go_wp2_with fail
      refine (rwithdraw_any w3 _ A c t d o.party H3.out.2.2.2.2.2.2.1.1 H3.out.2.2.2.2.2.2.1.2 H.out.ot.ok H.out.cons (by omega)).mono ?_
      rintro e w4 ⟨v4, rfl, hv4⟩
      rw [H3.out.2.2.2.2.2.2.2] at hv4 ⊢
      obtain ⟨A4, c4', rfl, hst4, hO4⟩ := hv4
      clear k0 kl k4 l4
      have q4 := hO4.blk H3.out.2.2.2.1
      have q7 := hO4.blk H3.out.2.2.2.2.2.1
      have k4 := q4.cell
      have l4 := q4.lt
      have f4 := q4.free
      have H4 := Lib.hid (And.intro hst4 (And.intro hO4 (And.intro q4 q7)))
      clear hst4 hO4 q4 q7
      simp only
      unfold tv
      go_wp2_with fail
      go_meet
      case rel => exact ⟨_, _, _, _, rfl, rfl, PMid.mk H.out.ot H1.out.1 hz1 H3.out.2.1 H4.out.2.1 H3.out.1 (by omega) H3.out.2.2.1 H4.out.1 H4.out.2.2.1 H4.out.2.2.2⟩
    have b3 : (o.kind == 3) = false := by simp [h3]
    clear h0 h1 h2 h3
    go_wp2_with fail
    refine (copy_any W1 S b t d (H.out.ot.step H1.out.1).lies H.out.ot.ok (by omega)).mono ?_
    rintro e w3 ⟨b', rfl, hT, hO⟩
    have H3 := Lib.hid (And.intro hT hO)
    clear hT hO
    go_wp2_with fail
    go_meet
    case rel =>
      have hz3 := H3.out.2.size
      refine ⟨b', A, c, t.ls.length, rfl, rfl, From W1.heap.size w3, t.copy, rfl, ⟨H3.out.1, fun k hk => ?_, (copy_ok H.out.ot.ok H.out.cons).mono (by omega), H.out.ot.only.trans' (H1.out.1.trans' H3.out.2)⟩, copy_cons H.out.cons, ?_, H3.out.2.blk H1.out.2.1, H3.out.2.blk H1.out.2.2.2.1, (H1.out.1.trans' H3.out.2).mono (fun _ _ h => h.elim), fun k hk => .inr (by have := hk.1; omega)⟩
      · have := hk.1
        have := H.out.ot.only.size
        omega
      · refine ((H.out.st.more (Y := fun k => W.heap.size ≤ k) (fun b hb => hb)).only (H1.out.1.trans' H3.out.2)).sub (fun k hk => ?_)
        rcases hk with (hk | hk) | hk
        · have := hk.1
          exact .inr (by omega)
        · exact .inl (.inr hk)
        · exact .inr (by omega)
  case rest =>
    obtain ⟨b', A', c', n', rfl, rfl, S', t', rfl, hT, hC, hst, h4, h7, hs, hS'⟩ := hcut
    have k4 := h4.cell
    have l4 := h4.lt
    have k7 := h7.cell
    have l7 := h7.lt
    have f7 := h7.free
    have HF := Lib.hid (And.intro hT (And.intro hC (And.intro hst (And.intro hs (And.intro hS' h7)))))
    have HA : Hid (∀ V, Stay (fun k => k = W.heap.size + 2) wc V → OT w V S' b' t' (d + 1) ∧ StsR V A' t'.ls.length c' t'.ls ∧ Blk V W.heap.size 57 [.slice A' t'.ls.length c']) := Lib.hid (fun V hV => ⟨hT.aside hV (fun k hk => by have := H.out.ot.only.size; omega) (fun k hk e => by
      have := H.out.ot.lies.lt k
      rcases hS' k hk with h | h
      · have := this h; omega
      · omega), (hst.stay (hV.mono (fun _ _ h => .inr (.inr h)))).rd, hV.blk h4 (by omega)⟩)
    have fin : Hid (∀ V, Stay (fun k => k = W.heap.size + 2) wc V → PL w V S' X b' t' (d + 1) A' c' ∧ Stay S W V ∧ (∀ k, S' k → S k ∨ W.heap.size ≤ k)) := Lib.hid (fun V hV => ⟨⟨(HA.out V hV).1, HF.out.2.1, (HF.out.2.2.1.stay (hV.mono (fun _ _ h => .inr (.inr h)))).sub (fun _ h => .inl h)⟩, HF.out.2.2.2.1.trans hV (fun i hi e => by omega), fun k hk => by
      rcases HF.out.2.2.2.2.1 k hk with h | h
      · exact .inl h
      · exact .inr (by omega)⟩)
    clear hT hC hst hs hS' h4 h7 k0 kl
    go_upto_region 24 with fail
    go_region_with (go_at_call 27; refine (agree_any (HA.out _ (by first | exact (Stay.refl _ wc).drew | exact ((Stay.refl _ wc).drew).put rfl _ _)).1 HF.out.2.1 hd A' c' (HA.out _ (by first | exact (Stay.refl _ wc).drew | exact ((Stay.refl _ wc).drew).put rfl _ _)).2.1).mono ?_; rintro e w5 ⟨rfl, hO5⟩; (first | (have z7 := hO5.blk HF.out.2.2.2.2.2.drew; have j7 := z7.cell; have e7 := z7.lt; have g7 := z7.free; have HZ := Lib.hid z7; clear z7) | skip); have z4 := hO5.blk (HA.out _ (by first | exact (Stay.refl _ wc).drew | exact ((Stay.refl _ wc).drew).put rfl _ _)).2.2; have j4 := z4.cell; have e4 := z4.lt; clear z4)
    all_goals
      go_wp2_with fail
      have zz := (HZ.out.set 0 (.slice A' t'.ls.length c')).cell
      simp only [List.set_cons_zero] at zz
      refine bodyPost_ret (v := .tuple #[.pointer (some ⟨b', 0, none⟩), tv A' t'.ls.length c', .bool true]) (by simp [results, Try.results26, go_sem, tv, zz]) rfl ?_
      exact ⟨_, _, _, _, _, rfl, fin.out _ (Stay.put (S := fun k => k = W.heap.size + 2) (((Stay.refl (fun k => k = W.heap.size + 2) wc).drew).trans hO5 (fun _ _ h => h.elim)) rfl _ _)⟩

end Go.Proofs.Ytfifdgigeecfbaa
