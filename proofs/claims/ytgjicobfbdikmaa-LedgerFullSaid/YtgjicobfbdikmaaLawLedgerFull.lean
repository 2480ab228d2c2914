/- LedgerFull: the walk. -/
import Derived.Test.YtgjicobfbdikmaaLedOwn
set_option linter.unusedVariables false
set_option linter.unusedSimpArgs false
namespace Go.Proofs.Ytgjicobfbdikmaa
open Go Go.RowKit

/-- So many tasks are full, and one is being filled. -/
structure Fill (x : Int) (L : Lg) (j i : Nat) : Prop where
  j1 : 1 ≤ j
  n : L.es.length = 40 * (j - 1) + i
  s : ∀ t : Int, (L.stk t).length = if 1 ≤ t ∧ t < j then 40 else if t = j then i else 0
  w : ∀ e ∈ L.es, e.what = x
theorem Fill.new (x : Int) : Fill x Lg.new 1 0 := ⟨by omega, rfl, fun t => by simp [Lg.new], by simp [Lg.new]⟩
theorem Fill.next {x : Int} {L : Lg} {j : Nat} (h : Fill x L j 40) : Fill x L (j + 1) 0 := ⟨by omega, by have := h.n; have := h.j1; omega, fun t => by
  rw [h.s]
  have := h.j1
  by_cases h1 : 1 ≤ t ∧ t < j
  · rw [if_pos h1, if_pos (by omega)]
  · rw [if_neg h1]
    by_cases h2 : t = j
    · rw [if_pos h2, if_pos (by omega)]
    · rw [if_neg h2]
      by_cases h3 : 1 ≤ t ∧ t < ((j + 1 : Nat) : Int)
      · omega
      · rw [if_neg h3, ite_self], h.w⟩
theorem Fill.acq {x : Int} {L : Lg} {j i : Nat} (h : Fill x L j i) (hx : 0 ≤ x ∧ x ≤ 999) (hj : j ≤ 10) (hi : i < 40) : (L.acquire j x).2 = 0 ∧ Fill x (L.acquire j x).1 j (i + 1) := by
  have h1 := h.j1
  have hn := h.n
  have hs := h.s j
  rw [if_neg (by omega), if_pos rfl] at hs
  have e : L.acquire j x = ({ L with es := L.es ++ [⟨x, j, L.time + 1, 0⟩], time := L.time + 1, stk := fput L.stk j (L.stk j ++ [(L.es.length : Int)]) }, 0) := by
    unfold Lg.acquire
    rw [if_neg (by unfold Bad; omega), if_neg (by omega)]
  rw [e]
  refine ⟨rfl, h1, by simp; omega, fun t => ?_, fun e he => ?_⟩
  · simp only
    by_cases ht : t = j
    · subst ht
      rw [fput_same, if_neg (by omega), if_pos rfl]
      simp [hs]
    · rw [fput_other _ _ ht, h.s]
      by_cases h2 : 1 ≤ t ∧ t < j
      · rw [if_pos h2, if_pos h2]
      · rw [if_neg h2, if_neg h2, if_neg ht, if_neg ht]
  · rcases List.mem_append.1 he with he | he
    · exact h.w e he
    · rw [List.mem_singleton.1 he]
theorem Fill.no {x : Int} {L : Lg} {j : Nat} (h : Fill x L j 40) (hx : 0 ≤ x ∧ x ≤ 999) (hj : j ≤ 10) : L.acquire j x = (L, 5) := by
  have h1 := h.j1
  have hs := h.s j
  rw [if_neg (by omega), if_pos rfl] at hs
  unfold Lg.acquire
  rw [if_neg (by unfold Bad; omega), if_pos (by omega)]
theorem full_acq {L : Lg} {t x : Int} (ht : 1 ≤ t ∧ t ≤ 64) (hx : 0 ≤ x ∧ x ≤ 999) (h : L.es.length = 400) : L.acquire t x = (L, 5) := by
  unfold Lg.acquire
  rw [if_neg (by unfold Bad; omega), if_pos (by omega)]
theorem Fill.rel {x : Int} {L : Lg} (h : Fill x L 11 0) (hok : L.Ok) (hx : 0 ≤ x ∧ x ≤ 999) : (L.release 1 x).2 = 0 ∧ (L.release 1 x).1.es.length = 400 := by
  have hn := h.n
  have hs := h.s 1
  rw [if_pos (by omega)] at hs
  unfold Lg.release
  rw [if_neg (by unfold Bad; omega), hs]
  have : seek (fun k => whatAt L.es k == x) (L.stk 1) 40 = some 39 := by
    simp only [seek]
    rw [if_pos]
    obtain ⟨k, hk⟩ : ∃ k, (L.stk 1)[39]? = some k := ⟨_, List.getElem?_eq_getElem (by omega)⟩
    have hkr := hok.hin 1 k (List.mem_of_getElem? hk)
    obtain ⟨e, he⟩ : ∃ e, L.es[k.toNat]? = some e := ⟨_, List.getElem?_eq_getElem (by omega)⟩
    rw [List.getD_eq_getElem?_getD, hk]
    simp only [Option.getD_some, whatAt, he, Option.map_some]
    rw [h.w e (List.mem_of_getElem? he)]
    simp
  rw [this]
  exact ⟨rfl, by simp [Lg.cut, shut_length, hn]⟩

theorem u64_rem (a : Int) (m : Int) (hm : 0 < m) (hm2 : m ≤ 1000000) : 0 ≤ wrap64 ((IntKind.u64.wrap a).tmod m) ∧ wrap64 ((IntKind.u64.wrap a).tmod m) ≤ m - 1 := by
  have h0 : 0 ≤ IntKind.u64.wrap a := wrap_u64_nonneg a
  rw [Int.tmod_eq_emod_of_nonneg h0]
  have h1 := Int.emod_nonneg (IntKind.u64.wrap a) (b := m) (by omega)
  have h2 := Int.emod_lt_of_pos (IntKind.u64.wrap a) hm
  rw [show wrap64 (IntKind.u64.wrap a % m) = IntKind.u64.wrap a % m by unfold wrap64; omega]
  omega

set_option maxRecDepth 100000 in
set_option maxHeartbeats 8000000 in
theorem ledgerFull_any (w : World) (what n : Int) : Calls Try.prog 3 #[.int .i64 what, .int .i64 n] w fun e w' => e = .returned (.bool true) ∧ Only w w' := by
  go_enter Try.func3, Try.ntmps3
  go_wp2_with fail
  refine (ol_new w).mono ?_
  rintro e w1 ⟨rfl, h1⟩
  have H1 := Lib.hid h1
  clear h1
  unfold ptr
  go_wp2_with fail
  obtain ⟨x, hxe⟩ : ∃ x, x = wrap64 ((IntKind.u64.wrap what).tmod 1000) := ⟨_, rfl⟩
  have hx : 0 ≤ x ∧ x ≤ 999 := by rw [hxe]; exact u64_rem what 1000 (by omega) (by omega)
  rw [← hxe]
  have HX := Lib.hid hx
  clear hxe hx
  go_loopg [6] 10 (fun kk vj wr => ∃ (j : Nat), 1 ≤ j ∧ j ≤ 11 ∧ kk = 11 - j ∧ vj = .int .i64 (j : Nat) ∧ ∃ S L, OL w S (w.heap.size + 1) L wr ∧ Fill x L j 0)
  case atStart => exact ⟨1, by omega, by omega, rfl, rfl, _, _, H1.out, Fill.new x⟩
  case round =>
    obtain ⟨j, hj1, hj2, hk, rfl, S, L, hO, hF⟩ := hrel
    obtain ⟨wq, rfl⟩ : ∃ wq : World, wq = wr := ⟨_, rfl⟩
    by_cases hj : j ≤ 10
    · have hji : (j : Int) ≤ 10 := by omega
      have HJ := Lib.hid (And.intro hk (And.intro hj (And.intro hj1 (And.intro hO hF))))
      clear hk hj hj1 hj2 hO hF
      go_wp2_with fail
      go_loopg [16] 40 (fun kk vi wr => ∃ (i : Nat), i ≤ 40 ∧ kk = 40 - i ∧ vi = .int .i64 (i : Nat) ∧ ∃ S L, OL w S (w.heap.size + 1) L wr ∧ Fill x L j i)
      case atStart => exact ⟨0, by omega, rfl, rfl, S, L, HJ.out.2.2.2.1, HJ.out.2.2.2.2⟩
      case round =>
        obtain ⟨i, hi, hk, rfl, S2, L2, hO2, hF2⟩ := hrel
        by_cases hi40 : i < 40
        · have hii : (i : Int) < 40 := by omega
          have HI := Lib.hid (And.intro hk (And.intro hi40 (And.intro hO2 hF2)))
          clear hk hi40 hi hO2 hF2
          go_wp2_with fail
          have ha := HI.out.2.2.2.acq HX.out HJ.out.2.1 HI.out.2.1
          refine (ol_acquire HI.out.2.2.1 (j : Nat) x).mono ?_
          rintro e w3 ⟨rfl, h3, _⟩
          rw [ha.1]
          have HA := Lib.hid (And.intro h3 ha.2)
          clear h3 ha
          go_wp2_with fail
          go_roundg (40 - (i + 1))
          case measure => have := HI.out.1; have := HI.out.2.1; omega
          case rel => exact ⟨i + 1, by have := HI.out.2.1; omega, rfl, by go_num, _, _, HA.out.1, HA.out.2⟩
        · obtain rfl : i = 40 := by omega
          have HI := Lib.hid (And.intro hO2 hF2)
          clear hk hi40 hi hO2 hF2
          go_wp2_with fail
          refine (ol_acquire HI.out.1 (j : Nat) x).mono ?_
          rintro e w3 ⟨rfl, h3, _⟩
          have ha := HI.out.2.no HX.out HJ.out.2.1
          rw [ha] at h3 ⊢
          have HA := Lib.hid h3
          clear h3 ha
          go_wp2_with fail
          go_roundg (11 - (j + 1))
          case measure => have := HJ.out.1; have := HJ.out.2.1; omega
          case rel => exact ⟨j + 1, by omega, by have := HJ.out.2.1; omega, rfl, by go_num, _, _, HA.out, HI.out.2.next⟩
    · obtain rfl : j = 11 := by omega
      have HJ := Lib.hid (And.intro hO hF)
      clear hk hj hj1 hj2 hO hF
      go_wp2_with fail
      obtain ⟨y, hye⟩ : ∃ y, y = wrap64 (1 + wrap64 ((IntKind.u64.wrap n).tmod 64)) := ⟨_, rfl⟩
      have hy : 1 ≤ y ∧ y ≤ 64 := by
        have := u64_rem n 64 (by omega) (by omega)
        rw [hye]
        generalize wrap64 ((IntKind.u64.wrap n).tmod 64) = z at this ⊢
        unfold wrap64
        omega
      rw [← hye]
      have HY := Lib.hid hy
      clear hye hy
      have hn4 : L.es.length = 400 := by have := HJ.out.2.n; omega
      refine (ol_acquire HJ.out.1 y x).mono ?_
      rintro e w3 ⟨rfl, h3, _⟩
      rw [full_acq HY.out HX.out hn4] at h3 ⊢
      have H3 := Lib.hid (And.intro h3 hn4)
      clear h3 hn4
      go_wp2_with fail
      refine (ol_release H3.out.1 1 x).mono ?_
      rintro e w4 ⟨rfl, h4, _⟩
      have hr := HJ.out.2.rel H3.out.1.ok HX.out
      obtain ⟨L4, hL4⟩ : ∃ L4, L4 = (L.release 1 x).1 := ⟨_, rfl⟩
      rw [← hL4] at h4 hr
      rw [hr.1]
      have H4 := Lib.hid (And.intro h4 hr.2)
      clear h4 hr hL4
      go_wp2_with fail
      refine (ol_acquire H4.out.1 1 x).mono ?_
      rintro e w5 ⟨rfl, h5, _⟩
      rw [full_acq (by omega) HX.out H4.out.2] at h5 ⊢
      have H5 := Lib.hid h5
      clear h5
      go_wp2_with fail
      refine (log_any w5 _ _ _ H5.out.at' H5.out.ok).mono ?_
      rintro e w6 ⟨v, rfl, h6, o6⟩
      rw [H4.out.2] at h6
      obtain ⟨A, c, rfl⟩ := own_shape h6
      have H6 := Lib.hid (H5.out.only.trans' o6)
      clear h6 o6
      go_wp2_with fail
      refine (awake_any w6).mono ?_
      rintro e w7 ⟨rfl, o7⟩
      have H7 := Lib.hid (H6.out.trans' o7)
      clear o7
      go_wp2_with fail
      go_ret
      exact ⟨rfl, H7.out⟩

end Go.Proofs.Ytgjicobfbdikmaa
