/- LockFree: the walk. -/
import Derived.Test.YtfifdgigeecfbaaLockNext
import Derived.Test.YtfifdgigeecfbaaLockMade
import Derived.Test.YtfifdgigeecfbaaIntSort
import Derived.Test.YtfifdgigeecfbaaIntEq
import Derived.Test.YtfifdgigeecfbaaInts
set_option linter.unusedVariables false
set_option linter.unusedSimpArgs false
namespace Go.Proofs.Ytfifdgigeecfbaa
open Go Go.RowKit

theorem meas_le {t : Tb} (h : t.Ok 60) : t.meas ≤ 1216 := by
  have : ∀ l : List Lk, (∀ k ∈ l, k.Ok 60) → (l.map Lk.meas).sum ≤ 76 * l.length := by
    intro l
    induction l with
    | nil => intro _; simp
    | cons k l ih =>
      intro hl
      have h1 := ih fun x hx => hl x (List.mem_cons_of_mem _ hx)
      have hk := hl k (List.mem_cons_self ..)
      have h2 : k.meas ≤ 76 := by
        unfold Lk.meas
        have := hk.sum
        have := hk.f0
        have := hk.p2
        have := hk.wlen
        omega
      simp only [List.map_cons, List.sum_cons, List.length_cons]
      omega
  have h1 := this t.ls h.lk
  have h2 := h.n
  unfold Tb.meas
  omega

/-- All who wait, lock by lock. -/
def Tb.waiters (l : List Lk) : List Int := l.flatMap Lk.waiting
theorem waiters_nodup {ls : List Lk} (h3 : ∀ (i : Nat) (k : Lk), ls[i]? = some k → k.waiting.Nodup) (hd : ∀ (i j : Nat) (k k' : Lk) (p : Int), ls[i]? = some k → ls[j]? = some k' → p ∈ k.waiting → p ∈ k'.waiting → i = j) : (Tb.waiters ls).Nodup := by
  induction ls with
  | nil => simp [Tb.waiters]
  | cons k l ih =>
    have h1 := ih (fun i k' hk => h3 (i + 1) k' (by simpa using hk)) (fun i j k1 k2 p a b c d => by have := hd (i + 1) (j + 1) k1 k2 p (by simpa using a) (by simpa using b) c d; omega)
    show (k.waiting ++ Tb.waiters l).Nodup
    rw [List.nodup_append]
    refine ⟨h3 0 k rfl, h1, fun a ha b hb e => ?_⟩
    subst e
    obtain ⟨k', hk', hb'⟩ := List.mem_flatMap.1 hb
    obtain ⟨j, hj⟩ := List.getElem?_of_mem hk'
    have := hd 0 (j + 1) k k' a rfl (by simpa using hj) ha hb'
    omega
theorem waiters_mem {t : Tb} (hc : t.Cons) (p : Int) : p ∈ Tb.waiters t.ls ↔ aget t.waits p ≠ none := by
  have h := anyWaits_get hc p
  cases hg : aget t.waits p with
  | some i =>
    rw [hg] at h
    simp only [anyWaits, List.any_eq_true, Option.isSome_some] at h
    obtain ⟨k, h1, h2⟩ := h
    simp only [ne_eq, reduceCtorEq, not_false_eq_true, iff_true]
    exact List.mem_flatMap.2 ⟨k, h1, by simpa using h2⟩
  | none =>
    rw [hg] at h
    simp only [anyWaits, List.any_eq_false, Option.isSome_none] at h
    simp only [ne_eq, not_true_eq_false, iff_false]
    intro hm
    obtain ⟨k, h1, h2⟩ := List.mem_flatMap.1 hm
    exact h k h1 (by simpa using h2)
theorem waiters_stuck {t0 t : Tb} {d d' : Int} (ho : t0.Ok d) (hc0 : t0.Cons) (hot : t.Ok d') (hc : t.Cons) (hn : t.nf = t0.nf) (hf : t.pick = none) : srt (Tb.waiters t.ls) = t0.stuck := by
  have hfr : t.frees = none := by unfold Tb.frees; rw [hf]; rfl
  rw [nf_none hfr] at hn
  have h0 : t0.stuck.Nodup := stuck_nodup ho hc0
  have h1 : ∀ x, x ∈ t0.stuck ↔ aget t.waits x ≠ none := by
    intro x
    rw [hn]
    constructor
    · intro hx
      obtain ⟨i, k, g1, _⟩ := (stuck_closed ho hc0).nf ho hc0 x hx
      rw [g1]; simp
    · intro hx
      exact stuck_max ho hc0 (closed_stuck t0.meas t0 (Nat.le_refl _) ho hc0) hx
  have hp : (Tb.waiters t.ls).Perm t0.stuck := (List.perm_ext_iff_of_nodup (waiters_nodup hc.c3 fun i j k k' p a b c d => by
    have e1 := hc.c2 i k p a c
    have e2 := hc.c2 j k' p b d
    rw [e1] at e2
    exact Option.some.inj e2) h0).2 fun x => by rw [waiters_mem hc, h1]
  rw [srt_perm hp]
  unfold Tb.stuck
  exact srt_perm (srt_perm_self _)

section
variable {P : Program} {w : World}
theorem run_append_zero (base : Nat) (t ty e : TypeId) (i : TypeInfo) (size : Nat) (ht : P.underlying t = some (.slice e)) (hi : P.info? e = some i)
    (v : Value) (n : Nat) (xs : List Value) (hown : w.ownsRow base e size v n xs) (A : Option Addr) (c : Nat) :
    (Builtin.append_ #[t, t] ty #[v, .slice A 0 c]).run P w = .ok v w := by
  rcases hown.2 with ⟨rfl, rfl⟩ | ⟨g, cap, cur, rfl, _, _, hnc, _⟩
  · cases A <;> simp [Builtin.append_, run_underlying ht, sizeOf, typeInfo, hi, Builtin.lenOf, Builtin.firstCells, loadCells, loadCellsFrom]
  · cases A <;> simp [Builtin.append_, run_underlying ht, sizeOf, typeInfo, hi, Builtin.lenOf, Builtin.firstCells, hnc, storeCells, loadCells, loadCellsFrom]
theorem wpList_append_zero {ops : Array Oper} {rest : List Oper} {o : Oper} {a : Act} {Q : Exit → Act → World → Prop} (hgd : o.guard = none) (s x : Operand) (t : TypeId)
    (ho : o.op = .call { callee := .builtin .append, args := #[s, x], argTypes := #[t, t] })
    (base : Nat) (e : TypeId) (i : TypeInfo) (size : Nat) (ht : P.underlying t = some (.slice e)) (hi : P.info? e = some i)
    (v : Value) (n : Nat) (xs : List Value) (hs : a.eval s = v) (hown : w.ownsRow base e size v n xs) (A : Option Addr) (c : Nat) (hx : a.eval x = .slice A 0 c)
    (h : wpList P ops Q rest (a.put o.dst v) w) : wpList P ops Q (o :: rest) a w := by
  refine wpList_plain hgd fun K hK' => ?_
  have hrun := run_append_zero (P := P) base t o.type e i size ht hi v n xs hown A c
  unfold Oper.wp
  simp [execOp, ho, resolve, invoke, builtin, hs, hx, hrun, Result.andThen]
  exact hK' _ _ h
end

set_option maxRecDepth 100000 in
set_option maxHeartbeats 8000000 in
theorem lockFree_any (w : World) (A : Option Addr) (n ca : Nat) (ops : List Op3) (hl : Sl w w.heap.size A n ca 3 (ops.flatMap Op3.cells)) (hlen : ops.length = n) :
    Calls Try.prog 9 #[.slice A n ca] w fun e w' => e = .returned (.bool true) ∧ Only w w' := by
  have HL0 := Lib.hid (And.intro hl hlen)
  clear hl hlen
  obtain ⟨ii, hii0, hii1, hii2, hii3⟩ := info_parts infoI
  go_enter Try.func9, Try.ntmps9
  go_wp2_with fail
  refine (made_any w A n ca ops HL0.out.1 HL0.out.2).mono ?_
  rintro e w1 ⟨b, t0, S0, rfl, hT0, hC0⟩
  have H0 := Lib.hid (And.intro hT0 hC0)
  clear hT0 hC0
  go_wp2_with fail
  refine (ot_stuck H0.out.1 H0.out.2 (by omega)).mono ?_
  rintro e w2 ⟨As, cs, rfl, hR, hO2⟩
  obtain ⟨L, hL⟩ : ∃ L, t0.stuck = L := ⟨_, rfl⟩
  rw [hL] at hR ⊢
  have H2 := Lib.hid (And.intro hR (And.intro (H0.out.1.step hO2) hL))
  clear hR hO2 hL
  go_wp2_with fail
  go_loopg [16] 2000 (fun kk vj wr => ∃ (j : Nat) (t : Tb) (S : Nat → Prop), j ≤ 2000 ∧ kk = 2000 - j ∧ vj = .int .i64 (j : Nat) ∧ OT w wr S b t 60 ∧ t.Cons ∧ t.nf = t0.nf ∧ t.meas + j ≤ 1216 ∧ Rw w1.heap.size wr S (.slice As L.length cs) L)
  case atStart => exact ⟨0, t0, S0, Nat.zero_le _, rfl, rfl, H2.out.2.1, H0.out.2, rfl, meas_le H0.out.1.ok, H2.out.1⟩
  case round =>
    obtain ⟨j, t, S, hj, hk, rfl, hOT, hC, hnf, hms, hRw⟩ := hrel
    obtain ⟨w3, rfl⟩ : ∃ w3 : World, w3 = wr := ⟨_, rfl⟩
    have hlt : j < 2000 := by omega
    have HX := Lib.hid (And.intro hOT (And.intro hC (And.intro hnf (And.intro hms (And.intro hRw hk)))))
    clear hOT hC hnf hms hRw hk
    go_wp2_with fail
    refine (states_any w3 S b t 60 HX.out.1.lies HX.out.1.ok (by omega)).mono ?_
    rintro e w4 ⟨v4, rfl, hS4, hO4⟩
    obtain ⟨A4, c4, rfl, hR4⟩ := hS4.rd
    have H4 := Lib.hid (And.intro hR4 hO4)
    clear hR4 hO4 hS4
    go_wp2_with fail
    refine (next_any w4 A4 c4 t H4.out.1 HX.out.2.1 (by have := HX.out.1.ok.n; omega)).mono ?_
    rintro e w5 ⟨rfl, hO5⟩
    have HO5 := Lib.hid (H4.out.2.trans' hO5)
    clear hO5
    cases hp : t.pick with
    | some x =>
      obtain ⟨i, p⟩ := x
      obtain ⟨k, hkk, hkm, _⟩ := pick_some hp
      have hkok := HX.out.1.ok.lk k (List.mem_of_getElem? hkk)
      have hp1 : 1 ≤ p := by
        obtain ⟨x, hx, rfl⟩ := List.mem_map.1 hkm
        exact (hkok.one x hx).1
      have hil := (List.getElem?_eq_some_iff.1 hkk).1
      have hn16 := HX.out.1.ok.n
      have hgf := Tb.gives_free HX.out.1.ok hkk hkm
      have hfr : t.frees = some (t.gives i p) := by unfold Tb.frees; rw [hp]; rfl
      have e1 : t.nextP = p := by simp only [Tb.nextP, hp, Option.map_some, Option.getD_some]
      have e2 : t.nextN = (i : Int) + 1 := by simp only [Tb.nextN, hp, Option.map_some, Option.getD_some]
      rw [e1, e2]
      have hp0 : (p == 0) = false := by simp; omega
      have HF := Lib.hid (And.intro hgf hfr)
      clear hp hkk hkm hkok hgf hfr e1 e2
      go_wp2_with fail
      refine (ot_free (HX.out.1.step HO5.out) (by omega) ((i : Int) + 1) p).mono ?_
      rintro e w6 ⟨rfl, hT6, hs6⟩
      rw [HF.out.1] at hT6 ⊢
      simp only at hT6 ⊢
      have H6 := Lib.hid (And.intro hT6 ((HX.out.2.2.2.2.1.only HO5.out).post hs6))
      clear hT6 hs6
      go_wp2_with fail
      go_roundg (2000 - (j + 1))
      case measure => have := HX.out.2.2.2.2.2; omega
      case rel => exact ⟨j + 1, _, _, by omega, rfl, by go_num, H6.out.1, frees_cons HX.out.1.ok HX.out.2.1 HF.out.2, by rw [← nf_step HX.out.1.ok HF.out.2]; exact HX.out.2.2.1, by have := frees_meas HX.out.1.ok HF.out.2; have := HX.out.2.2.2.1; omega, H6.out.2⟩
    | none =>
      have e1 : t.nextP = 0 := by simp only [Tb.nextP, hp, Option.map_none, Option.getD_none]
      have e2 : t.nextN = 0 := by simp only [Tb.nextN, hp, Option.map_none, Option.getD_none]
      rw [e1, e2]
      have HF := Lib.hid (show srt (Tb.waiters t.ls) = L by rw [← H2.out.2.2]; exact waiters_stuck H0.out.1.ok H0.out.2 HX.out.1.ok HX.out.2.1 HX.out.2.2.1 hp)
      clear hp e1 e2
      go_wp2_with fail
      refine (states_any w5 S b t 60 (HX.out.1.step HO5.out).lies HX.out.1.ok (by omega)).mono ?_
      rintro e w6 ⟨v6, rfl, hS6, hO6⟩
      obtain ⟨A6, c6, rfl, hR6⟩ := hS6.rd
      have hb : t.ls.length ≤ c6 ∧ c6 ≤ 9223372036854775807 := by
        obtain ⟨_, _, _, s1, _⟩ := hR6
        exact ⟨s1.2.1, s1.2.2.1⟩
      obtain ⟨b1, b2⟩ := hb
      have H6 := Lib.hid (And.intro hR6 (And.intro ((HX.out.1.step HO5.out).step hO6) (HX.out.2.2.2.2.1.only (HO5.out.trans' hO6))))
      clear hR6 hO6 hS6
      have hn16 := HX.out.1.ok.n
      go_wp2_with fail
      go_loopg [9, 39] (t.ls.length) (fun kk vx vi wr => ∃ (i : Nat) (vw : Value), vw = vx ∧ i ≤ t.ls.length ∧ kk = t.ls.length - i ∧ vi = .int .i64 (i : Nat) ∧ wr.ownsRow w6.heap.size 3 1 vw (Tb.waiters (t.ls.take i)).length (ints (Tb.waiters (t.ls.take i))) ∧ (Tb.waiters (t.ls.take i)).length ≤ 60 * i ∧ Only w6 wr)
      case atStart => exact ⟨0, _, rfl, Nat.zero_le _, rfl, rfl, World.ownsRow_nil _ _ _ _, Nat.le_refl _, Stay.refl _ _⟩
      case round =>
        obtain ⟨i, vw, rfl, hi, hk, rfl, hown, hwl, hO7⟩ := hrel
        obtain ⟨w7, rfl⟩ : ∃ w7 : World, w7 = wr := ⟨_, rfl⟩
        by_cases hlt2 : i < t.ls.length
        · obtain ⟨k, hkk⟩ : ∃ k, t.ls[i]? = some k := ⟨_, List.getElem?_eq_getElem hlt2⟩
          obtain ⟨xb, xo, A1, c1, A2, c2, rfl, hxb, hxc, hr1⟩ := (H6.out.1.only hO7).elem hkk
          have e0 := hxc 0 _ rfl
          have e1 := hxc 1 _ rfl
          have e2 := hxc 2 _ rfl
          have e3 := hxc 3 _ rfl
          simp only [Nat.add_zero] at e0
          have htk : Tb.waiters (t.ls.take (i + 1)) = Tb.waiters (t.ls.take i) ++ k.waiting := by
            rw [List.take_succ_eq_append_getElem hlt2, (List.getElem?_eq_some_iff.1 hkk).2]
            simp [Tb.waiters]
          have hkl : (k.waiting.length : Int) ≤ 60 := (HX.out.1.ok.lk k (List.mem_of_getElem? hkk)).wlen
          have hO78 : Only w7 (w7.alloc (.cells (stc k A1 c1 A2 c2).toArray 42)) := (Stay.refl _ w7).alloc _
          have hws := (hr1.only hO78).ws
          have hsz := hO7.size
          have hown8 : (w7.alloc (.cells (stc k A1 c1 A2 c2).toArray 42)).ownsRow w6.heap.size 3 1 vw (Tb.waiters (t.ls.take i)).length (ints (Tb.waiters (t.ls.take i))) := own_alloc hown _
          have HY := Lib.hid (And.intro hk (And.intro hO7 (And.intro hown8 (And.intro htk hO78))))
          clear hk hO7 hown hown8 htk hr1 hxc hkk hO78
          by_cases hw0 : k.waiting.length = 0
          · rw [hw0] at e3 hws
            have hwn : k.waiting = [] := List.eq_nil_of_length_eq_zero hw0
            have hst : stc k A1 c1 A2 c2 = [.int .i64 k.permits, .int .i64 k.free, .slice A1 k.holders.length c1, .slice A2 0 c2] := by unfold stc; rw [hw0]
            have HW := Lib.hid (And.intro hwn (And.intro (hst ▸ HY.out.2.2.1) (hst ▸ HY.out.2.2.2.2)))
            clear hws hw0 hwn hst
            go_wp2_with (at_builtin; refine wpList_append_zero rfl _ _ _ rfl w6.heap.size 3 ii 1 Try.underlying29 hii0 _ (Tb.waiters (t.ls.take i)).length _ (by rfl) HW.out.2.1 A2 c2 (by rfl) ?_)
            go_roundg (t.ls.length - (i + 1))
            case measure => have := HY.out.1; omega
            case rel => exact ⟨i + 1, _, rfl, by omega, rfl, by go_num, by rw [HY.out.2.2.2.1, HW.out.1, List.append_nil]; exact HW.out.2.1, by rw [HY.out.2.2.2.1, HW.out.1, List.append_nil]; omega, HY.out.2.1.trans' HW.out.2.2⟩
          · obtain ⟨yb, yo, rfl, hyb, hyc⟩ := hws.2.2.2.2 (by omega)
            have HC := Lib.hid hyc
            clear hws hyc
            go_wp2_with (at_builtin; refine wpList_append_lies _ rfl _ _ _ rfl w6.heap.size 3 ii _ 1 8 Try.underlying29 hii0 hii1 hii2 hii3 rfl (by omega) _ (Tb.waiters (t.ls.take i)).length _ (by rfl) HY.out.2.2.1 ⟨yb, yo, none⟩ k.waiting.length c2 (ints k.waiting) (by rfl) (by simp [ints]) (fun j u hu => by rw [Addr.add_lit]; exact HC.out j u hu) (ints_oneCell _ _) (by omega) (by simp only [maxLen]; omega) (by omega) (by simp; omega) (w7.heap.size + 1) (by simp) ?_; intro g cap w8 hown hgrow hat hlt9; have HG := Lib.hid (And.intro hown (And.intro hgrow hat)); clear hown hgrow hat hlt9)
            go_roundg (t.ls.length - (i + 1))
            case measure => have := HY.out.1; omega
            case rel =>
              have st := grown_stay HG.out.2.1
              have hM : Only w6 w8 := ((Mine.only (HY.out.2.1.trans' HY.out.2.2.2.2)).trans (Stay.mono st (fun i _ hi => (own_lt HY.out.2.2.1 i hi).1))).stay
              refine ⟨i + 1, _, rfl, by omega, rfl, by go_num, ?_, by rw [HY.out.2.2.2.1, List.length_append]; omega, hM⟩
              rw [HY.out.2.2.2.1, List.length_append]
              have := HG.out.1
              simpa [ints] using this
        · have hie : i = t.ls.length := by omega
          subst hie
          rw [List.take_length] at hown hwl
          have hll : (Tb.waiters t.ls).length = L.length := by rw [← HF.out, srt_length]
          obtain ⟨Aw, cw, rfl⟩ := own_shape hown
          have HY := Lib.hid (And.intro hown (And.intro hO7 (And.intro hll hwl)))
          clear hown hO7 hll hwl hk
          go_wp2_with fail
          refine (sortI_any w7 w6.heap.size _ (Tb.waiters t.ls) HY.out.1 (by have := HY.out.2.2.2; omega)).mono ?_
          rintro e w8 ⟨rfl, hr8, hs8⟩
          have hO8 : Only w6 w8 := ((Mine.only HY.out.2.1).trans (Stay.mono hs8 (fun i _ hi => (own_lt HY.out.1 i hi).1))).stay
          rw [HF.out] at hr8
          rw [HY.out.2.2.1] at hr8 ⊢
          have H8 := Lib.hid (And.intro hr8 hO8)
          clear hr8 hO8 hs8
          go_wp2_with fail
          refine (eqI_any w8 Aw As cw cs L L (own_sl' H8.out.1) (own_sl' (H6.out.2.2.only H8.out.2).row)).mono ?_
          rintro e w9 ⟨rfl, hO9⟩
          have hbt : (L == L) = true := by simp
          rw [hbt]
          have H9 := Lib.hid (H8.out.2.trans' hO9)
          clear hO9 hbt
          go_wp2_with fail
          refine (awake_any _).mono ?_
          rintro e w10 ⟨rfl, hO10⟩
          have HO10 := Lib.hid hO10
          clear hO10
          go_wp2_with fail
          go_ret
          exact ⟨rfl, H6.out.2.1.only.trans' (H9.out.trans' HO10.out)⟩

end Go.Proofs.Ytfifdgigeecfbaa
