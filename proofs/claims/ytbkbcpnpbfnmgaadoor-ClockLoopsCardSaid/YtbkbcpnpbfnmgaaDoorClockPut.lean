/- put, take: the walks. -/
import Derived.Test.YtbkbcpnpbfnmgaaDoorClockRep
set_option linter.unusedVariables false
set_option linter.unusedSimpArgs false
namespace Go.Proofs.YtbkbcpnpbfnmgaaDoor
open Go Go.RowKit

/-- A clock behind an inner call. -/
def CkPost (w : World) (b m now made : Nat) (l : List (Int × Nat)) (W : Wheel) (wv : List Value) (w' : World) : Prop :=
  ∃ wv' fs', CkIn w' b m now made l W wv' fs' ∧ Stay (CBlk b m wv) w w' ∧ ∀ k, CBlk b m wv' k → CBlk b m wv k ∨ w.heap.size ≤ k
theorem full_at {fs : List Nat} {W : Wheel} (h : FullOk fs W) {l : Nat} (hl : l < 7) : ∃ f, fs[l]? = some f ∧ f < 18446744073709551616 := by
  obtain ⟨f, hf⟩ : ∃ f, fs[l]? = some f := ⟨_, List.getElem?_eq_getElem (by rw [h.1]; exact hl)⟩
  exact ⟨f, hf, (h.2 l f hf).1⟩
theorem two_pow_lt {s : Nat} (h : s < 64) : 2 ^ s < 18446744073709551616 := Nat.lt_of_lt_of_le (Nat.pow_lt_pow_right (by decide) h) (by decide)
theorem or_bit {f s : Nat} (hf : f < 18446744073709551616) (hs : s < 64) : bits .or .u64 (f : Int) (IntKind.u64.wrap (2 ^ s)) = ((f ||| 2 ^ s : Nat) : Int) := by
  have h2 := two_pow_lt hs
  have e : IntKind.u64.wrap (2 ^ s) = ((2 ^ s : Nat) : Int) := by
    rw [IntKind.wrap_u64, show ((2 : Int) ^ s) = ((2 ^ s : Nat) : Int) by simp]
    exact Int.emod_eq_of_lt (Int.natCast_nonneg _) (Int.ofNat_lt.2 h2)
  rw [e]
  exact bits_or_u64_nat f (2 ^ s) hf h2
theorem FullOk.put {fs : List Nat} {W : Wheel} (h : FullOk fs W) {now : Nat} {t : Tm} {lv sl f : Nat} (hp : place now t.due = lv * 64 + sl) (hs : sl < 64) (hl : lv < 7) (hW : W.length = 448) (hf : fs[lv]? = some f) : FullOk (fs.set lv (f ||| 2 ^ sl)) (W.put now t) := by
  refine ⟨by rw [List.length_set]; exact h.1, fun l g hg => ?_⟩
  have hfl := (h.2 lv f hf)
  have hpl : place now t.due < W.length := by omega
  rw [List.getElem?_set] at hg
  by_cases e : lv = l
  · subst e
    rw [if_pos rfl, if_pos (by rw [h.1]; exact hl)] at hg
    cases hg
    refine ⟨Nat.or_lt_two_pow (n := 64) hfl.1 (two_pow_lt hs), fun s hs2 => ?_⟩
    rw [Nat.testBit_or, Nat.testBit_two_pow, Wheel.put_at hpl, hp, Bool.or_eq_true, hfl.2 s hs2]
    by_cases es : sl = s
    · subst es
      simp
    · rw [if_neg (by omega)]
      simp [es]
  · rw [if_neg e] at hg
    have hgl := h.2 l g hg
    refine ⟨hgl.1, fun s hs2 => ?_⟩
    rw [Wheel.put_at hpl, hp, if_neg (by omega)]
    exact hgl.2 s hs2
/-- A slot's row anew. -/
theorem CkIn.put {w w5 w' : World} {b m now made : Nat} {l : List (Int × Nat)} {W : Wheel} {wv : List Value} {fs fs' : List Nat} {p : Nat} {u v : Value} {r : List Tm} (h : CkIn w b m now made l W wv fs) (hp : wv[p]? = some v)
    (hS5 : Stay (fun k => v.ownBlock = some k) w w5) (hu : w5.ownsRow 0 39 2 u r.length (r.flatMap Tm.cells)) (hn : ∀ g, u.ownBlock = some g → v.ownBlock = some g ∨ w.heap.size ≤ g)
    (hS : Stay (fun k => k = b) w5 w') (hb : Blk w' b 71 (ckCells now made (wv.set p u) fs' m)) (hf : FullOk fs' (W.set p r)) : CkIn w' b m now made l (W.set p r) (wv.set p u) fs' ∧ Stay (CBlk b m wv) w w' ∧ ∀ k, CBlk b m (wv.set p u) k → CBlk b m wv k ∨ w.heap.size ≤ k := by
  have hpl : p < wv.length := (List.getElem?_eq_some_iff.1 hp).1
  have hpW : p < W.length := by rw [h.wl, ← h.vl]; exact hpl
  have hvb := h.ne_b hp
  have hvm := h.ne_m hp
  have hub : ∀ g, u.ownBlock = some g → g ≠ b := fun g hg => by
    rcases hn g hg with h1 | h1
    · exact hvb g h1
    · have := h.blk.lt; omega
  have hoff : ∀ (j : Nat) (x : Value), p ≠ j → wv[j]? = some x → OffR u x := fun j x hj hx g hg e => by
    rcases hn g hg with h1 | h1
    · exact h.off p j v x hj hp hx g h1 e
    · have := (own_lt (h.row j x hx) g e).2; omega
  have hSS : Stay (CBlk b m wv) w w' := (hS5.mono (fun k _ e => .inr (.inr ⟨p, v, hp, e⟩))).trans hS (fun k _ e => .inl e)
  refine ⟨⟨hb, (h.mp.stay hS5 (fun e => hvm m e rfl)).stay hS h.mb, by rw [List.length_set]; exact h.wl, by rw [List.length_set]; exact h.vl, hf, fun i x hx => ?_, fun i j x y hij hx hy => ?_⟩, hSS, fun k hk => ?_⟩
  · rw [List.getElem?_set] at hx
    rw [Wheel.at_set W hpW]
    by_cases e : p = i
    · subst e
      rw [if_pos rfl, if_pos hpl] at hx
      cases hx
      rw [if_pos rfl]
      exact own_stay hS hu (fun g hg e => hub g hg e)
    · rw [if_neg e] at hx
      rw [if_neg e]
      exact own_stay hS (own_stay hS5 (h.row i x hx) (fun g hg e2 => h.off p i v x e hp hx g e2 hg)) (fun g hg e2 => h.ne_b hx g hg e2)
  · rw [List.getElem?_set] at hx hy
    by_cases e : p = i
    · subst e
      rw [if_pos rfl, if_pos hpl] at hx
      rw [if_neg hij] at hy
      cases hx
      exact hoff j y hij hy
    · rw [if_neg e] at hx
      by_cases e2 : p = j
      · subst e2
        rw [if_pos rfl, if_pos hpl] at hy
        cases hy
        exact (hoff i x e hx).symm
      · rw [if_neg e2] at hy
        exact h.off i j x y hij hx hy
  · rcases hk with e | e | ⟨i, x, hx, e⟩
    · exact .inl (.inl e)
    · exact .inl (.inr (.inl e))
    · rw [List.getElem?_set] at hx
      by_cases e2 : p = i
      · subst e2
        rw [if_pos rfl, if_pos hpl] at hx
        cases hx
        rcases hn k e with h1 | h1
        · exact .inl (.inr (.inr ⟨p, v, hp, h1⟩))
        · exact .inr h1
      · rw [if_neg e2] at hx
        exact .inl (.inr (.inr ⟨i, x, hx, e⟩))
set_option maxRecDepth 100000 in
set_option maxHeartbeats 4000000 in
theorem put_any {w : World} {b m now made : Nat} {l : List (Int × Nat)} {W : Wheel} {wv : List Value} {fs : List Nat} (h : CkIn w b m now made l W wv fs) (t : Tm) (hn : now < 2 ^ 42) (hd : t.due < 2 ^ 42) (hlen : (W.at (place now t.due)).length ≤ 100000) :
    Calls Tryd.prog 30 #[.pointer (some ⟨b, 0, none⟩), .agg #[.int .i64 t.id, .int .i64 t.due]] w fun e w' => e = .returned (.tuple #[]) ∧ CkPost w b m now made l (W.put now t) wv w' := by
  obtain ⟨ii, hii0, hii1, hii2, hii3⟩ := info_parts infoTm
  obtain ⟨lv, hlv⟩ : ∃ lv, lv = lvl now t.due := ⟨_, rfl⟩
  obtain ⟨sl, hsl⟩ : ∃ sl, sl = slot t.due lv := ⟨_, rfl⟩
  have hl6 : lv ≤ 6 := by rw [hlv]; exact (lvl_spec hn hd).2
  have hs6 : sl < 64 := by rw [hsl]; exact slot_lt _ _
  obtain ⟨p, hp⟩ : ∃ p, p = lv * 64 + sl := ⟨_, rfl⟩
  have hpp : p = place now t.due := by rw [hp, hsl, hlv]; rfl
  rw [← hpp] at hlen
  obtain ⟨td, htd⟩ : ∃ td, td = t.due := ⟨_, rfl⟩
  obtain ⟨ti, hti⟩ : ∃ ti, ti = t.id := ⟨_, rfl⟩
  rw [← htd] at hd hlv hsl
  rw [← htd, ← hti]
  have HN := Lib.hid (And.intro hlv (And.intro hsl (And.intro hp (And.intro hpp (And.intro htd hti)))))
  obtain ⟨v, hv⟩ : ∃ v, wv[p]? = some v := ⟨_, List.getElem?_eq_getElem (by rw [h.vl]; omega)⟩
  obtain ⟨f, hf, hf64⟩ := full_at h.full (l := lv) (by omega)
  obtain ⟨n, hnn⟩ : ∃ n, n = (W.at p).length := ⟨_, rfl⟩
  have hrow := h.row p v hv
  rw [← hnn] at hrow hlen
  obtain ⟨Av, cv, rfl⟩ := own_shape hrow
  have hB := h.blk
  have H := Lib.hid (And.intro h (And.intro hv (And.intro hf (And.intro hnn hrow))))
  clear h hv hf hlv hsl hp hpp htd hti hnn hrow
  have c0 := hB.at (ck_at0 now made wv fs m)
  have lb := hB.lt
  go_enter Tryd.func30, Tryd.ntmps30
  go_wp2_with fail
  refine (place_any _ b now td hn hd (by first | exact (hB.alloc _).at (ck_at0 now made wv fs m) | exact c0)).mono ?_
  rintro e w2 ⟨rfl, h2⟩
  rw [← HN.out.1, ← HN.out.2.1]
  have hB2 := h2.blk (hB.alloc (.cells #[.int .i64 ti, .int .i64 td] 39))
  have hX2 := h2.blk (Blk.new w [.int .i64 ti, .int .i64 td] 39)
  have lb2 := hB2.lt
  have x0 := hX2.cell 0
  have x1 := hX2.cell 1
  have lx := hX2.lt
  have hcv : w2.cell? ⟨b, 2 + lv * 64 + sl, none⟩ = some (.slice Av n cv) := by
    rw [hB2.cell, show 2 + lv * 64 + sl = 2 + p by rw [HN.out.2.2.1]; omega, ck_atw now made fs m (by rw [H.out.1.vl]; have := HN.out.2.2.1; omega)]
    exact H.out.2.1
  have hfv : w2.frozen? ⟨b, 2 + lv * 64 + sl, none⟩ = false := hB2.free _
  have hO2 : Only w w2 := Only.trans' ((Stay.refl _ w).alloc _) h2
  have hnx : (Value.slice Av n cv).ownBlock ≠ some w.heap.size := fun e => by have := (own_lt H.out.2.2.2.2 _ e).2; omega
  have u1 : (lv : Int) < 7 := by omega
  have u2 : (sl : Int) < 64 := by omega
  have H2 := Lib.hid (And.intro hO2 (And.intro hB2 (And.intro hX2 (own_only hO2 H.out.2.2.2.2))))
  clear hO2 h2 hB2 hX2 c0 lb hB
  go_upto_region 2 with fail
  have hxb : w.heap.size ≠ b := fun e => by have := H.out.1.blk.lt; omega
  go_region_law (refine step_append_lies _ (by rfl) _ _ _ (by rfl) 0 39 ii _ 2 16 Tryd.underlying29 hii0 hii1 hii2 hii3 rfl (by omega) _ n _ (by rfl) (by first | exact own_only (((Stay.refl _ w2).alloc _).drew) H2.out.2.2.2 | exact own_only (((Stay.refl _ w2).drew).alloc _) H2.out.2.2.2) ⟨w2.heap.size, 0, none⟩ 1 1 [.int .i64 ti, .int .i64 td] (by rfl) (by rfl) (World.news_of_block (cs := [Value.int .i64 ti, Value.int .i64 td].toArray) (t := 39) (fr := (0, 0)) (heap_alloc_at' _ _ _ (by simp))) (by simp [Value.oneCell']) (by omega) (by simp only [maxLen]; omega) (by omega) (by omega) (w2.heap.size + 1) (by simp) ?_; intro g5 cap5 w5 hown5 hgrow5 hat5 hlt5; have st5 := grown_stay hgrow5; have hS5 : Stay (fun k => (Value.slice Av n cv).ownBlock = some k) w2 w5 := (by first | exact Stay.trans (((Stay.refl _ w2).alloc _).drew) st5 (fun _ _ h => h) | exact Stay.trans (((Stay.refl _ w2).drew).alloc _) st5 (fun _ _ h => h)); have x5 := hS5.cell x0 (fun e => hnx e); have y5 := hS5.cell x1 (fun e => hnx e); have hb5 := hS5.blk H2.out.2.1 (fun e => H.out.1.ne_b H.out.2.1 _ e rfl); have lb5 := hb5.lt; have c5 : w5.cell? ⟨b, 2 + lv * 64 + sl, none⟩ = some (.slice Av n cv) := hS5.cell hcv (fun e => H.out.1.ne_b H.out.2.1 _ e rfl); have f5 := hb5.free (2 + lv * 64 + sl); have HG := Lib.hid (And.intro hown5 (And.intro hS5 (And.intro hat5 hb5))); clear hown5 hgrow5 hat5 st5 hS5 hb5)
  all_goals
    clear hcv hfv x0 x1 lx x5 y5 lb2
    obtain ⟨w6, hw6⟩ : ∃ w6, w6 = w5.setCell ⟨b, 2 + lv * 64 + sl, none⟩ (.slice (some ⟨g5, 0, none⟩) (n + 1) cap5) := ⟨_, rfl⟩
    rw [← hw6]
    have hb6 : Blk w6 b 71 (ckCells now made (wv.set p (.slice (some ⟨g5, 0, none⟩) (n + 1) cap5)) fs m) := by
      have hp := HN.out.2.2.1
      rw [hw6, show 2 + lv * 64 + sl = 2 + p by omega, ← ck_setw now made fs m (by rw [H.out.1.vl]; omega)]
      exact HG.out.2.2.2.set _ _
    have c6 : w6.cell? ⟨b, 450 + lv, none⟩ = some (.int .u64 f) := hb6.at (ck_atf now made m (by rw [List.length_set]; exact H.out.1.vl) H.out.2.2.1)
    have f6 := hb6.free (450 + lv)
    have lb6 := hb6.lt
    have H6 := Lib.hid (And.intro hb6 hw6)
    clear hb6 hw6 c5 f5 lb5
    go_upto_region 3 with fail
    go_big_region
    go_wp2_with fail
    go_end0
    obtain ⟨hlv, hsl, hp, hpp, htd, hti⟩ := HN.out
    obtain ⟨h, hv, hf, hnn, hrow⟩ := H.out
    refine ⟨rfl, ?_⟩
    have e1 : W.put now t = W.set p (W.at p ++ [t]) := by unfold Wheel.put; rw [← hpp]
    have hfull := h.full.put (now := now) (t := t) (by rw [← hpp, hp]) hs6 (by omega) h.wl hf
    rw [e1] at hfull ⊢
    have hr5 : w5.ownsRow 0 39 2 (.slice (some ⟨g5, 0, none⟩) (n + 1) cap5) (W.at p ++ [t]).length ((W.at p ++ [t]).flatMap Tm.cells) := by
      rw [List.length_append, List.flatMap_append, ← hnn]
      have := HG.out.1
      simp only [List.flatMap_cons, List.flatMap_nil, List.append_nil, Tm.cells, ← hti, ← htd]
      exact this
    have hz2 := H2.out.1.size
    refine ⟨_, _, CkIn.put h hv (w5 := w5) (((H2.out.1.mono (fun _ _ h => h.elim)).trans HG.out.2.1 (fun _ _ h => h))) hr5 (fun g hg => ?_) ?_ ?_ hfull⟩
    · have e2 : g5 = g := by simpa [Value.ownBlock] using hg
      subst e2
      rcases HG.out.2.2.1 with h1 | h1
      · exact .inl h1
      · exact .inr (by omega)
    · rw [H6.out.2]
      exact (((Stay.refl (fun k => k = b) w5).put rfl _ _).put rfl _ _).drew
    · rw [or_bit hf64 hs6, ← ck_setf now made m (by rw [List.length_set]; exact h.vl) (by rw [h.full.1]; omega)]
      exact (H6.out.1.set _ _).drew
end Go.Proofs.YtbkbcpnpbfnmgaaDoor
