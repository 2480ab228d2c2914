/- Acquire. -/
import Derived.Test.YtgjicobfbdikmaaLedOps
import Derived.Deep.DeepCutAuto
import Derived.Deep.CutBlock
import Derived.Deep.RegionLaw
set_option linter.unusedVariables false
set_option linter.unusedSimpArgs false
namespace Go.Proofs.Ytgjicobfbdikmaa
open Go Go.RowKit

/-- Behind a call on a ledger. -/
def LgPost (w : World) (S : Nat → Prop) (b : Nat) (res : Value) (L' : Lg) (e : Ending) (w' : World) : Prop :=
  e = .returned res ∧ LgAt w' (grow S w w') b L' ∧ Stay S w w'
theorem LgPost.same {w w' : World} {S : Nat → Prop} {b : Nat} {r r' : Value} {L L' : Lg} (h : LgAt w S b L) (ho : Only w w') (hr : r = r') (hL : L' = L) : LgPost w S b r' L' (.returned r) w' := by
  subst hr hL
  exact ⟨rfl, (h.only ho).wide (fun _ => grow.old) (fun j hj => hj.lt h.lt ho.size), ho.mono (fun _ _ h => h.elim)⟩
theorem ents_length (l : List Ent) : (l.flatMap Ent.cells).length = l.length * 4 := by
  induction l with
  | nil => rfl
  | cons a l ih => simp [Ent.cells, ih]; omega

theorem aset_id {α : Type} : ∀ {l : List (Int × α)} {k : Int} {v : α}, aget l k = some v → aset l k v = l
  | [], _, _, h => by simp [aget] at h
  | p :: l, k, v, h => by
    simp only [aget] at h
    simp only [aset]
    split at h
    · rename_i e
      rw [if_pos e]
      simp only [Option.some.injEq] at h
      rw [← h, ← e]
    · rename_i e
      rw [if_neg e, aset_id h]

set_option maxRecDepth 100000 in
set_option maxHeartbeats 8000000 in
theorem acquire_any (w : World) (S : Nat → Prop) (b : Nat) (L : Lg) (t x : Int) (h : LgAt w S b L) (hok : L.Ok) :
    Calls Try.prog 12 #[.pointer (some ⟨b, 0, none⟩), .int .i64 t, .int .i64 x] w (LgPost w S b (.int .i64 (L.acquire t x).2) (L.acquire t x).1) := by
  obtain ⟨ie, hie0, hie1, hie2, hie3⟩ := info_parts infoE
  have hn := hok.n
  have ht0 := hok.t0
  have ht8 := hok.time_le
  have HH := Lib.hid (And.intro h hok)
  clear h hok
  go_enter Try.func12, Try.ntmps12
  go_wp2_with fail
  refine (bad_any w b t x).mono ?_
  rintro e w1 ⟨rfl, hO1⟩
  by_cases hb : Bad t x
  · have HF := Lib.hid (show L.acquire t x = (L, 2) by unfold Lg.acquire; rw [if_pos hb])
    rw [decide_eq_true hb]
    have HO := Lib.hid hO1
    clear hb hO1
    go_wp2_with fail
    go_ret
    exact LgPost.same HH.out.1 HO.out (by rw [HF.out]; rfl) (by rw [HF.out])
  · rw [decide_eq_false hb]
    have HBd := Lib.hid hb
    obtain ⟨m, ev, cv, kv, hs, hT⟩ := HH.out.1
    have HT := Lib.hid (And.intro (hT.only hO1) hO1)
    clear hb hO1 hT
    go_wp2_with fail
    refine (of_any w1 S b L m ev cv kv hs t HT.out.1 (by have := HBd.out; unfold Bad at this; omega)).mono ?_
    rintro e w2 ⟨hs2, h2, rfl, hT2, hg2, hx2⟩
    have hH := hT2.get hg2
    obtain ⟨Ah, ch, hvh⟩ := own_shape hH.row
    obtain ⟨Ae, ce, hve⟩ := own_shape hT2.er
    obtain ⟨hl, hb, hv⟩ := h2
    simp only at hvh hH ⊢
    subst hvh hve
    have hls := hT2.stk hg2
    simp only at hls
    have c1 : ∀ i, w2.cell? ⟨hb, i, none⟩ = [Value.slice Ah hl.length ch][i]? := hH.blk.cell
    have l1 : hb < w2.heap.size := hH.blk.lt
    have c2 := hT2.blk.cell
    have l2 := hT2.blk.lt
    have f2 := hT2.blk.free
    have hhl : hl.length ≤ 40 := by rw [← hls]; exact HH.out.2.hl t
    have H2 := Lib.hid (And.intro hT2 (And.intro hg2 (And.intro hx2 (And.intro hH hls))))
    clear hT2 hg2 hx2 hH hls
    by_cases hf : 40 ≤ (L.stk t).length ∨ 400 ≤ L.es.length
    · have HF := Lib.hid (show L.acquire t x = (L, 5) by unfold Lg.acquire; rw [if_neg HBd.out, if_pos hf])
      have hcase : 40 ≤ hl.length ∨ (hl.length < 40 ∧ 400 ≤ L.es.length) := by
        rw [H2.out.2.2.2.2] at hf
        omega
      clear hf
      have fin : Hid (∀ W, Only w2 W → LgPost w S b (.int .i64 (L.acquire t x).2) (L.acquire t x).1 (.returned (.int .i64 5)) W) := Lib.hid (fun W hW => by
        rw [HF.out]
        have hx : Stay S w W := (HT.out.2.mono (fun _ _ h => h.elim)).trans (H2.out.2.2.1.trans hW (fun _ _ h => h.elim)) (fun _ _ h => h)
        refine ⟨rfl, ⟨m, _, cv, kv, hs2, (H2.out.1.only hW).wide (fun k hk => ?_) (fun j hj => hj.lt HH.out.1.lt hx.size)⟩, hx⟩
        rcases hk with hk | hk
        · exact .inl hk
        · exact .inr ⟨Nat.le_trans HT.out.2.size hk.1, Nat.lt_of_lt_of_le hk.2 hW.size⟩)
      rcases hcase with h40 | ⟨h40, h400⟩
      · have h1 : ((hl.length : Int) ≥ 40) := by omega
        go_wp2_with fail
        go_ret
        exact fin.out _ (Stay.refl _ _)
      · have h1 : decide ((hl.length : Int) ≥ 40) = false := decide_eq_false (by omega)
        have h1' : (hl.length : Int) < 40 := by omega
        have h3 : ((L.es.length : Int) ≥ 400) := by omega
        go_wp2_with fail
        go_ret
        exact fin.out _ (Stay.refl _ _)
    · have HF := Lib.hid (show L.acquire t x = ({ L with es := L.es ++ [⟨x, t, L.time + 1, 0⟩], time := L.time + 1, stk := fput L.stk t (L.stk t ++ [(L.es.length : Int)]) }, 0) by unfold Lg.acquire; rw [if_neg HBd.out, if_neg hf])
      have h1' : (hl.length : Int) < 40 := by rw [H2.out.2.2.2.2] at hf; omega
      have h3' : (L.es.length : Int) < 400 := by omega
      have h1 : decide ((hl.length : Int) ≥ 40) = false := decide_eq_false (by omega)
      have h3 : decide ((L.es.length : Int) ≥ 400) = false := decide_eq_false (by omega)
      clear hf
      go_upto_region 7 with fail
      obtain ⟨w3, hw3⟩ : ∃ w3 : World, w3 = w2.setCell ⟨b, 1, none⟩ (.int .i64 (L.time + 1)) := ⟨_, rfl⟩
      have hx3 : Stay (fun k => k = b) w2 w3 := by rw [hw3]; exact Stay.put (S := fun k => k = b) (Stay.refl _ w2) rfl _ _
      have hT3 : LTab w3 (grow S w1 w2) b { L with time := L.time + 1 } m (.slice Ae L.es.length ce) cv kv hs2 :=
        H2.out.1.body hx3 (fun _ h => h) (fun j hj => Nat.lt_of_lt_of_le (H2.out.1.lt j hj) hx3.size) (by rw [hw3]; exact H2.out.1.blk.set 1 (.int .i64 (L.time + 1)))
          (own_stay hx3 H2.out.1.er (own_ne_blk H2.out.1.er H2.out.1.blk (by decide))) (own_stay hx3 H2.out.1.cw (own_ne_blk H2.out.1.cw H2.out.1.blk (by decide))) (own_stay hx3 H2.out.1.kw (own_ne_blk H2.out.1.kw H2.out.1.blk (by decide)))
          H2.out.1.se H2.out.1.sc H2.out.1.sk (Next.refl _ _) (Next.refl _ _) H2.out.1.ck rfl H2.out.1.nb (fun x hx => ⟨H2.out.1.hb hx, H2.out.1.vb hx⟩)
      rw [← hw3]
      have H3 := Lib.hid (And.intro hT3 hx3)
      have hH3 := hT3.get H2.out.2.1
      have HH3 := Lib.hid hH3
      have c3 := hT3.blk.cell
      have l3 := hT3.blk.lt
      clear hw3 hx3 hT3 hH3 c1 l1 c2 l2 f2
      have d0 := c3 0
      simp only [List.getElem?_cons_zero] at d0
      go_region_held3 (fun w' => w'.cell? ⟨b, 0, none⟩ = some (.slice Ae L.es.length ce))
        (first
          | go_keep
          | (refine Stay.cell hsx ?_ hnx; assumption))
        ((go_at_call 33; refine (push_any _ hb (.slice Ah hl.length ch) hl (L.es.length : Nat) (HH3.out.blk.drew) (own_only ((Stay.refl _ w3).drew) HH3.out.row) (by omega)).mono ?_; rintro e w4 ⟨rfl, v4, hB4, hr4, hn4, hsx, hlt4⟩; have hnx : ¬ (b = hb ∨ (Value.slice Ah hl.length ch).ownBlock = some b) := (by rintro (e | e); exact H3.out.1.hb (aget_mem H2.out.2.1) e.symm; exact H3.out.1.vb (aget_mem H2.out.2.1) b e rfl)))
      have hx4 : Stay (fun k => k = hb ∨ (Value.slice Ah hl.length ch).ownBlock = some k) w3 w4 := ((Stay.refl _ w3).drew).trans hsx (fun _ _ h => h)
      have hS4 : ∀ j, grow (grow S w1 w2) w3 w4 j → j < w4.heap.size := fun j hj => hj.lt H3.out.1.lt hx4.size
      have hmem := aget_mem H2.out.2.1
      have hT4 : LTab w4 (grow (grow S w1 w2) w3 w4) b { L with time := L.time + 1, stk := fput L.stk t (hl ++ [(L.es.length : Int)]) } m (.slice Ae L.es.length ce) cv kv (aset hs2 t ⟨hl ++ [(L.es.length : Int)], hb, v4⟩) := by
        have hm4 : IMap w4 m (hmap (aset hs2 t ⟨hl ++ [(L.es.length : Int)], hb, v4⟩)) := by
          have e : hmap (aset hs2 t ⟨hl ++ [(L.es.length : Int)], hb, v4⟩) = hmap hs2 := by
            rw [hmap, ← aset_vmap]
            exact aset_id (by rw [aget_vmap, H2.out.2.1]; rfl)
          rw [e]
          refine H3.out.1.mp.stay hx4 ?_
          rintro (e | e)
          · exact H3.out.1.hm hmem e.symm
          · exact H3.out.1.vm hmem m e rfl
        have hvlt : ∀ g, (Value.slice Ah hl.length ch).ownBlock = some g → g < w3.heap.size := fun g hg => (own_lt HH3.out.row g hg).2
        refine H3.out.1.task (h' := ⟨hl ++ [(L.es.length : Int)], hb, v4⟩) hx4 (fun _ => grow.old) hS4 hm4 ⟨hB4, hr4, grow.old HH3.out.sb, fun g hg => ?_⟩ hnx ?_ ?_ ?_ (fun y hy hne => ?_) ?_ ?_ (H3.out.1.kb _ hmem)
        · rcases hn4 g hg with h | h
          · exact grow.old (HH3.out.sv g h)
          · exact grow.new (by simpa using h) (hlt4 g hg)
        · rintro g hg (e | e)
          · exact own_ne_blk H3.out.1.er HH3.out.blk (by decide) g hg e
          · rcases own_ne H3.out.1.er HH3.out.row (by decide) with e2 | e2
            · rw [e2] at hg; cases hg
            · exact e2 (hg.trans e.symm)
        · rintro g hg (e | e)
          · exact own_ne_blk H3.out.1.cw HH3.out.blk (by decide) g hg e
          · exact H3.out.1.oc H2.out.2.1 g e hg
        · rintro g hg (e | e)
          · exact own_ne_blk H3.out.1.kw HH3.out.blk (by decide) g hg e
          · exact H3.out.1.ok' H2.out.2.1 g e hg
        · have h2 := H3.out.1.two H2.out.2.1 hy hne
          have hy' := H3.out.1.hd y hy
          refine ⟨?_, ?_, h2.1, ?_⟩
          · rintro (e | e)
            · exact h2.1 e
            · exact own_ne_blk HH3.out.row hy'.blk (by decide) _ e rfl
          · rintro g hg (e | e)
            · exact own_ne_blk hy'.row HH3.out.blk (by decide) g hg e
            · exact h2.2 g hg e
          · exact h2.2.next (fun g hg => by have := hn4 g hg; simpa using this) (fun g hg => (own_lt hy'.row g hg).2)
        · exact ((H3.out.1.oc H2.out.2.1).symm.next (fun g hg => by have := hn4 g hg; simpa using this) (fun g hg => (own_lt H3.out.1.cw g hg).2)).symm
        · exact ((H3.out.1.ok' H2.out.2.1).symm.next (fun g hg => by have := hn4 g hg; simpa using this) (fun g hg => (own_lt H3.out.1.kw g hg).2)).symm
      have H4 := Lib.hid (And.intro hT4 hx4)
      have c4 := hT4.blk.cell
      have f4 := hT4.blk.free
      have l4 := hT4.blk.lt
      clear hB4 hr4 hn4 hsx hlt4 hnx hS4 hT4 hx4 c3 l3 d0 hmem
      go_upto_region 8 with fail
      simp only at c4
      go_cut [6] (fun vr wc => ∃ (g cap : Nat), Blk wc b 58 [.slice (some ⟨g, 0, none⟩) (L.es.length + 1) cap, .int .i64 (L.time + 1), .map (some m), cv, kv] ∧ wc.ownsRow 0 36 4 (.slice (some ⟨g, 0, none⟩) (L.es.length + 1) cap) (L.es.length + 1) (L.es.flatMap Ent.cells ++ (⟨x, t, L.time + 1, 0⟩ : Ent).cells) ∧
          ((Value.slice Ae L.es.length ce).ownBlock = some g ∨ w4.heap.size ≤ g) ∧ Stay (fun k => k = b ∨ (Value.slice Ae L.es.length ce).ownBlock = some k) w4 wc)
      case first =>
        go_region_law (refine step_append_lies _ (by rfl) _ _ _ (by rfl) 0 36 ie _ 4 32 Try.underlying27 hie0 hie1 hie2 hie3 rfl (by omega) _ L.es.length _ (by rfl) ((own_only ((Stay.refl _ w4).drew) H4.out.1.er).alloc _) ⟨w4.heap.size, 0, none⟩ 1 1 (⟨x, t, L.time + 1, 0⟩ : Ent).cells (by rfl) (by rfl) (World.news_of_block (cs := (⟨x, t, L.time + 1, 0⟩ : Ent).cells.toArray) (t := 36) (fr := (0, 0)) (heap_alloc_new w4.drew _)) (by simp [Ent.cells, Value.oneCell']) (by omega) (by simp only [maxLen]; omega) (by omega) (by simp) (w4.heap.size + 1) (by simp) ?_; intro g cap w5 hown hgrow hat hlt5; have st := grown_stay hgrow; have BT := st.blk (H4.out.1.blk.drew.alloc _) (fun e => own_ne_blk H4.out.1.er H4.out.1.blk (by decide) _ e rfl); have c5 := BT.cell; have f5 := BT.free; have l5 := BT.lt; have HG := Lib.hid (And.intro hown (And.intro st (And.intro hat BT))); clear hown hgrow hat hlt5 st BT)
        all_goals
          go_wp2_with fail
          go_meet
          case rel =>
            have n1 : ∀ g', (Value.slice (some ⟨g, 0, none⟩) (L.es.length + 1) cap).ownBlock = some g' → g' ≠ b := own_ne_blk HG.out.1 HG.out.2.2.2 (by decide)
            refine ⟨g, cap, HG.out.2.2.2.set 0 _, own_set HG.out.1 _ n1, ?_, ?_⟩
            · rcases HG.out.2.2.1 with h | h
              · exact .inl h
              · exact .inr (by omega)
            · exact ((((Stay.refl (fun k => k = b ∨ (Value.slice Ae L.es.length ce).ownBlock = some k) w4).drew).alloc _).trans HG.out.2.1 (fun _ _ h => .inr h)).put (.inl rfl) _ _
      case rest =>
        obtain ⟨g, cap, hB, hr, hnx, hx5⟩ := hcut
        have hgl : g < wc.heap.size := (own_lt hr g rfl).2
        have hS5 : ∀ j, grow (grow (grow S w1 w2) w3 w4) w4 wc j → j < wc.heap.size := fun j hj => hj.lt H4.out.1.lt hx5.size
        have hne : ∀ {u : Value}, (∀ g', u.ownBlock = some g' → g' ≠ b) → (∀ g', u.ownBlock = some g' → (Value.slice Ae L.es.length ce).ownBlock ≠ some g') → ∀ g', u.ownBlock = some g' → ¬ (g' = b ∨ (Value.slice Ae L.es.length ce).ownBlock = some g') := fun h1 h2 g' hg => by
          rintro (e | e)
          · exact h1 g' hg e
          · exact h2 g' hg e
        have offE : ∀ {u : Value} {n : Nat} {xs : List Value}, w4.ownsRow 0 3 1 u n xs → ∀ g', u.ownBlock = some g' → (Value.slice Ae L.es.length ce).ownBlock ≠ some g' := fun hu g' hg hg2 => by
          rcases own_ne H4.out.1.er hu (by decide) with e | e
          · rw [e] at hg2; cases hg2
          · exact e (hg2.trans hg.symm)
        have hT5 := H4.out.1.body (L' := { L with es := L.es ++ [⟨x, t, L.time + 1, 0⟩], time := L.time + 1, stk := fput L.stk t (hl ++ [(L.es.length : Int)]) }) (S' := grow (grow (grow S w1 w2) w3 w4) w4 wc) hx5 (fun _ => grow.old) hS5 hB
          (by simpa using hr) (own_stay hx5 H4.out.1.cw (hne (own_ne_blk H4.out.1.cw H4.out.1.blk (by decide)) (offE H4.out.1.cw))) (own_stay hx5 H4.out.1.kw (hne (own_ne_blk H4.out.1.kw H4.out.1.blk (by decide)) (offE H4.out.1.kw)))
          (fun g' hg' => by
            have e : g = g' := by simpa [Value.ownBlock] using hg'
            subst e
            rcases hnx with h | h
            · exact grow.old (H4.out.1.se g h)
            · exact grow.new h hgl) (H4.out.1.sc.mono (fun _ => grow.old)) (H4.out.1.sk.mono (fun _ => grow.old)) (Next.refl _ _) (Next.refl _ _) H4.out.1.ck rfl
          (by
            rintro (e | e)
            · exact H4.out.1.nb e
            · exact own_ne_map H4.out.1.er H4.out.1.mp m e rfl)
          (fun y hy => ⟨by
            rintro (e | e)
            · exact H4.out.1.hb hy e
            · exact own_ne_blk H4.out.1.er (H4.out.1.hd y hy).blk (by decide) _ e rfl, hne (H4.out.1.vb hy) (offE (H4.out.1.hd y hy).row)⟩)
        have h12 : Stay S w w2 := (HT.out.2.mono (fun _ _ h => h.elim)).trans H2.out.2.2.1 (fun _ _ h => h)
        have hold : ∀ i, i < w.heap.size → grow S w1 w2 i → S i := fun i hi h => by
          rcases h with h | h
          · exact h
          · have := HT.out.2.size; omega
        have h13 : Stay S w w3 := h12.trans H3.out.2 (fun i hi e => by subst e; exact HT.out.1.sb)
        have h14 : Stay S w w4 := h13.trans H4.out.2 (fun i hi e => by
          rcases e with rfl | e
          · exact hold _ hi HH3.out.sb
          · exact hold _ hi (HH3.out.sv i e))
        have hxw : Stay S w wc := h14.trans hx5 (fun i hi e => by
          rcases e with rfl | e
          · exact HT.out.1.sb
          · exact HT.out.1.se i e)
        have HF5 := Lib.hid (And.intro hT5 hxw)
        have hzz5 := hx5.size
        have hzz4 := h14.size
        have hzz1 := HT.out.2.size
        have hzz3 := H3.out.2.size
        have hzz34 := H4.out.2.size
        have hzz2 := H2.out.2.2.1.size
        clear hB hr hnx hx5 hgl hS5 hne offE hT5 hxw c4 f4 l4 h12 h13 h14 hold
        go_wp2_with fail
        go_ret
        rw [HF.out]
        refine ⟨rfl, ⟨m, .slice (some ⟨g, 0, none⟩) (L.es.length + 1) cap, cv, kv, aset hs2 t ⟨hl ++ [(L.es.length : Int)], hb, v4⟩, ?_⟩, HF5.out.2⟩
        rw [H2.out.2.2.2.2]
        refine HF5.out.1.wide (fun k hk => ?_) (fun j hj => hj.lt HH.out.1.lt HF5.out.2.size)
        rcases hk with ((hk | hk) | hk) | hk
        · exact .inl hk
        · exact .inr ⟨by omega, by omega⟩
        · exact .inr ⟨by omega, by omega⟩
        · exact .inr ⟨by omega, by omega⟩

end Go.Proofs.Ytgjicobfbdikmaa
