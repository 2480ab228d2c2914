/- What a task holds is cut; the inner release. -/
import Derived.Test.YtgjicobfbdikmaaLedAcq
import Derived.Test.YtgjicobfbdikmaaIntDel
set_option linter.unusedVariables false
set_option linter.unusedSimpArgs false
namespace Go.Proofs.Ytgjicobfbdikmaa
open Go Go.RowKit

section
variable {w w' : World} {S : Nat → Prop} {b m : Nat} {L : Lg} {ev cv kv v' : Value} {hs : List (Int × Hd)} {h : Hd} {t : Int}
/-- The time is set. -/
theorem LTab.tick (ht : LTab w S b L m ev cv kv hs) (x : Int) : LTab (w.setCell ⟨b, 1, none⟩ (.int .i64 x)) S b { L with time := x } m ev cv kv hs := by
  have hx : Stay (fun k => k = b) w (w.setCell ⟨b, 1, none⟩ (.int .i64 x)) := Stay.put (S := fun k => k = b) (Stay.refl _ w) rfl _ _
  exact ht.body hx (fun _ h => h) (fun j hj => Nat.lt_of_lt_of_le (ht.lt j hj) hx.size) (ht.blk.set 1 (.int .i64 x)) (own_stay hx ht.er (own_ne_blk ht.er ht.blk (by decide))) (own_stay hx ht.cw (own_ne_blk ht.cw ht.blk (by decide))) (own_stay hx ht.kw (own_ne_blk ht.kw ht.blk (by decide)))
    ht.se ht.sc ht.sk (Next.refl _ _) (Next.refl _ _) ht.ck rfl ht.nb (fun x hx => ⟨ht.hb hx, ht.vb hx⟩)
/-- What one task holds has changed. -/
theorem LTab.rowed (ht : LTab w S b L m ev cv kv hs) (hg : aget hs t = some h) (hx : Stay (fun k => k = h.b ∨ h.v.ownBlock = some k) w w') {l' : List Int} (hB : Blk w' h.b 64 [v']) (hr : w'.ownsRow 0 3 1 v' l'.length (ints l')) (hn : Next w h.v v') :
    LTab w' (grow S w w') b { L with stk := fput L.stk t l' } m ev cv kv (aset hs t ⟨l', h.b, v'⟩) := by
  have hH := ht.get hg
  have hmem := aget_mem hg
  have hnx : ¬ (b = h.b ∨ h.v.ownBlock = some b) := by
    rintro (e | e)
    · exact ht.hb hmem e.symm
    · exact ht.vb hmem b e rfl
  have hm4 : IMap w' m (hmap (aset hs t ⟨l', h.b, v'⟩)) := by
    have e : hmap (aset hs t ⟨l', h.b, v'⟩) = hmap hs := by
      rw [hmap, ← aset_vmap]
      exact aset_id (by rw [aget_vmap, hg]; rfl)
    rw [e]
    refine ht.mp.stay hx ?_
    rintro (e | e)
    · exact ht.hm hmem e.symm
    · exact ht.vm hmem m e rfl
  refine ht.task (h' := ⟨l', h.b, v'⟩) hx (fun _ => grow.old) (fun j hj => hj.lt ht.lt hx.size) hm4 ⟨hB, hr, grow.old hH.sb, fun g hg' => ?_⟩ hnx ?_ ?_ ?_ (fun y hy hne => ?_) ?_ ?_ (ht.kb _ hmem)
  · rcases hn g hg' with h | h
    · exact grow.old (hH.sv g h)
    · exact grow.new h (own_lt hr g hg').2
  · rintro g hg' (e | e)
    · exact own_ne_blk ht.er hH.blk (by decide) g hg' e
    · rcases own_ne ht.er hH.row (by decide) with e2 | e2
      · rw [e2] at hg'; cases hg'
      · exact e2 (hg'.trans e.symm)
  · rintro g hg' (e | e)
    · exact own_ne_blk ht.cw hH.blk (by decide) g hg' e
    · exact ht.oc hg g e hg'
  · rintro g hg' (e | e)
    · exact own_ne_blk ht.kw hH.blk (by decide) g hg' e
    · exact ht.ok' hg g e hg'
  · have h2 := ht.two hg hy hne
    have hy' := ht.hd y hy
    refine ⟨?_, ?_, h2.1, ?_⟩
    · rintro (e | e)
      · exact h2.1 e
      · exact own_ne_blk hH.row hy'.blk (by decide) _ e rfl
    · rintro g hg' (e | e)
      · exact own_ne_blk hy'.row hH.blk (by decide) g hg' e
      · exact h2.2 g hg' e
    · exact h2.2.next hn (fun g hg' => (own_lt hy'.row g hg').2)
  · exact ((ht.oc hg).symm.next hn (fun g hg' => (own_lt ht.cw g hg').2)).symm
  · exact ((ht.ok' hg).symm.next hn (fun g hg' => (own_lt ht.kw g hg').2)).symm
/-- The entries have changed. -/
theorem LTab.ents (ht : LTab w S b L m ev cv kv hs) {ev' : Value} {es' : List Ent} (hx : Stay (fun k => k = b ∨ ev.ownBlock = some k) w w') (hB : Blk w' b 58 [ev', .int .i64 L.time, .map (some m), cv, kv])
    (hr : w'.ownsRow 0 36 4 ev' es'.length (es'.flatMap Ent.cells)) (hn : Next w ev ev') : LTab w' (grow S w w') b { L with es := es' } m ev' cv kv hs := by
  have hne : ∀ {u : Value}, (∀ g', u.ownBlock = some g' → g' ≠ b) → (∀ g', u.ownBlock = some g' → ev.ownBlock ≠ some g') → ∀ g', u.ownBlock = some g' → ¬ (g' = b ∨ ev.ownBlock = some g') := fun h1 h2 g' hg => by
    rintro (e | e)
    · exact h1 g' hg e
    · exact h2 g' hg e
  have offE : ∀ {u : Value} {n : Nat} {xs : List Value}, w.ownsRow 0 3 1 u n xs → ∀ g', u.ownBlock = some g' → ev.ownBlock ≠ some g' := fun hu g' hg hg2 => by
    rcases own_ne ht.er hu (by decide) with e | e
    · rw [e] at hg2; cases hg2
    · exact e (hg2.trans hg.symm)
  exact ht.body (L' := { L with es := es' }) hx (fun _ => grow.old) (fun j hj => hj.lt ht.lt hx.size) hB hr
    (own_stay hx ht.cw (hne (own_ne_blk ht.cw ht.blk (by decide)) (offE ht.cw))) (own_stay hx ht.kw (hne (own_ne_blk ht.kw ht.blk (by decide)) (offE ht.kw)))
    (fun g' hg' => by
      rcases hn g' hg' with h | h
      · exact grow.old (ht.se g' h)
      · exact grow.new h (own_lt hr g' hg').2) (ht.sc.mono (fun _ => grow.old)) (ht.sk.mono (fun _ => grow.old)) (Next.refl _ _) (Next.refl _ _) ht.ck rfl
    (by
      rintro (e | e)
      · exact ht.nb e
      · exact own_ne_map ht.er ht.mp m e rfl)
    (fun y hy => ⟨by
      rintro (e | e)
      · exact ht.hb hy e
      · exact own_ne_blk ht.er (ht.hd y hy).blk (by decide) _ e rfl, hne (ht.vb hy) (offE (ht.hd y hy).row)⟩)
end

def CutPost (w : World) (hb : Nat) (v : Value) (l : List Int) (i : Nat) (e : Ending) (w' : World) : Prop :=
  e = .returned (.int .i64 (l.getD i 0)) ∧ ∃ v', Blk w' hb 64 [v'] ∧ w'.ownsRow 0 3 1 v' (l.eraseIdx i).length (ints (l.eraseIdx i)) ∧ Next w v v' ∧ Stay (fun k => k = hb ∨ v.ownBlock = some k) w w'

set_option maxRecDepth 100000 in
set_option maxHeartbeats 4000000 in
theorem cut_any (w : World) (hb : Nat) (v : Value) (l : List Int) (i : Nat) (h : Blk w hb 64 [v]) (hr : w.ownsRow 0 3 1 v l.length (ints l)) (hi : i < l.length) (hl : l.length ≤ 1000000) :
    Calls Try.prog 52 #[.pointer (some ⟨hb, 0, none⟩), .int .i64 i] w (CutPost w hb v l i) := by
  obtain ⟨g, cp, rfl, hcp, _⟩ := hr.form (by omega)
  obtain ⟨x, hx⟩ : ∃ x, l[i]? = some x := ⟨_, List.getElem?_eq_getElem hi⟩
  have hgx : l.getD i 0 = x := by rw [List.getD_eq_getElem?_getD, hx]; rfl
  have c := h.cell
  have f := h.free
  have lt := h.lt
  have z := hr.cellAt i (by omega)
  rw [show (ints l)[i]? = some (.int .i64 x) by unfold ints; rw [List.getElem?_map, hx]; rfl] at z
  have hgl := (own_lt hr g rfl).2
  have hi1 : (0 : Int) ≤ (i : Int) := by omega
  have hi2 : (i : Int) < (l.length : Int) := by omega
  have hi3 : (i : Int) + 1 = ((i + 1 : Nat) : Int) := by omega
  have H := Lib.hid (And.intro h (And.intro hr (And.intro hgx hi3)))
  have hel : Hid (l.length - (i + 1 - i) = (l.eraseIdx i).length ∧ l.take i ++ l.drop (i + 1) = l.eraseIdx i) := Lib.hid ⟨by rw [List.length_eraseIdx, if_pos hi]; omega, (List.eraseIdx_eq_take_drop_succ l i).symm⟩
  clear h hr hx hgx hi3
  go_enter Try.func52, Try.ntmps52
  go_wp2_with fail
  rw [H.out.2.2.2]
  refine (delete_any w 0 _ l i (i + 1) H.out.2.1 (by omega) (by omega) (by omega)).mono ?_
  rintro e w1 ⟨g', c', e1, rfl, hr1, hs1⟩
  simp only [Value.slice.injEq, Option.some.injEq, Addr.mk.injEq, and_true, true_and] at e1
  obtain ⟨rfl, rfl⟩ := e1
  rw [hel.out.1, hel.out.2] at hr1
  rw [hel.out.1]
  have hng : g ≠ hb := own_ne_blk H.out.2.1 H.out.1 (by decide) g rfl
  have hB1 := hs1.blk H.out.1 (fun e => hng e.symm)
  have c1 := hB1.cell
  have f1 := hB1.free
  have l1 := hB1.lt
  have H1 := Lib.hid (And.intro hr1 (And.intro hs1 hB1))
  clear hr1 hs1 hB1 c f lt z
  go_wp2_with fail
  go_ret
  exact ⟨by rw [H.out.2.2.1]; rfl, _, H1.out.2.2.set 0 _, own_set H1.out.1 _ (fun g' hg' => own_ne_blk H1.out.1 H1.out.2.2 (by decide) g' hg'), fun g' hg' => .inl hg', ((H1.out.2.1.mono (fun k _ e => .inr (by rw [e]; rfl))).put (.inl rfl) _ _)⟩

theorem flat_shut (es : List Ent) : ∀ (k : Nat) (tm : Int), k < es.length → (es.flatMap Ent.cells).set (k * 4 + 3) (.int .i64 tm) = (es.modify k fun e => ⟨e.what, e.task, e.fr, tm⟩).flatMap Ent.cells := by
  induction es with
  | nil => intro k tm h; simp at h
  | cons a es ih =>
    intro k tm h
    cases k with
    | zero => simp [Ent.cells]
    | succ k =>
      have := ih k tm (by simp at h; omega)
      simp only [List.flatMap_cons, List.modify_succ_cons]
      rw [← this, List.set_append_right _ _ (by simp [Ent.cells]; omega)]
      congr 2
      simp [Ent.cells]
      omega

end Go.Proofs.Ytgjicobfbdikmaa
