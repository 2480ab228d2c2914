/- The calls of a table: Make, Hold, give, Free. -/
import Derived.Test.YtfifdgigeecfbaaLockRep
import Derived.Deep.AppendLies
import Derived.Outline
set_option linter.unusedVariables false
set_option linter.unusedSimpArgs false
namespace Go.Proofs.Ytfifdgigeecfbaa
open Go Go.RowKit

theorem infoI : (Try.prog.info? 3).map (fun i => (i.zero, i.size, i.bytes)) = some (some (.int .i64 0), 1, 8) := by kernel_rfl
theorem infoP : (Try.prog.info? 69).map (fun i => (i.zero, i.size, i.bytes)) = some (some (.pointer none), 1, 8) := by kernel_rfl

/-- Behind a call on a table. -/
def TbPost (w : World) (S : Nat → Prop) (b : Nat) (res : Value) (t' : Tb) (e : Ending) (w' : World) : Prop :=
  e = .returned res ∧ TabAt w' (grow S w w') b t' ∧ Stay S w w'
theorem TbPost.same {w w' : World} {S : Nat → Prop} {b : Nat} {r r' : Value} {t t' : Tb} (h : TabAt w S b t) (ho : Only w w') (hr : r = r') (ht : t' = t) : TbPost w S b r' t' (.returned r) w' := by
  subst hr ht
  exact ⟨rfl, (h.only ho).wide (fun _ => grow.old) (fun j hj => hj.lt h.lt ho.size), ho.mono (fun _ _ h => h.elim)⟩

theorem prow_snoc (bs : Nat → Nat) (n x : Nat) : prow bs n ++ [ptr x] = prow (fun j => if j = n then x else bs j) (n + 1) := by
  unfold prow
  rw [List.range_succ, List.map_append]
  congr 1
  · apply List.map_congr_left
    intro i hi
    have : i ≠ n := by have := List.mem_range.1 hi; omega
    simp [this]
  · simp
theorem wmap_congr {bs bs' : Nat → Nat} {l : List (Int × Nat)} (h : ∀ x ∈ l, bs x.2 = bs' x.2) : wmap bs l = wmap bs' l := by
  unfold wmap vmap
  apply List.map_congr_left
  intro x hx
  simp only [h x hx]

theorem Tab.push {w w' : World} {S S' : Nat → Prop} {b m : Nat} {t : Tb} {lv lv' : Value} {bs hs : Nat → Nat} {vs : Nat → Value} (ht : Tab w S b t m lv bs hs vs) (hidx : ∀ x ∈ t.waits, x.2 < t.ls.length)
    (hx : Stay (fun j => j = b ∨ lv.ownBlock = some j) w w') (hS : ∀ j, S j → S' j) (hl : ∀ j, S' j → j < w'.heap.size) {k : Lk} {nb nh : Nat} {nv : Value} (hk : LkAt w' S' nb k nh nv) (h1 : w.heap.size ≤ nb) (h2 : w.heap.size ≤ nh) (h3 : ∀ g, nv.ownBlock = some g → w.heap.size ≤ g)
    (hb : Blk w' b 68 [lv', .map (some m)]) (hr : w'.ownsRow 0 69 1 lv' (t.ls.length + 1) (prow bs t.ls.length ++ [ptr nb])) (hs' : InS S' lv') :
    Tab w' S' b ⟨t.ls ++ [k], t.waits⟩ m lv' (fun j => if j = t.ls.length then nb else bs j) (fun j => if j = t.ls.length then nh else hs j) (fun j => if j = t.ls.length then nv else vs j) := by
  have oldb : ∀ i, i < t.ls.length → bs i < w.heap.size := fun i hi => ht.lt _ (ht.lk i _ (List.getElem?_eq_getElem hi)).sb
  have oldh : ∀ i, i < t.ls.length → hs i < w.heap.size := fun i hi => ht.lt _ (ht.lk i _ (List.getElem?_eq_getElem hi)).sh
  have oldv : ∀ i, i < t.ls.length → ∀ g, (vs i).ownBlock = some g → g < w.heap.size := fun i hi g hg => ht.lt _ ((ht.lk i _ (List.getElem?_eq_getElem hi)).sv g hg)
  refine ⟨hb, hS _ ht.sb, hS _ ht.sm, hs', ?_, ?_, ?_, ?_, ?_, ?_, ?_, hl⟩
  · rw [wmap_congr (bs' := bs) (fun x hx => if_neg (Nat.ne_of_lt (hidx x hx)))]
    refine ht.wm.stay hx ?_
    rintro (h | h)
    · exact ht.wm.ne_blk ht.blk h
    · exact own_ne_map ht.row ht.wm _ h rfl
  · simpa [prow_snoc] using hr
  · intro i ki hi
    by_cases e : i = t.ls.length
    · subst e
      simp only [List.getElem?_append_right (Nat.le_refl _), Nat.sub_self, List.getElem?_cons_zero, Option.some.injEq] at hi
      subst hi
      simpa using hk
    · have hil : i < t.ls.length := by
        have := (List.getElem?_eq_some_iff.1 hi).1
        simp at this
        omega
      rw [List.getElem?_append_left hil] at hi
      have h0 := ht.lk i ki hi
      simp only [if_neg e]
      refine h0.stay hx ?_ ?_ ?_ hS
      · rintro (h | h)
        · exact blk_ne h0.blk ht.blk (by decide) h
        · exact own_ne_blk ht.row h0.blk (by decide) _ h rfl
      · rintro (h | h)
        · exact h0.map.ne_blk ht.blk h
        · exact own_ne_map ht.row h0.map _ h rfl
      · rintro g hg (h | h)
        · exact own_ne_blk h0.row ht.blk (by decide) _ hg h
        · rcases own_ne h0.row ht.row (by decide) with e | e
          · rw [e] at hg; cases hg
          · exact e (hg.trans h.symm)
  · intro i j hi hj h
    simp only [List.length_append, List.length_cons, List.length_nil] at hi hj
    split at h <;> split at h
    · omega
    · rename_i e1 e2; have := oldb j (by omega); omega
    · rename_i e1 e2; have := oldb i (by omega); omega
    · exact ht.db i j (by omega) (by omega) h
  · intro i j hi hj h
    simp only [List.length_append, List.length_cons, List.length_nil] at hi hj
    split at h <;> split at h
    · omega
    · rename_i e1 e2; have := oldh j (by omega); omega
    · rename_i e1 e2; have := oldh i (by omega); omega
    · exact ht.dh i j (by omega) (by omega) h
  · intro i hi
    simp only [List.length_append, List.length_cons, List.length_nil] at hi
    split
    · have := ht.lt _ ht.sm; omega
    · exact ht.dm i (by omega)
  · intro i j g hi hj h h'
    simp only [List.length_append, List.length_cons, List.length_nil] at hi hj
    split at h <;> split at h'
    · omega
    · rename_i e1 e2; have := oldv j (by omega) g h'; have := h3 g h; omega
    · rename_i e1 e2; have := oldv i (by omega) g h; have := h3 g h'; omega
    · exact ht.dv i j g (by omega) (by omega) h h'

set_option maxRecDepth 100000 in
set_option maxHeartbeats 2000000 in
theorem make_any (w : World) (S : Nat → Prop) (b : Nat) (t : Tb) (d p : Int) (h : TabAt w S b t) (hok : t.Ok d) :
    Calls Try.prog 11 #[ptr b, .int .i64 p] w (TbPost w S b (.tuple #[.int .i64 (t.make p).2.1, .int .i64 (t.make p).2.2]) (t.make p).1) := by
  have HH := Lib.hid (And.intro h hok)
  obtain ⟨m, lv, bs, hs, vs, hT⟩ := h
  unfold ptr
  obtain ⟨A, cp, rfl⟩ := own_shape hT.row
  have c := hT.blk.cell
  have hmm := @run_makeMap Try.prog
  have hn := hok.n
  have HT := Lib.hid hT
  clear hT hok
  by_cases h1 : p < 1
  · have HF := Lib.hid (show t.make p = (t, 0, 2) by unfold Tb.make; rw [if_pos (.inl h1)])
    go_enter Try.func11, Try.ntmps11
    go_wp2_with fail
    go_ret2
    exact TbPost.same HH.out.1 (Stay.refl _ w) (by rw [HF.out]; rfl) (by rw [HF.out])
  by_cases h2 : 16 < p
  · have HF := Lib.hid (show t.make p = (t, 0, 2) by unfold Tb.make; rw [if_pos (.inr h2)])
    go_enter Try.func11, Try.ntmps11
    go_wp2_with fail
    go_ret2
    exact TbPost.same HH.out.1 (Stay.refl _ w) (by rw [HF.out]; rfl) (by rw [HF.out])
  by_cases h3 : 16 ≤ t.ls.length
  · have HF := Lib.hid (show t.make p = (t, 0, 5) by unfold Tb.make; rw [if_neg (by omega), if_pos h3])
    go_enter Try.func11, Try.ntmps11
    go_wp2_with fail
    go_ret2
    exact TbPost.same HH.out.1 (Stay.refl _ w) (by rw [HF.out]; rfl) (by rw [HF.out])
  · have HF := Lib.hid (show t.make p = (({ ls := t.ls ++ [Lk.new p], waits := t.waits } : Tb), (t.ls.length : Int) + 1, (0 : Int)) by unfold Tb.make; rw [if_neg (by omega), if_neg h3])
    obtain ⟨io, hio0, hio1, hio2, hio3⟩ := info_parts infoP
    have hbl := HT.out.blk.lt
    have hfree := HT.out.blk.free
    go_enter Try.func11, Try.ntmps11
    go_wp2_with (at_builtin; refine wpList_append_lies _ rfl _ _ _ rfl 0 69 io _ 1 8 Try.underlying66 hio0 hio1 hio2 hio3 rfl (by omega) _ t.ls.length _ (by rfl) (own_alloc (own_alloc (own_alloc HT.out.row _) _) _) ⟨w.heap.size + 2, 0, none⟩ 1 1 [ptr (w.heap.size + 1)] (by rfl) (by rfl) (World.news_of_block (cs := [ptr (w.heap.size + 1)].toArray) (t := 69) (fr := (0, 0)) (heap_alloc_at' _ _ _ (by simp))) (by simp [ptr, Value.oneCell']) (by omega) (by simp only [maxLen]; omega) (by omega) (by omega) (w.heap.size + 3) (by simp) ?_; intro g cap w1 hown hgrow hat hlt; have b3 : Blk w1 b 68 [.slice A t.ls.length cp, .map (some m)] := Stay.blk (grown_stay hgrow) (((HT.out.blk.alloc _).alloc _).alloc _) (fun e => own_ne_blk HT.out.row HT.out.blk (by decide) _ e rfl); have b3c := b3.cell; have b3f := b3.free; have b3l := b3.lt; have HW := Lib.hid (And.intro hown (And.intro hgrow (And.intro hat (And.intro hlt b3)))); clear hown hgrow hat hlt b3 c)
    go_ret2
    obtain ⟨r1, r2, r3, r4, r5⟩ := HW.out
    rw [HF.out]
    have hs3 := r2.size
    simp at hs3
    have hsz : w.heap.size ≤ w1.heap.size := by omega
    have hS : ∀ k, S k → grow S w (w1.setCell ⟨b, 0, none⟩ (.slice (some ⟨g, 0, none⟩) (t.ls.length + 1) cap)) k := fun _ => grow.old
    have st : Stay (fun j => j = b ∨ (Value.slice A t.ls.length cp).ownBlock = some j) w (w1.setCell ⟨b, 0, none⟩ (.slice (some ⟨g, 0, none⟩) (t.ls.length + 1) cap)) :=
      Stay.put (Stay.trans ((((Stay.refl _ w).alloc _).alloc _).alloc _) (grown_stay r2) (fun i _ h => .inr h)) (.inl rfl) _ _
    refine ⟨rfl, ⟨m, _, _, _, _, HT.out.push HH.out.2.idx st hS (fun k hk => hk.lt HT.out.lt (by simpa using hsz)) (k := Lk.new p) (nb := w.heap.size + 1) (nh := w.heap.size) (nv := .slice none 0 0) ?_ (by omega) (Nat.le_refl _) (fun g hg => by simp [Value.ownBlock] at hg) (r5.set 0 _) (own_set r1 _ ?_) ?_⟩, st.mono ?_⟩
    · have k1 : ∀ j, w.heap.size ≤ j → ¬ (Value.slice A t.ls.length cp).ownBlock = some j := fun j hj e => by have := (own_lt HT.out.row j e).2; omega
      have q : Stay (fun j => j = b ∨ (Value.slice A t.ls.length cp).ownBlock = some j) _ (w1.setCell ⟨b, 0, none⟩ (.slice (some ⟨g, 0, none⟩) (t.ls.length + 1) cap)) := Stay.put ((grown_stay r2).mono (fun _ _ h => .inr h)) (.inl rfl) _ _
      have k2 : ∀ j, w.heap.size ≤ j → ¬ (fun j => j = b ∨ (Value.slice A t.ls.length cp).ownBlock = some j) j := fun j hj e => by
        rcases e with rfl | e
        · omega
        · exact k1 j hj e
      refine ⟨q.blk ((Blk.newAt (w.alloc _) (lkc (Lk.new p) w.heap.size (.slice none 0 0)) _ _ (by simp)).alloc _) (k2 _ (by omega)), (((IMap.new w).alloc _).alloc _).stay q (k2 _ (Nat.le_refl _)), World.ownsRow_nil _ _ _ _, grow.new (by omega) (by simp; omega), grow.new (Nat.le_refl _) (by simp; omega), InS.nil _ _⟩
    · intro g' hg'
      exact own_ne_blk r1 r5 (by decide) g' hg'
    · intro g' hg'
      have e : g = g' := by simpa [Value.ownBlock] using hg'
      subst e
      rcases r3 with e | e
      · exact grow.old (HT.out.sl g e)
      · exact grow.new (by omega) (by simpa using r4)
    · rintro i hi (rfl | e)
      · exact HT.out.sb
      · exact HT.out.sl i e

end Go.Proofs.Ytfifdgigeecfbaa
