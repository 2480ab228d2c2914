/- A copy of a table. -/
import Derived.Test.YtfifdgigeecfbaaLockCopy
import Derived.Test.YtfifdgigeecfbaaLockOT
set_option linter.unusedVariables false
set_option linter.unusedSimpArgs false
namespace Go.Proofs.Ytfifdgigeecfbaa
open Go Go.RowKit

def addAll (acc : List (Int × Nat)) (i : Nat) (l : List Int) : List (Int × Nat) := l.foldl (fun a p => aset a p i) acc
def rb (ls : List Lk) (j : Nat) : List (Int × Nat) := (List.range j).foldl (fun a i => addAll a i ((ls.getD i (Lk.new 0)).waiting)) []
def Tb.copy (t : Tb) : Tb := ⟨t.ls, rb t.ls t.ls.length⟩
theorem addAll_snoc (acc : List (Int × Nat)) (i : Nat) (l : List Int) (p : Int) : addAll acc i (l ++ [p]) = aset (addAll acc i l) p i := by simp [addAll]
theorem rb_succ (ls : List Lk) (j : Nat) {k : Lk} (h : ls[j]? = some k) : rb ls (j + 1) = addAll (rb ls j) j k.waiting := by
  unfold rb
  rw [List.range_succ, List.foldl_append]
  simp [List.getD, h]
theorem aget_addAll (i : Nat) (p : Int) : ∀ (l : List Int) (acc : List (Int × Nat)), aget (addAll acc i l) p = if p ∈ l then some i else aget acc p
  | [], acc => by simp [addAll]
  | q :: l, acc => by
    show aget (addAll (aset acc q i) i l) p = _
    rw [aget_addAll i p l, aget_set]
    by_cases h : p ∈ l
    · simp [h]
    · by_cases e : q = p
      · simp [e]
      · have e2 : ¬ p = q := fun h => e h.symm
        simp [h, e, e2]
theorem addAll_nodup (i : Nat) : ∀ (l : List Int) (acc : List (Int × Nat)), (acc.map (·.1)).Nodup → ((addAll acc i l).map (·.1)).Nodup
  | [], acc, h => h
  | q :: l, acc, h => addAll_nodup i l (aset acc q i) (aset_nodup h _ _)
theorem rb_nodup (ls : List Lk) : ∀ j, ((rb ls j).map (·.1)).Nodup
  | 0 => by simp [rb]
  | j + 1 => by
    unfold rb
    rw [List.range_succ, List.foldl_append]
    exact addAll_nodup _ _ _ (rb_nodup ls j)
theorem addAll_idx (i n : Nat) (hi : i < n) : ∀ (l : List Int) (acc : List (Int × Nat)), (∀ x ∈ acc, x.2 < n) → ∀ x ∈ addAll acc i l, x.2 < n
  | [], acc, h => h
  | q :: l, acc, h => addAll_idx i n hi l (aset acc q i) (fun x hx => by
    rcases mem_aset hx with rfl | hx
    · exact hi
    · exact h x hx)
theorem rb_idx (ls : List Lk) : ∀ j, ∀ x ∈ rb ls j, x.2 < j
  | 0 => by simp [rb]
  | j + 1 => by
    unfold rb
    rw [List.range_succ, List.foldl_append]
    exact addAll_idx _ _ (by omega) _ _ (fun x hx => Nat.lt_succ_of_lt (rb_idx ls j x hx))
theorem rb_get {t : Tb} (h : t.Cons) (p : Int) : ∀ j, j ≤ t.ls.length → aget (rb t.ls j) p = (aget t.waits p).bind fun i => if i < j then some i else none
  | 0, _ => by
    cases aget t.waits p <;> simp [rb, aget]
  | j + 1, hj => by
    obtain ⟨k, hk⟩ : ∃ k, t.ls[j]? = some k := ⟨_, List.getElem?_eq_getElem (by omega)⟩
    rw [rb_succ _ _ hk, aget_addAll, rb_get h p j (by omega)]
    by_cases hp : p ∈ k.waiting
    · rw [if_pos hp, h.c2 j k p hk hp]
      simp
    · rw [if_neg hp]
      cases hw : aget t.waits p with
      | none => rfl
      | some i =>
        have hne : i ≠ j := by
          rintro rfl
          obtain ⟨k', hk', hm⟩ := h.c1 p i hw
          rw [hk] at hk'
          cases hk'
          exact hp hm
        simp only [Option.bind_some]
        by_cases hl : i < j
        · rw [if_pos hl, if_pos (by omega)]
        · rw [if_neg hl, if_neg (by omega)]
theorem copy_get {t : Tb} (h : t.Cons) (p : Int) : aget t.copy.waits p = aget t.waits p := by
  show aget (rb t.ls t.ls.length) p = _
  rw [rb_get h p _ (Nat.le_refl _)]
  cases hw : aget t.waits p with
  | none => rfl
  | some i =>
    obtain ⟨k, hk, _⟩ := h.c1 p i hw
    have := (List.getElem?_eq_some_iff.1 hk).1
    simp [this]
theorem copy_cons {t : Tb} (h : t.Cons) : t.copy.Cons :=
  ⟨fun p i hp => by rw [copy_get h] at hp; exact h.c1 p i hp, fun i k p hk hp => by rw [copy_get h]; exact h.c2 i k p hk hp, h.c3, rb_nodup _ _⟩
/-- As many wait as the table of those who wait has. -/
theorem len_le_of_get {α : Type} {l l' : List (Int × α)} (h : (l.map (·.1)).Nodup) (hg : ∀ p, aget l p ≠ none → aget l' p ≠ none) : l.length ≤ l'.length := by
  have h1 : ∀ x ∈ l.map (·.1), x ∈ l'.map (·.1) := by
    intro x hx
    have h2 : aget l x ≠ none := fun e => (aget_none.1 e) hx
    have h3 := hg x h2
    exact Classical.byContradiction fun hn => h3 (aget_none.2 hn)
  have := List.Nodup.length_le_of_subset h h1
  simpa using this
theorem copy_ok {t : Tb} {d : Int} (h : t.Ok d) (hc : t.Cons) : t.copy.Ok d :=
  ⟨h.n, h.lk, rb_idx _ _, h.d0, by
    have := len_le_of_get (copy_cons hc).c4 (l' := t.waits) (fun p hp => by rw [copy_get hc] at hp; exact hp)
    have := h.wlen
    omega⟩

theorem Tab.wait {w w' : World} {S S' : Nat → Prop} {b m : Nat} {t : Tb} {lv : Value} {bs hs : Nat → Nat} {vs : Nat → Value} (ht : Tab w S b t m lv bs hs vs) (hx : Stay (fun j => j = m) w w') (hS : ∀ j, S j → S' j) (hl : ∀ j, S' j → j < w'.heap.size) {ws : List (Int × Nat)} (hm : IMap w' m (wmap bs ws)) :
    Tab w' S' b ⟨t.ls, ws⟩ m lv bs hs vs :=
  ⟨hx.blk ht.blk (fun e => ht.wm.ne_blk ht.blk e.symm), hS _ ht.sb, hS _ ht.sm, ht.sl.mono hS, hm, own_stay hx ht.row (fun g hg e => own_ne_map ht.row ht.wm g hg e),
    fun i k hk => (ht.lk i k hk).stay hx (fun e => ht.wm.ne_blk (ht.lk i k hk).blk e.symm) (fun e => ht.dm i (List.getElem?_eq_some_iff.1 hk).1 e) (fun g hg e => own_ne_map (ht.lk i k hk).row ht.wm g hg e) hS, ht.db, ht.dh, ht.dm, ht.dv, hl⟩
theorem LkAt.wide {w : World} {S S' : Nat → Prop} {b h : Nat} {k : Lk} {v : Value} (hk : LkAt w S b k h v) (hb : S' b) (hh : S' h) (hv : InS S' v) : LkAt w S' b k h v := ⟨hk.blk, hk.map, hk.row, hb, hh, hv⟩

theorem Tab.wide' {w : World} {S S' : Nat → Prop} {b m : Nat} {t : Tb} {lv : Value} {bs hs : Nat → Nat} {vs : Nat → Value} (ht : Tab w S b t m lv bs hs vs) (hS : ∀ j, S j → S' j) (hl : ∀ j, S' j → j < w.heap.size) : Tab w S' b t m lv bs hs vs :=
  ht.stay (Stay.refl (fun _ => False) w) (fun _ _ => id) hS hl

set_option maxRecDepth 100000 in
set_option maxHeartbeats 8000000 in
theorem copy_any (w : World) (S : Nat → Prop) (b : Nat) (t : Tb) (d : Int) (h : TabAt w S b t) (hok : t.Ok d) (hd : d ≤ 1000000) :
    Calls Try.prog 23 #[.pointer (some ⟨b, 0, none⟩)] w fun e w' => ∃ b', e = .returned (.pointer (some ⟨b', 0, none⟩)) ∧ TabAt w' (From w.heap.size w') b' t.copy ∧ Only w w' := by
  obtain ⟨m, lv, bs, hs, vs, hT⟩ := h
  have hn := hok.n
  obtain ⟨io, hio0, hio1, hio2, hio3⟩ := info_parts infoP
  obtain ⟨A, cp, rfl⟩ := own_shape hT.row
  have c1 := hT.blk.cell
  have l1 := hT.blk.lt
  have HT := Lib.hid (And.intro hT hok)
  clear hT hok
  go_enter Try.func23, Try.ntmps23
  go_wp2_with fail
  refine (new_any w).mono ?_
  rintro e w1 ⟨rfl, hT1, hO1⟩
  unfold ptr
  have c2 := (hO1.blk HT.out.1.blk).cell
  have HN := Lib.hid (And.intro hT1 hO1)
  clear hT1 hO1 c1
  go_wp2_with fail
  go_loopg [17] (t.ls.length) (fun kk vj wr => ∃ (j m' : Nat) (lv' : Value) (bs' hs' : Nat → Nat) (vs' : Nat → Value), j ≤ t.ls.length ∧ kk = t.ls.length - j ∧ vj = .int .i64 (j : Nat) ∧ Only w wr ∧ Tab wr (From w.heap.size wr) (w.heap.size + 1) ⟨t.ls.take j, rb t.ls j⟩ m' lv' bs' hs' vs')
  case atStart =>
    obtain ⟨m', lv', bs', hs', vs', hT'⟩ := HN.out.1
    exact ⟨0, m', lv', bs', hs', vs', Nat.zero_le _, rfl, rfl, HN.out.2, hT'⟩
  case round =>
    obtain ⟨j, m', lv', bs', hs', vs', hj, hk, rfl, hO, hT'⟩ := hrel
    by_cases hlt : j < t.ls.length
    · obtain ⟨k, hkk⟩ : ∃ k, t.ls[j]? = some k := ⟨_, List.getElem?_eq_getElem hlt⟩
      have hTs := HT.out.1.only hO
      obtain ⟨g, cp', e, _, hgl⟩ := hTs.row.form (by omega)
      cases e
      have r0 := hTs.row.cellAt j (by omega)
      rw [prow_at bs hlt] at r0
      unfold ptr at r0
      have hL := hTs.lk j k hkk
      have hkok := HT.out.2.lk k (List.mem_of_getElem? hkk)
      have hkl : k.waiting.length ≤ 1000000 := by have := hkok.wlen; omega
      have htl : (t.ls.take j).length = j := by simp; omega
      have hsz0 := hO.size
      have HX := Lib.hid (And.intro hk (And.intro hO (And.intro hT' (And.intro hkk (And.intro hL htl)))))
      clear hk hO hT' hTs hkk hL hkok c2 htl
      go_wp2_with fail
      refine (copyOne_any _ S (bs j) k (hs j) (vs j) HX.out.2.2.2.2.1 hkl).mono ?_
      rintro e w2 ⟨nb, nh, nv, S0, rfl, hN, hb1, hb2, hb3, hO2⟩
      obtain ⟨A2, c3, rfl⟩ := own_shape hN.row
      have hT2 := HX.out.2.2.1.only hO2
      obtain ⟨A3, c4, hlv⟩ := own_shape hT2.row
      subst hlv
      simp only [HX.out.2.2.2.2.2] at hT2
      have c5 := hT2.blk.cell
      have l5 := hT2.blk.lt
      have hsz2 := hO2.size
      have HY := Lib.hid (And.intro hN (And.intro hb1 (And.intro hb2 (And.intro hb3 (And.intro hO2 hT2)))))
      have hrow2 := hT2.row
      rw [HX.out.2.2.2.2.2] at hrow2
      have HR := Lib.hid hrow2
      clear hN hb1 hb2 hb3 hO2 hT2 r0 hrow2
      have hjn : (List.take j t.ls).length = j := HX.out.2.2.2.2.2
      go_upto_region 9 with (at_builtin; refine wpList_append_lies _ rfl _ _ _ rfl 0 69 io _ 1 8 Try.underlying66 hio0 hio1 hio2 hio3 rfl (by omega) _ j _ (by rfl) (own_alloc HR.out _) ⟨w2.heap.size, 0, none⟩ 1 1 [ptr nb] (by rfl) (by rfl) (World.news_of_block (cs := [ptr nb].toArray) (t := 69) (fr := (0, 0)) (heap_alloc_at' _ _ _ (by simp))) (by simp [ptr, Value.oneCell']) (by omega) (by simp only [maxLen]; omega) (by omega) (by omega) (w2.heap.size + 1) (by simp) ?_; intro g3 cap3 w3 hown hgrow hat hlt2; have BT := (grown_stay hgrow).blk (HY.out.2.2.2.2.2.blk.alloc _) (fun e => own_ne_blk HR.out HY.out.2.2.2.2.2.blk (by decide) _ e rfl); have c6 := BT.cell; have f6 := BT.free; have l6 := BT.lt; have BN := (grown_stay hgrow).blk (HY.out.1.blk.alloc _) (fun e => own_ne_blk HR.out HY.out.1.blk (by decide) _ e rfl); have c7 := BN.cell; have l7 := BN.lt; have HG := Lib.hid (And.intro hown (And.intro hgrow (And.intro hat (And.intro hlt2 (And.intro BT BN))))); unfold lkc at c7; clear hown hgrow hat hlt2 BT BN c5)
      obtain ⟨k1, k2, k3, k4, BT, BN⟩ := HG.out
      obtain ⟨hN, hb1, hb2, hb3, hO2, hT2⟩ := HY.out
      have hz3 := k2.size
      simp at hz3
      have hob : w.heap.size + 1 < wr.heap.size := HX.out.2.2.1.blk.lt
      have hbN : w.heap.size + 1 ≠ nb := by omega
      have st : Stay (fun j' => j' = w.heap.size + 1 ∨ (Value.slice A3 j c4).ownBlock = some j') w2 (w3.setCell ⟨w.heap.size + 1, 0, none⟩ (.slice (some ⟨g3, 0, none⟩) (j + 1) cap3)) :=
        Stay.put (Stay.trans ((Stay.refl _ w2).alloc _) (grown_stay k2) (fun i _ h => .inr h)) (.inl rfl) _ _
      have hw2sz : wr.heap.size ≤ w2.heap.size := hsz2
      have LN : LkAt (w3.setCell ⟨w.heap.size + 1, 0, none⟩ (.slice (some ⟨g3, 0, none⟩) (j + 1) cap3)) (From w.heap.size (w3.setCell ⟨w.heap.size + 1, 0, none⟩ (.slice (some ⟨g3, 0, none⟩) (j + 1) cap3))) nb k nh (.slice A2 k.waiting.length c3) := by
        have hl1 := hN.blk.lt
        have hl2 := hN.map.lt
        refine LkAt.wide (S := fun _ => True) (LkAt.stay (S := S0) hN st ?_ ?_ ?_ (fun _ _ => trivial)) ⟨by omega, by simp; omega⟩ ⟨by omega, by simp; omega⟩ (fun g hg => ⟨by have := hb3 g hg; omega, by have := (own_lt hN.row g hg).2; simp; omega⟩)
        · rintro (e | e)
          · exact hbN e.symm
          · exact own_ne_blk hT2.row hN.blk (by decide) _ e rfl
        · rintro (e | e)
          · exact hN.map.ne_blk hT2.blk e
          · exact own_ne_map hT2.row hN.map _ e rfl
        · rintro g hg (e | e)
          · exact own_ne_blk hN.row hT2.blk (by decide) _ hg e
          · rcases own_ne hN.row hT2.row (by decide) with e' | e'
            · rw [e'] at hg; cases hg
            · exact e' (hg.trans e.symm)
      have hFr : ∀ k', From w.heap.size w2 k' → From w.heap.size (w3.setCell ⟨w.heap.size + 1, 0, none⟩ (.slice (some ⟨g3, 0, none⟩) (j + 1) cap3)) k' := fun k' hk' => ⟨hk'.1, by have := hk'.2; simp; omega⟩
      have hT2' := hT2.wide' (S' := From w.heap.size w2) (fun k' hk' => ⟨hk'.1, Nat.lt_of_lt_of_le hk'.2 hsz2⟩) (fun _ h => h.2)
      have hidx : ∀ x ∈ rb t.ls j, x.2 < (t.ls.take j).length := fun x hx => by rw [HX.out.2.2.2.2.2]; exact rb_idx _ _ x hx
      have hr3 : (w3.setCell ⟨w.heap.size + 1, 0, none⟩ (.slice (some ⟨g3, 0, none⟩) (j + 1) cap3)).ownsRow 0 69 1 (.slice (some ⟨g3, 0, none⟩) (j + 1) cap3) ((t.ls.take j).length + 1) (prow bs' (t.ls.take j).length ++ [ptr nb]) := by
        rw [HX.out.2.2.2.2.2]
        exact own_set k1 _ (fun g' hg' => own_ne_blk k1 BT (by decide) g' hg')
      have hIn : InS (From w.heap.size (w3.setCell ⟨w.heap.size + 1, 0, none⟩ (.slice (some ⟨g3, 0, none⟩) (j + 1) cap3))) (.slice (some ⟨g3, 0, none⟩) (j + 1) cap3) := by
        intro g' hg'
        have e : g3 = g' := by simpa [Value.ownBlock] using hg'
        subst e
        rcases k3 with e | e
        · exact hFr _ (hT2'.sl g3 e)
        · exact ⟨by omega, by simpa using k4⟩
      have hFr0 : ∀ k', From w.heap.size wr k' → From w.heap.size (w3.setCell ⟨w.heap.size + 1, 0, none⟩ (.slice (some ⟨g3, 0, none⟩) (j + 1) cap3)) k' := fun k' hk' => ⟨hk'.1, by have := hk'.2; simp; omega⟩
      have st0 : Stay (fun j' => j' = w.heap.size + 1 ∨ (Value.slice A3 (List.take j t.ls).length c4).ownBlock = some j') wr (w3.setCell ⟨w.heap.size + 1, 0, none⟩ (.slice (some ⟨g3, 0, none⟩) (j + 1) cap3)) := Stay.trans (hO2.mono (fun _ _ h => h.elim)) st (fun _ _ h => by rw [HX.out.2.2.2.2.2]; exact h)
      have hP := Tab.push HX.out.2.2.1 hidx st0 hFr0 (fun _ h => h.2) LN (by omega) (by omega) (fun g hg => by have := hb3 g hg; omega) (by have := BT.set 0 (.slice (some ⟨g3, 0, none⟩) (j + 1) cap3); exact this) hr3 hIn
      have hTk : t.ls.take j ++ [k] = t.ls.take (j + 1) := by rw [List.take_succ_eq_append_getElem hlt, (List.getElem?_eq_some_iff.1 HX.out.2.2.2.1).2]
      rw [hTk] at hP
      obtain ⟨bs5, hs5, vs5, hP5, hbj, hvj⟩ : ∃ (bs5 hs5 : Nat → Nat) (vs5 : Nat → Value), Tab (w3.setCell ⟨w.heap.size + 1, 0, none⟩ (.slice (some ⟨g3, 0, none⟩) (j + 1) cap3)) (From w.heap.size (w3.setCell ⟨w.heap.size + 1, 0, none⟩ (.slice (some ⟨g3, 0, none⟩) (j + 1) cap3))) (w.heap.size + 1) ⟨t.ls.take (j + 1), rb t.ls j⟩ m' (.slice (some ⟨g3, 0, none⟩) (j + 1) cap3) bs5 hs5 vs5 ∧ bs5 j = nb ∧ vs5 j = .slice A2 k.waiting.length c3 :=
        ⟨_, _, _, hP, by rw [HX.out.2.2.2.2.2]; simp, by rw [HX.out.2.2.2.2.2]; simp⟩
      have hO5 : Only w (w3.setCell ⟨w.heap.size + 1, 0, none⟩ (.slice (some ⟨g3, 0, none⟩) (j + 1) cap3)) := by
        have hM : Mine w.heap.size w w2 := Mine.only (HX.out.2.1.trans' hO2)
        refine Mine.stay (hM.trans (Stay.mono st (fun i _ h => ?_)))
        rcases h with rfl | h
        · omega
        · exact (hT2'.sl i h).1
      have HP := Lib.hid (And.intro hP5 (And.intro hbj (And.intro hvj hO5)))
      clear hP hP5 hO5 hIn hr3 hidx hT2' hFr LN st hbj hvj hTk k1 k2 k3 k4 BT BN hN hb1 hb2 hb3 hO2 hT2
      have hkk5 : (t.ls.take (j + 1))[j]? = some k := by rw [List.getElem?_take_of_lt (by omega)]; exact HX.out.2.2.2.1
      have HK := Lib.hid hkk5
      clear hkk5
      go_wp2_with fail
      go_loopg [38] (k.waiting.length) (fun kk vq wr => ∃ (q : Nat), q ≤ k.waiting.length ∧ kk = k.waiting.length - q ∧ vq = .int .i64 (q : Nat) ∧ Only w wr ∧ Tab wr (From w.heap.size wr) (w.heap.size + 1) ⟨t.ls.take (j + 1), addAll (rb t.ls j) j (k.waiting.take q)⟩ m' (.slice (some ⟨g3, 0, none⟩) (j + 1) cap3) bs5 hs5 vs5)
      case atStart => exact ⟨0, Nat.zero_le _, rfl, rfl, HP.out.2.2.2, by simpa [addAll] using HP.out.1⟩
      case round =>
        obtain ⟨q, hq, hk3, rfl, hO6, hT6⟩ := hrel
        by_cases hlt3 : q < k.waiting.length
        · obtain ⟨x, hx⟩ : ∃ x, k.waiting[q]? = some x := ⟨_, List.getElem?_eq_getElem hlt3⟩
          have hLk := hT6.lk j k HK.out
          rw [HP.out.2.1, HP.out.2.2.1] at hLk
          obtain ⟨gw, cw, e, _, hgw⟩ := hLk.row.form (by omega)
          cases e
          have y0 := hLk.row.cellAt q (by omega)
          rw [show (List.map (Value.int IntKind.i64) k.waiting)[q]? = some (.int .i64 x) by rw [List.getElem?_map, hx]; rfl] at y0
          have y1 := hT6.blk.cell
          have yl := hT6.blk.lt
          have HZ := Lib.hid (And.intro hk3 (And.intro hO6 (And.intro hT6 hx)))
          clear hk3 hO6 hT6 hx hLk c6 f6 l6 c7 l7
          go_wp2_with (at_mapUpdate; refine wpList_update_v _ rfl _ _ _ _ rfl 3 69 Try.underlying65 Try.underlying3 m' (addAll (rb t.ls j) j (k.waiting.take q)) (by rfl) HZ.out.2.2.1.wm x j (by rfl) (by show _ = ptr (bs5 j); rw [HP.out.2.1]; rfl) ?_; intro w7 hm7 hs7 hz7)
          go_roundg (k.waiting.length - (q + 1))
          case measure => have := HZ.out.1; omega
          case rel =>
            refine ⟨q + 1, by omega, rfl, by go_num, ?_, ?_⟩
            · exact Mine.stay ((Mine.only HZ.out.2.1).trans (Stay.mono hs7 (fun i _ e => by rw [e]; exact HZ.out.2.2.1.sm.1)))
            · rw [List.take_succ_eq_append_getElem hlt3, (List.getElem?_eq_some_iff.1 HZ.out.2.2.2).2, addAll_snoc]
              exact HZ.out.2.2.1.wait hs7 (fun k' hk' => ⟨hk'.1, by have := hk'.2; omega⟩) (fun _ h => h.2) hm7
        · have hqe : q = k.waiting.length := by omega
          subst hqe
          have HZ := Lib.hid (And.intro hO6 hT6)
          clear hk3 hO6 hT6 c6 f6 l6 c7 l7
          go_wp2_with fail
          go_roundg (t.ls.length - (j + 1))
          case measure => have := HX.out.1; omega
          case rel =>
            have hz := HZ.out.2
            rw [List.take_length, ← rb_succ _ _ HX.out.2.2.2.1] at hz
            exact ⟨j + 1, m', .slice (some ⟨g3, 0, none⟩) (j + 1) cap3, bs5, hs5, vs5, hlt, rfl, by go_num, HZ.out.1, hz⟩
    · have hje : j = t.ls.length := by omega
      subst hje
      have HX := Lib.hid (And.intro hO hT')
      clear hk hO hT' c2
      go_wp2_with fail
      go_ret
      obtain ⟨hO, hT'⟩ := HX.out
      rw [List.take_length] at hT'
      exact ⟨_, rfl, ⟨_, _, _, _, _, hT'⟩, hO⟩

end Go.Proofs.Ytfifdgigeecfbaa
