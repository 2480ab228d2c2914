/- The reference's Make, Hold, Free, Withdraw, freed. -/
import Derived.Test.YtfifdgigeecfbaaRefLA
import Derived.Test.YtfifdgigeecfbaaLawLockFree
import Derived.Test.YtfifdgigeecfbaaLockFree
import Derived.Test.YtfifdgigeecfbaaLockFrees
set_option linter.unusedVariables false
set_option linter.unusedSimpArgs false
namespace Go.Proofs.Ytfifdgigeecfbaa
open Go Go.RowKit

/-- A table of the reference that reads as these locks. -/
def RTab (X : Nat → Prop) (w w' : World) (v : Value) (t : Tb) : Prop := ∃ A c, v = tv A t.ls.length c ∧ StsX w' X A t.ls.length c t.ls ∧ Only w w'
theorem RTab.same {X : Nat → Prop} {w w' : World} {A : Option Addr} {c : Nat} {t : Tb} (h : StsX w X A t.ls.length c t.ls) (hO : Only w w') : RTab X w w' (tv A t.ls.length c) t := ⟨A, c, rfl, h.only hO, hO⟩
theorem Sl.zero (w : World) (B size : Nat) : Sl w B none 0 0 size [] := ⟨by simp, Nat.le_refl _, by omega, by simp, fun h => by omega⟩

def RMk (X : Nat → Prop) (w : World) (t : Tb) (p : Int) (e : Ending) (w' : World) : Prop :=
  ∃ v, e = .returned (.tuple #[v, .int .i64 (t.make p).2.1, .int .i64 (t.make p).2.2]) ∧ RTab X w w' v (t.make p).1
theorem RMk.mk {X : Nat → Prop} {w w' : World} {t t' : Tb} {p n er : Int} {v : Value} (h : t.make p = (t', n, er)) (hr : RTab X w w' v t') : RMk X w t p (.returned (.tuple #[v, .int .i64 n, .int .i64 er])) w' := by
  unfold RMk
  rw [h]
  exact ⟨v, rfl, hr⟩
theorem stsx_push {X : Nat → Prop} {w w' : World} {cap B g : Nat} {ks : List Lk} {vs : List (Value × Value)} {p : Int} (hvl : vs.length = ks.length)
    (hvs : ∀ (i : Nat) k hv wv, ks[i]? = some k → vs[i]? = some (hv, wv) → ∃ A c A' c', hv = .slice A k.holders.length c ∧ wv = .slice A' k.waiting.length c' ∧ RdX w X k A c A' c') (hO : Only w w') (hX : ∀ b, X b → b < B)
    (hown : w'.ownsRow B 42 4 (.slice (some ⟨g, 0, none⟩) (ks.length + 1) cap) (ks.length + 1) ((ks.zip vs).flatMap scell ++ [.int .i64 p, .int .i64 p, .slice none 0 0, .slice none 0 0])) :
    StsX w' X (some ⟨g, 0, none⟩) (ks ++ [Lk.new p]).length cap (ks ++ [Lk.new p]) := by
  have e1 : (ks ++ [Lk.new p]).length = ks.length + 1 := by simp
  rw [e1]
  refine ⟨vs ++ [(.slice none 0 0, .slice none 0 0)], by simp [hvl], by simp, ?_, (fun _ a ha hx => by cases ha; have := (own_lt hown g rfl).1; have := hX _ hx; simp at this; omega), fun i k hv wv hk hv' => ?_⟩
  · rw [List.zip_append hvl.symm, List.flatMap_append]
    exact own_sl' hown
  · by_cases hi : i < ks.length
    · rw [List.getElem?_append_left hi] at hk
      rw [List.getElem?_append_left (by omega)] at hv'
      obtain ⟨a1, a2, a3, a4, e1, e2, h3⟩ := hvs i k hv wv hk hv'
      exact ⟨a1, a2, a3, a4, e1, e2, h3.only hO⟩
    · rw [List.getElem?_append_right (by omega)] at hk hv'
      have hz : i - ks.length = 0 := by have := (List.getElem?_eq_some_iff.1 hk).1; simp at this; omega
      rw [hvl, hz] at hv'
      rw [hz] at hk
      simp only [List.getElem?_cons_zero, Option.some.injEq, Prod.mk.injEq] at hk hv'
      obtain ⟨rfl, rfl⟩ := hv'
      subst hk
      have hh : (Lk.new p).holders = [] := by simp [Lk.holders, Lk.new, srt]
      exact ⟨none, 0, none, 0, by rw [hh]; rfl, rfl, ⟨by rw [hh]; exact Sl.zero _ _ _, Sl.zero _ _ _⟩, (fun _ a ha => by cases ha), (fun _ a ha => by cases ha)⟩

set_option maxRecDepth 100000 in
set_option maxHeartbeats 8000000 in
theorem rmake_any (w : World) (X : Nat → Prop) (A : Option Addr) (c : Nat) (t : Tb) (p : Int) (h : StsX w X A t.ls.length c t.ls) (hX : ∀ b, X b → b < w.heap.size) (hn : t.ls.length ≤ 16) :
    Calls Try.prog 43 #[tv A t.ls.length c, .int .i64 p] w (RMk X w t p) := by
  obtain ⟨_, b1, b2⟩ := h.rd.bounds
  obtain ⟨il, hil0, hil1, hil2, hil3⟩ := info_parts infoL
  have HOW := Lib.hid hX
  have hfin : Hid (∀ W, Stay (fun k => w.heap.size ≤ k) w W → Only w W) := fun W hs => Mine.stay hs
  have HO := Lib.hid (show Only w ((w.alloc (.cells #[.slice A t.ls.length c] 57)).alloc (.cells #[.slice none 0 0] 57)) from ((Stay.refl _ w).alloc _).alloc _)
  by_cases hp : p < 1 ∨ p > 16
  · have H := Lib.hid (And.intro h (show t.make p = (t, 0, 2) by unfold Tb.make; rw [if_pos (by omega)]))
    clear h
    unfold tv
    by_cases h1 : p < 1
    · clear hp
      go_enter Try.func43, Try.ntmps43
      go_wp2_with fail
      refine bodyPost_ret (v := .tuple #[tv A t.ls.length c, .int .i64 0, .int .i64 2]) (by simp [results, Try.results43, go_sem, tv]) rfl (RMk.mk H.out.2 (RTab.same H.out.1 ?_))
      first
        | exact ((Stay.refl _ w).alloc _).alloc _
        | (refine hfin.out _ ?_
           repeat refine Stay.put ?_ (by simp) _ _
           exact HO.out.mono (fun _ _ h => h.elim))
    · have h2 : p > 16 := by omega
      clear hp
      go_enter Try.func43, Try.ntmps43
      go_wp2_with fail
      refine bodyPost_ret (v := .tuple #[tv A t.ls.length c, .int .i64 0, .int .i64 2]) (by simp [results, Try.results43, go_sem, tv]) rfl (RMk.mk H.out.2 (RTab.same H.out.1 ?_))
      first
        | exact ((Stay.refl _ w).alloc _).alloc _
        | (refine hfin.out _ ?_
           repeat refine Stay.put ?_ (by simp) _ _
           exact HO.out.mono (fun _ _ h => h.elim))
  have p1 : ¬ p < 1 := by omega
  have p2 : ¬ p > 16 := by omega
  clear hp
  by_cases hf : t.ls.length = 16
  · have H := Lib.hid (And.intro h (show t.make p = (t, 0, 5) by unfold Tb.make; rw [if_neg (by omega), if_pos (by omega)]))
    have hf2 : (t.ls.length : Int) ≥ 16 := by omega
    clear h hf
    unfold tv
    go_enter Try.func43, Try.ntmps43
    go_wp2_with fail
    refine bodyPost_ret (v := .tuple #[tv A t.ls.length c, .int .i64 0, .int .i64 5]) (by simp [results, Try.results43, go_sem, tv]) rfl (RMk.mk H.out.2 (RTab.same H.out.1 ?_))
    first
      | exact ((Stay.refl _ w).alloc _).alloc _
      | (refine hfin.out _ ?_
         repeat refine Stay.put ?_ (by simp) _ _
         exact HO.out.mono (fun _ _ h => h.elim))
  · have HF := Lib.hid (show t.make p = ({ t with ls := t.ls ++ [Lk.new p] }, (t.ls.length : Int) + 1, 0) by unfold Tb.make; rw [if_neg (by omega), if_neg (by omega)])
    have hf2 : ¬ (t.ls.length : Int) ≥ 16 := by omega
    obtain ⟨vs, hvl, _, hsl, hav, hvs⟩ := h
    have BR := Lib.hid (Blk.newAt (w.alloc (.cells #[.slice A t.ls.length c] 57)) [.slice none 0 0] 57 (w.heap.size + 1) (by simp))
    by_cases h0 : t.ls.length = 0
    · have hls : t.ls = [] := List.eq_nil_of_length_eq_zero h0
      have HV := Lib.hid (And.intro hvl (And.intro hvs hls))
      rw [h0] at HO BR hf2 b1 ⊢
      clear hvl hvs hls hsl h0 hf
      unfold tv
      go_enter Try.func43, Try.ntmps43
      go_upto_region 7 with (at_builtin; refine wpList_append_zero rfl _ _ _ rfl w.heap.size 42 il 4 Try.underlying38 hil0 _ 0 [] (by rfl) (World.ownsRow_nil _ _ _ _) A c (by rfl) ?_)
      go_wp2_with (at_builtin; refine wpList_append_lies _ rfl _ _ _ rfl w.heap.size 42 il _ 4 64 Try.underlying38 hil0 hil1 hil2 hil3 rfl (by omega) _ 0 [] (by rfl) (World.ownsRow_nil _ _ _ _) ⟨w.heap.size + 2, 0, none⟩ 1 1 [.int .i64 p, .int .i64 p, .slice none 0 0, .slice none 0 0] (by rfl) (by rfl) (World.news_of_block (cs := [Value.int .i64 p, .int .i64 p, .slice none 0 0, .slice none 0 0].toArray) (t := 42) (fr := (0, 0)) (heap_alloc_at' _ _ _ (by simp))) (by simp [Value.oneCell']) (by omega) (by simp only [maxLen]; omega) (by omega) (by simp; omega) (w.heap.size + 3) (by simp) ?_; intro g cap w3 hown hgrow hat hlt2; have st := grown_stay hgrow; have hs0 : Only (((w.alloc (.cells #[.slice A 0 c] 57)).alloc (.cells #[.slice none 0 0] 57)).alloc (.cells #[.int .i64 p, .int .i64 p, .slice none 0 0, .slice none 0 0] 42)) w3 := (st.mono (fun j _ h => by simp [Value.ownBlock] at h)); have br := hs0.blk (BR.out.alloc (.cells #[.int .i64 p, .int .i64 p, .slice none 0 0, .slice none 0 0] 42)); have r1 := br.cell; have r2 := br.free; have r3 := br.lt; have HG := Lib.hid (And.intro hown (And.intro hs0 hat)); clear hown hgrow hat hlt2 st hs0 br)
      have hg : g = w.heap.size + 3 := by
        rcases HG.out.2.2 with h | h
        · simp [Value.ownBlock] at h
        · exact h
      refine bodyPost_ret (v := .tuple #[tv (some ⟨g, 0, none⟩) 1 cap, .int .i64 1, .int .i64 0]) (by simp [results, Try.results43, go_sem, tv, r1]) rfl ?_
      have hO3 : Only w w3 := Only.trans' ((((Stay.refl _ w).alloc _).alloc _).alloc _) HG.out.2.1
      have hOW : Only w (w3.setCell ⟨w.heap.size + 1, 0, none⟩ (.slice (some ⟨g, 0, none⟩) 1 cap)) := Mine.stay ((Mine.only hO3).put (by omega) _ _)
      have own := own_set HG.out.1 (A := ⟨w.heap.size + 1, 0, none⟩) (.slice (some ⟨g, 0, none⟩) 1 cap) (fun g' hg' => by
        have e : g = g' := by simpa [Value.ownBlock] using hg'
        show g' ≠ w.heap.size + 1
        omega)
      have hS := stsx_push (X := X) (w := w) (ks := []) (vs := []) (p := p) rfl (by simp) hOW HOW.out own
      have hF := HF.out
      rw [HV.out.2.2] at hF
      exact RMk.mk hF ⟨_, _, rfl, hS, hOW⟩
    · obtain ⟨xb, xo, rfl, hxb, hxc⟩ := hsl.2.2.2.2 (by omega)
      have hnl : ((t.ls.zip vs).flatMap scell).length = t.ls.length * 4 := by rw [flat_len _ _ scell_length]; simp [hvl]
      have HN := Lib.hid (And.intro hnl (And.intro (scell_one hvl (fun i k hv wv hk hv' => by
        obtain ⟨a1, a2, a3, a4, e1, e2, h5⟩ := hvs i k hv wv hk hv'
        exact ⟨a1, a2, a3, a4, e1, e2, h5.rd⟩)) (And.intro (show ∀ j u, ((t.ls.zip vs).flatMap scell)[j]? = some u → ((w.alloc (.cells #[.slice (some ⟨xb, xo, none⟩) t.ls.length c] 57)).alloc (.cells #[.slice none 0 0] 57)).cell? ((⟨xb, xo, none⟩ : Addr).add j) = some u from fun j u hu => by rw [Addr.add_lit]; exact HO.out.cell (hxc j u hu)) (And.intro hvl hvs))))
      clear hnl hxc hsl hvs hvl
      unfold tv
      go_enter Try.func43, Try.ntmps43
      go_upto_region 7 with (at_builtin; refine wpList_append_lies _ rfl _ _ _ rfl w.heap.size 42 il _ 4 64 Try.underlying38 hil0 hil1 hil2 hil3 rfl (by omega) _ 0 [] (by rfl) (World.ownsRow_nil _ _ _ _) ⟨xb, xo, none⟩ t.ls.length c ((t.ls.zip vs).flatMap scell) (by rfl) HN.out.1 HN.out.2.2.1 HN.out.2.1 (by omega) (by simp only [maxLen]; omega) (by omega) (by simp; omega) (w.heap.size + 2) (by simp) ?_; intro g cap w3 hown hgrow hat hlt2; rw [Nat.zero_add] at hown ⊢; rw [List.nil_append] at hown)
      have hg : g = w.heap.size + 2 := by rcases hat with h | h; (simp [Value.ownBlock] at h); exact h
      have hs0 : Only ((w.alloc (.cells #[.slice (some ⟨xb, xo, none⟩) t.ls.length c] 57)).alloc (.cells #[.slice none 0 0] 57)) w3 := (grown_stay hgrow).mono (fun j _ h => by simp [Value.ownBlock] at h)
      have br := hs0.blk BR.out
      have hsz := hs0.size
      simp at hsz
      have HG := Lib.hid (And.intro hown (And.intro hs0 (And.intro hg br)))
      clear hown hgrow hat hs0 br hg
      go_wp2_with (at_builtin; refine wpList_append_lies _ rfl _ _ _ rfl w.heap.size 42 il _ 4 64 Try.underlying38 hil0 hil1 hil2 hil3 rfl (by omega) _ t.ls.length _ (by rfl) (own_alloc HG.out.1 _) ⟨w3.heap.size, 0, none⟩ 1 1 [.int .i64 p, .int .i64 p, .slice none 0 0, .slice none 0 0] (by rfl) (by rfl) (World.news_of_block (cs := [Value.int .i64 p, .int .i64 p, .slice none 0 0, .slice none 0 0].toArray) (t := 42) (fr := (0, 0)) (heap_alloc_at' _ _ _ (by simp))) (by simp [Value.oneCell']) (by omega) (by simp only [maxLen]; omega) (by omega) (by simp; omega) (w3.heap.size + 1) (by simp) ?_; intro g2 cap2 w4 hown hgrow hat hlt2; have st := grown_stay hgrow; have br := st.blk (HG.out.2.2.2.alloc (.cells #[.int .i64 p, .int .i64 p, .slice none 0 0, .slice none 0 0] 42)) (fun e => by have e2 : g = w.heap.size + 1 := (by simpa [Value.ownBlock] using e); have := HG.out.2.2.1; omega); have r1 := br.cell; have r2 := br.free; have r3 := br.lt; have HG2 := Lib.hid (And.intro hown (And.intro st hat)); clear hown hgrow hat hlt2 st br)
      refine bodyPost_ret (v := .tuple #[tv (some ⟨g2, 0, none⟩) (t.ls.length + 1) cap2, .int .i64 ((t.ls.length : Int) + 1), .int .i64 0]) (by simp [results, Try.results43, go_sem, tv, r1]) rfl ?_
      have hO3 : Only w w3 := HO.out.trans' HG.out.2.1
      have hgg := HG.out.2.2.1
      have hg2 : g2 ≠ w.heap.size + 1 := by
        rcases HG2.out.2.2 with h | h
        · have e2 : g = g2 := by simpa [Value.ownBlock] using h
          omega
        · omega
      have hO4 : Only w w4 := Mine.stay ((Mine.only (hO3.trans' ((Stay.refl _ w3).alloc _))).trans (Stay.mono HG2.out.2.1 (fun i _ hi => (own_lt HG.out.1 i hi).1)))
      have hOW : Only w (w4.setCell ⟨w.heap.size + 1, 0, none⟩ (.slice (some ⟨g2, 0, none⟩) (t.ls.length + 1) cap2)) := Mine.stay ((Mine.only hO4).put (by omega) _ _)
      have own := own_set HG2.out.1 (A := ⟨w.heap.size + 1, 0, none⟩) (.slice (some ⟨g2, 0, none⟩) (t.ls.length + 1) cap2) (fun g' hg' => by
        have e : g2 = g' := by simpa [Value.ownBlock] using hg'
        subst e
        exact hg2)
      have hS := stsx_push (X := X) (w := w) (ks := t.ls) (vs := vs) (p := p) HN.out.2.2.2.1 HN.out.2.2.2.2 hOW HOW.out own
      exact RMk.mk HF.out ⟨_, _, by simp, hS, hOW⟩

def RHd (X : Nat → Prop) (w : World) (t : Tb) (lock p : Int) (e : Ending) (w' : World) : Prop :=
  ∃ v, e = .returned (.tuple #[v, .bool (t.hold lock p).2.1, .int .i64 (t.hold lock p).2.2]) ∧ RTab X w w' v (t.hold lock p).1
theorem RHd.mk {X : Nat → Prop} {w w' : World} {t t' : Tb} {l p er : Int} {b : Bool} {v : Value} (h : t.hold l p = (t', b, er)) (hr : RTab X w w' v t') : RHd X w t l p (.returned (.tuple #[v, .bool b, .int .i64 er])) w' := by
  unfold RHd
  rw [h]
  exact ⟨v, rfl, hr⟩
/-- A table behind a change of one lock. -/
theorem RTab.upd {X : Nat → Prop} {w w' : World} {t t' : Tb} {i : Nat} {k : Lk} {A : Option Addr} {c : Nat} (h : StsX w' X A t.ls.length c (t.ls.set i k)) (he : t'.ls = t.ls.set i k) (hO : Only w w') : RTab X w w' (tv A t.ls.length c) t' := by
  have hl : t'.ls.length = t.ls.length := by rw [he]; simp
  exact ⟨A, c, by rw [hl], by rw [hl, he]; exact h, hO⟩
theorem append_zero' {P : Program} {w : World} {ops : Array Oper} {rest : List Oper} {o : Oper} {a : Act} {Q : Exit → Act → World → Prop} (hgd : o.guard = none) (s x : Operand) (t : TypeId)
    (ho : o.op = .call { callee := .builtin .append, args := #[s, x], argTypes := #[t, t] })
    (base : Nat) (e : TypeId) (i : TypeInfo) (size : Nat) (ht : P.underlying t = some (.slice e)) (hi : P.info? e = some i)
    (v : Value) (n : Nat) (xs : List Value) (hs : a.eval s = v) (hown : w.ownsRow base e size v n xs) (A : Option Addr) (c m : Nat) (hm : m = 0) (hx : a.eval x = .slice A m c)
    (h : wpList P ops Q rest (a.put o.dst v) w) : wpList P ops Q (o :: rest) a w := by
  subst hm
  exact wpList_append_zero hgd s x t ho base e i size ht hi v n xs hs hown A c hx h
theorem Sl.empty (w : World) (B size : Nat) {A : Option Addr} {cap : Nat} (hc : cap ≤ 9223372036854775807) (h0 : A = none → cap = 0) : Sl w B A 0 cap size [] := ⟨by simp, Nat.zero_le _, hc, h0, fun h => by omega⟩
theorem take_holders {k : Lk} {d : Int} (h : k.Ok d) (p : Int) : (k.take p).holders = hgo p 1 false k.holders := by
  rw [holders_HL, holders_HL]
  exact HL_more h.keys (aset_nodup h.keys _ _) h.pos

set_option maxRecDepth 100000 in
set_option maxHeartbeats 8000000 in
theorem rhold_any (w : World) (X : Nat → Prop) (A : Option Addr) (c : Nat) (t : Tb) (d lock p : Int) (h : StsX w X A t.ls.length c t.ls) (hX : ∀ b, X b → b < w.heap.size) (hok : t.Ok d) (hc : t.Cons) (hd : d ≤ 1000000) :
    Calls Try.prog 44 #[tv A t.ls.length c, .int .i64 lock, .int .i64 p] w (RHd X w t lock p) := by
  obtain ⟨_, b1, b2⟩ := h.rd.bounds
  have hn := hok.n
  obtain ⟨ii, hii0, hii1, hii2, hii3⟩ := info_parts infoI
  have HBase := Lib.hid (And.intro h hX)
  have H := Lib.hid (And.intro h.rd (And.intro hok hc))
  have HO := Lib.hid (show Only w ((w.alloc (.cells #[.slice A t.ls.length c] 57)).alloc (.cells #[.slice none 0 0] 57)) from ((Stay.refl _ w).alloc _).alloc _)
  have BT := Lib.hid (Blk.alloc (Blk.newAt w [.slice A t.ls.length c] 57 w.heap.size rfl) (.cells #[.slice none 0 0] 57))
  have BR := Lib.hid (Blk.newAt (w.alloc (.cells #[.slice A t.ls.length c] 57)) [.slice none 0 0] 57 (w.heap.size + 1) (by simp))
  clear h hok hc hX
  unfold tv
  go_enter Try.func44, Try.ntmps44
  go_wp2_with fail
  refine (rasked_any _ A c t lock p b1 b2).mono ?_
  rintro e w2 ⟨rfl, hO2⟩
  have bt := hO2.blk BT.out
  have br := hO2.blk BR.out
  have c1 := bt.cell
  have l1 := bt.lt
  have r1 := br.cell
  have r2 := br.free
  have r3 := br.lt
  have H2 := Lib.hid (And.intro (HO.out.trans' hO2) (And.intro bt br))
  clear hO2 bt br
  by_cases ha : t.asked lock p = 0
  · obtain ⟨k, hk⟩ := Tb.asked_at ha
    have hr := Tb.asked_zero ha
    obtain ⟨i, hi⟩ : ∃ i, (lock - 1).toNat = i := ⟨_, rfl⟩
    have hli : lock - 1 = (i : Int) := by omega
    rw [hi] at hk
    have hil := (List.getElem?_eq_some_iff.1 hk).1
    have HA := Lib.hid (And.intro ha (And.intro hk hi))
    rw [ha]
    clear ha hk hi hr
    go_wp2_with fail
    refine (rwaits_any w2 A c t p (H.out.1.only H2.out.1) H.out.2.2 (by omega)).mono ?_
    rintro e w3 ⟨rfl, hO3⟩
    have bt := hO3.blk H2.out.2.1
    have br := hO3.blk H2.out.2.2
    have H3 := Lib.hid (And.intro (H2.out.1.trans' hO3) (And.intro bt br))
    clear hO3 c1 l1 r1 r2 r3
    have c1 := bt.cell
    have l1 := bt.lt
    have r1 := br.cell
    have r2 := br.free
    have r3 := br.lt
    clear bt br
    cases hw : aget t.waits p with
    | some j =>
      have HF := Lib.hid (show t.hold lock p = (t, false, 21) by unfold Tb.hold; rw [if_neg (by simpa using HA.out.1), if_pos (by rw [hw]; rfl)])
      have e1 : t.waitsN p = (j : Int) + 1 := by unfold Tb.waitsN; rw [hw]
      have e2 : (j : Int) + 1 > 0 := by omega
      rw [e1]
      clear hw e1
      go_wp2_with fail
      refine bodyPost_ret (v := .tuple #[tv A t.ls.length c, .bool false, .int .i64 21]) (by simp [results, Try.results44, go_sem, tv, r1]) rfl ?_
      exact RHd.mk HF.out (RTab.same HBase.out.1 (Mine.stay ((Mine.only H3.out.1).put (by omega) _ _)))
    | none =>
      have e1 : t.waitsN p = 0 := by unfold Tb.waitsN; rw [hw]
      rw [e1]
      obtain ⟨xb, xo, A1, c1', A2, c2', rfl, hxb0, hxc0, hr0⟩ := HBase.out.1.elem HA.out.2.1
      have hO03 := H3.out.1
      have hxb : xb < w3.heap.size := Nat.lt_of_lt_of_le hxb0 hO03.size
      have hxc := fun j u hu => hO03.cell (hxc0 j u hu)
      have hr1 := hr0.rd.only hO03
      have HRW := Lib.hid hr0
      clear hxb0 hxc0 hr0 hO03
      have e0 := hxc 0 _ rfl
      have e1 := hxc 1 _ rfl
      have e2 := hxc 2 _ rfl
      have e3 := hxc 3 _ rfl
      simp only [Nat.add_zero] at e0
      have hkok := H.out.2.1.lk k (List.mem_of_getElem? HA.out.2.1)
      have hkw : (k.waiting.length : Int) ≤ d := hkok.wlen
      by_cases hf : k.waiting = [] ∧ 0 < k.free
      · have HF := Lib.hid (show t.hold lock p = (t.upd i (k.take p), true, 0) by
          unfold Tb.hold
          rw [if_neg (by simpa using HA.out.1), if_neg (by rw [hw]; simp), HA.out.2.2, HA.out.2.1]
          simp only
          rw [if_pos hf])
        have hw0 : k.waiting.length = 0 := by rw [hf.1]; rfl
        have hf1 : k.free > 0 := hf.2
        have hfb : k.free ≤ 16 := by have := hkok.sum; have := hkok.p2; have := sumH_nonneg hkok.pos; omega
        have hpos := HL_pos hkok.pos (by have := hkok.sum; have := hkok.p2; have := hkok.f0; omega)
        have hhl : k.holders.length ≤ 16 := by rw [holders_length]; exact holds_len hkok
        have HX := Lib.hid (And.intro hr1 (And.intro hkok (And.intro hpos hf)))
        rw [hw0] at e3
        clear hw hf hr1 hxc hkok hpos
        go_wp2_with fail
        have hOB : Only w3 (w3.alloc (.cells #[.int .i64 k.permits, .int .i64 (k.free - 1), .slice A1 k.holders.length c1', .slice A2 0 c2'] 42)) := (Stay.refl _ w3).alloc _
        refine (rholders_any _ A1 c1' k.holders p 1 ((HX.out.1.hs).later hOB hOB.size) (by omega) HX.out.2.2.1 (by omega)).mono ?_
        rintro e w4 ⟨A3, c3, rfl, hs3, hfr, hO4⟩
        rw [← take_holders HX.out.2.1 p] at hs3 ⊢
        have bt := hO4.blk (H3.out.2.1.alloc (.cells #[.int .i64 k.permits, .int .i64 (k.free - 1), .slice A1 k.holders.length c1', .slice A2 0 c2'] 42))
        have br := hO4.blk (H3.out.2.2.alloc (.cells #[.int .i64 k.permits, .int .i64 (k.free - 1), .slice A1 k.holders.length c1', .slice A2 0 c2'] 42))
        have bs := hO4.blk (Blk.new w3 [.int .i64 k.permits, .int .i64 (k.free - 1), .slice A1 k.holders.length c1', .slice A2 0 c2'] 42)
        have H4 := Lib.hid (And.intro hs3 (And.intro hfr (And.intro (hOB.trans' hO4) (And.intro bt (And.intro br bs)))))
        clear c1 l1 r1 r2 r3 e0 e1 e2 e3 hs3 hfr hO4 hOB
        have c1 := bt.cell
        have l1 := bt.lt
        have r1 := br.cell
        have r2 := br.free
        have r3 := br.lt
        have s1 := bs.cell
        have s2 := bs.free
        have s3 := bs.lt
        have n1 : w.heap.size ≠ w3.heap.size := by have := H3.out.2.1.lt; omega
        have n2 : w.heap.size + 1 ≠ w3.heap.size := by have := H3.out.2.2.lt; omega
        clear bt br bs
        go_wp2_with fail
        have hO4 := H3.out.1.trans' H4.out.2.2.1
        have hS5 : Stay (fun b => b = w3.heap.size) w4 (w4.setCell ⟨w3.heap.size, 2, none⟩ (.slice A3 (k.take p).holders.length c3)) := Stay.put (S := fun b => b = w3.heap.size) (Stay.refl _ w4) rfl _ _
        have hO35 : Only w3 (w4.setCell ⟨w3.heap.size, 2, none⟩ (.slice A3 (k.take p).holders.length c3)) := Mine.stay ((Mine.only H4.out.2.2.1).put (Nat.le_refl _) _ _)
        have hY : ∀ b, (b = w3.heap.size ∨ b = w.heap.size + 1) → w.heap.size ≤ b := fun b hb => by have := H3.out.2.2.lt; omega
        have hO05 := H3.out.1.trans' hO35
        have hsz5 : w4.heap.size = (w4.setCell ⟨w3.heap.size, 2, none⟩ (.slice A3 (k.take p).holders.length c3)).heap.size := by simp
        have hRk : RdX (w4.setCell ⟨w3.heap.size, 2, none⟩ (.slice A3 (k.take p).holders.length c3)) (fun b => X b ∨ (b = w3.heap.size ∨ b = w.heap.size + 1)) (k.take p) A3 c3 A2 c2' :=
          ⟨⟨H4.out.1.aside hS5 (fun a ha e => by have := H4.out.2.1 a ha; simp at this; omega) hS5.size, ((HRW.out.only hO05).rd.ws)⟩, (fun _ a ha e => by
            have := H4.out.2.1 a ha
            simp at this
            have := H3.out.2.2.lt
            rcases e with e | e | e
            · have := HBase.out.2 _ e; omega
            · omega
            · omega), (HRW.out.more hY).wa⟩
        have hcall := with_anyX (w4.setCell ⟨w3.heap.size, 2, none⟩ (.slice A3 (k.take p).holders.length c3)) (fun b => X b ∨ (b = w3.heap.size ∨ b = w.heap.size + 1)) (some ⟨xb, xo, none⟩) c t.ls lock i (k.take p) A3 c3 A2 c2' ((HBase.out.1.more hY).only hO05) (fun b hb => by
          have := H4.out.2.2.2.2.2.lt
          have := H4.out.2.2.2.2.1.lt
          rcases hb with e | e | e
          · have := HBase.out.2 _ e; omega
          · omega
          · omega) hil hli hRk hn
        have hst : stv (k.take p) A3 c3 A2 c2' = .agg #[.int .i64 k.permits, .int .i64 (k.free - 1), .slice A3 (k.take p).holders.length c3, .slice A2 0 c2'] := by
          unfold stv
          rw [show (k.take p).waiting.length = 0 from hw0]
          rfl
        rw [hst] at hcall
        refine hcall.mono ?_
        rintro e w6 ⟨A7, c7, rfl, hst7, hO6⟩
        have br := hO6.blk (hS5.blk H4.out.2.2.2.2.1 n2)
        have H6 := Lib.hid (And.intro hst7 (H3.out.1.trans' (hO35.trans' hO6)))
        clear c1 l1 r1 r2 r3 s1 s2 s3 hst7 hRk hO05 hO6 hcall hst hS5
        have r1 := br.cell
        have r2 := br.free
        have r3 := br.lt
        clear br
        unfold tv
        go_wp2_with fail
        refine bodyPost_ret (v := .tuple #[tv A7 t.ls.length c7, .bool true, .int .i64 0]) (by simp [results, Try.results44, go_sem, tv, r1]) rfl ?_
        have hl1 := H3.out.2.2.lt
        have hl4 := H4.out.2.2.2.2.1.lt
        have hOW : Only w (w6.setCell ⟨w.heap.size + 1, 0, none⟩ (.slice A7 t.ls.length c7)) := Mine.stay ((Mine.only H6.out.2).put (by omega) _ _)
        have hS6 : Stay (fun b => b = w.heap.size + 1) w6 (w6.setCell ⟨w.heap.size + 1, 0, none⟩ (.slice A7 t.ls.length c7)) := Stay.put (S := fun b => b = w.heap.size + 1) (Stay.refl _ w6) rfl _ _
        exact RHd.mk HF.out (RTab.upd ((H6.out.1.stay (hS6.mono (fun _ _ h => .inr (.inr h)))).sub (fun _ h => .inl h)) rfl hOW)
      · have HF := Lib.hid (show t.hold lock p = ({ t.upd i (k.park p) with waits := aset t.waits p i }, false, 0) by
          unfold Tb.hold
          rw [if_neg (by simpa using HA.out.1), if_neg (by rw [hw]; simp), HA.out.2.2, HA.out.2.1]
          simp only
          rw [if_neg hf])
        have hcase : (k.waiting.length = 0 ∧ ¬ k.free > 0) ∨ 0 < k.waiting.length := by
          by_cases h0 : k.waiting.length = 0
          · exact .inl ⟨h0, fun h => hf ⟨List.eq_nil_of_length_eq_zero h0, h⟩⟩
          · exact .inr (by omega)
        have hOB : Only w3 (w3.alloc (.cells #[.int .i64 k.permits, .int .i64 k.free, .slice A1 k.holders.length c1', .slice A2 k.waiting.length c2'] 42)) := (Stay.refl _ w3).alloc _
        have bt1 := hOB.blk H3.out.2.1
        have br1 := hOB.blk H3.out.2.2
        have bs1 := Blk.new w3 [.int .i64 k.permits, .int .i64 k.free, .slice A1 k.holders.length c1', .slice A2 k.waiting.length c2'] 42
        have HB := Lib.hid (And.intro hOB (And.intro bt1 (And.intro br1 bs1)))
        have HX := Lib.hid hr1
        have HW := Lib.hid (((hr1.ws.later hOB hOB.size)))
        clear hw hf hr1 hxc hkok hOB bt1 br1 bs1
        rcases hcase with ⟨h0, hf0⟩ | h0
        case' inl =>
          have hb0 : ((k.waiting.length : Int) == 0) = true := beq_iff_eq.2 (by omega)
          have hkn : k.waiting = [] := List.eq_nil_of_length_eq_zero h0
          have H0 := Lib.hid (And.intro h0 hkn)
          clear h0 hkn
          go_upto_region 13 with (at_builtin; refine append_zero' rfl _ _ _ rfl w3.heap.size 3 ii 1 Try.underlying29 hii0 _ 0 [] (by rfl) (World.ownsRow_nil _ _ _ _) A2 c2' k.waiting.length H0.out.1 (by rfl) ?_)
          have hown : (w3.alloc (.cells #[.int .i64 k.permits, .int .i64 k.free, .slice A1 k.holders.length c1', .slice A2 k.waiting.length c2'] 42)).ownsRow w3.heap.size 3 1 (.slice none 0 0) k.waiting.length (ints k.waiting) := by
            rw [H0.out.2]
            exact World.ownsRow_nil _ _ _ _
          have HC := Lib.hid (And.intro hown HB.out)
          obtain ⟨w4, hw4⟩ : ∃ w4 : World, w4 = w3.alloc (.cells #[.int .i64 k.permits, .int .i64 k.free, .slice A1 k.holders.length c1', .slice A2 k.waiting.length c2'] 42) := ⟨_, rfl⟩
          rw [← hw4] at HC ⊢
          clear hown hw4
        case' inr =>
          have hb0 : ((k.waiting.length : Int) == 0) = false := beq_eq_false_iff_ne.2 (by omega)
          obtain ⟨yb, yo, rfl, hyb, hyc⟩ := HW.out.2.2.2.2 h0
          have HY := Lib.hid hyc
          clear hyc
          go_upto_region 13 with (at_builtin; refine wpList_append_lies _ rfl _ _ _ rfl w3.heap.size 3 ii _ 1 8 Try.underlying29 hii0 hii1 hii2 hii3 rfl (by omega) _ 0 [] (by rfl) (World.ownsRow_nil _ _ _ _) ⟨yb, yo, none⟩ k.waiting.length c2' (ints k.waiting) (by rfl) (by simp [ints]) (fun j u hu => by rw [Addr.add_lit]; exact HY.out j u hu) (ints_oneCell _ _) (by omega) (by simp only [maxLen]; omega) (by omega) (by simp) (w3.heap.size + 1) (by simp) ?_; intro g cap w4 hown hgrow hat hlt2; rw [Nat.zero_add] at hown ⊢; rw [List.nil_append] at hown)
          have hs0 : Only (w3.alloc (.cells #[.int .i64 k.permits, .int .i64 k.free, .slice A1 k.holders.length c1', .slice (some ⟨yb, yo, none⟩) k.waiting.length c2'] 42)) w4 := (grown_stay hgrow).mono (fun j _ h => by simp [Value.ownBlock] at h)
          have HC := Lib.hid (And.intro hown (And.intro (HB.out.1.trans' hs0) (And.intro (hs0.blk HB.out.2.1) (And.intro (hs0.blk HB.out.2.2.1) (hs0.blk HB.out.2.2.2)))))
          clear hown hgrow hat hlt2 hs0
        all_goals
          clear c1 l1 r1 r2 r3 e0 e1 e2 e3
          have hsz4 := HC.out.2.1.size
          have c1 := HC.out.2.2.1.cell
          have l1 := HC.out.2.2.1.lt
          have r1 := HC.out.2.2.2.1.cell
          have r2 := HC.out.2.2.2.1.free
          have r3 := HC.out.2.2.2.1.lt
          have s1 := HC.out.2.2.2.2.cell
          have s2 := HC.out.2.2.2.2.free
          have s3 := HC.out.2.2.2.2.lt
          have n1 : w.heap.size ≠ w3.heap.size := by have := H3.out.2.1.lt; omega
          have n2 : w.heap.size + 1 ≠ w3.heap.size := by have := H3.out.2.2.lt; omega
          go_upto_region 14 with (at_builtin; refine wpList_append_lies _ rfl _ _ _ rfl w3.heap.size 3 ii _ 1 8 Try.underlying29 hii0 hii1 hii2 hii3 rfl (by omega) _ k.waiting.length _ (by rfl) (own_alloc HC.out.1 _) ⟨w4.heap.size, 0, none⟩ 1 1 [.int .i64 p] (by rfl) (by rfl) (World.news_of_block (cs := [Value.int .i64 p].toArray) (t := 3) (fr := (0, 0)) (heap_alloc_at' _ _ _ (by simp))) (by simp [Value.oneCell']) (by omega) (by simp only [maxLen]; omega) (by omega) (by simp; omega) (w4.heap.size + 1) (by simp) ?_; intro g2 cap2 w5 hown hgrow hat hlt2)
          have st := grown_stay hgrow
          have bt := st.blk (HC.out.2.2.1.alloc (.cells #[.int .i64 p] 3)) (fun e => own_ne_blk HC.out.1 HC.out.2.2.1 (by decide) _ e rfl)
          have br := st.blk (HC.out.2.2.2.1.alloc (.cells #[.int .i64 p] 3)) (fun e => own_ne_blk HC.out.1 HC.out.2.2.2.1 (by decide) _ e rfl)
          have bs := st.blk (HC.out.2.2.2.2.alloc (.cells #[.int .i64 p] 3)) (fun e => own_ne_blk HC.out.1 HC.out.2.2.2.2 (by decide) _ e rfl)
          have hO45 : Only w3 w5 := Mine.stay ((Mine.only (HC.out.2.1.trans' ((Stay.refl _ w4).alloc _))).trans (Stay.mono st (fun i _ hi => (own_lt HC.out.1 i hi).1)))
          have H5 := Lib.hid (And.intro hown (And.intro hO45 (And.intro bt (And.intro br bs))))
          clear c1 l1 r1 r2 r3 s1 s2 s3 hown hgrow hat hlt2 st hO45
          have c1 := bt.cell
          have l1 := bt.lt
          have r1 := br.cell
          have r2 := br.free
          have r3 := br.lt
          have s1 := bs.cell
          have s2 := bs.free
          have s3 := bs.lt
          clear bt br bs
          go_wp2_with fail
          have hS6 : Stay (fun b => b = w3.heap.size) w5 (w5.setCell ⟨w3.heap.size, 3, none⟩ (.slice (some ⟨g2, 0, none⟩) (k.waiting.length + 1) cap2)) := Stay.put (S := fun b => b = w3.heap.size) (Stay.refl _ w5) rfl _ _
          have hO36 : Only w3 (w5.setCell ⟨w3.heap.size, 3, none⟩ (.slice (some ⟨g2, 0, none⟩) (k.waiting.length + 1) cap2)) := Mine.stay ((Mine.only H5.out.2.1).put (Nat.le_refl _) _ _)
          have hpw : (k.park p).waiting.length = k.waiting.length + 1 := by simp [Lk.park]
          have hY : ∀ b, (b = w3.heap.size ∨ b = w.heap.size + 1) → w.heap.size ≤ b := fun b hb => by have := H3.out.2.2.lt; omega
          have hO06 := H3.out.1.trans' hO36
          have hsz6 : w5.heap.size = (w5.setCell ⟨w3.heap.size, 3, none⟩ (.slice (some ⟨g2, 0, none⟩) (k.waiting.length + 1) cap2)).heap.size := by simp
          have hown5 := H5.out.1
          rw [show ints k.waiting ++ [Value.int .i64 p] = ints (k.park p).waiting by simp [Lk.park, ints]] at hown5
          have hg2 := own_lt hown5 g2 rfl
          have hg3 : g2 ≠ w3.heap.size := own_ne_blk hown5 H5.out.2.2.2.2 (by decide) g2 rfl
          have hsl := (own_sl' hown5).aside hS6 (fun a ha e => by cases ha; simp at e; omega) hS6.size
          have hRk : RdX (w5.setCell ⟨w3.heap.size, 3, none⟩ (.slice (some ⟨g2, 0, none⟩) (k.waiting.length + 1) cap2)) (fun b => X b ∨ (b = w3.heap.size ∨ b = w.heap.size + 1)) (k.park p) A1 c1' (some ⟨g2, 0, none⟩) cap2 :=
            ⟨⟨(HRW.out.only hO06).rd.hs, by rw [hpw]; exact hsl⟩, (HRW.out.more hY).ha, (fun _ a ha e => by
              cases ha
              simp at e
              have := H3.out.2.2.lt
              rcases e with e | e | e
              · have := HBase.out.2 _ e; omega
              · omega
              · omega)⟩
          have hcall := with_anyX (w5.setCell ⟨w3.heap.size, 3, none⟩ (.slice (some ⟨g2, 0, none⟩) (k.waiting.length + 1) cap2)) (fun b => X b ∨ (b = w3.heap.size ∨ b = w.heap.size + 1)) (some ⟨xb, xo, none⟩) c t.ls lock i (k.park p) A1 c1' (some ⟨g2, 0, none⟩) cap2 ((HBase.out.1.more hY).only hO06) (fun b hb => by
            have := H5.out.2.2.2.2.lt
            have := H5.out.2.2.2.1.lt
            rcases hb with e | e | e
            · have := HBase.out.2 _ e; omega
            · omega
            · omega) hil hli hRk hn
          have hst : stv (k.park p) A1 c1' (some ⟨g2, 0, none⟩) cap2 = .agg #[.int .i64 k.permits, .int .i64 k.free, .slice A1 k.holders.length c1', .slice (some ⟨g2, 0, none⟩) (k.waiting.length + 1) cap2] := by
            unfold stv
            rw [hpw]
            rfl
          rw [hst] at hcall
          refine hcall.mono ?_
          rintro e w7 ⟨A7, c7, rfl, hst7, hO7⟩
          have br := hO7.blk (hS6.blk H5.out.2.2.2.1 n2)
          have H7 := Lib.hid (And.intro hst7 (H3.out.1.trans' (hO36.trans' hO7)))
          clear c1 l1 r1 r2 r3 s1 s2 s3 hst7 hO7 hcall hst hS6 hRk hO06 hsl hown5 hg2 hg3
          have r1 := br.cell
          have r2 := br.free
          have r3 := br.lt
          clear br
          unfold tv
          go_wp2_with fail
          refine bodyPost_ret (v := .tuple #[tv A7 t.ls.length c7, .bool false, .int .i64 0]) (by simp [results, Try.results44, go_sem, tv, r1]) rfl ?_
          have hOW : Only w (w7.setCell ⟨w.heap.size + 1, 0, none⟩ (.slice A7 t.ls.length c7)) := Mine.stay ((Mine.only H7.out.2).put (by omega) _ _)
          have hS7 : Stay (fun b => b = w.heap.size + 1) w7 (w7.setCell ⟨w.heap.size + 1, 0, none⟩ (.slice A7 t.ls.length c7)) := Stay.put (S := fun b => b = w.heap.size + 1) (Stay.refl _ w7) rfl _ _
          exact RHd.mk HF.out (RTab.upd ((H7.out.1.stay (hS7.mono (fun _ _ h => .inr (.inr h)))).sub (fun _ h => .inl h)) rfl hOW)
  · have HF := Lib.hid (show t.hold lock p = (t, false, t.asked lock p) by unfold Tb.hold; rw [if_pos ha])
    obtain ⟨er, her⟩ : ∃ er, t.asked lock p = er := ⟨_, rfl⟩
    rw [her] at ha HF ⊢
    have hb : (er != 0) = true := by simpa using ha
    clear ha her
    go_wp2_with fail
    refine bodyPost_ret (v := .tuple #[tv A t.ls.length c, .bool false, .int .i64 er]) (by simp [results, Try.results44, go_sem, tv, r1]) rfl ?_
    exact RHd.mk HF.out (RTab.same HBase.out.1 (Mine.stay ((Mine.only H2.out.1).put (by omega) _ _)))

def RFr (X : Nat → Prop) (w : World) (t : Tb) (lock p : Int) (e : Ending) (w' : World) : Prop :=
  ∃ v, e = .returned (.tuple #[v, .int .i64 (t.free lock p).2.1, .int .i64 (t.free lock p).2.2]) ∧ RTab X w w' v (t.free lock p).1
theorem RFr.mk {X : Nat → Prop} {w w' : World} {t t' : Tb} {l p er who : Int} {v : Value} (h : t.free l p = (t', who, er)) (hr : RTab X w w' v t') : RFr X w t l p (.returned (.tuple #[v, .int .i64 who, .int .i64 er])) w' := by
  unfold RFr
  rw [h]
  exact ⟨v, rfl, hr⟩

set_option maxRecDepth 100000 in
set_option maxHeartbeats 8000000 in
theorem rfree_any (w : World) (X : Nat → Prop) (A : Option Addr) (c : Nat) (t : Tb) (d lock p : Int) (h : StsX w X A t.ls.length c t.ls) (hX : ∀ b, X b → b < w.heap.size) (hok : t.Ok d) (hd : d ≤ 1000000) :
    Calls Try.prog 45 #[tv A t.ls.length c, .int .i64 lock, .int .i64 p] w (RFr X w t lock p) := by
  obtain ⟨_, b1, b2⟩ := h.rd.bounds
  have hn := hok.n
  obtain ⟨ii, hii0, hii1, hii2, hii3⟩ := info_parts infoI
  have HBase := Lib.hid (And.intro h hX)
  have H := Lib.hid (And.intro h.rd hok)
  have HO := Lib.hid (show Only w ((w.alloc (.cells #[.slice A t.ls.length c] 57)).alloc (.cells #[.slice none 0 0] 57)) from ((Stay.refl _ w).alloc _).alloc _)
  have BT := Lib.hid (Blk.alloc (Blk.newAt w [.slice A t.ls.length c] 57 w.heap.size rfl) (.cells #[.slice none 0 0] 57))
  have BR := Lib.hid (Blk.newAt (w.alloc (.cells #[.slice A t.ls.length c] 57)) [.slice none 0 0] 57 (w.heap.size + 1) (by simp))
  clear h hok hX
  unfold tv
  go_enter Try.func45, Try.ntmps45
  go_wp2_with fail
  refine (rasked_any _ A c t lock p b1 b2).mono ?_
  rintro e w2 ⟨rfl, hO2⟩
  have bt := hO2.blk BT.out
  have br := hO2.blk BR.out
  have c1 := bt.cell
  have l1 := bt.lt
  have r1 := br.cell
  have r2 := br.free
  have r3 := br.lt
  have H2 := Lib.hid (And.intro (HO.out.trans' hO2) (And.intro bt br))
  clear hO2 bt br
  by_cases ha : t.asked lock p = 0
  · obtain ⟨k, hk⟩ := Tb.asked_at ha
    have hr := Tb.asked_zero ha
    obtain ⟨i, hi⟩ : ∃ i, (lock - 1).toNat = i := ⟨_, rfl⟩
    have hli : lock - 1 = (i : Int) := by omega
    rw [hi] at hk
    have hil := (List.getElem?_eq_some_iff.1 hk).1
    obtain ⟨xb, xo, A1, c1', A2, c2', rfl, hxb0, hxc0, hrw⟩ := HBase.out.1.elem hk
    have hO02 := H2.out.1
    have hxb : xb < w2.heap.size := Nat.lt_of_lt_of_le hxb0 hO02.size
    have hr0 : Rd w k A1 c1' A2 c2' := hrw.rd
    have HRW := Lib.hid hrw
    have e0 := hO02.cell (hxc0 0 _ rfl)
    have e1 := hO02.cell (hxc0 1 _ rfl)
    have e2 := hO02.cell (hxc0 2 _ rfl)
    have e3 := hO02.cell (hxc0 3 _ rfl)
    simp only [Nat.add_zero] at e0
    have hkok := H.out.2.lk k (List.mem_of_getElem? hk)
    have HA := Lib.hid (And.intro ha (And.intro hk (And.intro hi (And.intro hr0 hkok))))
    rw [ha]
    clear ha hk hi hr hxb0 hxc0 hr0 hrw hO02
    go_wp2_with fail
    have hOB : Only w2 (w2.alloc (.cells #[.int .i64 k.permits, .int .i64 k.free, .slice A1 k.holders.length c1', .slice A2 k.waiting.length c2'] 42)) := (Stay.refl _ w2).alloc _
    refine (show Calls _ _ _ (w2.alloc (.cells #[.int .i64 k.permits, .int .i64 k.free, .slice A1 k.holders.length c1', .slice A2 k.waiting.length c2'] 42)) _ from rhas_any _ k A1 A2 c1' c2' p (HA.out.2.2.2.1.only (H2.out.1.trans' hOB))).mono ?_
    rintro e w3 ⟨rfl, hO3⟩
    have bt := hO3.blk (hOB.blk H2.out.2.1)
    have br := hO3.blk (hOB.blk H2.out.2.2)
    have bs := hO3.blk (Blk.new w2 [.int .i64 k.permits, .int .i64 k.free, .slice A1 k.holders.length c1', .slice A2 k.waiting.length c2'] 42)
    have H3 := Lib.hid (And.intro (H2.out.1.trans' (hOB.trans' hO3)) (And.intro bt (And.intro br (And.intro bs (hOB.trans' hO3)))))
    clear hO3 hOB c1 l1 r1 r2 r3 e0 e1 e2 e3
    have c1 := bt.cell
    have l1 := bt.lt
    have r1 := br.cell
    have r2 := br.free
    have r3 := br.lt
    have s1 := bs.cell
    have s2 := bs.free
    have s3 := bs.lt
    have n1 : w.heap.size ≠ w2.heap.size := by have := H2.out.2.1.lt; omega
    have n2 : w.heap.size + 1 ≠ w2.heap.size := by have := H2.out.2.2.lt; omega
    have hsz2 : w.heap.size + 1 < w2.heap.size := H2.out.2.2.lt
    clear bt br bs
    by_cases hh : k.has p = 0
    · have HF := Lib.hid (show t.free lock p = (t, 0, 6) by
        unfold Tb.free
        rw [if_neg (by simpa using HA.out.1), HA.out.2.2.1, HA.out.2.1]
        simp only
        rw [if_pos hh])
      rw [hh]
      clear hh
      go_wp2_with fail
      refine bodyPost_ret (v := .tuple #[tv (some ⟨xb, xo, none⟩) t.ls.length c, .int .i64 0, .int .i64 6]) (by simp [results, Try.results45, go_sem, tv, r1]) rfl ?_
      exact RFr.mk HF.out (RTab.same HBase.out.1 (Mine.stay ((Mine.only H3.out.1).put (by omega) _ _)))
    · have hb : (k.has p == 0) = false := beq_eq_false_iff_ne.2 hh
      have hpos := HL_pos HA.out.2.2.2.2.pos (by have := HA.out.2.2.2.2.sum; have := HA.out.2.2.2.2.p2; have := HA.out.2.2.2.2.f0; omega)
      have hhl : k.holders.length ≤ 16 := by rw [holders_length]; exact holds_len HA.out.2.2.2.2
      have hlh := HL_less HA.out.2.2.2.2 hh
      have hlo := HA.out.2.2.2.2.less hh
      have hfb : 0 ≤ k.free ∧ k.free ≤ 16 := by have := HA.out.2.2.2.2.sum; have := HA.out.2.2.2.2.p2; have := HA.out.2.2.2.2.f0; have := sumH_nonneg HA.out.2.2.2.2.pos; omega
      have HG := Lib.hid (Tb.free_good HA.out.1 HA.out.2.2.1 HA.out.2.1 hh)
      have HX := Lib.hid (And.intro hpos (And.intro hlh (And.intro hlo hh)))
      clear hh hpos hlh hlo
      go_wp2_with fail
      refine (rholders_any w3 A1 c1' k.holders p (-1) ((HA.out.2.2.2.1.only H3.out.1).hs) (by omega) HX.out.1 (by omega)).mono ?_
      rintro e w4 ⟨A4, c4, rfl, hs4, hf4, hO4⟩
      rw [show hgo p (-1) false k.holders = HL (k.less p) from HX.out.2.1.symm] at hs4 ⊢
      have bt := hO4.blk H3.out.2.1
      have br := hO4.blk H3.out.2.2.1
      have bs := hO4.blk H3.out.2.2.2.1
      have H4 := Lib.hid (And.intro (H3.out.1.trans' hO4) (And.intro bt (And.intro br (And.intro bs (And.intro (H3.out.2.2.2.2.trans' hO4) (And.intro hs4 hf4))))))
      clear hO4 hs4 hf4 c1 l1 r1 r2 r3 s1 s2 s3
      have c1 := bt.cell
      have l1 := bt.lt
      have r1 := br.cell
      have r2 := br.free
      have r3 := br.lt
      have s1 := bs.cell
      have s2 := bs.free
      have s3 := bs.lt
      have hsz3 := H3.out.2.2.2.1.lt
      clear bt br bs
      cases hw : k.waiting with
      | nil =>
        have hb0 : ((k.waiting.length : Int) == 0) = true := by rw [hw]; rfl
        have hgv : k.give p = ({ k with free := k.free + 1, holds := k.less p }, 0) := by unfold Lk.give; rw [hw]
        have HF := Lib.hid (show t.free lock p = ({ t with ls := t.ls.set i { k with free := k.free + 1, holds := k.less p } }, 0, 0) by rw [HG.out, hgv]; rfl)
        have HW := Lib.hid hw
        clear hw hgv
        go_wp2_with fail
        have hS5 : Stay (fun b => b = w2.heap.size) w4 ((w4.setCell ⟨w2.heap.size, 2, none⟩ (.slice A4 (HL (k.less p)).length c4)).setCell ⟨w2.heap.size, 1, none⟩ (.int .i64 (k.free + 1))) := Stay.put (S := fun b => b = w2.heap.size) (Stay.put (S := fun b => b = w2.heap.size) (Stay.refl _ w4) rfl _ _) rfl _ _
        have hO25 : Only w2 ((w4.setCell ⟨w2.heap.size, 2, none⟩ (.slice A4 (HL (k.less p)).length c4)).setCell ⟨w2.heap.size, 1, none⟩ (.int .i64 (k.free + 1))) := Mine.stay (((Mine.only H4.out.2.2.2.2.1).put (Nat.le_refl _) _ _).put (Nat.le_refl _) _ _)
        have hY : ∀ b, (b = w2.heap.size ∨ b = w.heap.size + 1) → w.heap.size ≤ b := fun b hb => by omega
        have hO05 := H2.out.1.trans' hO25
        have hsz5 : w4.heap.size = ((w4.setCell ⟨w2.heap.size, 2, none⟩ (.slice A4 (HL (k.less p)).length c4)).setCell ⟨w2.heap.size, 1, none⟩ (.int .i64 (k.free + 1))).heap.size := by simp
        have hRk : RdX ((w4.setCell ⟨w2.heap.size, 2, none⟩ (.slice A4 (HL (k.less p)).length c4)).setCell ⟨w2.heap.size, 1, none⟩ (.int .i64 (k.free + 1))) (fun b => X b ∨ (b = w2.heap.size ∨ b = w.heap.size + 1)) { k with free := k.free + 1, holds := k.less p } A4 c4 A2 c2' :=
          ⟨⟨H4.out.2.2.2.2.2.1.aside hS5 (fun a ha e => by have := H4.out.2.2.2.2.2.2 a ha; omega) hS5.size, (HRW.out.only hO05).rd.ws⟩, (fun _ a ha e => by
            have := H4.out.2.2.2.2.2.2 a ha
            rcases e with e | e | e
            · have := HBase.out.2 _ e; omega
            · omega
            · omega), (HRW.out.more hY).wa⟩
        have hcall := with_anyX ((w4.setCell ⟨w2.heap.size, 2, none⟩ (.slice A4 (HL (k.less p)).length c4)).setCell ⟨w2.heap.size, 1, none⟩ (.int .i64 (k.free + 1))) (fun b => X b ∨ (b = w2.heap.size ∨ b = w.heap.size + 1)) (some ⟨xb, xo, none⟩) c t.ls lock i { k with free := k.free + 1, holds := k.less p } A4 c4 A2 c2' ((HBase.out.1.more hY).only hO05) (fun b hb => by
          have := H4.out.2.2.2.1.lt
          have := H4.out.2.2.1.lt
          rcases hb with e | e | e
          · have := HBase.out.2 _ e; omega
          · omega
          · omega) hil hli hRk hn
        refine (show Calls _ _ _ ((w4.setCell ⟨w2.heap.size, 2, none⟩ (.slice A4 (HL (k.less p)).length c4)).setCell ⟨w2.heap.size, 1, none⟩ (.int .i64 (k.free + 1))) _ from hcall).mono ?_
        rintro e w6 ⟨A7, c7, rfl, hst7, hO6⟩
        have br := hO6.blk (hS5.blk H4.out.2.2.1 n2)
        have H6 := Lib.hid (And.intro hst7 (H2.out.1.trans' (hO25.trans' hO6)))
        clear c1 l1 r1 r2 r3 s1 s2 s3 hst7 hO6 hcall hS5 hRk hO05
        have r1 := br.cell
        have r2 := br.free
        have r3 := br.lt
        clear br
        unfold tv
        go_wp2_with fail
        refine bodyPost_ret (v := .tuple #[tv A7 t.ls.length c7, .int .i64 0, .int .i64 0]) (by simp [results, Try.results45, go_sem, tv, r1]) rfl ?_
        have hl4 := H4.out.2.2.2.1.lt
        have hOW : Only w (w6.setCell ⟨w.heap.size + 1, 0, none⟩ (.slice A7 t.ls.length c7)) := Mine.stay ((Mine.only H6.out.2).put (by omega) _ _)
        have hS6 : Stay (fun b => b = w.heap.size + 1) w6 (w6.setCell ⟨w.heap.size + 1, 0, none⟩ (.slice A7 t.ls.length c7)) := Stay.put (S := fun b => b = w.heap.size + 1) (Stay.refl _ w6) rfl _ _
        exact RFr.mk HF.out (RTab.upd ((H6.out.1.stay (hS6.mono (fun _ _ h => .inr (.inr h)))).sub (fun _ h => .inl h)) rfl hOW)
      | cons q l =>
        have hwl : k.waiting.length = l.length + 1 := by rw [hw]; rfl
        have hb0 : ((k.waiting.length : Int) == 0) = false := beq_eq_false_iff_ne.2 (by omega)
        have hkw : (k.waiting.length : Int) ≤ d := HA.out.2.2.2.2.wlen
        have hq1 : 1 ≤ q := (HA.out.2.2.2.2.wone q (by rw [hw]; exact List.mem_cons_self ..)).1
        obtain ⟨hs2, hhs2⟩ : ∃ z, aset (k.less p) q ((aget (k.less p) q).getD 0 + 1) = z := ⟨_, rfl⟩
        have hgv : k.give p = ({ k with holds := hs2, waiting := l }, q) := by unfold Lk.give; rw [hw]; simp only; rw [hhs2]
        have hmo := HL_more (p := q) HX.out.2.2.1.2.2.1 (aset_nodup HX.out.2.2.1.2.2.1 _ _) HX.out.2.2.1.2.1
        rw [hhs2] at hmo
        have hpos2 := HL_pos HX.out.2.2.1.2.1 (by have := HX.out.2.2.1.1; have := HA.out.2.2.2.2.sum; have := HA.out.2.2.2.2.p2; omega)
        have hlen2 : (HL (k.less p)).length ≤ 17 := by
          have h1 := sumH_len HX.out.2.2.1.2.1
          have := HX.out.2.2.1.1
          have := HA.out.2.2.2.2.sum
          have := HA.out.2.2.2.2.p2
          rw [HL_length]
          omega
        have HF := Lib.hid (show t.free lock p = ({ t with ls := t.ls.set i { k with holds := hs2, waiting := l }, waits := if q = 0 then t.waits else adel t.waits q }, q, 0) by rw [HG.out, hgv])
        obtain ⟨yb, yo, rfl, hyb, hyc⟩ := HA.out.2.2.2.1.ws.2.2.2.2 (by omega)
        have hcc := HA.out.2.2.2.1.ws.2.1
        have hcm := HA.out.2.2.2.1.ws.2.2.1
        have y0 := H4.out.1.cell (hyc 0 (.int .i64 q) (by rw [hw]; rfl))
        simp only [Nat.add_zero] at y0
        have hyl : yb < w4.heap.size := Nat.lt_of_lt_of_le hyb H4.out.1.size
        have hyn : yb ≠ w2.heap.size := by omega
        have hS5 : Stay (fun b => b = w2.heap.size) w4 (w4.setCell ⟨w2.heap.size, 2, none⟩ (.slice A4 (HL (k.less p)).length c4)) := Stay.put (S := fun b => b = w2.heap.size) (Stay.refl _ w4) rfl _ _
        have hy1 : ∀ j u, (ints l)[j]? = some u → (w4.setCell ⟨w2.heap.size, 2, none⟩ (.slice A4 (HL (k.less p)).length c4)).cell? ⟨yb, yo + 1 + j, none⟩ = some u := fun j u hu => by
          have := hS5.cell (H4.out.1.cell (hyc (j + 1) u (by rw [hw]; simpa [ints] using hu))) hyn
          rw [show yo + 1 + j = yo + (j + 1) by omega]
          exact this
        have HW := Lib.hid (And.intro hw (And.intro hmo (And.intro hpos2 (And.intro hy1 hS5))))
        have hO25 : Only w2 (w4.setCell ⟨w2.heap.size, 2, none⟩ (.slice A4 (HL (k.less p)).length c4)) := Mine.stay ((Mine.only H4.out.2.2.2.2.1).put (Nat.le_refl _) _ _)
        have HO25 := Lib.hid hO25
        clear hw hgv hmo hpos2 hy1 hS5 hyc hO25 hhs2
        have hcase : l.length = 0 ∨ 0 < l.length := by omega
        have hw1 : 1 ≤ k.waiting.length := by omega
        have HWL := Lib.hid hwl
        clear hwl
        rcases hcase with h0 | h0
        case' inl =>
          have h1 : k.waiting.length - 1 = 0 := by have := HWL.out; omega
          have H0 := Lib.hid (And.intro h0 h1)
          clear h0 h1
          by_cases hc1 : c2' = 1
          all_goals
            go_upto_region 14 with (at_builtin; refine append_zero' rfl _ _ _ rfl w4.heap.size 3 ii 1 Try.underlying29 hii0 _ 0 [] (by rfl) (World.ownsRow_nil _ _ _ _) _ _ (k.waiting.length - 1) H0.out.2 (by rfl) ?_)
            have hown : (w4.setCell ⟨w2.heap.size, 2, none⟩ (.slice A4 (HL (k.less p)).length c4)).ownsRow w4.heap.size 3 1 (.slice none l.length 0) l.length (ints l) := by
              have e : l = [] := List.eq_nil_of_length_eq_zero H0.out.1
              rw [e]
              exact World.ownsRow_nil _ _ _ _
            have HC := Lib.hid (And.intro hown (And.intro HW.out.2.2.2.2 (And.intro (HW.out.2.2.2.2.blk H4.out.2.1 n1) (And.intro (HW.out.2.2.2.2.blk H4.out.2.2.1 n2) (And.intro (H4.out.2.2.2.1.set 2 (.slice A4 (HL (k.less p)).length c4)) HO25.out)))))
            obtain ⟨Ag, cg, hAg⟩ : ∃ (Ag : Option Addr) (cg : Nat), Value.slice Ag l.length cg = Value.slice none l.length 0 := ⟨_, _, rfl⟩
            obtain ⟨w5, hw5⟩ : ∃ w5 : World, w5 = w4.setCell ⟨w2.heap.size, 2, none⟩ (.slice A4 (HL (k.less p)).length c4) := ⟨_, rfl⟩
            rw [show Value.slice none 0 0 = Value.slice none l.length 0 by rw [H0.out.1]]
            rw [← hAg, ← hw5]
            rw [← hAg, ← hw5] at HC
            clear hown hAg hw5
        case' inr =>
          have hc1 : c2' ≠ 1 := by have := HWL.out; omega
          go_upto_region 14 with (at_builtin; refine wpList_append_lies _ rfl _ _ _ rfl w4.heap.size 3 ii _ 1 8 Try.underlying29 hii0 hii1 hii2 hii3 rfl (by omega) _ 0 [] (by rfl) (World.ownsRow_nil _ _ _ _) ⟨yb, yo + 1, none⟩ (k.waiting.length - 1) (c2' - 1) (ints l) (by rfl) (by have := HWL.out; simp [ints]; omega) (fun j u hu => by rw [Addr.add_lit]; exact HW.out.2.2.2.1 j u hu) (ints_oneCell _ _) (by have := HWL.out; omega) (by simp only [maxLen]; omega) (by omega) (by simp) (w4.heap.size) (by simp) ?_; intro g cap w5 hown hgrow hat hlt2; rw [Nat.zero_add] at hown ⊢; rw [List.nil_append] at hown)
          have hs0 : Only (w4.setCell ⟨w2.heap.size, 2, none⟩ (.slice A4 (HL (k.less p)).length c4)) w5 := (grown_stay hgrow).mono (fun j _ h => by simp [Value.ownBlock] at h)
          rw [show k.waiting.length - 1 = l.length by have := HWL.out; omega] at hown ⊢
          have HC := Lib.hid (And.intro hown (And.intro (Stay.trans HW.out.2.2.2.2 hs0 (fun _ _ h => h.elim)) (And.intro (hs0.blk (HW.out.2.2.2.2.blk H4.out.2.1 n1)) (And.intro (hs0.blk (HW.out.2.2.2.2.blk H4.out.2.2.1 n2)) (And.intro (hs0.blk (H4.out.2.2.2.1.set 2 (.slice A4 (HL (k.less p)).length c4))) (HO25.out.trans' hs0))))))
          obtain ⟨Ag, cg, hAg⟩ : ∃ (Ag : Option Addr) (cg : Nat), Value.slice Ag l.length cg = Value.slice (some ⟨g, 0, none⟩) l.length cap := ⟨_, _, rfl⟩
          rw [← hAg]
          rw [← hAg] at HC
          clear hown hgrow hat hlt2 hs0 hAg
        all_goals
          clear c1 l1 r1 r2 r3 s1 s2 s3 y0
          have c1 := HC.out.2.2.1.cell
          have l1 := HC.out.2.2.1.lt
          have r1 := HC.out.2.2.2.1.cell
          have r2 := HC.out.2.2.2.1.free
          have r3 := HC.out.2.2.2.1.lt
          have s1 := HC.out.2.2.2.2.1.cell
          have s2 := HC.out.2.2.2.2.1.free
          have s3 := HC.out.2.2.2.2.1.lt
          simp only [List.set_cons_succ, List.set_cons_zero] at s1
          go_wp2_with fail
          have hS6 : Stay (fun b => b = w2.heap.size) w5 (w5.setCell ⟨w2.heap.size, 3, none⟩ (.slice Ag l.length cg)) := Stay.put (S := fun b => b = w2.heap.size) (Stay.refl _ w5) rfl _ _
          have hO26 : Only w2 (w5.setCell ⟨w2.heap.size, 3, none⟩ (.slice Ag l.length cg)) := Mine.stay ((Mine.only HC.out.2.2.2.2.2).put (Nat.le_refl _) _ _)
          have hS46 : Stay (fun b => b = w2.heap.size) w4 (w5.setCell ⟨w2.heap.size, 3, none⟩ (.slice Ag l.length cg)) := Stay.trans HC.out.2.1 hS6 (fun _ _ h => h)
          have hs6 := H4.out.2.2.2.2.2.1.aside hS46 (fun a ha e => by have := H4.out.2.2.2.2.2.2 a ha; omega) hS46.size
          refine (rholders_any (w5.setCell ⟨w2.heap.size, 3, none⟩ (.slice Ag l.length cg)) A4 c4 (HL (k.less p)) q 1 hs6 (by omega) HW.out.2.2.1 (by omega)).mono ?_
          rintro e w7 ⟨A8, c8, rfl, hs8, hf8, hO8⟩
          rw [← HW.out.2.1] at hs8 ⊢
          have bt := hO8.blk (hS6.blk HC.out.2.2.1 n1)
          have br := hO8.blk (hS6.blk HC.out.2.2.2.1 n2)
          have bs := hO8.blk (HC.out.2.2.2.2.1.set 3 (.slice Ag l.length cg))
          have hsz6 : w5.heap.size = (w5.setCell ⟨w2.heap.size, 3, none⟩ (.slice Ag l.length cg)).heap.size := by simp
          have hsz45 := HC.out.2.1.size
          have H7 := Lib.hid (And.intro hs8 (And.intro hf8 (And.intro (hO26.trans' hO8) (And.intro br (And.intro bs (Stay.trans hS6 hO8 (fun _ _ h => h.elim)))))))
          clear c1 l1 r1 r2 r3 s1 s2 s3 hs8 hf8 hO8 hS6 hO26 hS46 hs6
          have c1 := bt.cell
          have l1 := bt.lt
          have r1 := br.cell
          have r2 := br.free
          have r3 := br.lt
          have s1 := bs.cell
          have s2 := bs.free
          have s3 := bs.lt
          simp only [List.set_cons_succ, List.set_cons_zero] at s1
          clear bt br bs
          go_wp2_with fail
          have hS9 : Stay (fun b => b = w2.heap.size) w7 (w7.setCell ⟨w2.heap.size, 2, none⟩ (.slice A8 (HL hs2).length c8)) := Stay.put (S := fun b => b = w2.heap.size) (Stay.refl _ w7) rfl _ _
          have hO29 : Only w2 (w7.setCell ⟨w2.heap.size, 2, none⟩ (.slice A8 (HL hs2).length c8)) := Mine.stay ((Mine.only H7.out.2.2.1).put (Nat.le_refl _) _ _)
          have hl4 := H4.out.2.2.2.1.lt
          have hl7 := H7.out.2.2.2.2.1.lt
          have hY : ∀ b, (b = w2.heap.size ∨ b = w.heap.size + 1) → w.heap.size ≤ b := fun b hb => by omega
          have hO09 := H2.out.1.trans' hO29
          have hsz7 : w7.heap.size = (w7.setCell ⟨w2.heap.size, 2, none⟩ (.slice A8 (HL hs2).length c8)).heap.size := by simp
          have hS59 : Stay (fun b => b = w2.heap.size) w5 (w7.setCell ⟨w2.heap.size, 2, none⟩ (.slice A8 (HL hs2).length c8)) := Stay.trans H7.out.2.2.2.2.2 hS9 (fun _ _ h => h)
          have hg5 : ∀ a, Ag = some a → w4.heap.size ≤ a.block := fun a ha => (own_lt HC.out.1 a.block (by rw [ha]; rfl)).1
          have hRk : RdX (w7.setCell ⟨w2.heap.size, 2, none⟩ (.slice A8 (HL hs2).length c8)) (fun b => X b ∨ (b = w2.heap.size ∨ b = w.heap.size + 1)) { k with holds := hs2, waiting := l } A8 c8 Ag cg :=
            ⟨⟨H7.out.1.aside hS9 (fun a ha e => by have := H7.out.2.1 a ha; omega) hS9.size, (own_sl' HC.out.1).aside hS59 (fun a ha e => by have := hg5 a ha; omega) hS59.size⟩, (fun _ a ha e => by
              have := H7.out.2.1 a ha
              rcases e with e | e | e
              · have := HBase.out.2 _ e; omega
              · omega
              · omega), (fun _ a ha e => by
              have := hg5 a ha
              rcases e with e | e | e
              · have := HBase.out.2 _ e; omega
              · omega
              · omega)⟩
          have hcall := with_anyX (w7.setCell ⟨w2.heap.size, 2, none⟩ (.slice A8 (HL hs2).length c8)) (fun b => X b ∨ (b = w2.heap.size ∨ b = w.heap.size + 1)) (some ⟨xb, xo, none⟩) c t.ls lock i { k with holds := hs2, waiting := l } A8 c8 Ag cg ((HBase.out.1.more hY).only hO09) (fun b hb => by
            rcases hb with e | e | e
            · have := HBase.out.2 _ e; omega
            · omega
            · omega) hil hli hRk hn
          refine (show Calls _ _ _ (w7.setCell ⟨w2.heap.size, 2, none⟩ (.slice A8 (HL hs2).length c8)) _ from hcall).mono ?_
          rintro e w10 ⟨A10, c10, rfl, hst10, hO10⟩
          have br := hO10.blk (hS9.blk H7.out.2.2.2.1 n2)
          have H10 := Lib.hid (And.intro hst10 (H2.out.1.trans' (hO29.trans' hO10)))
          clear c1 l1 r1 r2 r3 s1 s2 s3 hst10 hO10 hcall hS9 hO29 hRk hO09 hS59 hg5
          have r1 := br.cell
          have r2 := br.free
          have r3 := br.lt
          clear br
          unfold tv
          go_wp2_with fail
          refine bodyPost_ret (v := .tuple #[tv A10 t.ls.length c10, .int .i64 q, .int .i64 0]) (by simp [results, Try.results45, go_sem, tv, r1]) rfl ?_
          have hOW : Only w (w10.setCell ⟨w.heap.size + 1, 0, none⟩ (.slice A10 t.ls.length c10)) := Mine.stay ((Mine.only H10.out.2).put (by omega) _ _)
          have hS10 : Stay (fun b => b = w.heap.size + 1) w10 (w10.setCell ⟨w.heap.size + 1, 0, none⟩ (.slice A10 t.ls.length c10)) := Stay.put (S := fun b => b = w.heap.size + 1) (Stay.refl _ w10) rfl _ _
          exact RFr.mk HF.out (RTab.upd ((H10.out.1.stay (hS10.mono (fun _ _ h => .inr (.inr h)))).sub (fun _ h => .inl h)) rfl hOW)
  · have HF := Lib.hid (show t.free lock p = (t, 0, t.asked lock p) by unfold Tb.free; rw [if_pos ha])
    obtain ⟨er, her⟩ : ∃ er, t.asked lock p = er := ⟨_, rfl⟩
    rw [her] at ha HF ⊢
    have hb : (er != 0) = true := by simpa using ha
    clear ha her
    go_wp2_with fail
    refine bodyPost_ret (v := .tuple #[tv A t.ls.length c, .int .i64 0, .int .i64 er]) (by simp [results, Try.results45, go_sem, tv, r1]) rfl ?_
    exact RFr.mk HF.out (RTab.same HBase.out.1 (Mine.stay ((Mine.only H2.out.1).put (by omega) _ _)))

def RWd (X : Nat → Prop) (w : World) (t : Tb) (p : Int) (e : Ending) (w' : World) : Prop :=
  ∃ v, e = .returned (.tuple #[v, .bool (t.withdraw p).2]) ∧ RTab X w w' v (t.withdraw p).1
theorem RWd.mk {X : Nat → Prop} {w w' : World} {t t' : Tb} {p : Int} {b : Bool} {v : Value} (h : t.withdraw p = (t', b)) (hr : RTab X w w' v t') : RWd X w t p (.returned (.tuple #[v, .bool b])) w' := by
  unfold RWd
  rw [h]
  exact ⟨v, rfl, hr⟩

set_option maxRecDepth 100000 in
set_option maxHeartbeats 8000000 in
theorem rwithdraw_any (w : World) (X : Nat → Prop) (A : Option Addr) (c : Nat) (t : Tb) (d p : Int) (h : StsX w X A t.ls.length c t.ls) (hX : ∀ b, X b → b < w.heap.size) (hok : t.Ok d) (hc : t.Cons) (hd : d ≤ 1000000) :
    Calls Try.prog 46 #[tv A t.ls.length c, .int .i64 p] w (RWd X w t p) := by
  obtain ⟨_, b1, b2⟩ := h.rd.bounds
  have hn := hok.n
  obtain ⟨ii, hii0, hii1, hii2, hii3⟩ := info_parts infoI
  have HBase := Lib.hid (And.intro h hX)
  have H := Lib.hid (And.intro h.rd (And.intro hok hc))
  have HO := Lib.hid (show Only w ((w.alloc (.cells #[.slice A t.ls.length c] 57)).alloc (.cells #[.slice none 0 0] 57)) from ((Stay.refl _ w).alloc _).alloc _)
  have BT := Lib.hid (Blk.alloc (Blk.newAt w [.slice A t.ls.length c] 57 w.heap.size rfl) (.cells #[.slice none 0 0] 57))
  have BR := Lib.hid (Blk.newAt (w.alloc (.cells #[.slice A t.ls.length c] 57)) [.slice none 0 0] 57 (w.heap.size + 1) (by simp))
  clear h hok hc hX
  unfold tv
  go_enter Try.func46, Try.ntmps46
  go_wp2_with fail
  refine (rwaits_any _ A c t p (H.out.1.only HO.out) H.out.2.2 (by omega)).mono ?_
  rintro e w3 ⟨rfl, hO3⟩
  have bt := hO3.blk BT.out
  have br := hO3.blk BR.out
  have H3 := Lib.hid (And.intro (HO.out.trans' hO3) (And.intro bt br))
  clear hO3
  have c1 := bt.cell
  have l1 := bt.lt
  have r1 := br.cell
  have r2 := br.free
  have r3 := br.lt
  clear bt br
  cases hw : aget t.waits p with
  | none =>
    have HF := Lib.hid (Tb.withdraw_none hw)
    have e1 : t.waitsN p = 0 := by unfold Tb.waitsN; rw [hw]
    rw [e1]
    clear hw e1
    go_wp2_with fail
    refine bodyPost_ret (v := .tuple #[tv A t.ls.length c, .bool false]) (by simp [results, Try.results46, go_sem, tv, r1]) rfl ?_
    exact RWd.mk HF.out (RTab.same HBase.out.1 (Mine.stay ((Mine.only H3.out.1).put (by omega) _ _)))
  | some i =>
    obtain ⟨k, hk, hm⟩ := H.out.2.2.c1 p i hw
    have HF := Lib.hid (Tb.withdraw_some hw hk)
    have e1 : t.waitsN p = (i : Int) + 1 := by unfold Tb.waitsN; rw [hw]
    rw [e1]
    have hil := (List.getElem?_eq_some_iff.1 hk).1
    have hli : (i : Int) + 1 - 1 = (i : Int) := by omega
    have hi0 : ((i : Int) + 1 == 0) = false := beq_eq_false_iff_ne.2 (by omega)
    obtain ⟨xb, xo, A1, c1', A2, c2', rfl, hxb0, hxc0, hrw⟩ := HBase.out.1.elem hk
    have hO03 := H3.out.1
    have hxb : xb < w3.heap.size := Nat.lt_of_lt_of_le hxb0 hO03.size
    have hr0 : Rd w k A1 c1' A2 c2' := hrw.rd
    have HRW := Lib.hid hrw
    have f0 := hO03.cell (hxc0 0 _ rfl)
    have f1 := hO03.cell (hxc0 1 _ rfl)
    have f2 := hO03.cell (hxc0 2 _ rfl)
    have f3 := hO03.cell (hxc0 3 _ rfl)
    simp only [Nat.add_zero] at f0
    have hkok := H.out.2.1.lk k (List.mem_of_getElem? hk)
    have hkw : (k.waiting.length : Int) ≤ d := hkok.wlen
    have hcc := hr0.ws.2.1
    have hcm := hr0.ws.2.2.1
    have hOB : Only w3 (w3.alloc (.cells #[.int .i64 k.permits, .int .i64 k.free, .slice A1 k.holders.length c1', .slice A2 k.waiting.length c2'] 42)) := (Stay.refl _ w3).alloc _
    have HB := Lib.hid (And.intro hOB (And.intro (hOB.blk H3.out.2.1) (And.intro (hOB.blk H3.out.2.2) (Blk.new w3 [.int .i64 k.permits, .int .i64 k.free, .slice A1 k.holders.length c1', .slice A2 k.waiting.length c2'] 42))))
    have HA := Lib.hid (And.intro hr0 hm)
    clear hw e1 hk hm hr0 hxb0 hxc0 hkok hOB hrw hO03
    go_wp2_with fail
    go_loopg [8, 26] (k.waiting.length) (fun kk vx vi wr => ∃ (j : Nat) (out : List Int) (vo : Value), vo = vx ∧ j ≤ k.waiting.length ∧ kk = k.waiting.length - j ∧ vi = .int .i64 (j : Nat) ∧ wr.ownsRow (w3.heap.size + 1) 3 1 vo out.length (ints out) ∧ out = (k.waiting.take j).filter (fun x => !(x == p)) ∧ out.length ≤ j ∧ Only (w3.alloc (.cells #[.int .i64 k.permits, .int .i64 k.free, .slice A1 k.holders.length c1', .slice A2 k.waiting.length c2'] 42)) wr)
    case atStart => exact ⟨0, [], _, rfl, Nat.zero_le _, rfl, rfl, World.ownsRow_nil _ _ _ _, by simp, Nat.le_refl _, Stay.refl _ _⟩
    case round =>
      obtain ⟨j, out, vo, rfl, hj, hk, rfl, hown, hof, hol, hO⟩ := hrel
      obtain ⟨w4, rfl⟩ : ∃ w4 : World, w4 = wr := ⟨_, rfl⟩
      by_cases hlt : j < k.waiting.length
      · obtain ⟨x, hx⟩ : ∃ x, k.waiting[j]? = some x := ⟨_, List.getElem?_eq_getElem hlt⟩
        obtain ⟨yb, yo, rfl, hyb, hyc⟩ := (HA.out.1.only (H3.out.1.trans' (HB.out.1.trans' hO))).ws.ints_at (by omega)
        have y0 := hyc j hlt
        rw [List.getD_eq_getElem?_getD, hx] at y0
        simp only [Option.getD_some] at y0
        have hsz := hO.size
        simp at hsz
        have HZ := Lib.hid (And.intro hk (And.intro hO (And.intro hown (And.intro hof hx))))
        clear hk hO hyc hx hown hof c1 l1 r1 r2 r3 f0 f1 f2 f3
        have htk := Lib.hid (show k.waiting.take (j + 1) = k.waiting.take j ++ [x] by
          rw [List.take_succ_eq_append_getElem hlt, (List.getElem?_eq_some_iff.1 HZ.out.2.2.2.2).2])
        by_cases he : x = p
        · have hb : (x != p) = false := by simp [he]
          have HE := Lib.hid he
          clear he
          go_wp2_with fail
          go_roundg (k.waiting.length - (j + 1))
          case measure => have := HZ.out.1; omega
          case rel => exact ⟨j + 1, out, _, rfl, by omega, rfl, by go_num, HZ.out.2.2.1, by rw [htk.out, List.filter_append, ← HZ.out.2.2.2.1, HE.out]; simp, by omega, HZ.out.2.1⟩
        · have hb : (x != p) = true := by simp [he]
          have HE := Lib.hid he
          clear he
          go_wp2_with (at_builtin; refine wpList_append_lies _ rfl _ _ _ rfl (w3.heap.size + 1) 3 ii _ 1 8 Try.underlying29 hii0 hii1 hii2 hii3 rfl (by omega) _ out.length _ (by rfl) (own_alloc HZ.out.2.2.1 _) ⟨w4.heap.size, 0, none⟩ 1 1 [.int .i64 x] (by rfl) (by rfl) (World.news_of_block (cs := [Value.int .i64 x].toArray) (t := 3) (fr := (0, 0)) (heap_alloc_at' _ _ _ (by simp))) (by simp [Value.oneCell']) (by omega) (by simp only [maxLen]; omega) (by omega) (by simp; omega) (w4.heap.size + 1) (by simp) ?_; intro g cap w5 hown hgrow hat hlt2; have HG := Lib.hid (And.intro hown (And.intro hgrow hat)); clear hown hgrow hat hlt2)
          go_roundg (k.waiting.length - (j + 1))
          case measure => have := HZ.out.1; omega
          case rel =>
            have hO5 : Only (w3.alloc (.cells #[.int .i64 k.permits, .int .i64 k.free, .slice A1 k.holders.length c1', .slice (some ⟨yb, yo, none⟩) k.waiting.length c2'] 42)) w5 := Mine.stay ((Mine.only (HZ.out.2.1.trans' ((Stay.refl _ w4).alloc _))).trans (Stay.mono (grown_stay HG.out.2.1) (fun i _ hi => by have := (own_lt HZ.out.2.2.1 i hi).1; simp; omega)))
            refine ⟨j + 1, out ++ [x], _, rfl, by omega, rfl, by go_num, ?_, by rw [htk.out, List.filter_append, ← HZ.out.2.2.2.1]; simp [HE.out], by simp; omega, hO5⟩
            have := HG.out.1
            simpa [ints] using this
      · have hje : j = k.waiting.length := by omega
        subst hje
        rw [List.take_length] at hof
        obtain ⟨Ao, co, rfl⟩ := own_shape hown
        have bt := hO.blk HB.out.2.1
        have br := hO.blk HB.out.2.2.1
        have bs := hO.blk HB.out.2.2.2
        have HZ := Lib.hid (And.intro hO (And.intro hown (And.intro hof (And.intro bt (And.intro br bs)))))
        clear hk hO hown hof c1 l1 r1 r2 r3 f0 f1 f2 f3
        have c1 := bt.cell
        have l1 := bt.lt
        have r1 := br.cell
        have r2 := br.free
        have r3 := br.lt
        have s1 := bs.cell
        have s2 := bs.free
        have s3 := bs.lt
        have n1 : w.heap.size ≠ w3.heap.size := by have := H3.out.2.1.lt; omega
        have n2 : w.heap.size + 1 ≠ w3.heap.size := by have := H3.out.2.2.lt; omega
        clear bt br bs
        go_wp2_with fail
        have hS6 : Stay (fun b => b = w3.heap.size) w4 (w4.setCell ⟨w3.heap.size, 3, none⟩ (.slice Ao out.length co)) := Stay.put (S := fun b => b = w3.heap.size) (Stay.refl _ w4) rfl _ _
        have hO36 : Only w3 (w4.setCell ⟨w3.heap.size, 3, none⟩ (.slice Ao out.length co)) := Mine.stay ((Mine.only (HB.out.1.trans' HZ.out.1)).put (Nat.le_refl _) _ _)
        have hl1 := H3.out.2.2.lt
        have hl4 := HZ.out.2.2.2.2.2.lt
        have hY : ∀ b, (b = w3.heap.size ∨ b = w.heap.size + 1) → w.heap.size ≤ b := fun b hb => by omega
        have hO06 := H3.out.1.trans' hO36
        have hsz6 : w4.heap.size = (w4.setCell ⟨w3.heap.size, 3, none⟩ (.slice Ao out.length co)).heap.size := by simp
        have hga : ∀ a, Ao = some a → w3.heap.size + 1 ≤ a.block := fun a ha => (own_lt HZ.out.2.1 a.block (by rw [ha]; rfl)).1
        have hRk : RdX (w4.setCell ⟨w3.heap.size, 3, none⟩ (.slice Ao out.length co)) (fun b => X b ∨ (b = w3.heap.size ∨ b = w.heap.size + 1)) { k with waiting := out } A1 c1' Ao co :=
          ⟨⟨(HRW.out.only hO06).rd.hs, (own_sl' HZ.out.2.1).aside hS6 (fun a ha e => by have := hga a ha; omega) hS6.size⟩, (HRW.out.more hY).ha, (fun _ a ha e => by
            have := hga a ha
            rcases e with e | e | e
            · have := HBase.out.2 _ e; omega
            · omega
            · omega)⟩
        have hcall := with_anyX (w4.setCell ⟨w3.heap.size, 3, none⟩ (.slice Ao out.length co)) (fun b => X b ∨ (b = w3.heap.size ∨ b = w.heap.size + 1)) (some ⟨xb, xo, none⟩) c t.ls ((i : Int) + 1) i { k with waiting := out } A1 c1' Ao co ((HBase.out.1.more hY).only hO06) (fun b hb => by
          rcases hb with e | e | e
          · have := HBase.out.2 _ e; omega
          · omega
          · omega) hil hli hRk hn
        refine (show Calls _ _ _ (w4.setCell ⟨w3.heap.size, 3, none⟩ (.slice Ao out.length co)) _ from hcall).mono ?_
        rintro e w7 ⟨A7, c7, rfl, hst7, hO7⟩
        have br := hO7.blk (hS6.blk HZ.out.2.2.2.2.1 n2)
        have H7 := Lib.hid (And.intro hst7 (H3.out.1.trans' (hO36.trans' hO7)))
        clear c1 l1 r1 r2 r3 s1 s2 s3 hst7 hO7 hcall hS6 hRk hO06 hga
        have r1 := br.cell
        have r2 := br.free
        have r3 := br.lt
        clear br
        unfold tv
        go_wp2_with fail
        refine bodyPost_ret (v := .tuple #[tv A7 t.ls.length c7, .bool true]) (by simp [results, Try.results46, go_sem, tv, r1]) rfl ?_
        have hOW : Only w (w7.setCell ⟨w.heap.size + 1, 0, none⟩ (.slice A7 t.ls.length c7)) := Mine.stay ((Mine.only H7.out.2).put (by omega) _ _)
        have hS7 : Stay (fun b => b = w.heap.size + 1) w7 (w7.setCell ⟨w.heap.size + 1, 0, none⟩ (.slice A7 t.ls.length c7)) := Stay.put (S := fun b => b = w.heap.size + 1) (Stay.refl _ w7) rfl _ _
        exact RWd.mk HF.out (RTab.upd (k := { k with waiting := out }) ((H7.out.1.stay (hS7.mono (fun _ _ h => .inr (.inr h)))).sub (fun _ h => .inl h)) (by rw [← HZ.out.2.2.1]) hOW)

def RFd (X : Nat → Prop) (w : World) (t : Tb) (e : Ending) (w' : World) : Prop :=
  ∃ v, e = .returned (.tuple #[v, .bool t.frees.isSome]) ∧ RTab X w w' v (t.frees.getD t)

set_option maxRecDepth 100000 in
set_option maxHeartbeats 8000000 in
theorem rfreed_any (w : World) (X : Nat → Prop) (A : Option Addr) (c : Nat) (t : Tb) (d : Int) (h : StsX w X A t.ls.length c t.ls) (hX : ∀ b, X b → b < w.heap.size) (hok : t.Ok d) (hc : t.Cons) (hd : d ≤ 1000000) :
    Calls Try.prog 66 #[tv A t.ls.length c] w (RFd X w t) := by
  obtain ⟨_, b1, b2⟩ := h.rd.bounds
  have hn := hok.n
  have HBase := Lib.hid (And.intro h hX)
  have H := Lib.hid (And.intro h.rd (And.intro hok hc))
  have HO := Lib.hid (show Only w ((w.alloc (.cells #[.slice A t.ls.length c] 57)).alloc (.cells #[.slice none 0 0] 57)) from ((Stay.refl _ w).alloc _).alloc _)
  have BT := Lib.hid (Blk.alloc (Blk.newAt w [.slice A t.ls.length c] 57 w.heap.size rfl) (.cells #[.slice none 0 0] 57))
  have BR := Lib.hid (Blk.newAt (w.alloc (.cells #[.slice A t.ls.length c] 57)) [.slice none 0 0] 57 (w.heap.size + 1) (by simp))
  clear h hok hc hX
  unfold tv
  go_enter Try.func66, Try.ntmps66
  go_wp2_with fail
  go_loopg [14] (t.ls.length) (fun kk vi wr => ∃ (i : Nat), i ≤ t.ls.length ∧ kk = t.ls.length - i ∧ vi = .int .i64 (i : Nat) ∧ Only ((w.alloc (.cells #[.slice A t.ls.length c] 57)).alloc (.cells #[.slice none 0 0] 57)) wr ∧ t.pick = pickFrom t.waits (t.ls.drop i) i)
  case atStart => exact ⟨0, Nat.zero_le _, rfl, rfl, Stay.refl _ _, rfl⟩
  case round =>
    obtain ⟨i, hi, hk, rfl, hO, hpk⟩ := hrel
    obtain ⟨w3, rfl⟩ : ∃ w3 : World, w3 = wr := ⟨_, rfl⟩
    have bt := hO.blk BT.out
    have br := hO.blk BR.out
    by_cases hlt : i < t.ls.length
    · obtain ⟨k, hkk⟩ : ∃ k, t.ls[i]? = some k := ⟨_, List.getElem?_eq_getElem hlt⟩
      obtain ⟨xb, xo, A1, c1', A2, c2', rfl, hxb, hxc, hr1⟩ := (H.out.1.only (HO.out.trans' hO)).elem hkk
      have e0 := hxc 0 _ rfl
      have e1 := hxc 1 _ rfl
      have e2 := hxc 2 _ rfl
      have e3 := hxc 3 _ rfl
      simp only [Nat.add_zero] at e0
      have hdr : t.ls.drop i = k :: t.ls.drop (i + 1) := by rw [List.drop_eq_getElem_cons hlt, (List.getElem?_eq_some_iff.1 hkk).2]
      rw [hdr] at hpk
      have hsl : (srt (k.holds.map (·.1))).length = k.holders.length := by simp [Lk.holders]
      have q1 := hr1.hs.2.1
      have q2 := hr1.hs.2.2.1
      have HX := Lib.hid (And.intro hk (And.intro hO (And.intro hr1 (And.intro hpk (And.intro hsl hkk)))))
      have hO1 : Only w3 (w3.alloc (.cells (stc k A1 c1' A2 c2').toArray 42)) := (Stay.refl _ w3).alloc _
      have HB := Lib.hid (And.intro hO1 (And.intro (hO1.blk bt) (hO1.blk br)))
      clear hk hO hr1 hxc hkk hdr hpk hsl bt br hO1
      go_wp2_with fail
      go_loopg [22] (k.holders.length) (fun kk vq wr => ∃ (q : Nat), q ≤ k.holders.length ∧ kk = k.holders.length - q ∧ vq = .int .i64 (q : Nat) ∧ Only (w3.alloc (.cells (stc k A1 c1' A2 c2').toArray 42)) wr ∧ pickL t.waits (srt (k.holds.map (·.1))) = pickL t.waits ((srt (k.holds.map (·.1))).drop q))
      case atStart => exact ⟨0, Nat.zero_le _, rfl, rfl, Stay.refl _ _, rfl⟩
      case round =>
        obtain ⟨q, hq, hk3, rfl, hO9, hpl⟩ := hrel
        obtain ⟨w5, rfl⟩ : ∃ w5 : World, w5 = wr := ⟨_, rfl⟩
        by_cases hlt2 : q < k.holders.length
        · obtain ⟨p, hp⟩ : ∃ p, (srt (k.holds.map (·.1)))[q]? = some p := ⟨_, List.getElem?_eq_getElem (by rw [HX.out.2.2.2.2.1]; exact hlt2)⟩
          have hph : k.holders[q]? = some (p, k.has p) := by simp only [Lk.holders, List.getElem?_map, hp]; rfl
          obtain ⟨yb, yo, rfl, hyb, hyc⟩ := (HX.out.2.2.1.only (HB.out.1.trans' hO9)).hs.elem hcell_length hph (by omega)
          have y0 := hyc 0 _ rfl
          have y1 := hyc 1 _ rfl
          simp only [Nat.add_zero] at y0
          have hdr : (srt (k.holds.map (·.1))).drop q = p :: (srt (k.holds.map (·.1))).drop (q + 1) := by rw [List.drop_eq_getElem_cons (by rw [HX.out.2.2.2.2.1]; exact hlt2), (List.getElem?_eq_some_iff.1 hp).2]
          rw [hdr] at hpl
          have hO57 : Only w5 (w5.alloc (.cells (hcell (p, k.has p)).toArray 44)) := (Stay.refl _ w5).alloc _
          have bt5 := hO9.blk HB.out.2.1
          have c1 := bt5.cell
          have l1 := bt5.lt
          have hOw5 : Only w w5 := HO.out.trans' (HX.out.2.1.trans' (HB.out.1.trans' hO9))
          have HZ := Lib.hid (And.intro hk3 (And.intro hOw5 (And.intro hpl (And.intro (Blk.new w5 (hcell (p, k.has p)) 44) (And.intro hO57 (And.intro hO9 (And.intro (hO57.blk bt5) (And.intro (hO57.blk (hO9.blk HB.out.2.2)) hp))))))))
          clear hk3 hO9 hpl hdr hp hph hyc hO57 e0 e1 e2 e3 bt5 hOw5
          go_wp2_with fail
          refine (show Calls _ _ _ (w5.alloc (.cells (hcell (p, k.has p)).toArray 44)) _ from rwaits_any _ _ c t p (H.out.1.only (HZ.out.2.1.trans' HZ.out.2.2.2.2.1)) H.out.2.2 (by omega)).mono ?_
          rintro e w6 ⟨rfl, hO6⟩
          have hB6 := hO6.blk HZ.out.2.2.2.1
          have bt6 := hO6.blk HZ.out.2.2.2.2.2.2.1
          have br6 := hO6.blk HZ.out.2.2.2.2.2.2.2.1
          have H6 := Lib.hid (And.intro (HZ.out.2.1.trans' (HZ.out.2.2.2.2.1.trans' hO6)) (And.intro (HZ.out.2.2.2.2.2.1.trans' (HZ.out.2.2.2.2.1.trans' hO6)) (And.intro bt6 br6)))
          clear hO6 y0 y1 c1 l1
          have z0 := hB6.cell
          have z1 := hB6.lt
          have c1 := bt6.cell
          have l1 := bt6.lt
          have r1 := br6.cell
          have r2 := br6.free
          have r3 := br6.lt
          clear hB6 bt6 br6
          unfold hcell at z0
          cases hw : aget t.waits p with
          | some j =>
            have hwn : t.waitsN p = (j : Int) + 1 := by unfold Tb.waitsN; rw [hw]
            have hb : ((j : Int) + 1 == 0) = false := beq_eq_false_iff_ne.2 (by omega)
            rw [hwn]
            have HW := Lib.hid hw
            clear hw hwn
            go_wp2_with fail
            go_roundg (k.holders.length - (q + 1))
            case measure => have := HZ.out.1; omega
            case rel => exact ⟨q + 1, by omega, rfl, by go_num, H6.out.2.1, by rw [HZ.out.2.2.1]; simp [pickL, HW.out]⟩
          | none =>
            have hwn : t.waitsN p = 0 := by unfold Tb.waitsN; rw [hw]
            rw [hwn]
            have HF := Lib.hid (show t.pick = some (i, p) by rw [HX.out.2.2.2.1]; simp only [pickFrom]; rw [HZ.out.2.2.1]; simp [pickL, hw])
            have hkm : p ∈ k.holds.map (·.1) := (srt_perm_self _).mem_iff.1 (List.mem_of_getElem? HZ.out.2.2.2.2.2.2.2.2)
            have HG := Lib.hid (And.intro (show t.frees = some (t.gives i p) by unfold Tb.frees; rw [HF.out]; rfl) (Tb.gives_free H.out.2.1 HX.out.2.2.2.2.2 hkm))
            clear hw hwn hkm
            go_wp2_with fail
            have hl6 := H6.out.2.2.2.lt
            have hO6 := H6.out.1
            have hz6 := hO6.size
            have hY : ∀ b, b = w.heap.size + 1 → w.heap.size ≤ b := fun b hb => by omega
            have hcall := rfree_any w6 (fun b => X b ∨ b = w.heap.size + 1) _ c t d ((i : Int) + 1) p ((HBase.out.1.more hY).only hO6) (fun b hb => by
              rcases hb with e | e
              · have := HBase.out.2 _ e; omega
              · omega) H.out.2.1 hd
            refine hcall.mono ?_
            clear hcall hO6
            rintro e w7 ⟨v7, rfl, hT7⟩
            rw [HG.out.2] at hT7 ⊢
            obtain ⟨A7, c7, rfl, hst7, hO7⟩ := hT7
            simp only at hst7 ⊢
            have br7 := hO7.blk H6.out.2.2.2
            clear z0 z1 c1 l1 r1 r2 r3
            have r1 := br7.cell
            have r2 := br7.free
            have r3 := br7.lt
            have H7 := Lib.hid (And.intro hst7 hO7)
            clear br7 hst7 hO7
            unfold tv
            go_wp2_with fail
            have hO67 : Only w w7 := H6.out.1.trans' H7.out.2
            have hOW : Only w ((w7.setCell ⟨w.heap.size + 1, 0, none⟩ (.slice A7 (t.gives i p).ls.length c7)).alloc (.cells #[.slice A7 (t.gives i p).ls.length c7] 57)) := Mine.stay (((Mine.only hO67).put (by omega) _ _).alloc _)
            have hS7 : Stay (fun b => b = w.heap.size + 1) w7 ((w7.setCell ⟨w.heap.size + 1, 0, none⟩ (.slice A7 (t.gives i p).ls.length c7)).alloc (.cells #[.slice A7 (t.gives i p).ls.length c7] 57)) := (Stay.put (S := fun b => b = w.heap.size + 1) (Stay.refl _ w7) rfl _ _).alloc _
            have rR := (Blk.alloc ((H7.out.2.blk H6.out.2.2.2).set 0 (.slice A7 (t.gives i p).ls.length c7)) (.cells #[.slice A7 (t.gives i p).ls.length c7] 57)).cell
            simp only [List.set_cons_zero] at rR
            refine bodyPost_ret (v := .tuple #[tv A7 (t.gives i p).ls.length c7, .bool true]) (by simp [results, Try.results66, go_sem, tv, rR]) rfl ?_
            refine ⟨_, by rw [HG.out.1]; rfl, ?_⟩
            rw [HG.out.1]
            exact ⟨A7, c7, rfl, (H7.out.1.stay (hS7.mono (fun _ _ h => .inr h))).sub (fun _ h => .inl h), hOW⟩
        · have hqe : q = k.holders.length := by omega
          have hnone : pickL t.waits (srt (k.holds.map (·.1))) = none := by rw [hpl, hqe, ← HX.out.2.2.2.2.1, List.drop_length]; rfl
          have HZ := Lib.hid (And.intro (HX.out.2.1.trans' (HB.out.1.trans' hO9)) (show t.pick = pickFrom t.waits (t.ls.drop (i + 1)) (i + 1) by rw [HX.out.2.2.2.1]; simp only [pickFrom]; rw [hnone]))
          clear hk3 hO9 hpl hnone e0 e1 e2 e3
          go_wp2_with fail
          go_roundg (t.ls.length - (i + 1))
          case measure => have := HX.out.1; omega
          case rel => exact ⟨i + 1, by omega, rfl, by go_num, HZ.out.1, HZ.out.2⟩
    · have hie : i = t.ls.length := by omega
      have HF := Lib.hid (show t.frees = none by unfold Tb.frees; rw [hpk, hie, List.drop_length]; rfl)
      have HX := Lib.hid (HO.out.trans' hO)
      clear hk hO hpk
      have c1 := bt.cell
      have l1 := bt.lt
      have r1 := br.cell
      have r2 := br.free
      have r3 := br.lt
      clear bt br
      go_wp2_with fail
      refine bodyPost_ret (v := .tuple #[tv A t.ls.length c, .bool false]) (by simp [results, Try.results66, go_sem, tv, r1]) rfl ?_
      refine ⟨_, by rw [HF.out]; rfl, ?_⟩
      rw [HF.out]
      exact RTab.same HBase.out.1 (Mine.stay ((Mine.only HX.out).put (by omega) _ _))

end Go.Proofs.Ytfifdgigeecfbaa
