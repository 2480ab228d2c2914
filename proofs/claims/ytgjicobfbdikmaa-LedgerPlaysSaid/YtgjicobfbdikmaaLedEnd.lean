/- End. -/
import Derived.Test.YtgjicobfbdikmaaLedHeld
set_option linter.unusedVariables false
set_option linter.unusedSimpArgs false
namespace Go.Proofs.Ytgjicobfbdikmaa
open Go Go.RowKit

theorem leaks_succ : ∀ (n : Nat) (L : Lg) (t : Int), Lg.leaks (n + 1) L t = (Lg.leaks n L t).leak t
  | 0, _, _ => rfl
  | n + 1, L, t => by
    rw [Lg.leaks, leaks_succ n (L.leak t) t]
    rfl
theorem leaks_stk (L : Lg) (t : Int) : ∀ (k : Nat), k ≤ (L.stk t).length → (Lg.leaks k L t).stk t = (L.stk t).take ((L.stk t).length - k)
  | 0, _ => by simp [Lg.leaks]
  | k + 1, h => by
    rw [leaks_succ, leak_stk, leaks_stk L t k (by omega), List.length_take, show min ((L.stk t).length - k) (L.stk t).length = (L.stk t).length - k by omega]
    rw [List.eraseIdx_eq_take_drop_succ, List.take_take, List.drop_of_length_le (by simp; omega), List.append_nil]
    congr 1
    omega
theorem whatAt_shut (es : List Ent) (k tm j : Int) : whatAt (shut es k tm) j = whatAt es j := by
  unfold whatAt
  rw [shut_get]
  split
  · cases es[j.toNat]? <;> rfl
  · rfl
theorem leaks_what (L : Lg) (t : Int) : ∀ (k : Nat), (∀ j, whatAt (Lg.leaks k L t).es j = whatAt L.es j) ∧ (Lg.leaks k L t).es.length = L.es.length
  | 0 => ⟨fun _ => rfl, rfl⟩
  | k + 1 => by
    have ih := leaks_what L t k
    rw [leaks_succ]
    exact ⟨fun j => (whatAt_shut _ _ _ j).trans (ih.1 j), (shut_length _ _ _).trans ih.2⟩
theorem rev_take {α : Type} (l : List α) (k : Nat) (h : k < l.length) : l.reverse.take (k + 1) = l.reverse.take k ++ [l[l.length - 1 - k]'(by omega)] := by
  rw [List.take_add_one, List.getElem?_eq_getElem (by simpa using h), List.getElem_reverse]
  rfl

def EndPost (w : World) (S : Nat → Prop) (b : Nat) (L : Lg) (t : Int) (e : Ending) (w' : World) : Prop :=
  ∃ v, e = .returned (.tuple #[v, .int .i64 (L.fin t).2.2]) ∧ OutPost w S b v (L.fin t).2.1 (L.fin t).1 w'

set_option maxRecDepth 100000 in
set_option maxHeartbeats 2000000 in
theorem end_any (w : World) (S : Nat → Prop) (b : Nat) (L : Lg) (t : Int) (h : LgAt w S b L) (hok : L.Ok) :
    Calls Try.prog 29 #[.pointer (some ⟨b, 0, none⟩), .int .i64 t] w (EndPost w S b L t) := by
  obtain ⟨ii, hii0, hii1, hii2, hii3⟩ := info_parts infoI
  have HH := Lib.hid (And.intro h hok)
  clear h hok
  go_enter Try.func29, Try.ntmps29
  go_wp2_with fail
  refine (bad_any w b t 0).mono ?_
  rintro e w1 ⟨rfl, hO1⟩
  by_cases hb : Bad t 0
  · have HB := Lib.hid (show L.fin t = (L, [], 2) by unfold Lg.fin; rw [if_pos hb])
    rw [decide_eq_true hb]
    have HO := Lib.hid hO1
    clear hb hO1
    go_wp2_with fail
    go_ret2
    refine ⟨.slice none 0 0, by rw [HB.out]; rfl, ?_⟩
    rw [HB.out]
    exact ⟨World.ownsRow_nil _ _ _ _, ⟨S, fun _ => grow.old, HH.out.1.only HO.out, fun g hg => by cases hg⟩, HO.out.mono (fun _ _ h => h.elim)⟩
  · rw [decide_eq_false hb]
    have HBd := Lib.hid hb
    have HF := Lib.hid (show L.fin t = (Lg.leaks (L.stk t).length L t, (L.held t).reverse, 0) by unfold Lg.fin; rw [if_neg hb])
    obtain ⟨m, ev, cv, kv, hs, hT⟩ := HH.out.1
    have HT := Lib.hid (And.intro (hT.only hO1) hO1)
    clear hb hO1 hT
    go_wp2_with fail
    refine (of_any w1 S b L m ev cv kv hs t HT.out.1 (by have := HBd.out; unfold Bad at this; omega)).mono ?_
    rintro e w2 ⟨hs2, h2, rfl, hT2, hg2, hx2⟩
    obtain ⟨hb, hbe⟩ : ∃ hb, hb = h2.b := ⟨_, rfl⟩
    have hls := hT2.stk hg2
    have hz1 := HT.out.2.size
    have hz2 := hx2.size
    have H2 := Lib.hid (And.intro hT2 (And.intro hg2 (And.intro hx2 hls)))
    rw [← hbe]
    have hst0 : Stay S w w2 := (HT.out.2.mono (fun _ _ h => h.elim)).trans hx2 (fun _ _ h => h)
    have HS := Lib.hid (And.intro hst0 hbe)
    clear hT2 hg2 hx2 hls hst0 hbe
    obtain ⟨n, hn⟩ : ∃ n, n = (L.stk t).length := ⟨_, rfl⟩
    have hn40 : n ≤ 40 := by rw [hn]; exact HH.out.2.hl t
    have HN := Lib.hid hn
    clear hn
    go_wp2_with fail
    go_loopg [6] n (fun kk vo wr => ∃ (k : Nat) (T : Nat → Prop) (kv' : Value) (hs' : List (Int × Hd)) (h' : Hd), k ≤ n ∧ kk = n - k ∧ LTab wr T b (Lg.leaks k L t) m ev cv kv' hs' ∧ aget hs' t = some h' ∧ h'.b = hb ∧ wr.ownsRow w.heap.size 3 1 vo k (ints ((L.held t).reverse.take k)) ∧
        (∀ g, vo.ownBlock = some g → ¬ T g) ∧ (∀ j, T j → S j ∨ w.heap.size ≤ j) ∧ Stay S w wr)
    case atStart =>
      exact ⟨0, _, kv, hs2, h2, Nat.zero_le _, rfl, H2.out.1, H2.out.2.1, HS.out.2.symm, World.ownsRow_nil _ _ _ _, fun g hg => (by cases hg), fun j hj => by
        rcases hj with h | h
        · exact .inl h
        · exact .inr (by omega), HS.out.1⟩
    case round =>
      obtain ⟨k, T, kv', hs', h', hk, hkk, hT, hg, hhb, hr, hsep, hTS, hst⟩ := hrel
      obtain ⟨Ao, co, hvo⟩ := own_shape hr
      subst hvo
      obtain ⟨hl, hb', hv⟩ := h'
      simp only at hhb
      subst hhb
      have hs1 := hT.stk hg
      simp only at hs1
      have hstk := hs1
      rw [leaks_stk L t k (by rw [← HN.out]; exact hk), ← HN.out] at hstk
      have hlen : hl.length = n - k := by rw [← hstk, List.length_take, ← HN.out]; omega
      have hHd := hT.get hg
      obtain ⟨Ah, ch, hvh⟩ := own_shape hHd.row
      simp only at hvh
      subst hvh
      have kh : ∀ j, wr.cell? ⟨hb', j, none⟩ = [Value.slice Ah hl.length ch][j]? := hHd.blk.cell
      have lh : hb' < wr.heap.size := hHd.blk.lt
      by_cases hlt : k < n
      · have hpos : (hl.length : Int) > 0 := by omega
        have hqi : wrap64 ((hl.length : Int) - 1) = ((hl.length - 1 : Nat) : Int) := by unfold wrap64; omega
        have hokk : (Lg.leaks k L t).Ok := Lg.Ok.leaks k HH.out.2 (by rw [← HN.out]; omega)
        obtain ⟨z, hz⟩ : ∃ z, hl[hl.length - 1]? = some z := ⟨_, List.getElem?_eq_getElem (by omega)⟩
        have hzr := hokk.hin t z (by rw [hs1]; exact List.mem_of_getElem? hz)
        rw [(leaks_what L t k).2] at hzr
        obtain ⟨zk, rfl⟩ : ∃ zk : Nat, z = (zk : Int) := ⟨z.toNat, by omega⟩
        have hzk : zk < L.es.length := by omega
        have hgz : ((Lg.leaks k L t).stk t).getD (hl.length - 1) 0 = (zk : Int) := by rw [hs1, List.getD_eq_getElem?_getD, hz]; rfl
        have hLs : Lg.leaks (k + 1) L t = { (Lg.leaks k L t).cut t (hl.length - 1) with lk := (Lg.leaks k L t).lk ++ [(zk : Int)] } := by
          rw [leaks_succ]
          unfold Lg.leak
          rw [hs1]
          rw [hs1] at hgz
          rw [hgz]
        have hzh : (L.held t).reverse.take (k + 1) = (L.held t).reverse.take k ++ [whatAt L.es zk] := by
          have hln : (L.held t).length = n := by unfold Lg.held; rw [List.length_map, HN.out]
          rw [rev_take _ k (by omega)]
          congr 2
          unfold Lg.held
          rw [List.getElem_map]
          congr 1
          have h2 : (L.stk t)[hl.length - 1]? = some (zk : Int) := by
            rw [← hstk, List.getElem?_take] at hz
            split at hz
            · rw [hstk] at hz; exact hz
            · cases hz
          obtain ⟨_, h3⟩ := List.getElem?_eq_some_iff.1 h2
          rw [← h3]
          congr 1
          rw [List.length_map, ← HN.out]
          omega
        have hes2 : ((Lg.leaks k L t).cut t (hl.length - 1)).es.length = L.es.length := by simp [Lg.cut, shut_length, (leaks_what L t k).2]
        have hwz : whatAt ((Lg.leaks k L t).cut t (hl.length - 1)).es zk = whatAt L.es zk := (whatAt_shut _ _ _ _).trans ((leaks_what L t k).1 _)
        have hkl : (Lg.leaks k L t).lk.length ≤ 800 := by have := hokk.ll; have := hokk.time_le; omega
        have HX := Lib.hid (And.intro hkk (And.intro hlt (And.intro hT (And.intro hg (And.intro hr (And.intro hsep (And.intro hTS (And.intro hst (And.intro hgz (And.intro hlen (And.intro hokk hqi)))))))))))
        have HY := Lib.hid (And.intro hLs (And.intro hzh (And.intro hes2 (And.intro hwz (And.intro hzk hkl)))))
        clear hkk hlt hT hg hr hsep hTS hst hstk hs1 hlen hokk hHd hk hqi hgz hLs hzh hz hzr hes2 hwz hzk hkl
        go_wp2_with fail
        rw [HX.out.2.2.2.2.2.2.2.2.2.2.2]
        refine (release_in wr T b (Lg.leaks k L t) m ev cv kv' hs' t ⟨hl, hb', .slice Ah hl.length ch⟩ (hl.length - 1) HX.out.2.2.1 HX.out.2.2.2.2.2.2.2.2.2.2.1.fit HX.out.2.2.2.1 (by have := HX.out.2.1; have := HX.out.2.2.2.2.2.2.2.2.2.1; show hl.length - 1 < hl.length; omega)).mono ?_
        rintro e w5 ⟨rfl, ⟨hs5, h5, hT5, hg5, hh5⟩, hx5⟩
        rw [HX.out.2.2.2.2.2.2.2.2.1]
        obtain ⟨L5, hL5⟩ : ∃ L5, L5 = (Lg.leaks k L t).cut t (hl.length - 1) := ⟨_, rfl⟩
        have hLs := HY.out.1
        have hes2 := HY.out.2.2.1
        have hwz := HY.out.2.2.2.1
        rw [← hL5] at hT5 hLs hes2 hwz
        have hlk : L5.lk = (Lg.leaks k L t).lk := by rw [hL5]; rfl
        rw [← hlk] at hLs
        have hkl := HY.out.2.2.2.2.2
        rw [← hlk] at hkl
        obtain ⟨Ak, ck, rfl⟩ := own_shape hT5.kw
        have c5 := hT5.blk.cell
        have f5 := hT5.blk.free
        have l5 := hT5.blk.lt
        have hr5 := own_stay hx5 HX.out.2.2.2.2.1 HX.out.2.2.2.2.2.1
        have H5 := Lib.hid (And.intro hT5 (And.intro hg5 (And.intro hh5 (And.intro hx5 (And.intro hLs (And.intro hes2 (And.intro hwz (And.intro hr5 hkl))))))))
        clear hT5 hg5 hh5 hx5 hL5 hLs hes2 hwz hlk hr5 hkl kh lh
        go_upto_region 8 with (at_builtin; refine wpList_append_lies _ rfl _ _ _ rfl 0 3 ii _ 1 8 Try.underlying37 hii0 hii1 hii2 hii3 rfl (by omega) _ L5.lk.length _ (by rfl) (own_alloc H5.out.1.kw _) ⟨w5.heap.size, 0, none⟩ 1 1 [.int .i64 (zk : Int)] (by rfl) (by rfl) (World.news_of_block (cs := [Value.int .i64 (zk : Int)].toArray) (t := 3) (fr := (0, 0)) (heap_alloc_at' _ _ _ (by simp))) (by simp [Value.oneCell']) (by omega) (by have := H5.out.2.2.2.2.2.2.2.2; simp only [maxLen]; omega) (by have := H5.out.2.2.2.2.2.2.2.2; omega) (by simp) (w5.heap.size + 1) (by simp) ?_; intro g6 cap6 w6 hown hgrow hat hlt6; have st := grown_stay hgrow; have BT := st.blk (H5.out.1.blk.alloc _) (fun e => own_ne_blk H5.out.1.kw H5.out.1.blk (by decide) _ e rfl); have c6 := BT.cell; have f6 := BT.free; have l6 := BT.lt; have HG := Lib.hid (And.intro hown (And.intro st (And.intro hat BT))); clear hown hgrow hat hlt6 st BT c5 f5 l5)
        have hB6 := HG.out.2.2.2.set 4 (.slice (some ⟨g6, 0, none⟩) (L5.lk.length + 1) cap6)
        have hr6 := own_set HG.out.1 (A := ⟨b, 4, none⟩) (.slice (some ⟨g6, 0, none⟩) (L5.lk.length + 1) cap6) (own_ne_blk HG.out.1 HG.out.2.2.2 (by decide))
        have hx6 : Stay (fun j => j = b ∨ (Value.slice Ak L5.lk.length ck).ownBlock = some j) w5 (w6.setCell ⟨b, 4, none⟩ (.slice (some ⟨g6, 0, none⟩) (L5.lk.length + 1) cap6)) := (((Stay.refl _ w5).alloc _).trans HG.out.2.1 (fun _ _ h => .inr h)).put (.inl rfl) _ _
        have hnx : Next w5 (.slice Ak L5.lk.length ck) (.slice (some ⟨g6, 0, none⟩) (L5.lk.length + 1) cap6) := fun g' hg' => by
          have e : g6 = g' := by simpa [Value.ownBlock] using hg'
          subst e
          rcases HG.out.2.2.1 with h | h
          · exact .inl h
          · exact .inr (by omega)
        obtain ⟨W6, hW6⟩ : ∃ W6, W6 = w6.setCell ⟨b, 4, none⟩ (.slice (some ⟨g6, 0, none⟩) (L5.lk.length + 1) cap6) := ⟨_, rfl⟩
        rw [← hW6] at hB6 hr6 hx6 ⊢
        have hT6 := H5.out.1.lks (l' := L5.lk ++ [(zk : Int)]) hx6 hB6 (by simpa [ints] using hr6) hnx
        rw [← H5.out.2.2.2.2.1] at hT6
        have hr7 := own_stay hx6 H5.out.2.2.2.2.2.2.2.1 (fun g hg => by
          rintro (e | e)
          · exact own_ne_blk H5.out.2.2.2.2.2.2.2.1 H5.out.1.blk (by decide) g hg e
          · exact HX.out.2.2.2.2.2.1 g hg (HX.out.2.2.1.sk g e))
        have hlen7 : (Lg.leaks (k + 1) L t).es.length = L.es.length := (leaks_what L t (k + 1)).2
        obtain ⟨ge, cge, rfl, _, _⟩ := hT6.er.form (by have := HY.out.2.2.2.2.1; omega)
        obtain ⟨en, hen⟩ : ∃ en, (Lg.leaks (k + 1) L t).es[zk]? = some en := ⟨_, List.getElem?_eq_getElem (by have := HY.out.2.2.2.2.1; omega)⟩
        have hwa : whatAt L.es (zk : Int) = en.what := by
          rw [← (leaks_what L t (k + 1)).1]
          unfold whatAt
          simp [hen]
        have z2 := hT6.er.cellAt (zk * 4) (by have := HY.out.2.2.2.2.1; omega)
        have hek : ((Lg.leaks (k + 1) L t).es.flatMap Ent.cells)[zk * 4]? = some (.int .i64 en.what) := by
          have := flat_at Ent.cells 4 Ent.cells_length (Lg.leaks (k + 1) L t).es zk en 0 hen (by omega)
          rw [Nat.add_zero] at this
          exact this
        rw [hek] at z2
        have c7 := hT6.blk.cell
        have l7 := hT6.blk.lt
        have lge := (own_lt hT6.er ge rfl).2
        have u3 : (0 : Int) ≤ (zk : Int) := by omega
        have u4 : (zk : Int) < ((Lg.leaks (k + 1) L t).es.length : Int) := by have := HY.out.2.2.2.2.1; omega
        have hz5 := HX.out.2.2.2.2.2.2.2.1.size
        have hz6 := H5.out.2.2.2.1.size
        have hz7 := hx6.size
        have hk40 : k < 40 := by have := HX.out.2.1; omega
        have H6 := Lib.hid (And.intro hT6 (And.intro hx6 (And.intro hr7 hwa)))
        clear hB6 hr6 hx6 hnx hW6 hT6 hr7 hlen7 hen hwa hek c6 f6 l6
        go_wp2_with (at_builtin; refine wpList_append_lies _ rfl _ _ _ rfl w.heap.size 3 ii _ 1 8 Try.underlying37 hii0 hii1 hii2 hii3 rfl (by omega) _ k _ (by rfl) (own_alloc H6.out.2.2.1 _) ⟨W6.heap.size, 0, none⟩ 1 1 [.int .i64 en.what] (by rfl) (by rfl) (World.news_of_block (cs := [Value.int .i64 en.what].toArray) (t := 3) (fr := (0, 0)) (heap_alloc_at' _ _ _ (by simp))) (by simp [Value.oneCell']) (by omega) (by simp only [maxLen]; omega) (by omega) (by simp; omega) (W6.heap.size + 1) (by simp) ?_; intro g8 cap8 w8 hown hgrow hat hlt2; have HG8 := Lib.hid (And.intro hown (And.intro hgrow hat)); clear hown hgrow hat hlt2)
        have hx8 : Stay (fun j => (Value.slice Ao k co).ownBlock = some j) W6 w8 := ((Stay.refl _ W6).alloc _).trans (grown_stay HG8.out.2.1) (fun _ _ h => h)
        have hno : ∀ j, (Value.slice Ao k co).ownBlock = some j → ¬ grow (grow T wr w5) w5 W6 j := fun j hj hk => by
          have h1 := (own_lt HX.out.2.2.2.2.1 j hj).2
          rcases hk with (hk | hk) | hk
          · exact HX.out.2.2.2.2.2.1 j hj hk
          · omega
          · omega
        have hTSS : ∀ j, grow (grow T wr w5) w5 W6 j → S j ∨ w.heap.size ≤ j := fun j hj => by
          rcases hj with (hj | hj) | hj
          · exact HX.out.2.2.2.2.2.2.1 j hj
          · exact .inr (by omega)
          · exact .inr (by omega)
        have hst8 : Stay S w w8 := by
          refine ((HX.out.2.2.2.2.2.2.2.1.trans H5.out.2.2.2.1 (fun i hi hT => ?_)).trans H6.out.2.1 (fun i hi hT => ?_)).trans hx8 (fun i hi hT => ?_)
          · rcases HX.out.2.2.2.2.2.2.1 i hT with h | h
            · exact h
            · omega
          · have hTi : T i := by
              rcases hT with rfl | h
              · exact HX.out.2.2.1.sb
              · exact HX.out.2.2.1.sk i h
            rcases HX.out.2.2.2.2.2.2.1 i hTi with h | h
            · exact h
            · omega
          · have := (own_lt HX.out.2.2.2.2.1 i hT).1
            omega
        go_roundg (n - (k + 1))
        case measure => have := HX.out.1; have := HX.out.2.1; omega
        case rel =>
          refine ⟨k + 1, grow (grow T wr w5) w5 W6, _, hs5, h5, by have := HX.out.2.1; omega, rfl, H6.out.1.stay hx8 (fun j hj hk => hno j hk hj) (fun _ h => h) (fun j hj => Nat.lt_of_lt_of_le (H6.out.1.lt j hj) hx8.size), H5.out.2.1, H5.out.2.2.1, ?_, fun g hg hk => ?_, hTSS, hst8⟩
          · rw [HY.out.2.1, H6.out.2.2.2]
            have := HG8.out.1
            simpa [ints] using this
          · have e : g8 = g := by simpa [Value.ownBlock] using hg
            subst e
            rcases HG8.out.2.2 with h | h
            · exact hno _ h hk
            · have := H6.out.1.lt _ hk
              omega
      · obtain rfl : k = n := by omega
        have hpos : ¬ (hl.length : Int) > 0 := by omega
        have HX := Lib.hid (And.intro hT (And.intro hr (And.intro hsep (And.intro hTS (And.intro hst hlen)))))
        clear hkk hlt hT hg hr hsep hTS hst hstk hs1 hlen hHd hk
        go_wp2_with fail
        go_ret2
        refine ⟨_, by rw [HF.out]; rfl, ?_⟩
        rw [HF.out, ← HN.out]
        have hln : (L.held t).reverse.length = k := by unfold Lg.held; rw [List.length_reverse, List.length_map, HN.out]
        have hz3 := HX.out.2.2.2.2.1.size
        refine ⟨?_, ⟨T, fun j hj => ?_, ⟨_, _, _, _, _, HX.out.1⟩, HX.out.2.2.1⟩, HX.out.2.2.2.2.1⟩
        · have := HX.out.2.1
          rw [List.take_of_length_le (by omega)] at this
          rw [hln]
          exact owns_base this (by omega)
        · rcases HX.out.2.2.2.1 j hj with h | h
          · exact .inl h
          · exact .inr ⟨h, HX.out.1.lt j hj⟩

end Go.Proofs.Ytgjicobfbdikmaa
