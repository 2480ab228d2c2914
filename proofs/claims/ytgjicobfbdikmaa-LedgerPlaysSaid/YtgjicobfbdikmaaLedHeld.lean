/- Held, Crossed, Leaks. -/
import Derived.Test.YtgjicobfbdikmaaLedSorted
import Derived.Test.YtgjicobfbdikmaaLedOwn
set_option linter.unusedVariables false
set_option linter.unusedSimpArgs false
namespace Go.Proofs.Ytgjicobfbdikmaa
open Go Go.Proofs Go.RowKit Go.Shelf
attribute [local go_sem] Oper.semAt_some

theorem own_HInts {w W : World} {base c : Nat} {A : Option Addr} {zs : List Int} (h : w.ownsRow base 3 1 (.slice A zs.length c) zs.length (ints zs)) (ho : Only w W) : HInts W.heap.size W (.slice A zs.length c) zs := by
  refine ⟨A, c, rfl, fun h0 => ?_⟩
  obtain ⟨g, cp, e, _, _⟩ := h.form h0
  cases e
  refine ⟨g, 0, rfl, Nat.lt_of_lt_of_le (own_lt h g rfl).2 ho.size, fun j hj => ?_⟩
  have := h.cellAt j (by omega)
  rw [Nat.zero_add]
  refine ho.cell ?_
  rw [this]
  unfold ints
  rw [List.getElem?_map, List.getElem?_eq_getElem hj]
  rfl

set_option maxRecDepth 100000 in
set_option maxHeartbeats 4000000 in
theorem crossed_any (w : World) (S : Nat → Prop) (b : Nat) (L : Lg) (h : LgAt w S b L) (hok : L.Ok) :
    Calls Try.prog 19 #[.pointer (some ⟨b, 0, none⟩)] w fun e w' => ∃ v', e = .returned v' ∧ w'.ownsRow w.heap.size 3 1 v' L.cr.length (ints (srt L.cr)) ∧ Only w w' := by
  obtain ⟨m, ev, cv, kv, hs, hT⟩ := h
  obtain ⟨Ac, cc, rfl⟩ := own_shape hT.cw
  have hcl : L.cr.length ≤ 800 := by have := hok.cl; have := hok.time_le; omega
  have c := hT.blk.cell
  have l := hT.blk.lt
  have H := Lib.hid hT
  clear hT hok
  go_enter Try.func19, Try.ntmps19
  go_wp2_with fail
  refine (callsIn_wide.1 (svals_in Fence.wide 5 trivial rfl Ac L.cr.length cc w)).mono ?_
  rintro e wx ⟨rfl, rfl⟩
  obtain ⟨w1, hw1⟩ : ∃ w1 : World, w1 = w.alloc (.cells #[.slice Ac L.cr.length cc] 37) := ⟨_, rfl⟩
  have hO1 : Only w w1 := by rw [hw1]; exact (Stay.refl _ w).alloc _
  have hB1 : Blk w1 w.heap.size 37 [.slice Ac L.cr.length cc] := by rw [hw1]; exact Blk.new w [.slice Ac L.cr.length cc] _
  rw [← hw1]
  have H1 := Lib.hid (And.intro hO1 hB1)
  clear hw1 hO1 hB1 c l
  go_wp2_with fail
  refine (sortedV_any w1 w.heap.size (.slice Ac L.cr.length cc) L.cr (by omega) H1.out.2.lt (H1.out.2.cell 0) (own_HInts H.out.cw H1.out.1)).mono ?_
  rintro e w2 ⟨v, rfl, h2, o2⟩
  have H2 := Lib.hid (And.intro (owns_base h2 H1.out.1.size) (H1.out.1.trans' o2))
  clear h2 o2
  go_wp2_with fail
  go_ret
  exact ⟨_, rfl, H2.out⟩
set_option maxRecDepth 100000 in
set_option maxHeartbeats 4000000 in
theorem leaks_any (w : World) (S : Nat → Prop) (b : Nat) (L : Lg) (h : LgAt w S b L) (hok : L.Ok) :
    Calls Try.prog 21 #[.pointer (some ⟨b, 0, none⟩)] w fun e w' => ∃ v', e = .returned v' ∧ w'.ownsRow w.heap.size 3 1 v' L.lk.length (ints (srt L.lk)) ∧ Only w w' := by
  obtain ⟨m, ev, cv, kv, hs, hT⟩ := h
  obtain ⟨Ac, cc, rfl⟩ := own_shape hT.kw
  have hcl : L.lk.length ≤ 800 := by have := hok.ll; have := hok.time_le; omega
  have c := hT.blk.cell
  have l := hT.blk.lt
  have H := Lib.hid hT
  clear hT hok
  go_enter Try.func21, Try.ntmps21
  go_wp2_with fail
  refine (callsIn_wide.1 (svals_in Fence.wide 5 trivial rfl Ac L.lk.length cc w)).mono ?_
  rintro e wx ⟨rfl, rfl⟩
  obtain ⟨w1, hw1⟩ : ∃ w1 : World, w1 = w.alloc (.cells #[.slice Ac L.lk.length cc] 37) := ⟨_, rfl⟩
  have hO1 : Only w w1 := by rw [hw1]; exact (Stay.refl _ w).alloc _
  have hB1 : Blk w1 w.heap.size 37 [.slice Ac L.lk.length cc] := by rw [hw1]; exact Blk.new w [.slice Ac L.lk.length cc] _
  rw [← hw1]
  have H1 := Lib.hid (And.intro hO1 hB1)
  clear hw1 hO1 hB1 c l
  go_wp2_with fail
  refine (sortedV_any w1 w.heap.size (.slice Ac L.lk.length cc) L.lk (by omega) H1.out.2.lt (H1.out.2.cell 0) (own_HInts H.out.kw H1.out.1)).mono ?_
  rintro e w2 ⟨v, rfl, h2, o2⟩
  have H2 := Lib.hid (And.intro (owns_base h2 H1.out.1.size) (H1.out.1.trans' o2))
  clear h2 o2
  go_wp2_with fail
  go_ret
  exact ⟨_, rfl, H2.out⟩

/-- A list is handed out beside a ledger. -/
def OutPost (w : World) (S : Nat → Prop) (b : Nat) (v : Value) (l : List Int) (L' : Lg) (w' : World) : Prop :=
  w'.ownsRow w.heap.size 3 1 v l.length (ints l) ∧ (∃ S', (∀ k, S' k → grow S w w' k) ∧ LgAt w' S' b L' ∧ ∀ g, v.ownBlock = some g → ¬ S' g) ∧ Stay S w w'
/-- What a task holds, said. -/
def HeldPost (w : World) (S : Nat → Prop) (b : Nat) (L : Lg) (t : Int) (e : Ending) (w' : World) : Prop :=
  ∃ v, e = .returned (.tuple #[v, .int .i64 (if Bad t 0 then 2 else 0)]) ∧ OutPost w S b v (if Bad t 0 then [] else L.held t) L w'

set_option maxRecDepth 100000 in
set_option maxHeartbeats 8000000 in
theorem held_any (w : World) (S : Nat → Prop) (b : Nat) (L : Lg) (t : Int) (h : LgAt w S b L) (hok : L.Ok) :
    Calls Try.prog 20 #[.pointer (some ⟨b, 0, none⟩), .int .i64 t] w (HeldPost w S b L t) := by
  obtain ⟨ii, hii0, hii1, hii2, hii3⟩ := info_parts infoI
  have hn := hok.n
  have HH := Lib.hid (And.intro h hok)
  clear h hok
  go_enter Try.func20, Try.ntmps20
  go_wp2_with fail
  refine (bad_any w b t 0).mono ?_
  rintro e w1 ⟨rfl, hO1⟩
  by_cases hb : Bad t 0
  · have HB := Lib.hid hb
    rw [decide_eq_true hb]
    have HO := Lib.hid hO1
    clear hb hO1
    go_wp2_with fail
    go_ret2
    refine ⟨.slice none 0 0, by rw [if_pos HB.out]; rfl, ?_⟩
    rw [if_pos HB.out]
    exact ⟨World.ownsRow_nil _ _ _ _, ⟨S, fun _ => grow.old, HH.out.1.only HO.out, fun g hg => by cases hg⟩, HO.out.mono (fun _ _ h => h.elim)⟩
  · rw [decide_eq_false hb]
    have HBd := Lib.hid hb
    obtain ⟨m, ev, cv, kv, hs, hT⟩ := HH.out.1
    have HT := Lib.hid (And.intro (hT.only hO1) hO1)
    clear hb hO1 hT
    go_wp2_with fail
    refine (of_any w1 S b L m ev cv kv hs t HT.out.1 (by have := HBd.out; unfold Bad at this; omega)).mono ?_
    rintro e w2 ⟨hs2, h2, rfl, hT2, hg2, hx2⟩
    have hH := hT2.get hg2
    obtain ⟨Ah, ch, hvh⟩ := own_shape hH.row
    obtain ⟨Ae, ce, hve⟩ := own_shape hT2.er
    obtain ⟨hl, hb, hv⟩ := h2
    simp only at hvh hH ⊢
    subst hvh hve
    have hls := hT2.stk hg2
    simp only at hls
    have c1 : ∀ i, w2.cell? ⟨hb, i, none⟩ = [Value.slice Ah hl.length ch][i]? := hH.blk.cell
    have l1 : hb < w2.heap.size := hH.blk.lt
    have hl40 : hl.length ≤ 40 := by rw [← hls]; exact HH.out.2.hl t
    have H2 := Lib.hid (And.intro hT2 (And.intro hg2 (And.intro hx2 (And.intro hH hls))))
    clear hT2 hg2 hx2 hH hls
    go_wp2_with fail
    go_loopg [6, 20] (hl.length) (fun kk vo vi wr => ∃ (i : Nat), i ≤ hl.length ∧ kk = hl.length - i ∧ vi = .int .i64 (i : Nat) ∧ wr.ownsRow w2.heap.size 3 1 vo i (ints ((hl.take i).map (whatAt L.es))) ∧ Only w2 wr)
    case atStart => exact ⟨0, Nat.zero_le _, rfl, rfl, World.ownsRow_nil _ _ _ _, Stay.refl _ _⟩
    case round =>
      obtain ⟨i, hi, hk, rfl, hr, hO⟩ := hrel
      by_cases hlt : i < hl.length
      · obtain ⟨x, hx⟩ : ∃ x, hl[i]? = some x := ⟨_, List.getElem?_eq_getElem hlt⟩
        have hxr := HH.out.2.hin t x (by rw [H2.out.2.2.2.2]; exact List.mem_of_getElem? hx)
        obtain ⟨k, rfl⟩ : ∃ k : Nat, x = (k : Int) := ⟨x.toNat, by omega⟩
        have hkn : k < L.es.length := by omega
        have hTW := H2.out.1.only hO
        have hHW := hTW.get H2.out.2.1
        obtain ⟨g, cg, e1, _, _⟩ := hHW.row.form (show 0 < hl.length by omega)
        obtain ⟨rfl, rfl⟩ : Ah = some ⟨g, 0, none⟩ ∧ ch = cg := by simpa using e1
        obtain ⟨ge, ce', e2, _, _⟩ := hTW.er.form (by omega)
        obtain ⟨rfl, rfl⟩ : Ae = some ⟨ge, 0, none⟩ ∧ ce = ce' := by simpa using e2
        have z1 := hHW.row.cellAt i (by omega)
        have hz1 : (ints hl)[i]? = some (.int .i64 (k : Int)) := by unfold ints; rw [List.getElem?_map, hx]; rfl
        rw [hz1] at z1
        obtain ⟨en, hen⟩ : ∃ en, L.es[k]? = some en := ⟨_, List.getElem?_eq_getElem hkn⟩
        have hwa : whatAt L.es (k : Int) = en.what := by unfold whatAt; simp [hen]
        have z2 := hTW.er.cellAt (k * 4) (by omega)
        have hek : (L.es.flatMap Ent.cells)[k * 4]? = some (.int .i64 en.what) := by
          have := flat_at Ent.cells 4 Ent.cells_length L.es k en 0 hen (by omega)
          rw [Nat.add_zero] at this
          exact this
        rw [hek] at z2
        have cb := hTW.blk.cell
        have lb := hTW.blk.lt
        have lg1 := (own_lt hHW.row g rfl).2
        have lg2 := (own_lt hTW.er ge rfl).2
        obtain ⟨A, c, rfl⟩ := own_shape hr
        have u1 : (0 : Int) ≤ (i : Int) := by omega
        have u2 : (i : Int) < (hl.length : Int) := by omega
        have u3 : (0 : Int) ≤ (k : Int) := by omega
        have u4 : (k : Int) < (L.es.length : Int) := by omega
        have hwz := hO.size
        have HX := Lib.hid (And.intro hk (And.intro hr (And.intro hO (And.intro hx hwa))))
        clear hk hr hO hx hwa hxr hTW hHW hz1 hek hen e1 e2
        go_wp2_with (at_builtin; refine wpList_append_lies _ rfl _ _ _ rfl w2.heap.size 3 ii _ 1 8 Try.underlying37 hii0 hii1 hii2 hii3 rfl (by omega) _ i _ (by rfl) (own_alloc HX.out.2.1 _) ⟨wr.heap.size, 0, none⟩ 1 1 [.int .i64 en.what] (by rfl) (by rfl) (World.news_of_block (cs := [Value.int .i64 en.what].toArray) (t := 3) (fr := (0, 0)) (heap_alloc_at' _ _ _ (by simp))) (by simp [Value.oneCell']) (by omega) (by simp only [maxLen]; omega) (by omega) (by simp; omega) (wr.heap.size + 1) (by simp) ?_; intro g' cap w5 hown hgrow hat hlt2; have HG := Lib.hid (And.intro hown (And.intro hgrow hat)); clear hown hgrow hat hlt2)
        go_roundg (hl.length - (i + 1))
        case measure => have := HX.out.1; omega
        case rel =>
          refine ⟨i + 1, by omega, rfl, by go_num, ?_, ?_⟩
          · rw [List.take_add_one, HX.out.2.2.2.1, Option.toList_some, List.map_append, List.map_cons, List.map_nil, HX.out.2.2.2.2]
            have := HG.out.1
            simpa [ints] using this
          · exact (HX.out.2.2.1.trans' ((Stay.refl (fun _ => False) wr).alloc _)).trans (grown_stay HG.out.2.1) (fun j hj e => by
              have := (own_lt HX.out.2.1 j e).1
              omega)
      · obtain rfl : i = hl.length := by omega
        have HX := Lib.hid (And.intro hr hO)
        clear hk hr hO
        go_wp2_with fail
        go_ret2
        have hz : w.heap.size ≤ w2.heap.size := Nat.le_trans HT.out.2.size H2.out.2.2.1.size
        have hx : Stay S w wr := (HT.out.2.mono (fun _ _ h => h.elim)).trans (H2.out.2.2.1.trans HX.out.2 (fun _ _ h => h.elim)) (fun _ _ h => h)
        refine ⟨_, by rw [if_neg HBd.out]; rfl, ?_⟩
        rw [if_neg HBd.out]
        refine ⟨?_, ⟨grow S w1 w2, fun k hk => ?_, ⟨m, _, cv, kv, hs2, H2.out.1.only HX.out.2⟩, fun g hg hk => ?_⟩, hx⟩
        · unfold Lg.held
          rw [H2.out.2.2.2.2, List.length_map]
          have := HX.out.1
          rw [List.take_length] at this
          exact owns_base this hz
        · rcases hk with hk | hk
          · exact .inl hk
          · exact .inr ⟨Nat.le_trans HT.out.2.size hk.1, Nat.lt_of_lt_of_le hk.2 HX.out.2.size⟩
        · have h1 := (own_lt HX.out.1 g hg).1
          have h2 := H2.out.1.lt g hk
          omega

end Go.Proofs.Ytgjicobfbdikmaa
