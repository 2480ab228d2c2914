/- A copy of a ledger. -/
import Derived.Test.YtgjicobfbdikmaaLedHeld
import Derived.Test.YtgjicobfbdikmaaIntClone
set_option linter.unusedVariables false
set_option linter.unusedSimpArgs false
namespace Go.Proofs.Ytgjicobfbdikmaa
open Go Go.RowKit

theorem undrew {w W : World} (h : Only w.drew W) : Only w W := ⟨h.os, h.tape, h.output, h.size, h.block⟩
/-- A ledger that has just been laid: its rows are new, nobody holds anything. -/
def Born (w : World) (L : Lg) (v3 : Value) (wc : World) : Prop :=
  ∃ (b m : Nat) (ev cv kv : Value), v3 = ptr b ∧ LTab wc (From w.heap.size wc) b { L with stk := fun _ => [] } m ev cv kv [] ∧ Only w wc

theorem born_mk {w wc : World} {L : Lg} {b m : Nat} {ev cv kv : Value} (hb : Blk wc b 58 [ev, .int .i64 L.time, .map (some m), cv, kv]) (hm : IMap wc m []) (er : wc.ownsRow w.heap.size 36 4 ev L.es.length (L.es.flatMap Ent.cells)) (cw : wc.ownsRow w.heap.size 3 1 cv L.cr.length (ints L.cr)) (kw : wc.ownsRow w.heap.size 3 1 kv L.lk.length (ints L.lk))
    (hbl : w.heap.size ≤ b) (hml : w.heap.size ≤ m) (hck : Off cv kv) (ho : Only w wc) : Born w L (ptr b) wc :=
  ⟨b, m, ev, cv, kv, rfl, ⟨hb, ⟨hbl, hb.lt⟩, ⟨hml, hm.lt⟩, fun g hg => own_lt er g hg, fun g hg => own_lt cw g hg, fun g hg => own_lt kw g hg, hm, owns_base er (Nat.zero_le _), owns_base cw (Nat.zero_le _), owns_base kw (Nat.zero_le _), by simp, fun t => rfl, List.Pairwise.nil, by simp, hck, fun k hk => hk.2, by simp⟩, ho⟩

/-- What is held by those seen. -/
def part (L : Lg) (seen : List (Int × Hd)) : Int → List Int := fun q => if q ∈ seen.map (·.1) then L.stk q else []

set_option maxRecDepth 100000 in
set_option maxHeartbeats 8000000 in
theorem ledCopy_any (w : World) (S : Nat → Prop) (b : Nat) (L : Lg) (h : LgAt w S b L) (hok : L.Ok) :
    Calls Try.prog 25 #[.pointer (some ⟨b, 0, none⟩)] w fun e w' => ∃ b', e = .returned (ptr b') ∧ LgAt w' (From w.heap.size w') b' L ∧ Only w w' := by
  have hmm := @run_makeMap Try.prog
  obtain ⟨m, ev, cv, kv, hs, hT⟩ := h
  have hn := hok.n
  have hcl : L.cr.length ≤ 800 := by have := hok.cl; have := hok.time_le; omega
  have hkl : L.lk.length ≤ 800 := by have := hok.ll; have := hok.time_le; omega
  obtain ⟨Ae, ce, rfl⟩ := own_shape hT.er
  obtain ⟨Ac, cc, rfl⟩ := own_shape hT.cw
  obtain ⟨Ak, ck, rfl⟩ := own_shape hT.kw
  have c := hT.blk.cell
  have l := hT.blk.lt
  have e0 := c 0
  have e1 := c 1
  have e2 := c 2
  have e3 := c 3
  have e4 := c 4
  simp only [List.getElem?_cons_zero, List.getElem?_cons_succ] at e0 e1 e2 e3 e4
  have H := Lib.hid (And.intro hT hok)
  clear hT hok c
  go_enter Try.func25, Try.ntmps25
  go_upto_region 3 with fail
  go_cut [3] from 8 to 29 (fun v3 wc => Born w L v3 wc)
  case first =>
    go_region_held3 (fun w' => w'.cell? ⟨b, 0, none⟩ = some (.slice Ae L.es.length ce) ∧ w'.cell? ⟨b, 1, none⟩ = some (.int .i64 L.time) ∧ w'.cell? ⟨b, 3, none⟩ = some (.slice Ac L.cr.length cc) ∧ w'.cell? ⟨b, 4, none⟩ = some (.slice Ak L.lk.length ck))
      (first
        | go_keep
        | (go_split_ands; refine ⟨?_, ?_, ?_, ?_⟩ <;> (first | (apply Only.cell oE; assumption) | (apply Only.cell oC; assumption) | (apply Only.cell oK; assumption))))
      (first
        | (go_at_call 36; refine (cloneE_any _ (.slice Ae L.es.length ce) L.es (own_only (by first | exact (Stay.refl _ w).drew | exact aC | exact aK | exact ((Stay.refl _ w).drew).alloc _ | exact aC.alloc _ | exact aK.alloc _) H.out.1.er) (by omega)).mono ?_; rintro e wE ⟨vE, rfl, hE, oE⟩; obtain ⟨AE, dE, rfl⟩ := own_shape hE; have aE : Only w wE := Only.trans' (by first | exact (Stay.refl _ w).drew | exact aC | exact aK | exact ((Stay.refl _ w).drew).alloc _ | exact aC.alloc _ | exact aK.alloc _) oE; have lE : b < wE.heap.size := Nat.lt_of_lt_of_le l aE.size)
        | (go_at_call 42; refine (cloneI_any _ Ac cc L.cr (own_sl H.out.1.cw (by first | exact (Stay.refl _ w).drew | exact aE | exact aK | exact ((Stay.refl _ w).drew).alloc _ | exact aE.alloc _ | exact aK.alloc _)) (by omega)).mono ?_; rintro e wC ⟨vC, rfl, hC, oC⟩; obtain ⟨AC, dC, rfl⟩ := own_shape hC; have aC : Only w wC := Only.trans' (by first | exact (Stay.refl _ w).drew | exact aE | exact aK | exact ((Stay.refl _ w).drew).alloc _ | exact aE.alloc _ | exact aK.alloc _) oC; have lC : b < wC.heap.size := Nat.lt_of_lt_of_le l aC.size)
        | (go_at_call 42; refine (cloneI_any _ Ak ck L.lk (own_sl H.out.1.kw (by first | exact (Stay.refl _ w).drew | exact aE | exact aC | exact ((Stay.refl _ w).drew).alloc _ | exact aE.alloc _ | exact aC.alloc _)) (by omega)).mono ?_; rintro e wK ⟨vK, rfl, hK, oK⟩; obtain ⟨AK, dK, rfl⟩ := own_shape hK; have aK : Only w wK := Only.trans' (by first | exact (Stay.refl _ w).drew | exact aE | exact aC | exact ((Stay.refl _ w).drew).alloc _ | exact aE.alloc _ | exact aC.alloc _) oK; have lK : b < wK.heap.size := Nat.lt_of_lt_of_le l aK.size))
    all_goals
      go_wp2_with fail
      have qEC : Only wE wC := by first | exact oC | exact Only.trans' ((Stay.refl (fun _ => False) wE).alloc _) oC
      have qCK : Only wC wK := by first | exact oK | exact Only.trans' ((Stay.refl (fun _ => False) wC).alloc _) oK
      have yE : wE.ownsRow w.heap.size 36 4 (.slice AE L.es.length dE) L.es.length (L.es.flatMap Ent.cells) := owns_base hE (by first | exact Nat.le_refl _ | simp)
      have yC : wC.ownsRow wE.heap.size 3 1 (.slice AC L.cr.length dC) L.cr.length (ints L.cr) := owns_base hC (by first | exact Nat.le_refl _ | simp)
      have yK : wK.ownsRow wC.heap.size 3 1 (.slice AK L.lk.length dK) L.lk.length (ints L.lk) := owns_base hK (by first | exact Nat.le_refl _ | simp)
      have hzE := aE.size
      have hzC := aC.size
      have hzK := aK.size
      have hck : Off (.slice AC L.cr.length dC) (.slice AK L.lk.length dK) := fun g hg hg2 => by
        have h1 := (own_lt yC g hg).2
        have h2 := (own_lt yK g hg2).1
        omega
      go_meet
      case rel =>
        first
          | exact born_mk (Blk.newAt wK [.slice AE L.es.length dE, .int .i64 L.time, .map (some wE.heap.size), .slice AC L.cr.length dC, .slice AK L.lk.length dK] _ _ rfl) ((((IMap.new wE).only oC).only qCK).alloc _) (own_alloc (own_only qCK (own_only qEC yE)) _) (own_alloc (own_only qCK (owns_base yC hzE)) _) (own_alloc (owns_base yK hzC) _) hzK hzE hck (aK.alloc _)
          | exact born_mk (Blk.newAt wK [.slice AE L.es.length dE, .int .i64 L.time, .map (some wC.heap.size), .slice AC L.cr.length dC, .slice AK L.lk.length dK] _ _ rfl) (((IMap.new wC).only oK).alloc _) (own_alloc (own_only qCK (own_only qEC yE)) _) (own_alloc (own_only qCK (owns_base yC hzE)) _) (own_alloc (owns_base yK hzC) _) hzK hzC hck (aK.alloc _)
          | exact born_mk (Blk.newAt (wK.alloc (.map #[] 0)) [.slice AE L.es.length dE, .int .i64 L.time, .map (some wK.heap.size), .slice AC L.cr.length dC, .slice AK L.lk.length dK] _ _ (by simp)) ((IMap.new wK).alloc _) (own_alloc (own_alloc (own_only qCK (own_only qEC yE)) _) _) (own_alloc (own_alloc (own_only qCK (owns_base yC hzE)) _) _) (own_alloc (own_alloc (owns_base yK hzC) _) _) (by omega) hzK hck ((aK.alloc _).alloc _)
          | exact born_mk (Blk.newAt wK [.slice AE L.es.length dE, .int .i64 L.time, .map (some w.heap.size), .slice AC L.cr.length dC, .slice AK L.lk.length dK] _ _ rfl) (((((IMap.new w.drew).only oE).only qEC).only qCK).alloc _) (own_alloc (own_only qCK (own_only qEC yE)) _) (own_alloc (own_only qCK (owns_base yC hzE)) _) (own_alloc (owns_base yK hzC) _) hzK (Nat.le_refl _) hck (aK.alloc _)
  case rest =>
    obtain ⟨b', m', ev', cv', kv', rfl, hT0, hO0⟩ := hcut
    have c1 := (hO0.blk H.out.1.blk).cell
    have l1 := (hO0.blk H.out.1.blk).lt
    unfold ptr
    have H0 := Lib.hid (And.intro hT0 hO0)
    clear hT0 hO0 e0 e1 e2 e3 e4 l
    go_wp2_with (first
      | (at_range; refine wpList_rangeV _ rfl _ _ rfl 3 59 Try.underlying3 Try.underlying56 m Hd.b hs (by rfl) (H.out.1.mp.only H0.out.2) H.out.1.wf (by have := H.out.1.count; simp only [maxLen]; omega) ?_; intro w2 hR2 hg2 hz2)
      | go_in)
    go_frame
    obtain ⟨wb, hwb⟩ : ∃ wb : World, wb = wc := ⟨_, rfl⟩
    have hst2 : Only wc w2 := Stay.of_grown hg2 (fun k _ e => by cases e)
    have hT2 := H0.out.1.tight.only hst2
    have H2 := Lib.hid (And.intro hR2 (And.intro hT2 (And.intro (H0.out.2.trans' hst2) (And.intro (show ∀ k, Own1 b' m' ev' cv' kv' [] k → w.heap.size ≤ k from fun k hk => (H0.out.1.sub k hk).1) (And.intro H0.out.1.mp.lt H0.out.2.size)))))
    have hrr : w2.heap.size = wc.heap.size + 1 := hz2
    clear hR2 hT2 hst2 hg2 hz2 hwb c1 l1
    go_loopw [4] (fun _ wr => ∃ (seen hs' : List (Int × Hd)) (cnt : Nat), Rng Try.prog 3 wr m wc.heap.size Hd.b hs seen cnt ∧ LTab wr (Own1 b' m' ev' cv' kv' hs') b' { L with stk := part L seen } m' ev' cv' kv' hs' ∧ Only w wr ∧ ∀ k, Own1 b' m' ev' cv' kv' hs' k → w.heap.size ≤ k)
      (fun _ wr => wr.rangeLeft m wc.heap.size)
    case atStart => exact ⟨[], [], _, H2.out.1, H2.out.2.1, H2.out.2.2.1, H2.out.2.2.2.1⟩
    case round =>
      obtain ⟨seen, hs', cnt, hR, hT, hO, hsub⟩ := hrel
      go_wp2_with (first
        | (at_next; refine wpList_nextV _ rfl _ rfl 3 Try.underlying3 m wc.heap.size Hd.b hs seen cnt (by rfl) hR ?_ ?_)
        | go_in)
      · intro hall
        have HX := Lib.hid (And.intro hR (And.intro hT (And.intro hO (And.intro hsub hall))))
        clear hR hT hO hsub hall
        go_wp2_with fail
        go_ret
        refine ⟨b', rfl, ?_, HX.out.2.2.1⟩
        have hz := HX.out.2.2.1.size
        have hst : part L seen = L.stk := by
          funext q
          unfold part
          split
          · rfl
          · rename_i hq
            rw [H.out.1.st]
            cases hg : aget hs q with
            | none => rfl
            | some hd => exact absurd (List.mem_map.2 ⟨_, HX.out.2.2.2.2 _ _ (aget_mem hg), rfl⟩) hq
        have hT := HX.out.2.1
        rw [hst] at hT
        exact ⟨_, _, _, _, _, hT.wide (fun k hk => ⟨HX.out.2.2.2.1 k hk, hT.lt k hk⟩) (fun k hk => hk.2)⟩
      · intro x hd w3 cnt' hp hns hR3 hlt hg3 hz3 hen
        have hx3 : Stay (fun k => k = wc.heap.size) wr w3 := Stay.of_grown hg3 (fun k _ e => by cases e; rfl)
        have hO3 : Only w w3 := hO.trans hx3 (fun i hi e => by have := H2.out.2.2.2.2.2; omega)
        have hHd := (H.out.1.only hO3).hd (x, hd) hp
        have hkb := H.out.1.kb (x, hd) hp
        have hls := H.out.1.stk (aget_of_mem H.out.1.keys hp)
        have hl40 : hd.l.length ≤ 40 := by rw [← hls]; exact H.out.2.hl x
        obtain ⟨o, ho, how⟩ := hR.iter
        have hnr : ∀ k, Own1 b' m' ev' cv' kv' hs' k → ¬ k = wc.heap.size := fun k hk e => by
          subst e
          rcases hT.cells _ hk with e | ⟨o', ho', hc'⟩
          · have := H2.out.2.2.2.2.1
            omega
          · rw [ho] at ho'
            cases ho'
            cases o <;> simp_all [Obj.isWalk, Obj.isCells]
        have hT3 := hT.stay hx3 hnr (fun _ h => h) (fun k hk => Nat.lt_of_lt_of_le (hT.lt k hk) hx3.size)
        obtain ⟨hl, hb, hv⟩ := hd
        obtain ⟨Ah, ch, hvh⟩ := own_shape hHd.row
        simp only at hvh hl40 hls hkb
        subst hvh
        have c3 := hT3.blk.cell 2
        have l3 := hT3.blk.lt
        have d3 := hHd.blk.cell 0
        have m3 := hHd.blk.lt
        simp only [List.getElem?_cons_zero, List.getElem?_cons_succ] at c3 d3
        have hrl := hR3.left_eq
        have hrl0 := hR.left_eq
        have hR3r := hR3.lt
        have HX := Lib.hid (And.intro hR3 (And.intro hT3 (And.intro hO3 (And.intro hsub (And.intro hHd (And.intro hls (And.intro hlt (And.intro hkb (And.intro hp (And.intro hrl hrl0))))))))))
        have HZ := Lib.hid hz3
        have hnb : ¬ b' = m' := fun e => hT3.mp.ne_blk hT3.blk e.symm
        have hnh : ¬ hb = m' := fun e => hT3.mp.ne_blk hHd.blk e.symm
        clear hR hR3 hT hT3 hO hO3 hx3 hsub hHd hls hlt hkb hp hns hg3 hz3 hnr ho how hrl hrl0
        simp only [pv] at hen ⊢
        go_wp2_with fail
        go_region_held3 (fun w' => w'.cell? ⟨b', 2, none⟩ = some (.map (some m')) ∧ w'.cell? ⟨hb, 0, none⟩ = some (.slice Ah hl.length ch))
          (first | go_keep | (go_split_ands; exact ⟨kb6, kh6⟩) | (go_split_ands; refine ⟨?_, ?_⟩ <;> (apply Only.cell oN; assumption)))
          ((go_at_call 42; refine (cloneI_any _ Ah ch hl (own_sl HX.out.2.2.2.2.1.row ((Stay.refl _ w3).drew)) (by omega)).mono ?_; rintro e wN ⟨vN, rfl, hN, oN⟩; obtain ⟨AN, dN, rfl⟩ := own_shape hN; have lN : b' < wN.heap.size := Nat.lt_of_lt_of_le l3 oN.size; have mN : hb < wN.heap.size := Nat.lt_of_lt_of_le m3 oN.size; obtain ⟨w6, hrun, hm6, hs6, hz6⟩ := IMap.update (P := Try.prog) (t := 56) (k := 3) (e := 59) (IMap.alloc (IMap.only HX.out.2.1.mp (undrew oN)) (.cells #[.slice AN hl.length dN] 64)) Try.underlying56 Try.underlying3 x (.pointer (some ⟨wN.heap.size, 0, none⟩)); have kb6 : w6.cell? ⟨b', 2, none⟩ = some (.map (some m')) := Stay.cell hs6 (Only.cell ((Stay.refl (fun _ => False) wN).alloc _) (Only.cell oN c3)) hnb; have kh6 : w6.cell? ⟨hb, 0, none⟩ = some (.slice Ah hl.length ch) := Stay.cell hs6 (Only.cell ((Stay.refl (fun _ => False) wN).alloc _) (Only.cell oN d3)) hnh))
        go_wp2_with fail
        have HW := Lib.hid (And.intro hN (And.intro (undrew oN) (And.intro hm6 hs6)))
        clear hN oN hm6 hs6 hrun kb6 kh6 lN mN hz6
        have hT3 := HX.out.2.1
        have hx : Stay (fun k => k = m') w3 w6 := ((HW.out.2.1.mono (fun _ _ h => h.elim)).trans ((Stay.refl (fun k => k = m') wN).alloc _) (fun _ _ h => h)).trans HW.out.2.2.2 (fun _ _ h => h)
        have hmlt := hT3.mp.lt
        have hzN := HW.out.2.1.size
        have hbN : Blk w6 wN.heap.size 64 [.slice AN hl.length dN] := HW.out.2.2.2.blk (Blk.newAt wN [.slice AN hl.length dN] _ _ rfl) (fun e => by omega)
        have hNg : ∀ g, (Value.slice AN hl.length dN).ownBlock = some g → w3.heap.size ≤ g ∧ g < wN.heap.size := fun g hg => own_lt HW.out.1 g hg
        have hrN : w6.ownsRow 0 3 1 (.slice AN hl.length dN) hl.length (ints hl) := own_stay HW.out.2.2.2 (own_alloc (owns_base HW.out.1 (Nat.zero_le _)) _) (fun g hg e => by have := hNg g hg; omega)
        have hNl := hbN.lt
        have hm6 := HW.out.2.2.1
        have hv6 : aset (hmap hs') x (.pointer (some ⟨wN.heap.size, 0, none⟩)) = hmap (aset hs' x ⟨hl, wN.heap.size, .slice AN hl.length dN⟩) := aset_vmap (fun h : Hd => ptr h.b) hs' x ⟨hl, wN.heap.size, .slice AN hl.length dN⟩
        rw [hv6] at hm6
        have hT6 := hT3.task (t := x) (h' := ⟨hl, wN.heap.size, .slice AN hl.length dN⟩) (S' := grow (Own1 b' m' ev' cv' kv' hs') w3 w6) hx (fun _ => grow.old) (fun j hj => hj.lt hT3.lt hx.size) hm6
          ⟨hbN, hrN, grow.new hzN hNl, fun g hg => grow.new (hNg g hg).1 (Nat.lt_trans (hNg g hg).2 hNl)⟩ (fun e => hT3.nb e.symm)
          (fun g hg e => own_ne_map hT3.er hT3.mp g hg e) (fun g hg e => own_ne_map hT3.cw hT3.mp g hg e) (fun g hg e => own_ne_map hT3.kw hT3.mp g hg e)
          (fun y hy _ => ⟨hT3.hm hy, fun g hg => hT3.vm hy g hg, fun (e : y.2.b = wN.heap.size) => by have := (hT3.hd y hy).blk.lt; omega, fun g hg hg2 => by have := (own_lt (hT3.hd y hy).row g hg).2; have := (hNg g hg2).1; omega⟩)
          (fun g hg hg2 => by have := (own_lt hT3.cw g hg2).2; have := (hNg g hg).1; omega) (fun g hg hg2 => by have := (own_lt hT3.kw g hg2).2; have := (hNg g hg).1; omega) HX.out.2.2.2.2.2.2.2.1
        have hst : fput (part L seen) x hl = part L (seen ++ [(x, ⟨hl, hb, .slice Ah hl.length ch⟩)]) := by
          funext q
          unfold part
          by_cases hq : q = x
          · subst hq
            rw [fput_same, if_pos (by simp), HX.out.2.2.2.2.2.1]
          · rw [fput_other _ _ hq]
            have e1 : q ∈ (seen ++ [(x, (⟨hl, hb, .slice Ah hl.length ch⟩ : Hd))]).map (·.1) ↔ q ∈ seen.map (·.1) := by
              rw [List.map_append, List.mem_append]
              exact ⟨fun h => h.elim id (fun h => by simp at h; exact absurd h hq), .inl⟩
            by_cases h : q ∈ seen.map (·.1)
            · rw [if_pos h, if_pos (e1.2 h)]
            · rw [if_neg h, if_neg (fun h' => h (e1.1 h'))]
        have hsub6 : ∀ k, Own1 b' m' ev' cv' kv' (aset hs' x ⟨hl, wN.heap.size, .slice AN hl.length dN⟩) k → w.heap.size ≤ k := fun k hk => by
          have hw3 := HX.out.2.2.1.size
          rcases hT6.sub k hk with h | h
          · exact HX.out.2.2.2.1 k h
          · omega
        have hT7 := hT6.tight
        simp only [hst] at hT7
        have hmge := HX.out.2.2.2.1 m' (.inr (.inl rfl))
        have hmm2 := H.out.1.mp.lt
        have hmc := H2.out.2.2.2.2.1
        have hR6 := HX.out.1.stay hx (fun e => by omega) (fun e => by omega)
        go_roundw
        case rel => exact ⟨_, _, _, hR6, hT7, HX.out.2.2.1.trans hx (fun i hi e => by omega), hsub6⟩
        case measure => rw [hR6.left_eq, HX.out.2.2.2.2.2.2.2.2.2.2]; exact HX.out.2.2.2.2.2.2.1

end Go.Proofs.Ytgjicobfbdikmaa
