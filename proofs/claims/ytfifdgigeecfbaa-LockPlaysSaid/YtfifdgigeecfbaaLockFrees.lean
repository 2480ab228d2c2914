/- frees: somebody who does not wait gives a permit back; Stuck: who waits for ever. -/
import Derived.Test.YtfifdgigeecfbaaLockCopy2
import Derived.Test.YtfifdgigeecfbaaBalPure
set_option linter.unusedVariables false
set_option linter.unusedSimpArgs false
namespace Go.Proofs.Ytfifdgigeecfbaa
open Go Go.RowKit

/-- The first party that holds a permit of the lock and does not wait. -/
def pickL (ws : List (Int × Nat)) (l : List Int) : Option Int := l.find? fun p => (aget ws p).isNone
def pickFrom (ws : List (Int × Nat)) : List Lk → Nat → Option (Nat × Int)
  | [], _ => none
  | k :: l, i => match pickL ws (srt (k.holds.map (·.1))) with
    | some p => some (i, p)
    | none => pickFrom ws l (i + 1)
def Tb.pick (t : Tb) : Option (Nat × Int) := pickFrom t.waits t.ls 0
def Tb.gives (t : Tb) (i : Nat) (p : Int) : Tb :=
  match t.ls[i]? with
  | none => t
  | some k => ⟨t.ls.set i (k.give p).1, if (k.give p).2 = 0 then t.waits else adel t.waits (k.give p).2⟩
def Tb.frees (t : Tb) : Option Tb := t.pick.map fun x => t.gives x.1 x.2

theorem pickFrom_some {ws : List (Int × Nat)} : ∀ {l : List Lk} {n i : Nat} {p : Int}, pickFrom ws l n = some (i, p) → ∃ j k, i = n + j ∧ l[j]? = some k ∧ p ∈ k.holds.map (·.1) ∧ aget ws p = none
  | [], n, i, p, h => by simp [pickFrom] at h
  | k :: l, n, i, p, h => by
    simp only [pickFrom] at h
    split at h
    · rename_i q hq
      simp only [Option.some.injEq, Prod.mk.injEq] at h
      obtain ⟨rfl, rfl⟩ := h
      have h1 := List.mem_of_find?_eq_some hq
      have h2 := List.find?_some hq
      exact ⟨0, k, rfl, rfl, (srt_perm_self _).mem_iff.1 h1, by simpa using h2⟩
    · obtain ⟨j, k', e, hj, r⟩ := pickFrom_some h
      exact ⟨j + 1, k', by omega, by simpa using hj, r⟩
theorem pick_some {t : Tb} {i : Nat} {p : Int} (h : t.pick = some (i, p)) : ∃ k, t.ls[i]? = some k ∧ p ∈ k.holds.map (·.1) ∧ aget t.waits p = none := by
  obtain ⟨j, k, e, hj, r⟩ := pickFrom_some h
  obtain rfl : i = j := by omega
  exact ⟨k, hj, r⟩
theorem has_of_mem {k : Lk} {d : Int} (h : k.Ok d) {p : Int} (hp : p ∈ k.holds.map (·.1)) : k.has p ≠ 0 := by
  cases hg : aget k.holds p with
  | none => exact absurd hp (aget_none.1 hg)
  | some v =>
    have := sumH_get h.pos hg
    simp [Lk.has, hg]
    omega
theorem Tb.gives_eq {t : Tb} {i : Nat} {p : Int} {k : Lk} (h : t.ls[i]? = some k) : t.gives i p = ⟨t.ls.set i (k.give p).1, if (k.give p).2 = 0 then t.waits else adel t.waits (k.give p).2⟩ := by unfold Tb.gives; rw [h]
/-- What gives does is what Free does. -/
theorem Tb.gives_free {t : Tb} {i : Nat} {p d : Int} {k : Lk} (hok : t.Ok d) (h : t.ls[i]? = some k) (hp : p ∈ k.holds.map (·.1)) : t.free ((i : Int) + 1) p = (t.gives i p, (k.give p).2, 0) := by
  have hk := hok.lk k (List.mem_of_getElem? h)
  obtain ⟨x, hx, rfl⟩ := List.mem_map.1 hp
  have h1 := hk.one x hx
  have hil := (List.getElem?_eq_some_iff.1 h).1
  have hz : t.asked ((i : Int) + 1) x.1 = 0 := by
    unfold Tb.asked
    rw [if_neg (by omega), if_neg (by omega)]
  rw [Tb.free_good hz (i := i) (by omega) h (has_of_mem hk hp), Tb.gives_eq h]
theorem frees_ok {t u : Tb} {d : Int} (h : t.Ok d) (hf : t.frees = some u) : u.Ok d := by
  unfold Tb.frees at hf
  obtain ⟨⟨i, p⟩, hp, rfl⟩ := Option.map_eq_some_iff.1 hf
  obtain ⟨k, hk, hm, _⟩ := pick_some hp
  have := h.free ((i : Int) + 1) p
  rw [Tb.gives_free h hk hm] at this
  exact this
theorem frees_cons {t u : Tb} {d : Int} (h : t.Ok d) (hc : t.Cons) (hf : t.frees = some u) : u.Cons := by
  unfold Tb.frees at hf
  obtain ⟨⟨i, p⟩, hp, rfl⟩ := Option.map_eq_some_iff.1 hf
  obtain ⟨k, hk, hm, _⟩ := pick_some hp
  have := hc.free h ((i : Int) + 1) p
  rw [Tb.gives_free h hk hm] at this
  exact this

set_option maxRecDepth 100000 in
set_option maxHeartbeats 8000000 in
theorem frees_any (w : World) (S : Nat → Prop) (b : Nat) (t : Tb) (d : Int) (h : TabAt w S b t) (hok : t.Ok d) (hd : d ≤ 1000000) :
    Calls Try.prog 39 #[.pointer (some ⟨b, 0, none⟩)] w (TbPost w S b (.bool t.frees.isSome) (t.frees.getD t)) := by
  have HH := Lib.hid (And.intro h hok)
  obtain ⟨m, lv, bs, hs, vs, hT⟩ := h
  have hn := hok.n
  obtain ⟨A, cp, rfl⟩ := own_shape hT.row
  have c1 := hT.blk.cell
  have l1 := hT.blk.lt
  have hRow := own_sl' hT.row
  have b1 := hRow.2.1
  have b2 := hRow.2.2.1
  have HT := Lib.hid hT
  clear hT hok hRow
  go_enter Try.func39, Try.ntmps39
  go_wp2_with fail
  go_loopg [13] (t.ls.length) (fun kk vj wr => ∃ (j : Nat), j ≤ t.ls.length ∧ kk = t.ls.length - j ∧ vj = .int .i64 (j : Nat) ∧ Only w wr ∧ t.pick = pickFrom t.waits (t.ls.drop j) j)
  case atStart => exact ⟨0, Nat.zero_le _, rfl, rfl, Stay.refl _ w, rfl⟩
  case round =>
    obtain ⟨j, hj, hk, rfl, hO, hpk⟩ := hrel
    by_cases hlt : j < t.ls.length
    · obtain ⟨k, hkk⟩ : ∃ k, t.ls[j]? = some k := ⟨_, List.getElem?_eq_getElem hlt⟩
      have hTs := HT.out.only hO
      obtain ⟨g, cp', e, _, hgl⟩ := hTs.row.form (by omega)
      cases e
      have r0 := hTs.row.cellAt j (by omega)
      rw [prow_at bs hlt] at r0
      unfold ptr at r0
      have hL := hTs.lk j k hkk
      have hkok := HH.out.2.lk k (List.mem_of_getElem? hkk)
      have e2 : wr.cell? ⟨bs j, 2, none⟩ = some (.map (some (hs j))) := hL.blk.at rfl
      have l2 := hL.blk.lt
      have hwf : ∀ p ∈ imap k.holds, (Lit.int .i64 p.1).wf = true := by
        intro p hp
        obtain ⟨q, hq, rfl⟩ := List.mem_map.1 hp
        have := hkok.one q hq
        exact WalkArith.wf_i64 (by omega)
      have hhl : k.holds.length ≤ 16 := holds_len hkok
      have hml : (imap k.holds).length ≤ 1000000 := by rw [vmap_length]; omega
      have hdr : t.ls.drop j = k :: t.ls.drop (j + 1) := by rw [List.drop_eq_getElem_cons hlt, (List.getElem?_eq_some_iff.1 hkk).2]
      rw [hdr] at hpk
      have HX := Lib.hid (And.intro hk (And.intro hO (And.intro hpk (And.intro hkk (And.intro hL (And.intro hkok (And.intro hwf hml)))))))
      clear hk hO hpk hTs hkk hL hkok hwf hml hdr
      go_wp2_with fail
      refine (keysA_any (some (hs j)) _).mono ?_
      rintro e w6 ⟨rfl, rfl⟩
      go_wp2_with fail
      refine (sortedA_any _ wr.heap.size (hs j) (imap k.holds) ((Blk.new wr [.map (some (hs j))] 70).at rfl) (HX.out.2.2.2.2.1.map.alloc _) HX.out.2.2.2.2.2.2.1 HX.out.2.2.2.2.2.2.2).mono ?_
      rintro e w7 ⟨sv, rfl, hsv, hO7⟩
      rw [vmap_length, vmap_keys] at hsv
      obtain ⟨As, cs, rfl⟩ := own_shape hsv
      have hO8 : Only w w7 := HX.out.2.1.trans' hO7.behind
      have hsl : (srt (k.holds.map (·.1))).length = k.holds.length := by simp [srt_length]
      have hsr := own_sl' hsv
      have b3 := hsr.2.1
      have b4 := hsr.2.2.1
      have HS := Lib.hid (And.intro hsv (And.intro hO8 hsl))
      clear hsv hO7 hO8 hsl hsr
      go_wp2_with fail
      go_loopg [24] (k.holds.length) (fun kk vq wr => ∃ (q : Nat), q ≤ k.holds.length ∧ kk = k.holds.length - q ∧ vq = .int .i64 (q : Nat) ∧ Only w7 wr ∧ pickL t.waits (srt (k.holds.map (·.1))) = pickL t.waits ((srt (k.holds.map (·.1))).drop q))
      case atStart => exact ⟨0, Nat.zero_le _, rfl, rfl, Stay.refl _ _, rfl⟩
      case round =>
        obtain ⟨q, hq, hk3, rfl, hO9, hpl⟩ := hrel
        by_cases hlt2 : q < k.holds.length
        · obtain ⟨p, hp⟩ : ∃ p, (srt (k.holds.map (·.1)))[q]? = some p := ⟨_, List.getElem?_eq_getElem (by rw [HS.out.2.2]; exact hlt2)⟩
          have hsr := own_only hO9 HS.out.1
          obtain ⟨gs, cs', e, _, hgs⟩ := hsr.form (by omega)
          cases e
          have y0 := hsr.cellAt q (by omega)
          rw [show (ints (srt (k.holds.map (·.1))))[q]? = some (.int .i64 p) by simp only [ints, List.getElem?_map, hp]; rfl] at y0
          have hO10 : Only w wr := HS.out.2.1.trans' hO9
          have hTs := HT.out.only hO10
          have y1 := hTs.blk.cell
          have hdr : (srt (k.holds.map (·.1))).drop q = p :: (srt (k.holds.map (·.1))).drop (q + 1) := by rw [List.drop_eq_getElem_cons (by rw [HS.out.2.2]; exact hlt2), (List.getElem?_eq_some_iff.1 hp).2]
          rw [hdr] at hpl
          have hpm : p ∈ k.holds.map (·.1) := (srt_perm_self _).mem_iff.1 (List.mem_of_getElem? hp)
          have HZ := Lib.hid (And.intro hk3 (And.intro hO9 (And.intro hpl (And.intro hTs (And.intro hO10 hpm)))))
          clear hk3 hO9 hpl hTs hsr hO10 hdr hp e2 r0 hpm
          cases hw : aget t.waits p with
          | some i =>
            have HW := Lib.hid hw
            clear hw
            go_wp2_with (first | (at_lookup; refine wpList_lookup_v _ rfl _ _ _ rfl 3 69 Try.underlying65 Try.underlying3 (.pointer none) (zeroP _) m t.waits (by rfl) HZ.out.2.2.2.1.wm p (by rfl) (.pointer (some ⟨bs i, 0, none⟩)) (getP (by rw [HW.out]; rfl)) ?_))
            go_roundg (k.holds.length - (q + 1))
            case measure => have := HZ.out.1; omega
            case rel =>
              refine ⟨q + 1, by omega, rfl, by go_num, HZ.out.2.1, ?_⟩
              rw [HZ.out.2.2.1]
              simp [pickL, HW.out]
          | none =>
            have HF := Lib.hid (show t.pick = some (j, p) by rw [HX.out.2.2.1]; simp only [pickFrom]; rw [HZ.out.2.2.1]; simp [pickL, hw])
            have HFr := Lib.hid (show t.frees = some (t.gives j p) by unfold Tb.frees; rw [HF.out]; rfl)
            have HW := Lib.hid hw
            clear hw
            go_wp2_with (first | (at_lookup; refine wpList_lookup_v _ rfl _ _ _ rfl 3 69 Try.underlying65 Try.underlying3 (.pointer none) (zeroP _) m t.waits (by rfl) HZ.out.2.2.2.1.wm p (by rfl) (.pointer none) (getP0 HW.out) ?_))
            refine (give_any wr S (bs j) k (hs j) (vs j) p d (HZ.out.2.2.2.1.lk j k HX.out.2.2.2.1) HX.out.2.2.2.2.2.1 hd (has_of_mem HX.out.2.2.2.2.2.1 HZ.out.2.2.2.2.2)).mono ?_
            rintro e w2 ⟨rfl, v', hL2, hv2, hs2⟩
            have hTw := HZ.out.2.2.2.1
            have hL := hTw.lk j k HX.out.2.2.2.1
            have hn1 : ¬ One (bs j) (hs j) (vs j) b := by
              rintro (e | e | e)
              · exact blk_ne hTw.blk hL.blk (by decide) e
              · exact hL.map.ne_blk hTw.blk e.symm
              · exact own_ne_blk hL.row hTw.blk (by decide) _ e rfl
            have hn2 : ¬ One (bs j) (hs j) (vs j) m := by
              rintro (e | e | e)
              · exact hTw.wm.ne_blk hL.blk e
              · exact hTw.dm j hlt e.symm
              · exact own_ne_map hL.row hTw.wm _ e rfl
            have c1' := (hs2.blk hTw.blk hn1).cell
            have HG := Lib.hid (And.intro hL2 (And.intro hv2 hs2))
            have HM := Lib.hid (hTw.wm.stay hs2 hn2)
            have hOw := HZ.out.2.2.2.2.1
            have hst : Hid (∀ W, Stay (fun j' => j' = m) w2 W → Stay (Touch bs hs vs m j) w W) := fun W hW =>
              Stay.trans (Stay.trans (hOw.mono (fun _ _ h => h.elim)) HG.out.2.2 (fun j' _ hj => by
                rcases hj with h | h | h
                · exact .inl h
                · exact .inr (.inl h)
                · exact .inr (.inr (.inl h)))) hW (fun _ _ e => .inr (.inr (.inr e)))
            have fin : Hid (∀ W (ws : List (Int × Nat)), Stay (fun j' => j' = m) w2 W → IMap W m (wmap bs ws) → TabAt W (grow S w W) b ⟨t.ls.set j (k.give p).1, ws⟩ ∧ Stay S w W) := by
              intro W ws hW hm
              have st := hst.out W hW
              have hltS : ∀ j, grow S w W j → j < W.heap.size := fun j hj => hj.lt HT.out.lt st.size
              have hL2 := HG.out.1
              have hL0 := HT.out.lk j k HX.out.2.2.2.1
              refine ⟨⟨m, _, bs, hs, _, HT.out.upd HX.out.2.2.2.1 st (fun _ => grow.old) hltS (k' := (k.give p).1) (v' := v') (ws := ws) (hL2.stay hW ?_ ?_ ?_ (fun _ => grow.old)) (fun g hg => .inl (HG.out.2.1 g hg)) hm⟩, st.mono (fun j' _ hj => HT.out.touch HX.out.2.2.2.1 j' hj)⟩
              · exact fun e => HT.out.wm.ne_blk hL0.blk e.symm
              · exact HT.out.dm j hlt
              · exact fun g hg e => own_ne_map hL0.row HT.out.wm g (HG.out.2.1 g hg) e
            clear hL2 hv2 hs2 hTw hL hn1 hn2 hOw y0 y1 c1
            have HE := Lib.hid (Tb.gives_eq (p := p) HX.out.2.2.2.1)
            cases hw : k.waiting with
            | nil =>
              have HN := Lib.hid (Lk.give_nil (p := p) hw)
              have hg2 : (k.give p).2 = 0 := by rw [HN.out]
              have HG2 := Lib.hid hg2
              rw [hg2]
              clear hw hg2
              go_wp2_with fail
              go_ret
              unfold TbPost
              rw [HFr.out]
              obtain ⟨f1, f2⟩ := fin.out w2 t.waits (Stay.refl _ _) HM.out
              refine ⟨rfl, ?_, f2⟩
              show TabAt w2 (grow S w w2) b (t.gives j p)
              rw [HE.out, HG2.out, if_pos rfl]
              exact f1
            | cons q' l' =>
              have HN := Lib.hid (Lk.give_cons (p := p) hw)
              have hq1 : 1 ≤ q' := (HX.out.2.2.2.2.2.1.wone q' (by rw [hw]; simp)).1
              have hg2 : (k.give p).2 = q' := by rw [HN.out]
              have HG2 := Lib.hid hg2
              rw [hg2]
              have hqb : (q' != 0) = true := by simp; omega
              clear hw hg2
              go_wp2_with (first | (at_delete; refine wpList_delete_v _ rfl _ _ _ _ rfl 69 Try.underlying65 Try.underlying3 m _ (by rfl) HM.out q' (by rfl) ?_; intro w3 hm3 hs3 hz3))
              go_ret
              unfold TbPost
              rw [HFr.out]
              obtain ⟨f1, f2⟩ := fin.out w3 (adel t.waits q') hs3 hm3
              refine ⟨rfl, ?_, f2⟩
              show TabAt w3 (grow S w w3) b (t.gives j p)
              rw [HE.out, HG2.out, if_neg (by omega)]
              exact f1
        · have hqe : q = k.holds.length := by omega
          subst hqe
          have HZ := Lib.hid (And.intro hO9 hpl)
          clear hk3 hO9 hpl e2 r0
          go_wp2_with fail
          go_roundg (t.ls.length - (j + 1))
          case measure => have := HX.out.1; omega
          case rel =>
            refine ⟨j + 1, by omega, rfl, by go_num, HS.out.2.1.trans' HZ.out.1, ?_⟩
            rw [HX.out.2.2.1]
            simp only [pickFrom]
            rw [HZ.out.2, List.drop_of_length_le (by rw [HS.out.2.2]; exact Nat.le_refl _)]
            rfl
    · have hje : j = t.ls.length := by omega
      subst hje
      have HF := Lib.hid (show t.frees = none by unfold Tb.frees; rw [hpk, List.drop_length]; rfl)
      have HX := Lib.hid hO
      clear hk hO hpk
      go_wp2_with fail
      go_ret
      exact TbPost.same HH.out.1 HX.out (by rw [HF.out]; rfl) (by rw [HF.out]; rfl)

end Go.Proofs.Ytfifdgigeecfbaa
