/- Disarm: the walk. -/
import Derived.Test.YtbkbcpnpbfnmgaaDoorClockAt
set_option linter.unusedVariables false
set_option linter.unusedSimpArgs false
namespace Go.Proofs.YtbkbcpnpbfnmgaaDoor
open Go Go.RowKit

set_option maxRecDepth 100000 in
set_option maxHeartbeats 4000000 in
theorem disarm_no {w : World} {S : Nat → Prop} {b : Nat} {C : Ck} (h : CkAt w S b C) (i : Int) (hi : ∀ t ∈ C.ts, (t.id : Int) ≠ i) :
    Calls Tryd.prog 13 #[.pointer (some ⟨b, 0, none⟩), .int .i64 i] w fun e w' => e = .returned (.int .i64 6) ∧ Only w w' := by
  obtain ⟨m, W, wv, fs, hC, hW, hp, hok, hs, hlt⟩ := h
  have cm := hC.blk.at (ck_atm C.now C.made m hC.vl hC.full.1)
  have lb := hC.blk.lt
  have hM := Lib.hid hC.mp
  have hlk := hC.mp.lookup (P := Tryd.prog) (t := 65) (k := 3) (e := 3) Tryd.underlying65 Tryd.underlying3 (z := .int .i64 0) (Tryd.zeroValue3 w) i true
  rw [aget_vmap, aget_keyed_none hi] at hlk
  simp only [Option.map_none, Option.getD_none, Option.isSome_none, if_true] at hlk
  clear hC hW hp hs hlt hok hi
  go_enter Tryd.func13, Tryd.ntmps13
  go_wp2_with fail
  go_ret
  exact ⟨rfl, Stay.refl _ _⟩
/-- Without one timer. -/
theorem CkIn.del {w w' : World} {b m now made : Nat} {l l' : List (Int × Nat)} {W : Wheel} {wv : List Value} {fs : List Nat} (h : CkIn w b m now made l W wv fs) (hm : IMap w' m (vmap dv l')) (hs : Stay (fun k => k = m) w w') : CkIn w' b m now made l' W wv fs ∧ Lk b m wv w wv w' :=
  ⟨⟨hs.blk h.blk (fun e => h.mb e.symm), hm, h.wl, h.vl, h.full, fun i v hv => own_stay hs (h.row i v hv) (fun g hg e => h.ne_m hv g hg e), h.off⟩, hs.mono (fun k _ e => .inr (.inl e)), fun _ h => .inl h⟩
theorem dis_flat {C : Ck} {W : Wheel} (hW : WOk C.now W) (hp : W.flatten.Perm C.ts) (hok : C.Ok) {t : Tm} (ht : t ∈ C.ts) {p : Nat} (hpl : place C.now t.due = p) (hp4 : p < 448) :
    WOk C.now (Wheel.puts (W.set p []) C.now ((W.at p).filter fun u => decide (u.id ≠ t.id))) ∧ (Wheel.puts (W.set p []) C.now ((W.at p).filter fun u => decide (u.id ≠ t.id))).flatten.Perm (C.ts.filter fun u => decide (u.id ≠ t.id)) := by
  have hlW : p < W.length := by rw [hW.len]; exact hp4
  constructor
  · exact (hW.take p hp4).puts _ (fun u hu => ⟨(hW.pl p u (List.mem_filter.1 hu).1).1, (hW.pl p u (List.mem_filter.1 hu).1).2.1⟩)
  · refine (Wheel.puts_flat _ _ (fun u hu => by rw [List.length_set, hW.len]; exact place_lt hW.now42 (hW.pl p u (List.mem_filter.1 hu).1).2.1)).trans ?_
    have h1 := wflat_take hlW
    have h2 := (h1.symm.trans hp)
    have htr : t ∈ W.at p := by
      obtain ⟨i, hi⟩ := wmem.1 (hp.mem_iff.2 ht)
      have := (hW.pl i t hi).2.2
      rw [hpl] at this
      rw [this]
      exact hi
    have hnd : ((W.at p ++ (W.set p []).flatten).map (·.id)).Nodup := (h2.map _).nodup_iff.2 hok.nodup
    rw [List.map_append, List.nodup_append] at hnd
    have e : (W.set p []).flatten.filter (fun u => decide (u.id ≠ t.id)) = (W.set p []).flatten := List.filter_eq_self.2 (fun u hu => by
      have := hnd.2.2 t.id (List.mem_map.2 ⟨t, htr, rfl⟩) u.id (List.mem_map.2 ⟨u, hu, rfl⟩)
      simp
      exact fun e => this e.symm)
    have h3 := h2.filter (fun u => decide (u.id ≠ t.id))
    rw [List.filter_append, e] at h3
    exact h3
set_option maxRecDepth 100000 in
set_option maxHeartbeats 4000000 in
theorem disarm_okM {w : World} {S : Nat → Prop} {b : Nat} {C : Ck} (h : CkAt w S b C) {t : Tm} (ht : t ∈ C.ts) :
    Calls Tryd.prog 13 #[.pointer (some ⟨b, 0, none⟩), .int .i64 t.id] w fun e w' => e = .returned (.int .i64 0) ∧ CkThen w S b (C.disarm t.id) w' ∧ SameMap w w' b := by
  obtain ⟨m, W, wv, fs, hC, hW, hp, hok, hs, hlt⟩ := h
  have cm := hC.blk.at (ck_atm C.now C.made m hC.vl hC.full.1)
  have c0 := Lib.hid (hC.blk.at (ck_at0 C.now C.made wv fs m))
  have lb := hC.blk.lt
  have hM := Lib.hid hC.mp
  have hlk := hC.mp.lookup (P := Tryd.prog) (t := 65) (k := 3) (e := 3) Tryd.underlying65 Tryd.underlying3 (z := .int .i64 0) (Tryd.zeroValue3 w) t.id true
  rw [aget_vmap, aget_keyed_some hok ht] at hlk
  simp only [Option.map_some, Option.getD_some, Option.isSome_some, if_true, dv] at hlk
  have hdue := hok.due t ht
  have hlen := flat1000 hp hok
  have hmem : t ∈ W.flatten := hp.mem_iff.2 ht
  have H := Lib.hid (And.intro hC (And.intro hW (And.intro hp (And.intro hok (And.intro hs (And.intro ht (And.intro hdue (And.intro hlen hmem))))))))
  clear hC hW hp hs hlt hok ht hdue hlen hmem
  obtain ⟨td, htd⟩ : ∃ td, td = t.due := ⟨_, rfl⟩
  obtain ⟨ti, hti⟩ : ∃ ti, ti = t.id := ⟨_, rfl⟩
  rw [← htd, ← hti] at hlk
  rw [← hti]
  have HT := Lib.hid (And.intro htd hti)
  clear htd hti
  go_enter Tryd.func13, Tryd.ntmps13
  go_wp2_with fail
  have hn42 : C.now < 2 ^ 42 := H.out.2.1.now42
  have hd42 : td < 2 ^ 42 := by
    have := H.out.2.2.2.2.2.2.1.2
    have := maxT_lt
    rw [HT.out.1]
    omega
  refine (place_any w b C.now td hn42 hd42 c0.out).mono ?_
  rintro e w1 ⟨rfl, o1⟩
  obtain ⟨lv, hlv⟩ : ∃ lv, lv = lvl C.now td := ⟨_, rfl⟩
  obtain ⟨sl, hsl⟩ : ∃ sl, sl = slot td lv := ⟨_, rfl⟩
  have hl6 : lv < 7 := by rw [hlv]; have := (lvl_spec hn42 hd42).2; omega
  have hs64 : sl < 64 := by rw [hsl]; exact slot_lt _ _
  rw [← hlv, ← hsl]
  have hpl : place C.now td = lv * 64 + sl := by rw [hsl, hlv]; rfl
  have H1 := Lib.hid (And.intro (H.out.1.only o1) (And.intro o1 hpl))
  clear o1 hlv hsl hpl hlk cm lb
  go_wp2_with fail
  refine (take_any H1.out.1 lv sl hl6 hs64).mono ?_
  rintro e w2 ⟨v, wv2, fs2, rfl, hrow, hC2, hst2, hsub2, hap2⟩
  obtain ⟨r, hr⟩ : ∃ r, r = W.at (lv * 64 + sl) := ⟨_, rfl⟩
  rw [← hr] at hrow
  obtain ⟨n, hn⟩ : ∃ n, n = r.length := ⟨_, rfl⟩
  rw [← hn] at hrow
  obtain ⟨Av, cv, rfl⟩ := own_shape hrow
  have hrn : n ≤ 1000 := by
    rw [hn, hr]
    have := flat_len_at (W := W) (lv * 64 + sl)
    have := H.out.2.2.2.2.2.2.2.1
    omega
  have H2 := Lib.hid (And.intro hrow (And.intro hC2 (And.intro (show Lk b m wv w1 wv2 w2 from ⟨hst2, hsub2⟩) (And.intro (fun k hk => (hap2 k hk).2) (And.intro hr hn)))))
  clear hrow hC2 hst2 hsub2 hap2 hr hn
  go_wp2_with fail
  go_loopg [35] n (fun kk vi wr => ∃ (i : Nat) (wv3 : List Value) (fs3 : List Nat), i ≤ n ∧ kk = n - i ∧ vi = .int .i64 (i : Nat) ∧ CkIn wr b m C.now C.made (keyed C.ts) (Wheel.puts (W.set (lv * 64 + sl) []) C.now ((r.take i).filter fun u => decide (u.id ≠ ti))) wv3 fs3 ∧ Lk b m wv2 w2 wv3 wr ∧ wr.ownsRow 0 39 2 (.slice Av n cv) n (r.flatMap Tm.cells) ∧ ∀ k, (Value.slice Av n cv).ownBlock = some k → ¬ CBlk b m wv3 k)
  case atStart => exact ⟨0, wv2, fs2, Nat.zero_le _, rfl, rfl, H2.out.2.1, Lk.refl _ _ _ _, H2.out.1, H2.out.2.2.2.1⟩
  case round =>
    obtain ⟨i, wv3, fs3, hi, hki, rfl, hC3, hL3, hrow3, hap3⟩ := hrel
    obtain ⟨wq, hwq⟩ : ∃ wq, wq = wr := ⟨_, rfl⟩
    rw [← hwq] at hC3 hL3 hrow3 ⊢
    clear hwq
    have hrl := H2.out.2.2.2.2.2
    by_cases hin : i < n
    · obtain ⟨u, hu⟩ : ∃ u, r[i]? = some u := ⟨_, List.getElem?_eq_getElem (by omega)⟩
      obtain ⟨g, c2, e1, _, hg⟩ := hrow3.form (by omega)
      have e1' : Av = some ⟨g, 0, none⟩ ∧ cv = c2 := by simpa using e1
      obtain ⟨rfl, rfl⟩ := e1'
      obtain ⟨z0, z1⟩ := row_cells hrow3 hrl.symm hu
      obtain ⟨ud, hud⟩ : ∃ ud, ud = u.due := ⟨_, rfl⟩
      obtain ⟨ui, hui⟩ : ∃ ui, ui = u.id := ⟨_, rfl⟩
      rw [← hui] at z0
      rw [← hud] at z1
      have hmem : u ∈ W.at (lv * 64 + sl) := by rw [← H2.out.2.2.2.2.1]; exact List.mem_of_getElem? hu
      have hud42 : u.due < 2 ^ 42 := (H.out.2.1.pl _ _ hmem).2.1
      have hlW : lv * 64 + sl < W.length := by rw [H.out.2.1.len]; omega
      have hrows : ∀ j, ((Wheel.puts (W.set (lv * 64 + sl) []) C.now ((r.take i).filter fun u => decide (u.id ≠ ti))).at j).length ≤ 100000 := fun j => by
        have h1 := flat_len_at (W := Wheel.puts (W.set (lv * 64 + sl) []) C.now ((r.take i).filter fun u => decide (u.id ≠ ti))) j
        have h2 := (Wheel.puts_flat (now := C.now) ((r.take i).filter fun u => decide (u.id ≠ ti)) (W.set (lv * 64 + sl) []) (fun u hu => by
          rw [List.length_set, H.out.2.1.len]
          exact place_lt hn42 (H.out.2.1.pl _ u (by rw [← H2.out.2.2.2.2.1]; exact List.mem_of_mem_take (List.mem_filter.1 hu).1)).2.1)).length_eq
        have h3 := (wflat_take hlW).length_eq
        have h5 := H.out.2.2.2.2.2.2.2.1
        rw [List.length_append] at h2 h3
        have h6 : ((r.take i).filter fun u => decide (u.id ≠ ti)).length ≤ 1000 := Nat.le_trans (List.length_filter_le _ _) (by rw [List.length_take]; omega)
        omega
      have hsucc : r.take (i + 1) = r.take i ++ [u] := by
        obtain ⟨hi, rfl⟩ := List.getElem?_eq_some_iff.1 hu
        exact List.take_succ_eq_append_getElem hi
      have HK := Lib.hid (And.intro hC3 (And.intro hL3 (And.intro hrow3 (And.intro hap3 (And.intro hki (And.intro hsucc (And.intro hui (And.intro hud hrows))))))))
      clear hC3 hL3 hrow3 hap3 hki hu hui hud e1 hrl hmem hrows hsucc
      by_cases hne : ui = ti
      · subst hne
        have b1 : ((ui : Int) != (ui : Int)) = false := by simp
        go_wp2_with fail
        go_roundg (n - (i + 1))
        case measure => have := HK.out.2.2.2.2.1; omega
        case rel =>
          have e2 : (r.take (i + 1)).filter (fun u => decide (u.id ≠ ui)) = (r.take i).filter (fun u => decide (u.id ≠ ui)) := by
            rw [HK.out.2.2.2.2.2.1, List.filter_append, List.filter_cons_of_neg (by have := HK.out.2.2.2.2.2.2.1; simp; omega)]
            simp
          have ho : Only wq (wq.alloc (.cells #[.int .i64 ui, .int .i64 ud] 39)) := (Stay.refl _ wq).alloc _
          exact ⟨i + 1, wv3, fs3, by omega, rfl, by go_num, by rw [e2]; exact HK.out.1.only ho, HK.out.2.1.only ho, own_only ho HK.out.2.2.1, HK.out.2.2.2.1⟩
      · have b1 : ((ui : Int) != (ti : Int)) = true := by simp; omega
        go_wp2_with fail
        have hPut := put_any (HK.out.1.only ((Stay.refl (fun _ => False) wq).alloc (.cells #[.int .i64 ui, .int .i64 ud] 39))) u hn42 hud42 (HK.out.2.2.2.2.2.2.2.2 _)
        rw [← HK.out.2.2.2.2.2.2.1, ← HK.out.2.2.2.2.2.2.2.1] at hPut
        refine hPut.mono ?_
        clear hPut
        rintro e w3 ⟨rfl, wv4, fs4, hC4, hst4, hsub4⟩
        have H3 := Lib.hid (And.intro hC4 (And.intro hst4 hsub4))
        clear hC4 hst4 hsub4 z0 z1 hg
        go_wp2_with fail
        go_roundg (n - (i + 1))
        case measure => have := HK.out.2.2.2.2.1; omega
        case rel =>
          have e2 : (r.take (i + 1)).filter (fun u => decide (u.id ≠ ti)) = (r.take i).filter (fun u => decide (u.id ≠ ti)) ++ [u] := by
            rw [HK.out.2.2.2.2.2.1, List.filter_append, List.filter_cons_of_pos (by have := HK.out.2.2.2.2.2.2.1; simp; omega)]
            simp
          have hL4 : Lk b m wv3 wq wv4 w3 := (Lk.refl b m wv3 wq).only ((Stay.refl (fun _ => False) wq).alloc _) |>.trans ⟨H3.out.2.1, H3.out.2.2⟩
          refine ⟨i + 1, wv4, fs4, by omega, rfl, by go_num, ?_, HK.out.2.1.trans hL4, ?_, fun k hk hk2 => ?_⟩
          · rw [e2]
            have : ∀ (W : Wheel) (l : List Tm), W.puts C.now (l ++ [u]) = (W.puts C.now l).put C.now u := fun W l => by unfold Wheel.puts; rw [List.foldl_append]; rfl
            rw [this]
            exact H3.out.1
          · exact own_stay hL4.1 HK.out.2.2.1 (fun k hk => HK.out.2.2.2.1 k hk)
          · rcases hL4.2 k hk2 with h6 | h6
            · exact HK.out.2.2.2.1 k hk h6
            · have := (own_lt HK.out.2.2.1 k hk).2; omega
    · obtain rfl : i = n := by omega
      have cm3 := hC3.blk.at (ck_atm C.now C.made m hC3.vl hC3.full.1)
      have lb3 := hC3.blk.lt
      have hdel := hC3.mp.del (P := Tryd.prog) (t := 65) (k := 3) (e := 3) Tryd.underlying65 Tryd.underlying3 ti 0
      obtain ⟨w5, hrun, hm5, hs5, hz5⟩ := hdel
      have HK := Lib.hid (And.intro hC3 (And.intro hL3 (And.intro hrl (And.intro hm5 hs5))))
      clear hC3 hL3 hrow3 hap3 hki hrl hm5 hs5 hz5
      go_wp2_with fail
      go_ret
      have hD := dis_flat H.out.2.1 H.out.2.2.1 H.out.2.2.2.1 H.out.2.2.2.2.2.1 (p := lv * 64 + sl) (by rw [← HT.out.1]; exact H1.out.2.2) (by omega)
      have htk : r.take i = r := List.take_of_length_le (by have := HK.out.2.2.1; omega)
      rw [← H2.out.2.2.2.2.1, ← HT.out.2] at hD
      have hC5 := HK.out.1.del (l' := keyed (C.disarm ti).ts) (by
        rw [show keyed (C.disarm ti).ts = adel (keyed C.ts) ti from (adel_keyed H.out.2.2.2.1.asc).symm, ← adel_vmap]
        exact HK.out.2.2.2.1) HK.out.2.2.2.2
      rw [htk] at hC5
      have hL1 : Lk b m wv w wv w1 := (Lk.refl b m wv w).only H1.out.2.1
      exact ⟨rfl, CkThen.mk' (C' := C.disarm ti) (((hL1.trans H2.out.2.2.1).trans HK.out.2.1).trans hC5.2) hC5.1 hD.1 hD.2 (H.out.2.2.2.1.disarm ti) H.out.2.2.2.2.1, H.out.1.same hC5.1⟩
theorem disarm_ok {w : World} {S : Nat → Prop} {b : Nat} {C : Ck} (h : CkAt w S b C) {t : Tm} (ht : t ∈ C.ts) :
    Calls Tryd.prog 13 #[.pointer (some ⟨b, 0, none⟩), .int .i64 t.id] w fun e w' => e = .returned (.int .i64 0) ∧ CkThen w S b (C.disarm t.id) w' :=
  (disarm_okM h ht).mono fun e w' h => ⟨h.1, h.2.1⟩
end Go.Proofs.YtbkbcpnpbfnmgaaDoor
