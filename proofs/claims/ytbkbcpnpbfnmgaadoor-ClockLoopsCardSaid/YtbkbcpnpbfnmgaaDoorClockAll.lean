/- All: the iterator. -/
import Derived.Test.YtbkbcpnpbfnmgaaDoorClockSort2
import Derived.Test.YtbkbcpnpbfnmgaaDoorIRangeI
import Derived.RangeFuncNested
set_option linter.unusedVariables false
set_option linter.unusedSimpArgs false
namespace Go.Proofs.YtbkbcpnpbfnmgaaDoor
open Go Go.RowKit

/-! ### What the body of a loop may turn -/
def Refs (v : Value) (k : Nat) : Prop := v.ownBlock = some k ∨ v = .map (some k)
/-- The blocks of R, and what their cells name. -/
def Reach (W : World) (R : Nat → Prop) (k : Nat) : Prop := R k ∨ ∃ (b i : Nat) (v : Value), R b ∧ W.cell? ⟨b, i, none⟩ = some v ∧ Refs v k
structure Kp (R : Nat → Prop) (W W' : World) : Prop where
  size : W.heap.size ≤ W'.heap.size
  same : ∀ (k : Nat) (o : Obj), W.heap[k]? = some o → o.isCells = true → ¬ Reach W R k → W'.heap[k]? = some o
  reach : ∀ k, Reach W' R k → Reach W R k ∨ W.heap.size ≤ k
theorem Kp.refl (R : Nat → Prop) (W : World) : Kp R W W := ⟨Nat.le_refl _, fun _ _ h _ _ => h, fun _ h => .inl h⟩
theorem Kp.trans {R : Nat → Prop} {A B C : World} (h : Kp R A B) (k : Kp R B C) : Kp R A C := by
  refine ⟨Nat.le_trans h.size k.size, fun i o ho hc hn => ?_, fun i hi => ?_⟩
  · refine k.same i o (h.same i o ho hc hn) hc (fun hr => ?_)
    rcases h.reach i hr with h1 | h1
    · exact hn h1
    · have := (Array.getElem?_eq_some_iff.1 ho).1; omega
  · rcases k.reach i hi with h1 | h1
    · exact h.reach i h1
    · exact .inr (Nat.le_trans h.size h1)
theorem reach_congr {R : Nat → Prop} {W W' : World} (h : ∀ b, R b → W'.heap[b]? = W.heap[b]?) (k : Nat) : Reach W' R k ↔ Reach W R k := by
  constructor
  · rintro (h1 | ⟨b, i, v, hb, hc, hv⟩)
    · exact .inl h1
    · exact .inr ⟨b, i, v, hb, by rw [← hc]; exact (World.cell?_of_block (a := ⟨b, i, none⟩) (h b hb)).symm, hv⟩
  · rintro (h1 | ⟨b, i, v, hb, hc, hv⟩)
    · exact .inl h1
    · exact .inr ⟨b, i, v, hb, by rw [← hc]; exact World.cell?_of_block (a := ⟨b, i, none⟩) (h b hb), hv⟩
/-- A step beside the roots. -/
theorem Kp.stay {R S : Nat → Prop} {W W' : World} (h : Stay S W W') (hR : ∀ b, R b → b < W.heap.size ∧ ¬ S b) (hS : ∀ k, k < W.heap.size → S k → Reach W R k ∨ ∃ o, W.heap[k]? = some o ∧ o.isCells = false) : Kp R W W' := by
  refine ⟨h.size, fun k o ho hc hn => ?_, fun k hk => .inl ((reach_congr (fun b hb => h.block b (hR b hb).1 (hR b hb).2) k).1 hk)⟩
  have hlt := (Array.getElem?_eq_some_iff.1 ho).1
  rw [h.block k hlt (fun hs => ?_)]
  · exact ho
  · rcases hS k hlt hs with h1 | ⟨o', ho', hc'⟩
    · exact hn h1
    · rw [ho] at ho'
      cases ho'
      rw [hc] at hc'
      cases hc'
theorem kp_b {R : Nat → Prop} {w : World} (hR : ∀ b, R b → b < w.heap.size) (W : World) (l : Nat) (o o' : Obj) (hl : w.heap.size ≤ l) (h : W.heap[l]? = some o) (ho : o.isCells = false) (_ : o.isWalk = false) : Kp R W (W.putObj l o') := by
  have hlt := (Array.getElem?_eq_some_iff.1 h).1
  have hst : Stay (fun k => k = l) W (W.putObj l o') := Stay.of_grown (grownBy_putObj' W l o') (fun k _ e => by cases e; rfl)
  exact Kp.stay hst (fun b hb => ⟨by have := hR b hb; omega, fun e => by have := hR b hb; omega⟩) (fun k _ e => by subst e; exact .inr ⟨o, h, ho⟩)
theorem Only.grown {w w' : World} (h : Only w w') : w.grownBy w' none := ⟨h.os, h.tape, h.output, h.size, fun k hk _ => h.block k hk id⟩
theorem Only.of_belowN {w w' : World} (h : Below w.heap.size w w') : Only w w' := Stay.of_below h
theorem own_kp {R : Nat → Prop} {W W' : World} (h : Kp R W W') {base : Nat} {e : TypeId} {size n : Nat} {v : Value} {xs : List Value} (ho : W.ownsRow base e size v n xs) (hn : ∀ g, v.ownBlock = some g → ¬ Reach W R g) : W'.ownsRow base e size v n xs ∧ ∀ g, v.ownBlock = some g → ¬ Reach W' R g := by
  have hlt := own_lt ho
  refine ⟨⟨ho.1, ?_⟩, fun g hg hr => ?_⟩
  · rcases ho.2 with h0 | ⟨g, cap, cur, rfl, hb, hg, rest⟩
    · exact .inl h0
    · exact .inr ⟨g, cap, cur, rfl, hb, h.same g _ hg rfl (hn g rfl), rest⟩
  · rcases h.reach g hr with h1 | h1
    · exact hn g hg h1
    · have := (hlt g hg).2; omega
def unkey (p : Int × Nat) : Tm := ⟨p.1.toNat, p.2⟩
theorem unkey_keyed (l : List Tm) : (keyed l).map unkey = l := by
  unfold keyed
  rw [List.map_map]
  conv => rhs; rw [← List.map_id l]
  refine List.map_congr_left fun t _ => ?_
  simp [unkey]
theorem RngI.perm {P : Program} {k : TypeId} {w : World} {b r : Nat} {f : Nat → Nat} {hs seen : List (Int × Nat)} {cnt : Nat} (h : RngI P k w b r f hs seen cnt) (hall : ∀ p ∈ hs, p ∈ seen) : seen.Perm hs := by
  obtain ⟨left, D, _, _, _, hsub, hn, hsn⟩ := h
  have nd : ∀ {l : List (Int × Nat)}, (l.map (·.1)).Nodup → l.Nodup := fun {l} h => by
    rw [List.Nodup, List.pairwise_map] at h
    exact h.imp (fun h e => h (by rw [e]))
  exact (List.perm_ext_iff_of_nodup (nd hsn) (nd hn)).2 (fun p => ⟨hsub p, hall p⟩)
theorem nodup_sub_len {α : Type} [DecidableEq α] : ∀ {l m : List α}, l.Nodup → (∀ x ∈ l, x ∈ m) → l.length ≤ m.length
  | [], m, _, _ => Nat.zero_le _
  | a :: l, m, hl, h => by
    rw [List.nodup_cons] at hl
    have ha := h a (List.mem_cons_self ..)
    have h1 := nodup_sub_len (l := l) (m := m.erase a) hl.2 (fun x hx => (List.mem_erase_of_ne (fun e : x = a => hl.1 (by rw [← e]; exact hx))).2 (h x (List.mem_cons_of_mem _ hx)))
    rw [List.length_erase_of_mem ha] at h1
    have := List.length_pos_of_mem ha
    simp only [List.length_cons]
    omega
theorem RngI.len {P : Program} {k : TypeId} {w : World} {b r : Nat} {f : Nat → Nat} {hs seen : List (Int × Nat)} {cnt : Nat} (h : RngI P k w b r f hs seen cnt) : seen.length ≤ hs.length := by
  obtain ⟨left, D, _, _, _, hsub, hn, hsn⟩ := h
  refine nodup_sub_len ?_ hsub
  rw [List.Nodup, List.pairwise_map] at hsn
  exact hsn.imp (fun h e => h (by rw [e]))
abbrev encT (t : Tm) : Array Value := #[.agg #[.int .i64 t.id, .int .i64 t.due]]
set_option maxRecDepth 100000 in
set_option maxHeartbeats 4000000 in
theorem all_any (w : World) (b : Option Addr) : Calls Tryd.prog 17 #[.pointer b] w fun e w' => e = .returned (.func (.func 33) #[] #[.pointer (some ⟨w.heap.size, 0, none⟩)]) ∧ w' = w.alloc (.cells #[.pointer b] 22) := by
  go_enter Tryd.func17, Tryd.ntmps17
  go_wp2_with fail
  go_ret
  exact ⟨rfl, rfl⟩
set_option maxRecDepth 100000 in
set_option maxHeartbeats 4000000 in
theorem alls_stops {w : World} {S : Nat → Prop} {b bx : Nat} {C : Ck} (h : CkAt w S b C) (hbx : w.cell? ⟨bx, 0, none⟩ = some (.pointer (some ⟨b, 0, none⟩))) (R : Nat → Prop) (hR : ∀ k, Reach w R k → k < w.heap.size) (n : Nat) :
    SeqStopsK Fence.wide n Tryd.prog 33 #[.pointer (some ⟨bx, 0, none⟩)] encT (Kp R) (fun xs => xs = C.all) (fun pre => pre <+: C.all) C.all.length w := by
  intro l J Jx W hB hJ hJx hY h0
  refine callsIn_wide.2 ?_
  show Calls Tryd.prog 33 #[.func (.yield l) #[] #[], .pointer (some ⟨bx, 0, none⟩)] W _
  have hO := Only.of_belowN hB
  have hbW := hO.cell hbx
  obtain ⟨m, Wh, wv, fs, hC, hW, hp, hok, hs, hlt⟩ := h.only hO
  have cm := hC.blk.at (ck_atm C.now C.made m hC.vl hC.full.1)
  have lb := hC.blk.lt
  have H := Lib.hid (And.intro hC (And.intro hok (And.intro hJ (And.intro hJx (And.intro hY (And.intro h0 hO))))))
  have hwf : ∀ p ∈ keyed C.ts, (Lit.int .i64 p.1).wf = true := fun p hp => by
    obtain ⟨t, ht, rfl⟩ := List.mem_map.1 hp
    have h1 := (hok.idr t ht).2
    have h2 := hok.few
    unfold maxT at h2
    simp only [Lit.wf, IntKind.min, IntKind.max, IntKind.signed, IntKind.bits, Bool.and_eq_true, decide_eq_true_eq]
    simp
    omega
  have HF := Lib.hid hwf
  clear hC hW hp hok hs hlt hJ hJx hY h0 hO hwf
  go_enter Tryd.func33, Tryd.ntmps33
  go_wp2_with (first
      | (at_range; refine wpList_rangeI _ rfl _ _ rfl 3 3 Tryd.underlying3 Tryd.underlying65 m id (keyed C.ts) (by rfl) H.out.1.mp HF.out (by have := H.out.2.1.len; simp only [maxLen, keyed, List.length_map]; omega) ?_; intro w2 hR2 hg2 hz2)
      | go_in)
  go_frame
  have hst2 : Only W w2 := Stay.of_grown hg2 (fun k _ e => by cases e)
  have H2 := Lib.hid (And.intro hR2 hst2)
  clear hR2 hg2 hst2 cm lb hbW
  obtain ⟨ii, hii0, hii1, hii2, hii3⟩ := info_parts infoTm
  go_loopw [3] (fun v3 wr => ∃ (seen : List (Int × Nat)) (cnt : Nat), RngI Tryd.prog 3 wr m W.heap.size id (keyed C.ts) seen cnt ∧ wr.ownsRow (W.heap.size + 1) 39 2 v3 seen.length ((seen.map unkey).flatMap Tm.cells) ∧ Only W wr)
    (fun _ wr => wr.rangeLeft m W.heap.size)
  case atStart => exact ⟨[], _, H2.out.1, World.ownsRow_nil _ _ _ _, H2.out.2⟩
  case round =>
    obtain ⟨seen, cnt, hR, hrow, hO⟩ := hrel
    go_wp2_with (first
      | (at_next; refine wpList_nextI _ rfl _ rfl 3 Tryd.underlying3 m W.heap.size id (keyed C.ts) seen cnt (by rfl) hR ?_ ?_)
      | go_in)
    · intro hall
      have hperm := hR.perm (fun p hp => hall p.1 p.2 hp)
      have hsp : (seen.map unkey).Perm C.ts := by
        have := hperm.map unkey
        rwa [unkey_keyed] at this
      have hsl : (seen.map unkey).length = seen.length := List.length_map _
      have hlen : seen.length ≤ 400 := by rw [← hsl, hsp.length_eq]; exact H.out.2.1.len
      obtain ⟨Ar, cr, rfl⟩ := own_shape hrow
      have hsort := sortT_any wr (W.heap.size + 1) (.slice Ar seen.length cr) (seen.map unkey) (by rw [hsl]; exact hrow) (by rw [hsl]; omega)
      rw [tsort_congr hsp, hsl] at hsort
      have hall2 : tsort C.ts = C.all := rfl
      rw [hall2] at hsort
      have hal : C.all.length = seen.length := by show (tsort C.ts).length = _; rw [tsort_length, ← hsp.length_eq, hsl]
      obtain ⟨n2, hn2⟩ : ∃ n2, n2 = seen.length := ⟨_, rfl⟩
      rw [← hn2] at hsort hal hlen hrow ⊢
      have HX := Lib.hid (And.intro hrow (And.intro hO (And.intro hal hn2)))
      have HS := Lib.hid hsort
      clear hR hrow hO hall hperm hsp hsl hsort hal hn2 hall2
      go_wp2_with fail
      refine HS.out.mono ?_
      clear HS
      rintro e w5 ⟨rfl, hr5, hs5⟩
      have hO5 : Only W w5 := HX.out.2.1.trans hs5 (fun k hk e => by have := (own_lt HX.out.1 k e).1; omega)
      have hJ5 : J [] w5 := H.out.2.2.1 [] W w5 none H.out.2.2.2.2.2.1 hO5.grown (fun r e => by cases e)
      have hnr5 : ∀ g, (Value.slice Ar n2 cr).ownBlock = some g → ¬ Reach w5 R g := fun g hg hr => by
        have h1 := (own_lt hr5 g hg).1
        have h2 : Reach w R g := (reach_congr (fun k hk => by
          have hkw := hR k (.inl hk)
          have h3 := hO5.block k (Nat.lt_of_lt_of_le hkw H.out.2.2.2.2.2.2.size) id
          have h4 := H.out.2.2.2.2.2.2.block k hkw id
          exact h3.trans h4) g).1 hr
        have := hR g h2
        have := H.out.2.2.2.2.2.2.size
        omega
      have hz5 := hO5.size
      have H5 := Lib.hid (And.intro hr5 (And.intro hJ5 hnr5))
      clear hr5 hs5 hO5 hJ5 hnr5
      go_wp2_with fail
      go_loopg [30] n2 (fun kk vi wr => ∃ i : Nat, i ≤ n2 ∧ kk = n2 - i ∧ vi = .int .i64 (i : Nat) ∧ J (C.all.take i) wr ∧ wr.ownsRow (W.heap.size + 1) 39 2 (.slice Ar n2 cr) n2 (C.all.flatMap Tm.cells) ∧ (∀ g, (Value.slice Ar n2 cr).ownBlock = some g → ¬ Reach wr R g) ∧ W.heap.size ≤ wr.heap.size)
      case atStart => exact ⟨0, Nat.zero_le _, rfl, rfl, H5.out.2.1, H5.out.1, H5.out.2.2, hz5⟩
      case round =>
        obtain ⟨i, hi, hki, rfl, hJi, hri, hnri, hzi⟩ := hrel
        obtain ⟨wq, hwq⟩ : ∃ wq, wq = wr := ⟨_, rfl⟩
        rw [← hwq] at hJi hri hnri hzi ⊢
        clear hwq
        by_cases hin : i < n2
        · obtain ⟨t, ht⟩ : ∃ t, C.all[i]? = some t := ⟨_, List.getElem?_eq_getElem (by have := HX.out.2.2.1; omega)⟩
          obtain ⟨g, c2, e1, _, hg⟩ := hri.form (by omega)
          have e1' : Ar = some ⟨g, 0, none⟩ ∧ cr = c2 := by simpa using e1
          obtain ⟨rfl, rfl⟩ := e1'
          have hc0 := hri.cellAt (i * 2) (by omega)
          have hc1 := hri.cellAt (i * 2 + 1) (by omega)
          have f0 := flat_at Tm.cells 2 Tm.cells_length C.all i t 0 ht (by omega)
          have f1 := flat_at Tm.cells 2 Tm.cells_length C.all i t 1 ht (by omega)
          rw [Nat.add_zero] at f0
          have z0 : wq.cell? ⟨g, i * 2, none⟩ = some (.int .i64 t.id) := hc0.trans f0
          have z1 : wq.cell? ⟨g, i * 2 + 1, none⟩ = some (.int .i64 t.due) := hc1.trans f1
          have hsucc : C.all.take (i + 1) = C.all.take i ++ [t] := by
            obtain ⟨hi, rfl⟩ := List.getElem?_eq_some_iff.1 ht
            exact List.take_succ_eq_append_getElem hi
          obtain ⟨ti, td⟩ := t
          simp only at z0 z1
          obtain ⟨wa, hwa⟩ : ∃ wa, wa = wq.alloc (.cells #[.int .i64 ti, .int .i64 td] 39) := ⟨_, rfl⟩
          have hoa : Only wq wa := by rw [hwa]; exact (Stay.refl _ wq).alloc _
          have hJa : J (C.all.take i) wa := H.out.2.2.1 _ wq wa none hJi hoa.grown (fun r e => by cases e)
          have hra := own_only hoa hri
          have hnra : ∀ g', (Value.slice (some ⟨g, 0, none⟩) n2 cr).ownBlock = some g' → ¬ Reach wa R g' := fun g' hg' hr => hnri g' hg' ((reach_congr (fun k hk => hoa.block k (by
            have := hR k (.inl hk)
            have := H.out.2.2.2.2.2.2.size
            omega) id) g').1 hr)
          obtain ⟨fn, tmps, assign, body, hy, hRd⟩ := H.out.2.2.2.2.1 (C.all.take i) ⟨ti, td⟩ wa hJa (by rw [List.length_take]; have := HX.out.2.2.1; omega)
          have HK := Lib.hid (And.intro hra (And.intro hnra (And.intro hki (And.intro hsucc (And.intro hoa (And.intro hwa hzi))))))
          clear hJi hri hnri hki hzi hc0 hc1 f0 f1 hsucc hoa hJa hra hnra e1 hwa ht
          go_upto_region 10 with fail
          rw [← HK.out.2.2.2.2.2.1]
          have hba : Blk wa wq.heap.size 39 [.int .i64 ti, .int .i64 td] := by rw [HK.out.2.2.2.2.2.1]; exact Blk.new wq [_, _] _
          have x0 := hba.cell 0
          have x1 := hba.cell 1
          simp only [List.getElem?_cons_zero, List.getElem?_cons_succ] at x0 x1
          have lx := hba.lt
          clear hba
          dsimp only [encT] at hy
          refine (wpIn_wide (n := n)).1 ?_
          gi_wp2
          refine ⟨fun e => by simp [Fence.wide] at e, hRd.mono ?_⟩
          rintro e W3 (⟨rfl, hJ3, hk3⟩ | ⟨rfl, hJx3⟩)
          · have hK3 := own_kp hk3 HK.out.1 HK.out.2.1
            have H3 := Lib.hid (And.intro hJ3 (And.intro hK3 hk3.size))
            clear hJ3 hK3 hk3 hy hRd z0 z1 x0 x1 lx hg
            gi_wp2
            go_wp2_with fail
            go_roundg (n2 - (i + 1))
            case measure => have := HK.out.2.2.1; omega
            case rel =>
              have hza := HK.out.2.2.2.2.1.size
              have h1 := H3.out.1
              rw [← HK.out.2.2.2.1] at h1
              exact ⟨i + 1, by omega, rfl, by go_num, h1, H3.out.2.1.1, H3.out.2.1.2, by have := H3.out.2.2; have := HK.out.2.2.2.2.2.2; omega⟩
          · have H3 := Lib.hid hJx3
            clear hJx3 hy hRd z0 z1 x0 x1 lx hg
            gi_wp2
            go_wp2_with fail
            refine bodyPost_ret (results_none rfl _ _ _) rfl ?_
            refine ⟨⟨_, rfl⟩, .inr ⟨_, ?_, H3.out⟩⟩
            rw [← HK.out.2.2.2.1]
            exact List.take_prefix _ _
        · obtain rfl : i = n2 := by omega
          have htk : C.all.take i = C.all := List.take_of_length_le (by have := HX.out.2.2.1; omega)
          rw [htk] at hJi
          have HK := Lib.hid hJi
          clear hJi hri hnri hki htk
          go_wp2_with fail
          go_end0
          exact ⟨⟨_, rfl⟩, .inl ⟨_, rfl, HK.out⟩⟩
    · intro x d w3 cnt' hp hns hR3 hlt3 hg3 hz3 hen
      have hx3 : Stay (fun k => k = W.heap.size) wr w3 := Stay.of_grown hg3 (fun k _ e => by cases e; rfl)
      have hO3 : Only W w3 := hO.trans hx3 (fun i hi e => by omega)
      have hrow3 := own_stay hx3 hrow (fun g hg e => by have := (own_lt hrow g hg).1; omega)
      obtain ⟨Ar, cr, rfl⟩ := own_shape hrow
      obtain ⟨t, ht, htp⟩ := List.mem_map.1 hp
      have hx : x = (t.id : Int) := by cases htp; rfl
      have hd : d = t.due := by cases htp; rfl
      obtain ⟨n2, hn2⟩ : ∃ n2, n2 = seen.length := ⟨_, rfl⟩
      have hn400 : n2 < 400 := by
        have h1 := hR3.len
        have h2 := H.out.2.1.len
        simp only [List.length_append, List.length_cons, List.length_nil, keyed, List.length_map] at h1
        omega
      rw [← hn2] at hrow3 ⊢
      have hzw := hO3.size
      have hrl := hR3.left_eq
      have hrl0 := hR.left_eq
      have HX := Lib.hid (And.intro hR3 (And.intro hrow3 (And.intro hO3 (And.intro hx (And.intro hd (And.intro hn2 (And.intro hlt3 (And.intro hrl hrl0))))))))
      have HZ := Lib.hid hz3
      clear hR hR3 hrow hrow3 hO hO3 hx3 hp hns hlt3 hg3 ht htp hx hd hn2 hrl hrl0 hz3
      simp only [iv, id] at hen ⊢
      go_wp2_with (at_builtin; refine wpList_append_lies _ rfl _ _ _ rfl (W.heap.size + 1) 39 ii _ 2 16 Tryd.underlying29 hii0 hii1 hii2 hii3 rfl (by omega) _ n2 _ (by rfl) (own_alloc HX.out.2.1 _) ⟨w3.heap.size, 0, none⟩ 1 1 [.int .i64 x, .int .i64 d] (by rfl) (by rfl) (World.news_of_block (cs := [Value.int .i64 x, Value.int .i64 d].toArray) (t := 39) (fr := (0, 0)) (heap_alloc_at' _ _ _ (by simp))) (by simp [Value.oneCell']) (by omega) (by simp only [maxLen]; omega) (by omega) (by simp; omega) (w3.heap.size + 1) (by simp) ?_; intro g5 cap5 w5 hown5 hgrow5 hat5 hlt5; have st5 := grown_stay hgrow5; have HG5 := Lib.hid (And.intro hown5 (And.intro st5 hat5)); clear hown5 hgrow5 hat5 hlt5 st5)
      go_roundw
      case rel =>
        obtain ⟨hR3, hrow3, hO3, hx, hd, hn2, hlt3, hrl, hrl0⟩ := HX.out
        have hst : Stay (fun k => (Value.slice Ar n2 cr).ownBlock = some k) w3 w5 := ((Stay.refl (fun k => (Value.slice Ar n2 cr).ownBlock = some k) w3).alloc _).trans HG5.out.2.1 (fun _ _ e => e)
        have hlr := hR3.lt
        have hR5 := hR3.stay hst (fun e => by
          have := (own_lt hrow3 m e).1
          have := H.out.1.mp.lt
          omega) (fun e => by have := (own_lt hrow3 _ e).1; omega)
        refine ⟨_, _, hR5, ?_, hO3.trans hst (fun k hk e => by have := (own_lt hrow3 k e).1; omega)⟩
        have h1 := HG5.out.1
        rw [List.length_append, ← hn2, List.map_append, List.flatMap_append]
        have h2 : unkey (x, d) = ⟨t.id, t.due⟩ := by rw [hx, hd]; simp [unkey]
        simp only [List.length_cons, List.length_nil, List.map_cons, List.map_nil, List.flatMap_cons, List.flatMap_nil, List.append_nil, h2, Tm.cells]
        rw [hx, hd] at h1
        exact h1
      case measure =>
        obtain ⟨hR3, hrow3, hO3, hx, hd, hn2, hlt3, hrl, hrl0⟩ := HX.out
        have hst : Stay (fun k => (Value.slice Ar n2 cr).ownBlock = some k) w3 w5 := ((Stay.refl (fun k => (Value.slice Ar n2 cr).ownBlock = some k) w3).alloc _).trans HG5.out.2.1 (fun _ _ e => e)
        have hR5 := hR3.stay hst (fun e => by
          have := (own_lt hrow3 m e).1
          have := H.out.1.mp.lt
          omega) (fun e => by have := (own_lt hrow3 _ e).1; omega)
        rw [hR5.left_eq, hrl0]
        exact hlt3
end Go.Proofs.YtbkbcpnpbfnmgaaDoor
