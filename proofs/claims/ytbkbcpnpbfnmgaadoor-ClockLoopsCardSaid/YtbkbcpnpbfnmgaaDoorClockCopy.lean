/- Copy: the walk. -/
import Derived.Test.YtbkbcpnpbfnmgaaDoorClockNew
import Derived.Test.YtbkbcpnpbfnmgaaDoorIter
import Derived.Deep.WholeRow
set_option linter.unusedVariables false
set_option linter.unusedSimpArgs false
namespace Go.Proofs.YtbkbcpnpbfnmgaaDoor
open Go Go.RowKit

theorem wpList_store_new {P : Program} {ops : Array Oper} {rest : List Oper} {op : Oper} {a : Go.Act} {w : World} {Q : Exit → Go.Act → World → Prop} (hgd : op.guard = none) (ty : TypeId) (x y : Operand) (ho : op.op = .store ty x y)
    (Z C : Array Value) (hx : a.eval x = .pointer (some ⟨w.heap.size, 0, none⟩)) (hy : a.eval y = .agg C)
    (hi : (P.info? ty).map (·.size) = some C.size) (hz : Z.size = C.size) (h1 : C.all (·.oneCell') = true)
    (h : wpList P ops Q rest (a.put op.dst undef) (w.alloc (.cells C ty))) : wpList P ops Q (op :: rest) a (w.alloc (.cells Z ty)) := by
  refine wpList_plain hgd fun _ hK => ?_
  unfold Oper.wp execOp
  simp only [ho, hx, hy, run_storeAt_new w ty Z C hi hz h1, Sem.run_bind, Sem.run_pure, Result.andThen_ok]
  exact hK _ _ h
theorem cloneM_any (w : World) (h : Nat) (l : List (Int × Value)) (hm : IMap w h l) : Calls Tryd.prog 43 #[.map (some h)] w fun e w' => e = .returned (.map (some w.heap.size)) ∧ IMap w' w.heap.size l ∧ Only w w' ∧ w'.heap.size = w.heap.size + 1 := by
  obtain ⟨es, c, hb, hs, hl⟩ := hm
  refine (Go.Proofs.AnyW.maps_Clone Tryd.cloneM h es c w hb).mono ?_
  rintro e w' ⟨rfl, rfl⟩
  exact ⟨rfl, ⟨es, c, (MapKept.heap_alloc w _).1, hs, hl⟩, (Stay.refl _ w).alloc _, by simp⟩
theorem tms_length (l : List Tm) : (l.flatMap Tm.cells).length = l.length * 2 := flat_len Tm.cells 2 Tm.cells_length l
theorem cloneT_any (w : World) (base : Nat) (v : Value) (l : List Tm) (h : w.ownsRow base 39 2 v l.length (l.flatMap Tm.cells)) (hn : l.length ≤ 1000000) :
    Calls Tryd.prog 44 #[v] w fun e w' => ∃ v', e = .returned v' ∧ w'.ownsRow w.heap.size 39 2 v' l.length (l.flatMap Tm.cells) ∧ Only w w' := by
  obtain ⟨ii, hii0, hii1, hii2, hii3⟩ := info_parts infoTm
  rcases h.2 with ⟨rfl, h0⟩ | ⟨g, cap, cur, rfl, _, _⟩
  · have e1 : l = [] := List.eq_nil_of_length_eq_zero h0
    subst e1
    refine (AnyE.slices_Clone_nil Tryd.cloneTm 0 0 w).mono ?_
    rintro e w' ⟨rfl, rfl⟩
    exact ⟨_, rfl, World.ownsRow_nil _ _ _ _, Stay.refl _ _⟩
  · refine (AnyE.slices_Clone Tryd.cloneTm ii _ 2 16 hii0 hii1 hii2 hii3 rfl (by omega) (fun w => Tryd.sizeOf39 w) g 0 l.length cap (l.flatMap Tm.cells) w (by rw [tms_length]) (by simp only [maxLen]; omega) (by omega) (fun j u hu => ?_) (tm_one l)).mono ?_
    · rw [Nat.zero_add]
      have := h.cellAt j (by have := (List.getElem?_eq_some_iff.1 hu).1; rw [tms_length] at this; exact this)
      rw [this, hu]
    · rintro e w' ⟨v', rfl, h1, _, h2⟩
      exact ⟨v', rfl, h1, Stay.of_below h2⟩
/-- A copy with the first p slots its own. -/
structure Cop (w wr : World) (b2 m2 now made : Nat) (l : List (Int × Nat)) (W : Wheel) (wv wv2 : List Value) (fs : List Nat) (p : Nat) : Prop where
  blk : Blk wr b2 71 (ckCells now made wv2 fs m2)
  mp : IMap wr m2 (vmap dv l)
  len : wv2.length = 448
  row : ∀ (i : Nat) (v : Value), i < p → wv2[i]? = some v → wr.ownsRow w.heap.size 39 2 v (W.at i).length ((W.at i).flatMap Tm.cells)
  off : ∀ (i j : Nat) (v u : Value), i < p → j < p → i ≠ j → wv2[i]? = some v → wv2[j]? = some u → OffR v u
  old : ∀ i, p ≤ i → wv2[i]? = wv[i]?
  only : Only w wr
theorem Cop.step {w wr wc : World} {b2 m2 now made : Nat} {l : List (Int × Nat)} {W : Wheel} {wv wv2 : List Value} {fs : List Nat} {p : Nat} {v : Value} (h : Cop w wr b2 m2 now made l W wv wv2 fs p) (hp : p < 448) (ho : Only wr wc) (hv : wc.ownsRow wr.heap.size 39 2 v (W.at p).length ((W.at p).flatMap Tm.cells))
    (hw : w.heap.size ≤ b2) : Cop w (wc.setCell ⟨b2, 2 + p, none⟩ v) b2 m2 now made l W wv (wv2.set p v) fs (p + 1) := by
  have hB := ho.blk h.blk
  have hz := h.only.size
  refine ⟨?_, (h.mp.only ho).set (fun e => h.mp.ne_blk h.blk e.symm) _, by rw [List.length_set]; exact h.len, fun i u hi hu => ?_, fun i j u x hi hj hij hu hx => ?_, fun i hi => ?_, (h.only.trans' ho).new hw _ _⟩
  · rw [← ck_setw now made fs m2 (by rw [h.len]; exact hp)]
    exact hB.set _ _
  · rw [List.getElem?_set] at hu
    by_cases e : p = i
    · subst e
      rw [if_pos rfl, if_pos (by rw [h.len]; exact hp)] at hu
      cases hu
      exact own_set (A := ⟨b2, 2 + p, none⟩) (owns_base hv hz) _ (own_ne_blk hv hB (by decide))
    · rw [if_neg e] at hu
      have h1 := own_only ho (h.row i u (by omega) hu)
      exact own_set (A := ⟨b2, 2 + p, none⟩) h1 _ (own_ne_blk h1 hB (by decide))
  · have key : ∀ (i : Nat) (u : Value), i < p + 1 → (wv2.set p v)[i]? = some u → (i = p ∧ u = v) ∨ (i < p ∧ wv2[i]? = some u) := fun i u hi hu => by
      rw [List.getElem?_set] at hu
      by_cases e : p = i
      · subst e
        rw [if_pos rfl, if_pos (by rw [h.len]; exact hp)] at hu
        exact .inl ⟨rfl, (Option.some.inj hu).symm⟩
      · rw [if_neg e] at hu
        exact .inr ⟨by omega, hu⟩
    have hlt : ∀ (i : Nat) (u : Value), i < p → wv2[i]? = some u → OffR v u := fun i u hi hu g hg e => by
      have := (own_lt hv g hg).1
      have := (own_lt (h.row i u hi hu) g e).2
      omega
    rcases key i u hi hu with ⟨rfl, rfl⟩ | ⟨h1, h2⟩
    · rcases key j x hj hx with ⟨rfl, rfl⟩ | ⟨h3, h4⟩
      · exact absurd rfl hij
      · exact hlt j x h3 h4
    · rcases key j x hj hx with ⟨rfl, rfl⟩ | ⟨h3, h4⟩
      · exact (hlt i u h1 h2).symm
      · exact h.off i j u x h1 h3 hij h2 h4
  · rw [List.getElem?_set, if_neg (by omega)]
    exact h.old i (by omega)
set_option maxRecDepth 100000 in
set_option maxHeartbeats 4000000 in
theorem copy_any {w : World} {S : Nat → Prop} {b : Nat} {C : Ck} (h : CkAt w S b C) :
    Calls Tryd.prog 24 #[.pointer (some ⟨b, 0, none⟩)] w fun e w' => ∃ b', e = .returned (.pointer (some ⟨b', 0, none⟩)) ∧ CkAt w' (From w.heap.size w') b' C ∧ Only w w' := by
  obtain ⟨m, W, wv, fs, hC, hW, hp, hok, hs, hlt⟩ := h
  have lb := hC.blk.lt
  obtain ⟨Cc, hCc⟩ : ∃ Cc, Cc = (ckCells C.now C.made wv fs m).toArray := ⟨_, rfl⟩
  have hB : w.heap[b]? = some (.cells Cc 71 (0, 0)) := by rw [hCc]; exact hC.blk
  have hsz : Cc.size = 458 := by rw [hCc]; simp [ckCells, hC.vl, u64s, hC.full.1]
  have hone : Cc.all (·.oneCell') = true := by
    rw [hCc, List.all_toArray, List.all_eq_true]
    intro x hx
    unfold ckCells at hx
    rcases List.mem_cons.1 hx with rfl | hx
    · rfl
    rcases List.mem_cons.1 hx with rfl | hx
    · rfl
    rcases List.mem_append.1 hx with hx | hx
    · obtain ⟨i, hi⟩ := List.getElem?_of_mem hx
      obtain ⟨A, c, rfl⟩ := own_shape (hC.row i x hi)
      rfl
    rcases List.mem_append.1 hx with hx | hx
    · obtain ⟨f, _, rfl⟩ := List.mem_map.1 hx
      rfl
    · obtain rfl := List.mem_singleton.1 hx
      rfl
  have hi : (Tryd.prog.info? 71).map (·.size) = some Cc.size := by rw [hsz]; kernel_rfl
  have HW := Lib.hid (And.intro hB (And.intro hi (And.intro hone (And.intro hsz hCc))))
  have H := Lib.hid (And.intro hC (And.intro hW (And.intro hp (And.intro hok (And.intro hs hlt)))))
  have cm := hC.blk.at (ck_atm C.now C.made m hC.vl hC.full.1)
  clear hB hi hone hsz hCc hC hW hp hok hs hlt
  go_enter Tryd.func24, Tryd.ntmps24
  go_upto_region 3 with fail
  go_cut [3] from 8 to 10 (fun a wc => a = .pointer (some ⟨w.heap.size, 0, none⟩) ∧ wc = w.alloc (.cells Cc 71))
  case first =>
    go_wp2_with (first | (refine wpList_load_row rfl 71 _ rfl b rfl _ Cc (0, 0) _ HW.out.1 Tryd.underlying71 rfl HW.out.2.1 ?_) | (refine wpList_store_new rfl 71 _ _ rfl _ Cc rfl rfl HW.out.2.1 (by rw [HW.out.2.2.2.1]; rfl) HW.out.2.2.1 ?_))
    go_meet
    case rel => exact ⟨rfl, rfl⟩
  case rest =>
    obtain ⟨rfl, hw1⟩ := hcut
    obtain ⟨w1, hw1'⟩ : ∃ w1, w1 = wc := ⟨_, rfl⟩
    rw [← hw1'] at hw1 ⊢
    clear hw1'
    have hB1 : Blk w1 w.heap.size 71 (ckCells C.now C.made wv fs m) := by rw [hw1, HW.out.2.2.2.2]; exact Blk.newAt w _ _ _ rfl
    have hO1 : Only w w1 := by rw [hw1]; exact (Stay.refl _ w).alloc _
    have cm1 := hO1.cell cm
    have lb1 := (H.out.1.only hO1).blk.lt
    have ln1 := hB1.lt
    have hz1 : w1.heap.size = w.heap.size + 1 := by rw [hw1]; simp
    have H1 := Lib.hid (And.intro hB1 hO1)
    clear hw1 hB1 hO1 cm lb HW
    go_wp2_with fail
    refine (cloneM_any w1 m _ (H.out.1.mp.only H1.out.2)).mono ?_
    rintro e w2 ⟨rfl, hm2, ho2, hz2⟩
    have hB2 := ho2.blk H1.out.1
    have cn2 := hB2.at (ck_atm C.now C.made m H.out.1.vl H.out.1.full.1)
    have fn2 := hB2.free 457
    have ln2 := hB2.lt
    have H2 := Lib.hid (And.intro hB2 (And.intro (H1.out.2.trans' ho2) hm2))
    clear hB2 hm2 ho2 cm1
    go_wp2_with fail
    obtain ⟨w3, hw3⟩ : ∃ w3, w3 = w2.setCell ⟨w.heap.size, 457, none⟩ (.map (some (w.heap.size + 1))) := ⟨_, rfl⟩
    rw [← hw3]
    have hC3 : Cop w w3 w.heap.size (w.heap.size + 1) C.now C.made (keyed C.ts) W wv wv fs 0 := by
      have hm2 := H2.out.2.2
      rw [hz1] at hm2
      have h7 := H.out.1.full.1
      have h8 := H.out.1.vl
      refine ⟨?_, by rw [hw3]; exact hm2.set (a := ⟨w.heap.size, 457, none⟩) (by simp) _, h8, fun i v hi => by omega, fun i j v u hi => by omega, fun i _ => rfl, by rw [hw3]; exact H2.out.2.1.new (Nat.le_refl _) _ _⟩
      have e : (ckCells C.now C.made wv fs m).set 457 (.map (some (w.heap.size + 1))) = ckCells C.now C.made wv fs (w.heap.size + 1) := by
        unfold ckCells
        rw [show 457 = 455 + 1 + 1 by omega, List.set_cons_succ, List.set_cons_succ, List.set_append_right _ _ (by omega), h8, List.set_append_right _ _ (by simp [u64s]; omega)]
        simp [u64s, h7]
      rw [hw3, ← e]
      exact H2.out.1.set 457 _
    have H3 := Lib.hid hC3
    clear hC3 hw3 cn2 fn2 ln2 lb1 ln1
    go_loopg [17] 7 (fun kk vL wr => ∃ (L : Nat) (wv2 : List Value), L ≤ 7 ∧ kk = 7 - L ∧ vL = .int .i64 (L : Nat) ∧ Cop w wr w.heap.size (w.heap.size + 1) C.now C.made (keyed C.ts) W wv wv2 fs (L * 64))
    case atStart => exact ⟨0, wv, by omega, rfl, rfl, H3.out⟩
    case round =>
      obtain ⟨L, wv2, hL7, hk, rfl, hP⟩ := hrel
      obtain ⟨wt, hwt⟩ : ∃ wt, wt = wr := ⟨_, rfl⟩
      rw [← hwt] at hP ⊢
      clear hwt
      by_cases hL : L < 7
      · have u1 : (L : Int) < 7 := by omega
        have HX := Lib.hid (And.intro hP hk)
        clear hP hk
        go_wp2_with fail
        go_loopg [20] 64 (fun kk vs wr => ∃ (s : Nat) (wv3 : List Value), s ≤ 64 ∧ kk = 64 - s ∧ vs = .int .i64 (s : Nat) ∧ Cop w wr w.heap.size (w.heap.size + 1) C.now C.made (keyed C.ts) W wv wv3 fs (L * 64 + s))
        case atStart => exact ⟨0, wv2, by omega, rfl, rfl, HX.out.1⟩
        case round =>
          obtain ⟨s, wv3, hs64, hks, rfl, hQ⟩ := hrel
          obtain ⟨wq, hwq⟩ : ∃ wq, wq = wr := ⟨_, rfl⟩
          rw [← hwq] at hQ ⊢
          clear hwq
          by_cases hs : s < 64
          · have u2 : (s : Int) < 64 := by omega
            have hCq := H.out.1.only hQ.only
            obtain ⟨v, hv⟩ : ∃ v, wv[L * 64 + s]? = some v := ⟨_, List.getElem?_eq_getElem (by rw [hCq.vl]; omega)⟩
            have hrow := hCq.row _ v hv
            obtain ⟨r, hr⟩ : ∃ r, r = W.at (L * 64 + s) := ⟨_, rfl⟩
            rw [← hr] at hrow
            have hrn : r.length ≤ 1000 := by
              rw [hr]
              have := flat_len_at (W := W) (L * 64 + s)
              have := flat1000 H.out.2.2.1 H.out.2.2.2.1
              omega
            obtain ⟨n, hn⟩ : ∃ n, n = r.length := ⟨_, rfl⟩
            rw [← hn] at hrow hrn
            obtain ⟨Av, cv, rfl⟩ := own_shape hrow
            have cv2 : wq.cell? ⟨b, 2 + L * 64 + s, none⟩ = some (.slice Av n cv) := by
              rw [hCq.blk.cell, show 2 + L * 64 + s = 2 + (L * 64 + s) by omega, ck_atw _ _ _ _ (by rw [hCq.vl]; omega)]
              exact hv
            have lbq := hCq.blk.lt
            obtain ⟨u, hu⟩ : ∃ u, wv3[L * 64 + s]? = some u := ⟨_, List.getElem?_eq_getElem (by rw [hQ.len]; omega)⟩
            have cu : wq.cell? ⟨w.heap.size, 2 + L * 64 + s, none⟩ = some u := by
              rw [hQ.blk.cell, show 2 + L * 64 + s = 2 + (L * 64 + s) by omega, ck_atw _ _ _ _ (by rw [hQ.len]; omega)]
              exact hu
            have fu := hQ.blk.free (2 + L * 64 + s)
            have lnq := hQ.blk.lt
            have hbw : b < w.heap.size := H.out.1.blk.lt
            have hne : w.heap.size ≠ b := by omega
            have HQ := Lib.hid (And.intro hQ (And.intro hks (And.intro hrow (And.intro hr hn))))
            clear hQ hks hrow hr hn hCq hv hu
            go_upto_region 11 with fail
            go_region_held3 (fun w' => w'.cell? ⟨b, 2 + L * 64 + s, none⟩ = some (.slice Av n cv))
              (first
                | go_keep
                | (apply Only.cell o2; assumption))
              ((go_at_call 44; refine (cloneT_any _ 0 (.slice Av n cv) r (by rw [← HQ.out.2.2.2.2]; exact own_only (Stay.refl _ wq).drew HQ.out.2.2.1) (by rw [← HQ.out.2.2.2.2]; omega)).mono ?_; rintro e w5 ⟨v5, rfl, hr5, o2⟩; obtain ⟨A5, c5, rfl⟩ := own_shape hr5; have a5 : Only wq w5 := Only.trans' (Stay.refl _ wq).drew o2; have cu5 := a5.cell cu; have fu5 := a5.free cu fu; have ln5 : w.heap.size < w5.heap.size := Nat.lt_of_lt_of_le lnq a5.size))
            all_goals
              have H5 := Lib.hid (And.intro hr5 (Only.trans' (Stay.refl _ wq).drew o2))
              clear hr5 o2
              go_wp2_with fail
              go_roundg (64 - (s + 1))
              case measure => have := HQ.out.2.1; omega
              case rel =>
                have hst := HQ.out.1.step (p := L * 64 + s) (by omega) H5.out.2 (v := .slice A5 r.length c5) (by rw [← HQ.out.2.2.2.1]; exact H5.out.1) (Nat.le_refl _)
                rw [show 2 + L * 64 + s = 2 + (L * 64 + s) by omega]
                exact ⟨s + 1, _, by omega, rfl, by go_num, hst⟩
          · obtain rfl : s = 64 := by omega
            have HQ := Lib.hid hQ
            clear hQ hks
            go_wp2_with fail
            go_roundg (7 - (L + 1))
            case measure => have := HX.out.2; omega
            case rel =>
              have h1 := HQ.out
              rw [show L * 64 + 64 = (L + 1) * 64 by omega] at h1
              exact ⟨L + 1, wv3, by omega, rfl, by go_num, h1⟩
      · obtain rfl : L = 7 := by omega
        have HX := Lib.hid hP
        clear hP hk
        go_wp2_with fail
        go_ret
        have hP := HX.out
        have hD : CkIn wt w.heap.size (w.heap.size + 1) C.now C.made (keyed C.ts) W wv2 fs :=
          ⟨hP.blk, hP.mp, H.out.1.wl, hP.len, H.out.1.full, fun i v hv => owns_base (hP.row i v (by have := (List.getElem?_eq_some_iff.1 hv).1; have := hP.len; omega) hv) (Nat.zero_le _), fun i j v u hij hv hu => hP.off i j v u (by have := (List.getElem?_eq_some_iff.1 hv).1; have := hP.len; omega) (by have := (List.getElem?_eq_some_iff.1 hu).1; have := hP.len; omega) hij hv hu⟩
        refine ⟨w.heap.size, rfl, ⟨w.heap.size + 1, W, wv2, fs, hD, H.out.2.1, H.out.2.2.1, H.out.2.2.2.1, fun k hk => ⟨?_, hD.lt hk⟩, fun k hk => hk.2⟩, hP.only⟩
        rcases hk with e | e | ⟨i, v, hv, e⟩
        · omega
        · omega
        · exact (own_lt (hP.row i v (by have := (List.getElem?_eq_some_iff.1 hv).1; have := hP.len; omega) hv) k e).1
end Go.Proofs.YtbkbcpnpbfnmgaaDoor
