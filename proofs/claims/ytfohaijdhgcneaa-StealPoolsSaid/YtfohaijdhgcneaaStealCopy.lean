/- A race of the law's own; Copy. -/
import Derived.Test.YtfohaijdhgcneaaStealNew2
import Derived.Test.YtfohaijdhgcneaaStealBad
import Derived.Test.YtfohaijdhgcneaaStealDo
import Derived.Test.YtfohaijdhgcneaaStealPlay
set_option linter.unusedVariables false
set_option linter.unusedSimpArgs false
namespace Go.Proofs.Ytfohaijdhgcneaa
open Go Go.RowKit

def replay (R : Rc) (l : List Int) : Rc := l.foldl (fun R i => (R.step i).1) R
/-- A race that its past tells. -/
structure Made (R : Rc) : Prop where
  valid : Valid R.room R.own R.thv
  same : R = replay (Rc.start R.room R.own R.thv (R.thv.map Int.toNat)) R.past
theorem step_same (R : Rc) (i : Int) : (R.step i).1.room = R.room ∧ (R.step i).1.own = R.own ∧ (R.step i).1.thv = R.thv ∧ ((R.step i).1.past = R.past ∧ (R.step i).1 = R ∨ (R.step i).1.past = R.past ++ [i]) := by
  cases hb : (R.step i).2 with
  | false => rw [step_none hb]; exact ⟨rfl, rfl, rfl, .inl ⟨rfl, rfl⟩⟩
  | true =>
    obtain ⟨a, hi, ha, hn, e⟩ := step_some hb
    obtain ⟨r1, r2, r3, r4⟩ := op_room R i.toNat a
    rw [e]
    refine ⟨r1, r3, r4, .inr ?_⟩
    show R.past ++ [((i.toNat : Nat) : Int)] = _
    rw [← hi]
theorem Made.step {R : Rc} (h : Made R) (i : Int) : Made (R.step i).1 := by
  obtain ⟨h1, h2, h3, h4⟩ := step_same R i
  refine ⟨by rw [h1, h2, h3]; exact h.valid, ?_⟩
  rw [h1, h2, h3]
  rcases h4 with ⟨h4, h5⟩ | h4
  · rw [h4, h5]; exact h.same
  · rw [h4]
    unfold replay
    rw [List.foldl_append]
    show _ = (Rc.step (replay (Rc.start R.room R.own R.thv (R.thv.map Int.toNat)) R.past) i).1
    rw [← h.same]
theorem Made.start {room : Nat} {own thv : List Int} (h : Valid room own thv) : Made (Rc.start room own thv (thv.map Int.toNat)) := ⟨h, rfl⟩
theorem RaceOk.stay {w w' : World} {X : Nat → Prop} {L : Nat → Nat} {b : Nat} {R : Rc} (h : RaceOk w L b R) (hx : Stay X w w') (hX : ∀ k, X k → L k = 0) : RaceOk w' L b R := by
  obtain ⟨cv, av, ov, tv, pv, rb, abs, h⟩ := h
  have q : ∀ {T : TypeId} {v : Value} {n : Nat} {xs : List Value} {m : Nat}, w.ownsRow 0 T 1 v n xs → (∀ g, v.ownBlock = some g → L g = m) → m ≠ 0 → w'.ownsRow 0 T 1 v n xs := fun ho hm h0 => own_stay hx ho (fun g hg e => by have := hX g e; have := hm g hg; omega)
  exact ⟨cv, av, ov, tv, pv, rb, abs, h.core.stay hx (fun e => by have := hX _ e; have := h.lb; omega) (fun g hg e => by have := hX _ e; have := h.lc g hg; omega), q h.orow h.lo (by omega), q h.trow h.lt (by omega), q h.prow h.lp (by omega), q h.arow h.la (by omega), hx.blk h.rbox (fun e => by have := hX _ e; have := h.lr; omega), h.len, fun j ab2 a2 h1 h2 => by
    obtain ⟨ob2, nx2, gv2, h3⟩ := h.acts j ab2 a2 h1 h2
    exact ⟨ob2, nx2, gv2, h3.stay hx (fun k hk => by have := hX k hk; omega)⟩, h.lb, h.lc, h.lo, h.lt, h.lp, h.la, h.lr, fun k hk => Nat.lt_of_lt_of_le (h.lab k hk) hx.size, h.ok⟩
theorem RaceOk.ok {w : World} {L : Nat → Nat} {b : Nat} {R : Rc} (h : RaceOk w L b R) : R.Ok := by
  obtain ⟨cv, av, ov, tv, pv, rb, abs, h⟩ := h
  exact h.ok
theorem RaceOk.lab {w : World} {L : Nat → Nat} {b : Nat} {R : Rc} (h : RaceOk w L b R) : ∀ k, L k ≠ 0 → k < w.heap.size := by
  obtain ⟨cv, av, ov, tv, pv, rb, abs, h⟩ := h
  exact h.lab
theorem RaceOk.only {w w' : World} {L : Nat → Nat} {b : Nat} {R : Rc} (h : RaceOk w L b R) (ho : Only w w') : RaceOk w' L b R := h.stay ho (fun _ h => h.elim)
theorem replay_ok : ∀ (l : List Int) (R : Rc), R.Ok → (replay R l).Ok
  | [], _, h => h
  | i :: l, R, h => replay_ok l _ (h.step i)
theorem replay_take {R : Rc} {l : List Int} {i : Nat} (h : i < l.length) : replay R (l.take (i + 1)) = ((replay R (l.take i)).step (l.getD i 0)).1 := by
  unfold replay
  rw [List.take_add_one, List.getElem?_eq_getElem h, List.foldl_append, List.getD_eq_getElem?_getD, List.getElem?_eq_getElem h]
  rfl

set_option maxRecDepth 100000 in
set_option maxHeartbeats 4000000 in
theorem copy_any {w : World} {L : Nat → Nat} {b : Nat} {R : Rc} (h : RaceOk w L b R) (hm : Made R) :
    Calls Try.prog 23 #[.pointer (some ⟨b, 0, none⟩)] w fun e w' => ∃ b' L', e = .returned (.pointer (some ⟨b', 0, none⟩)) ∧ RaceOk w' L' b' R ∧ Only w w' ∧ ∀ k, L' k ≠ 0 → w.heap.size ≤ k := by
  obtain ⟨cv, av, ov, tv, pv, rb, abs, h⟩ := h
  obtain ⟨Ao, co, rfl⟩ := own_shape h.orow
  obtain ⟨At, ct, rfl⟩ := own_shape h.trow
  obtain ⟨Ap, cp, rfl⟩ := own_shape h.prow
  have hpl := h.ok.past_le
  have c := h.core.blk.cell
  have l := h.core.blk.lt
  have H := Lib.hid (And.intro h hm)
  clear h hm
  go_enter Try.func23, Try.ntmps23
  go_upto_region 3 with fail
  go_cut [3] from 7 to 24 (fun v3 wc => ∃ b' L', v3 = .pointer (some ⟨b', 0, none⟩) ∧ RaceOk wc L' b' (Rc.start R.room R.own R.thv (R.thv.map Int.toNat)) ∧ Only w wc ∧ ∀ k, L' k ≠ 0 → w.heap.size ≤ k)
  case first =>
    go_region_with (go_at_call 38; refine (newrace_any _ R.room R.own R.thv Ao At co ct (own_sl H.out.1.orow ((Stay.refl _ w).drew)) (own_sl H.out.1.trow ((Stay.refl _ w).drew)) (by have := H.out.2.valid.r1; omega) (by have := H.out.2.valid.r2; omega) H.out.2.valid.o H.out.2.valid.t H.out.2.valid.ox H.out.2.valid.tx).mono ?_; rintro e w1 ⟨b', L', rfl, h1, h2, h3⟩)
    all_goals
      go_wp2_with fail
      go_meet
      case rel => exact ⟨_, L', rfl, h1, Only.trans' ((Stay.refl _ w).drew) h2, h3⟩
  case rest =>
    obtain ⟨b', L', rfl, h1, h2, h3⟩ := hcut
    have c1 : ∀ i, wc.cell? ⟨b, i, none⟩ = _ := (h2.blk H.out.1.core.blk).cell
    have l1 := (h2.blk H.out.1.core.blk).lt
    have H1 := Lib.hid (And.intro h1 (And.intro h2 h3))
    clear h1 h2 h3 c l
    go_wp2_with fail
    go_loopg [30] (R.past.length) (fun k vi wr => ∃ (i : Nat) (L2 : Nat → Nat), i ≤ R.past.length ∧ k = R.past.length - i ∧ vi = .int .i64 (i : Nat) ∧ RaceOk wr L2 b' (replay (Rc.start R.room R.own R.thv (R.thv.map Int.toNat)) (R.past.take i)) ∧ Only w wr ∧ ∀ k, L2 k ≠ 0 → w.heap.size ≤ k)
    case atStart => exact ⟨0, L', by omega, by omega, rfl, H1.out.1, H1.out.2.1, H1.out.2.2⟩
    case round =>
      obtain ⟨i, L2, hi, hk, rfl, hR, hO, hL⟩ := hrel
      obtain ⟨wt, hwt⟩ : ∃ wt, wt = wr := ⟨_, rfl⟩
      rw [← hwt] at hR hO ⊢
      clear hwt
      by_cases hp : i < R.past.length
      · obtain ⟨gp, cp2, e1, _, _⟩ := H.out.1.prow.form (by omega)
        obtain ⟨rfl, rfl⟩ : Ap = some ⟨gp, 0, none⟩ ∧ cp = cp2 := by simpa using e1
        have z := (own_only hO H.out.1.prow).cellAt i (by omega)
        have hz : (ints R.past)[i]? = some (.int .i64 (R.past.getD i 0)) := by
          unfold ints
          rw [List.getElem?_map, List.getElem?_eq_getElem hp, List.getD_eq_getElem?_getD, List.getElem?_eq_getElem hp]
          rfl
        rw [hz] at z
        obtain ⟨x, hx⟩ : ∃ x, x = R.past.getD i 0 := ⟨_, rfl⟩
        rw [← hx] at z
        have lg := (own_lt (own_only hO H.out.1.prow) gp rfl).2
        have HX := Lib.hid (And.intro hR (And.intro hO (And.intro hL (And.intro hx hk))))
        clear hR hO hL hx hk e1 hz
        go_wp2_with fail
        refine (step_any HX.out.1 x).mono ?_
        rintro e w3 ⟨rfl, L3, h4, h5, h6⟩
        have H3 := Lib.hid (And.intro h4 (And.intro h5 h6))
        clear h4 h5 h6
        go_wp2_with fail
        go_roundg (R.past.length - (i + 1))
        case measure => have := HX.out.2.2.2.2; omega
        case rel =>
          refine ⟨i + 1, L3, by omega, rfl, by go_num, ?_, HX.out.2.1.trans H3.out.2.2 (fun k hk h => by have := HX.out.2.2.1 k h; omega), fun k hk => ?_⟩
          · rw [replay_take hp, ← HX.out.2.2.2.1]
            exact H3.out.1
          · by_cases hkw : k < wt.heap.size
            · rw [H3.out.2.1 k hkw] at hk
              exact HX.out.2.2.1 k hk
            · have := HX.out.2.1.size
              omega
      · obtain rfl : i = R.past.length := by omega
        rw [List.take_length, ← H.out.2.same] at hR
        have HX := Lib.hid (And.intro hR (And.intro hO hL))
        clear hR hO hL hk
        go_wp2_with fail
        go_ret
        exact ⟨b', L2, rfl, HX.out⟩
end Go.Proofs.Ytfohaijdhgcneaa
