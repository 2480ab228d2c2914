/- Sound. -/
import Derived.Test.YtgjicobfbdikmaaLedValues
import Derived.Sort.CutIn
import Derived.BigQuiet
set_option linter.unusedVariables false
set_option linter.unusedSimpArgs false
namespace Go.Proofs.Ytgjicobfbdikmaa
open Go Go.Proofs Go.RowKit Go.Shelf
attribute [local go_sem] Oper.semAt_some

/-- All was released in order. -/
def Lg.Sound (L : Lg) : Prop := L.cr = [] ∧ L.lk = [] ∧ ∀ t, L.stk t = []
def SoundPost (w : World) (L : Lg) (e : Ending) (w' : World) : Prop := ∃ r : Bool, e = .returned (.bool r) ∧ (r = true ↔ L.Sound) ∧ Only w w'

set_option maxRecDepth 100000 in
set_option maxHeartbeats 4000000 in
theorem sound_any (w : World) (S : Nat → Prop) (b : Nat) (L : Lg) (h : LgAt w S b L) (hok : L.Ok) :
    Calls Try.prog 23 #[.pointer (some ⟨b, 0, none⟩)] w (SoundPost w L) := by
  obtain ⟨m, ev, cv, kv, hs, hT⟩ := h
  obtain ⟨w0, hw0⟩ : ∃ w0 : World, w0 = w.alloc (.cells #[.bool false] 4) := ⟨_, rfl⟩
  have hO0 : Only w w0 := by rw [hw0]; exact (Stay.refl _ w).alloc _
  have hz0 : w0.heap.size = w.heap.size + 1 := by rw [hw0]; simp
  have hB0 : Blk w0 w.heap.size 4 [.bool false] := by rw [hw0]; exact Blk.new w [.bool false] 4
  obtain ⟨Ac, cc, rfl⟩ := own_shape hT.cw
  obtain ⟨Ak, ck, rfl⟩ := own_shape hT.kw
  have hcl : L.cr.length ≤ 800 := by have := hok.cl; have := hok.time_le; omega
  have hkl : L.lk.length ≤ 800 := by have := hok.ll; have := hok.time_le; omega
  have H := Lib.hid (And.intro (hT.only hO0) (And.intro hok (And.intro hO0 hB0)))
  clear hT hok hO0 hB0
  have k0 := H.out.2.2.2.cell
  have l0 := H.out.2.2.2.lt
  have f0 := H.out.2.2.2.free
  have c0 := H.out.1.blk.cell
  have d0 := H.out.1.blk.lt
  refine (callsIn_wide (n := 8)).1 ?_
  refine callsIn_of_wp_marks Try.func23 rfl trivial ?_ rfl
  simp only [Try.ntmps23, List.size_toArray, List.length_cons, List.length_nil, Nat.reduceAdd, Nat.reduceSub, Array.replicate_succ, Array.replicate_zero, List.push_toArray, List.append_toArray, List.nil_append, List.cons_append]
  gi_upto_region 1 with fail
  rw [← hw0]
  clear hw0
  by_cases hp : (L.cr.length : Int) + L.lk.length > 0
  · refine wpIn_wide.2 ?_
    go_quiet (fail)
    gi_wp2_with fail
    have hOn : Only w0 (w0.drewN nq) := (Stay.refl _ w0).drewN nq
    have hB := (hOn.blk H.out.2.2.2).set 0 (.bool false)
    have hc := hB.cell 0
    simp only [List.set_cons_zero, List.getElem?_cons_zero] at hc
    refine ⟨.bool false, by simp [results, Try.f23, go_sem, hc], false, rfl, ⟨fun e => (by cases e), fun h => ?_⟩, (H.out.2.2.1.trans' hOn).new (Nat.le_refl _) _ _⟩
    rw [h.1, h.2.1] at hp
    simp at hp
  · have hp' : decide ((L.cr.length : Int) + L.lk.length > 0) = false := decide_eq_false hp
    have HP := Lib.hid (show L.cr = [] ∧ L.lk = [] from ⟨List.eq_nil_of_length_eq_zero (by omega), List.eq_nil_of_length_eq_zero (by omega)⟩)
    refine wpIn_wide.2 ?_
    go_quiet (fail)
    obtain ⟨w1, hw1⟩ : ∃ w1, w1 = w0.drewN nq := ⟨_, rfl⟩
    have hO1 : Only w0 w1 := by rw [hw1]; exact (Stay.refl _ w0).drewN nq
    rw [← hw1]
    have hz1 : w1.heap.size = w0.heap.size := by rw [hw1]; simp
    have H1 := Lib.hid (And.intro (H.out.1.only hO1) (And.intro (H.out.2.2.1.trans' hO1) (hO1.blk H.out.2.2.2)))
    clear hw1 hO1 hp hp' k0 l0 f0 c0 d0
    have c0 := H1.out.1.blk.cell
    have d0 := H1.out.1.blk.lt
    gi_wp2_with fail
    refine ⟨trivial, ?_⟩
    refine (values_in Fence.wide _ trivial rfl (some m) w1).mono ?_
    rintro e wx ⟨rfl, rfl⟩
    obtain ⟨w2, hw2⟩ : ∃ w2 : World, w2 = w1.alloc (.cells #[.map (some m)] 56) := ⟨_, rfl⟩
    have hO2 : Only w1 w2 := by rw [hw2]; exact (Stay.refl _ w1).alloc _
    have hz2 : w2.heap.size = w1.heap.size + 1 := by rw [hw2]; simp
    have hB2 : Blk w2 w1.heap.size 56 [.map (some m)] := by rw [hw2]; exact Blk.new w1 [.map (some m)] _
    rw [← hw2]
    have H2 := Lib.hid (And.intro (H1.out.1.only hO2) (And.intro (H1.out.2.1.trans' hO2) (And.intro (hO2.blk H1.out.2.2) hB2)))
    clear hw2 hO2 hB2 c0 d0
    gi_wp2_with fail
    refine wpIn_rangeFunc_ownF rfl (by omega) (gf := 66) (lb := #[.pointer (some ⟨w.heap.size + 1, 0, none⟩)]) rfl trivial (enters_of Try.func66 (by kernel_rfl) rfl)
      (values_stops Fence.wide _ trivial rfl (by omega) (w.heap.size + 1) m hs H2.out.1.wf H2.out.1.count w2 (by omega) (by rw [← hz0, ← hz1]; exact H2.out.2.2.2.cell 0) H2.out.1.mp) walksK_t walksK_b (Below.refl _ _) (fun _ => rfl)
      (fun (pre : List (HV hs)) W => (∀ y ∈ pre, y.1.2.l = []) ∧ Below w2.heap.size w2 W)
      (fun c (pre : List (HV hs)) W => (c = .ret ∧ (∃ y ∈ pre, y.1.2.l ≠ []) ∧ Blk W w.heap.size 4 [.bool false]) ∧ Stay (fun j => j = w.heap.size) w2 W)
      (OwnFrom.and (ownFrom_pure _ _) (ownFrom_below (Nat.le_refl _) (Nat.le_refl _)))
      (fun c => fun pre W W' row hs hg hr => ?ownx)
      ⟨by simp, Below.refl _ _⟩
      (fun (y : HV hs) => { tmps := #[.pointer (some ⟨b, 0, none⟩), undef, .pointer (some ⟨w.heap.size, 0, none⟩), pv y.1.2.b, .pointer (some ⟨b, 0, none⟩), .bool false, .bool false, .pointer (some ⟨b, 0, none⟩), .pointer (some ⟨b, 0, none⟩), .pointer (some ⟨b, 3, none⟩), .slice Ac L.cr.length cc, .int .i64 L.cr.length, .pointer (some ⟨b, 0, none⟩), .pointer (some ⟨b, 0, none⟩), .pointer (some ⟨b, 4, none⟩), .slice Ak L.lk.length ck, .int .i64 L.lk.length, .int .i64 ((L.cr.length : Int) + L.lk.length), .bool false, .bool false, .pointer (some ⟨b, 0, none⟩), .pointer (some ⟨b, 0, none⟩), .pointer (some ⟨b, 2, none⟩), .map (some m), .func (.func 66) #[] #[.pointer (some ⟨w.heap.size + 1, 0, none⟩)], pv y.1.2.b, undef, undef, undef, undef, undef, undef, undef], defers := [] }) ?assign ?body ?done ?stop
    case ownx =>
      obtain ⟨⟨h1, h2, h3⟩, h4⟩ := hs
      have hst : Stay (fun k => row = some k) W W' := Stay.of_grown hg (fun _ _ e => e)
      refine ⟨⟨h1, h2, hst.blk h3 (fun e => ?_)⟩, h4.trans hst (fun i hi e => by have := (hr i e).1; omega)⟩
      obtain ⟨_, o', ho', hc'⟩ := hr _ e
      obtain ⟨o, ho, hc⟩ := h3.isC
      rw [ho] at ho'
      cases ho'
      rw [hc] at hc'
      cases hc'
    case assign =>
      intro l y W K hK
      gi_wp2
      exact hK
    case body =>
      rintro l pre y W ⟨hp, hB⟩ _
      obtain ⟨⟨tk, hl, hb, hv⟩, hy⟩ := y
      have hOW : Only w2 W := Stay.of_below hB
      have hh := (H2.out.1.only hOW).hd _ hy
      obtain ⟨Ah, ch, hvh⟩ := own_shape hh.row
      simp only at hvh hh
      subst hvh
      have kh : ∀ j, W.cell? ⟨hb, j, none⟩ = [Value.slice Ah hl.length ch][j]? := hh.blk.cell
      have lh : hb < W.heap.size := hh.blk.lt
      have q0 := hOW.blk H2.out.2.2.1
      have k0 := q0.cell
      have l0 := q0.lt
      have f0 := q0.free
      have HW := Lib.hid (And.intro hp (And.intro hB q0))
      clear hp hB hOW hh q0
      show Code.wpIn _ _ _ _ _ { tmps := #[.pointer (some ⟨b, 0, none⟩), undef, .pointer (some ⟨w.heap.size, 0, none⟩), .pointer (some ⟨hb, 0, none⟩), .pointer (some ⟨b, 0, none⟩), .bool false, .bool false, .pointer (some ⟨b, 0, none⟩), .pointer (some ⟨b, 0, none⟩), .pointer (some ⟨b, 3, none⟩), .slice Ac L.cr.length cc, .int .i64 L.cr.length, .pointer (some ⟨b, 0, none⟩), .pointer (some ⟨b, 0, none⟩), .pointer (some ⟨b, 4, none⟩), .slice Ak L.lk.length ck, .int .i64 L.lk.length, .int .i64 ((L.cr.length : Int) + L.lk.length), .bool false, .bool false, .pointer (some ⟨b, 0, none⟩), .pointer (some ⟨b, 0, none⟩), .pointer (some ⟨b, 2, none⟩), .map (some m), .func (.func 66) #[] #[.pointer (some ⟨w.heap.size + 1, 0, none⟩)], .pointer (some ⟨hb, 0, none⟩), undef, undef, undef, undef, undef, undef, undef], defers := [] } W
      by_cases he : hl = []
      · have he0 : decide ((hl.length : Int) > 0) = false := by rw [he]; rfl
        have HE := Lib.hid he
        clear he
        gi_wp2_with fail
        · exfalso
          rename_i hx
          rw [HE.out] at hx
          simp at hx
        exact ⟨KeepsOthers.refl _, (KeepsOthers.refl _).walks, ⟨fun y' hy' => (List.mem_append.1 hy').elim (HW.out.1 y') (fun e => by
          obtain rfl : y' = ⟨(tk, ⟨hl, hb, .slice Ah hl.length ch⟩), hy⟩ := List.mem_singleton.1 e
          exact HE.out), HW.out.2.1⟩⟩
      · have he0 : (hl.length : Int) > 0 := by
          have : 0 < hl.length := List.length_pos_iff.2 he
          omega
        have HE := Lib.hid he
        clear he
        gi_wp2_with fail
        exact ⟨KeepsOthers.setCell _ _ _, ⟨rfl, ⟨_, List.mem_append.2 (.inr (List.mem_cons_self ..)), HE.out⟩, HW.out.2.2.set 0 (.bool false)⟩, Stay.put (S := fun j => j = w.heap.size) ((Stay.of_below HW.out.2.1 : Only w2 W).mono (fun _ _ h => h.elim)) rfl _ _⟩
    case done =>
      rintro D xs W hD hall ⟨hne, hB⟩ hK
      have hOW : Only w2 W := Stay.of_below hB
      have q0 := hOW.blk H2.out.2.2.1
      have k0 := q0.cell
      have l0 := q0.lt
      have f0 := q0.free
      have HD := Lib.hid (And.intro hall (And.intro hne (And.intro hOW (And.intro hK q0))))
      clear hall hne hB hOW hK q0
      gi_wp2_with fail
      have hK' := (KeepsOthers.setCell W ⟨w.heap.size, 0, none⟩ (.bool true)).same D _ HD.out.2.2.2.1 rfl
      have hsD : Stay (fun j => j = D) (W.setCell ⟨w.heap.size, 0, none⟩ (.bool true)) ((W.setCell ⟨w.heap.size, 0, none⟩ (.bool true)).putObj D (.deferred none)) := Stay.of_grown (grownBy_putObj' _ D (.deferred none)) (fun k _ e => by cases e; rfl)
      have hdb := hsD.blk (HD.out.2.2.2.2.set 0 (.bool true)) (fun e => by omega)
      have hc5 := hdb.cell 0
      simp only [List.set_cons_zero, List.getElem?_cons_zero] at hc5
      refine ⟨by simp, .inl ⟨_, _, rfl, run_takeDeferred hK', ?_⟩⟩
      refine ⟨.bool true, by simp [results, Try.f23, go_sem, hc5], true, rfl, ⟨fun _ => ⟨HP.out.1, HP.out.2, fun t => ?_⟩, fun _ => rfl⟩, (((H2.out.2.1.trans' HD.out.2.2.1).new (Nat.le_refl _) _ _).trans hsD (fun j hj e => by omega))⟩
      rw [H2.out.1.st]
      cases hg : aget hs t with
      | none => rfl
      | some h =>
        obtain ⟨x, hx, e⟩ := HD.out.1 _ (aget_mem hg)
        have := HD.out.2.1 x hx
        rw [e] at this
        exact this
    case stop =>
      rintro D c pre W hD _ ⟨⟨rfl, ⟨y, hy, hne⟩, hq⟩, hst⟩ hK
      gi_wp2_with fail
      have hsD : Stay (fun j => j = D) W (W.putObj D (.deferred none)) := Stay.of_grown (grownBy_putObj' _ D (.deferred none)) (fun k _ e => by cases e; rfl)
      have hdb := hsD.blk hq (fun e => by omega)
      have hc5 := hdb.cell 0
      simp only [List.getElem?_cons_zero] at hc5
      refine ⟨by simp, .inl ⟨_, _, rfl, run_takeDeferred hK, ?_⟩⟩
      refine ⟨.bool false, by simp [results, Try.f23, go_sem, hc5], false, rfl, ⟨fun e => (by cases e), fun h => ?_⟩, (H2.out.2.1.trans hst (fun j hj e => by omega)).trans hsD (fun j hj e => by omega)⟩
      have h3 := h.2.2 y.1.1
      rw [H2.out.1.stk (aget_of_mem H2.out.1.keys (show (y.1.1, y.1.2) ∈ hs from y.2))] at h3
      exact absurd h3 hne

set_option maxRecDepth 100000 in
set_option maxHeartbeats 4000000 in
theorem sound_nil (w : World) : Calls Try.prog 23 #[.pointer none] w fun e w' => e = .returned (.bool false) ∧ Only w w' := by
  obtain ⟨w0, hw0⟩ : ∃ w0 : World, w0 = w.alloc (.cells #[.bool false] 4) := ⟨_, rfl⟩
  have hO0 : Only w w0 := by rw [hw0]; exact (Stay.refl _ w).alloc _
  have hB0 : Blk w0 w.heap.size 4 [.bool false] := by rw [hw0]; exact Blk.new w [.bool false] 4
  have H := Lib.hid (And.intro hO0 hB0)
  have k0 := hB0.cell
  have l0 := hB0.lt
  have f0 := hB0.free
  clear hO0 hB0
  refine (callsIn_wide (n := 8)).1 ?_
  refine callsIn_of_wp_marks Try.func23 rfl trivial ?_ rfl
  simp only [Try.ntmps23, List.size_toArray, List.length_cons, List.length_nil, Nat.reduceAdd, Nat.reduceSub, Array.replicate_succ, Array.replicate_zero, List.push_toArray, List.append_toArray, List.nil_append, List.cons_append]
  gi_upto_region 1 with fail
  rw [← hw0]
  clear hw0
  refine wpIn_wide.2 ?_
  go_quiet (fail)
  gi_wp2_with fail
  have hOn : Only w0 (w0.drewN nq) := (Stay.refl _ w0).drewN nq
  have hB := (hOn.blk H.out.2).set 0 (.bool false)
  have hc := hB.cell 0
  simp only [List.set_cons_zero, List.getElem?_cons_zero] at hc
  exact ⟨.bool false, by simp [results, Try.f23, go_sem, hc], rfl, (H.out.1.trans' hOn).new (Nat.le_refl _) _ _⟩

end Go.Proofs.Ytgjicobfbdikmaa
