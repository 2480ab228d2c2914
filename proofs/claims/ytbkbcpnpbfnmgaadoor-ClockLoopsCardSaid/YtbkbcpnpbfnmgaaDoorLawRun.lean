/- The law's own 'run', 'made', 'alike', 'awake'. -/
import Derived.Test.YtbkbcpnpbfnmgaaDoorClockOps
import Derived.Test.YtbkbcpnpbfnmgaaDoorLawAll
set_option linter.unusedVariables false
set_option linter.unusedSimpArgs false
namespace Go.Proofs.YtbkbcpnpbfnmgaaDoor
open Go Go.RowKit

structure KOp where
  kind : Int
  n : Int
def KOp.cells (o : KOp) : List Value := [.int .i64 o.kind, .int .i64 o.n]
theorem KOp.cells_length (o : KOp) : o.cells.length = 2 := rfl
def Ck.run (C : Ck) (o : KOp) : Ck × List Int :=
  if o.kind = 0 then ((C.arme o.n).1, [(C.arme o.n).2.1]) else if o.kind = 1 then ((C.dise o.n).1, []) else if o.kind = 2 then ((C.adve o.n).1, (C.adve o.n).2.1) else if o.kind = 3 then (C.ticke.1, C.ticke.2.1) else (C, [])
theorem Ck.made_arme {C : Ck} (d : Int) : (C.arme d).1.made ≤ C.made + 1 := by
  unfold Ck.arme
  split
  · simp
  · split
    · simp
    · simp [Ck.arm]
theorem Ck.made_run {C : Ck} (o : KOp) : (C.run o).1.made ≤ C.made + 1 := by
  unfold Ck.run
  split
  · exact Ck.made_arme _
  · split
    · exact Nat.le_succ _
    · split
      · unfold Ck.adve
        split <;> simp [Ck.adv]
      · split
        · unfold Ck.ticke
          split <;> simp [Ck.adv]
        · simp
theorem Ck.Ok.run {C : Ck} (h : C.Ok) (hm : C.made < maxT) (o : KOp) : (C.run o).1.Ok := by
  unfold Ck.run
  split
  · exact h.arme hm _
  · split
    · exact h.dise _
    · split
      · exact h.adve _
      · split
        · exact h.ticke
        · exact h
/-- Out of a call, from the world ahead of it. -/
theorem ResPost.ahead {w w1 w' : World} {S : Nat → Prop} {b : Nat} {C : Ck} {l : List Int} {v : Value} (h : ResPost w1 S b C l v w') (ho : Only w w1) : ResPost w S b C l v w' := by
  obtain ⟨S', h1, h2, h3, h4, h5⟩ := h
  exact ⟨S', owns_base h1 ho.size, h2, fun k hk => (h3 k hk).imp id (fun h => Nat.le_trans ho.size h), (ho.mono (fun _ _ h => h.elim)).trans h4 (fun _ _ h => h), h5⟩
theorem ResPost.then {w w1 w' : World} {S : Nat → Prop} {b : Nat} {C : Ck} {l : List Int} {v : Value} (h : ResPost w S b C l v w1) (ho : Only w1 w') : ResPost w S b C l v w' := by
  obtain ⟨S', h1, h2, h3, h4, h5⟩ := h
  exact ⟨S', own_only ho h1, h2.only ho, h3, h4.trans ho (fun _ _ h => h.elim), h5⟩
theorem ResPost.shape {w w' : World} {S : Nat → Prop} {b : Nat} {C : Ck} {l : List Int} {v : Value} (h : ResPost w S b C l v w') : ∃ A c, v = .slice A l.length c := by
  obtain ⟨S', h1, _⟩ := h
  exact own_shape h1
theorem ResPost.of_then {w w1 : World} {S : Nat → Prop} {b : Nat} {C : Ck} (h : CkThen w S b C w1) : ResPost w S b C [] (.slice none 0 0) w1 := by
  obtain ⟨S', h1, h2, h3⟩ := h
  exact ⟨S', World.ownsRow_nil _ _ _ _, h1, h2, h3, fun k hk => by simp [Value.ownBlock] at hk⟩
theorem ResPost.one {w w1 : World} {S : Nat → Prop} {b : Nat} {C : Ck} (h : CkThen w S b C w1) (x : Int) : ResPost w S b C [x] (.slice (some ⟨w1.heap.size, 0, none⟩) 1 1) (w1.alloc (.cells #[.int .i64 x] 3)) := by
  obtain ⟨S', h1, h2, h3⟩ := h
  have hr := owns_newAt w1 [.int .i64 x] 3 1 1 w1.heap.size rfl rfl (by simp [maxLen]) (base := w.heap.size) h3.size
  refine ⟨S', hr, h1.only ((Stay.refl _ w1).alloc _), h2, h3.alloc _, fun k hk hs => ?_⟩
  have e : w1.heap.size = k := by simpa [Value.ownBlock] using hk
  have := h1.lt hs
  omega
set_option maxRecDepth 100000 in
set_option maxHeartbeats 4000000 in
theorem run_any {w : World} {S : Nat → Prop} {b : Nat} {C : Ck} (h : CkAt w S b C) (hT : Tab w) (hg : ¬ S 0) (hm : C.made < maxT) (o : KOp) :
    Calls Tryd.prog 28 #[.pointer (some ⟨b, 0, none⟩), .agg #[.int .i64 o.kind, .int .i64 o.n]] w fun e w' => ∃ v, e = .returned v ∧ ResPost w S b (C.run o).1 (C.run o).2 v w' := by
  obtain ⟨kd, d⟩ := o
  have H := Lib.hid (And.intro h (And.intro hT hg))
  clear h hT hg
  obtain ⟨wa, hwa⟩ : ∃ wa, wa = w.alloc (.cells #[.int .i64 kd, .int .i64 d] 55) := ⟨_, rfl⟩
  have ho : Only w wa := by rw [hwa]; exact (Stay.refl _ w).alloc _
  have hX : Blk wa w.heap.size 55 [.int .i64 kd, .int .i64 d] := by rw [hwa]; exact Blk.new w [_, _] _
  have x0 := hX.cell 0
  have x1 := hX.cell 1
  simp only [List.getElem?_cons_zero, List.getElem?_cons_succ] at x0 x1
  have lx := hX.lt
  have HA := Lib.hid (And.intro ho (And.intro hwa hX))
  clear ho hwa hX
  obtain ⟨R, hR⟩ : ∃ R, R = C.run ⟨kd, d⟩ := ⟨_, rfl⟩
  rw [← hR]
  have HR := Lib.hid hR
  clear hR
  go_enter Tryd.func28, Tryd.ntmps28
  go_upto_region 2 with fail
  rw [← HA.out.2.1]
  by_cases h0 : kd = 0
  · have e : Hid (R = ((C.arme d).1, [(C.arme d).2.1])) := Lib.hid (by rw [HR.out]; unfold Ck.run; exact if_pos h0)
    have b0 : (kd == 0) = true := by simp [h0]
    clear h0
    go_wp2_with fail
    refine (arme_any (H.out.1.only HA.out.1) hm d).mono ?_
    rintro e w1 ⟨rfl, h1⟩
    obtain ⟨z, hz⟩ : ∃ z, z = (C.arme d).2.1 := ⟨_, rfl⟩
    obtain ⟨z2, hz2⟩ : ∃ z, z = (C.arme d).2.2 := ⟨_, rfl⟩
    rw [← hz, ← hz2]
    have H1 := Lib.hid (And.intro h1 hz)
    clear h1 hz hz2 x0 x1 lx
    go_wp2_with fail
    go_ret
    rw [e.out]
    exact ⟨_, rfl, (by rw [← H1.out.2]; exact (ResPost.one H1.out.1 z).ahead HA.out.1)⟩
  by_cases h1 : kd = 1
  · have e : Hid (R = ((C.dise d).1, [])) := Lib.hid (by rw [HR.out]; unfold Ck.run; simp only; rw [if_neg h0, if_pos h1])
    have b0 : (kd == 0) = false := by simp [h0]
    have b1 : (kd == 1) = true := by simp [h1]
    clear h0 h1
    go_wp2_with fail
    refine (dise_any (H.out.1.only HA.out.1) d).mono ?_
    rintro e w1 ⟨rfl, h1⟩
    have H1 := Lib.hid h1
    clear h1 x0 x1 lx
    go_wp2_with fail
    go_ret
    rw [e.out]
    exact ⟨_, rfl, (ResPost.of_then H1.out).ahead HA.out.1⟩
  by_cases h2 : kd = 2
  · have e : Hid (R = ((C.adve d).1, (C.adve d).2.1)) := Lib.hid (by rw [HR.out]; unfold Ck.run; simp only; rw [if_neg h0, if_neg h1, if_pos h2])
    have b0 : (kd == 0) = false := by simp [h0]
    have b1 : (kd == 1) = false := by simp [h1]
    have b2 : (kd == 2) = true := by simp [h2]
    clear h0 h1 h2
    go_wp2_with fail
    refine (adve_any (H.out.1.only HA.out.1) (H.out.2.1.only HA.out.1) H.out.2.2 d).mono ?_
    rintro e w1 ⟨v, rfl, h1⟩
    obtain ⟨A, c, rfl⟩ := h1.shape
    obtain ⟨n, hn⟩ : ∃ n, n = (C.adve d).2.1.length := ⟨_, rfl⟩
    obtain ⟨z2, hz2⟩ : ∃ z, z = (C.adve d).2.2 := ⟨_, rfl⟩
    rw [← hz2]
    have H1 := Lib.hid (And.intro h1 hn)
    rw [← hn]
    clear h1 x0 x1 lx hn hz2
    go_wp2_with fail
    go_ret
    rw [e.out]
    refine ⟨_, rfl, ?_⟩
    have h9 := H1.out.1.ahead HA.out.1
    rw [← H1.out.2] at h9
    exact h9
  by_cases h3 : kd = 3
  · have e : Hid (R = (C.ticke.1, C.ticke.2.1)) := Lib.hid (by rw [HR.out]; unfold Ck.run; simp only; rw [if_neg h0, if_neg h1, if_neg h2, if_pos h3])
    have b0 : (kd == 0) = false := by simp [h0]
    have b1 : (kd == 1) = false := by simp [h1]
    have b2 : (kd == 2) = false := by simp [h2]
    have b3 : (kd == 3) = true := by simp [h3]
    clear h0 h1 h2 h3
    go_wp2_with fail
    refine (ticke_any (H.out.1.only HA.out.1) (H.out.2.1.only HA.out.1) H.out.2.2).mono ?_
    rintro e w1 ⟨v, rfl, h1⟩
    obtain ⟨A, c, rfl⟩ := h1.shape
    obtain ⟨n, hn⟩ : ∃ n, n = C.ticke.2.1.length := ⟨_, rfl⟩
    obtain ⟨z2, hz2⟩ : ∃ z, z = C.ticke.2.2 := ⟨_, rfl⟩
    rw [← hz2]
    have H1 := Lib.hid (And.intro h1 hn)
    rw [← hn]
    clear h1 x0 x1 lx hn hz2
    go_wp2_with fail
    go_ret
    rw [e.out]
    refine ⟨_, rfl, ?_⟩
    have h9 := H1.out.1.ahead HA.out.1
    rw [← H1.out.2] at h9
    exact h9
  · have e : Hid (R = (C, [])) := Lib.hid (by rw [HR.out]; unfold Ck.run; simp only; rw [if_neg h0, if_neg h1, if_neg h2, if_neg h3])
    have b0 : (kd == 0) = false := by simp [h0]
    have b1 : (kd == 1) = false := by simp [h1]
    have b2 : (kd == 2) = false := by simp [h2]
    have b3 : (kd == 3) = false := by simp [h3]
    clear h0 h1 h2 h3
    go_wp2_with fail
    go_ret
    rw [e.out]
    exact ⟨_, rfl, ResPost.nil_ H.out.1 HA.out.1⟩
/-- After some calls. -/
def Ck.runs (C : Ck) (l : List KOp) : Ck := l.foldl (fun C o => (C.run o).1) C
theorem Ck.runs_succ {C : Ck} {l : List KOp} {j : Nat} {o : KOp} (ho : l[j]? = some o) : C.runs (l.take (j + 1)) = ((C.runs (l.take j)).run o).1 := by
  obtain ⟨hj, rfl⟩ := List.getElem?_eq_some_iff.1 ho
  unfold Ck.runs
  rw [List.take_succ_eq_append_getElem hj, List.foldl_append]
  rfl
theorem Ck.runs_ok : ∀ (l : List KOp) {C : Ck}, C.Ok → C.made + l.length < maxT → (C.runs l).Ok ∧ (C.runs l).made ≤ C.made + l.length
  | [], C, h, _ => ⟨h, Nat.le_refl _⟩
  | o :: l, C, h, hm => by
    have h1 := Ck.made_run (C := C) o
    have h2 := h.run (by simp only [List.length_cons] at hm; omega) o
    have h3 := Ck.runs_ok l h2 (by simp only [List.length_cons] at hm; omega)
    have e : C.runs (o :: l) = ((C.run o).1).runs l := rfl
    rw [e]
    simp only [List.length_cons]
    exact ⟨h3.1, by omega⟩
set_option maxRecDepth 100000 in
set_option maxHeartbeats 4000000 in
theorem made_any (w : World) (hT : Tab w) (A : Option Addr) (n ca : Nat) (ops : List KOp) (hl : Sl w w.heap.size A n ca 2 (ops.flatMap KOp.cells)) (hlen : ops.length = n) :
    Calls Tryd.prog 16 #[.slice A n ca] w fun e w' => ∃ b S, e = .returned (.pointer (some ⟨b, 0, none⟩)) ∧ OC w w' S b (Ck.new.runs (ops.take 60)) := by
  have HL := Lib.hid (And.intro hl hlen)
  have hnc := hl.2.1
  have hcm := hl.2.2.1
  have HTT := Lib.hid hT
  clear hl hlen hT
  go_enter Tryd.func16, Tryd.ntmps16
  go_wp2_with fail
  refine (new_any w).mono ?_
  rintro e w1 ⟨rfl, hC1, hO1⟩
  have H1 : Hid (OC w w1 (From w.heap.size w1) (w.heap.size + 1) Ck.new) := Lib.hid ⟨hC1, fun k hk => hk.1, hO1, HTT.out⟩
  clear hC1 hO1
  go_upto_region 2 with fail
  go_cut [11, 12, 13] from 7 to 10 (fun a b i wc => ∃ m : Nat, m = min n 60 ∧ a = .slice A m ca ∧ b = .int .i64 (m : Nat) ∧ i = .int .i64 0 ∧ w1 = wc)
  case first =>
    go_wp2_with fail
    go_meet
    case rel => exact ⟨min n 60, rfl, congrArg (fun x => Value.slice A x ca) (by omega), congrArg (Value.int .i64) (by omega), rfl, rfl⟩
  case rest =>
    obtain ⟨m, hm, rfl, rfl, rfl, rfl⟩ := hcut
    have hmn : m ≤ n := by omega
    have hm60 : m ≤ 60 := by omega
    have hmc : m ≤ ca := by omega
    have HM := Lib.hid hm
    clear hm
    go_wp2_with fail
    go_loopg [13] m (fun kk vj wr => ∃ (j : Nat) (S : Nat → Prop), j ≤ m ∧ kk = m - j ∧ vj = .int .i64 (j : Nat) ∧ OC w wr S (w.heap.size + 1) (Ck.new.runs (ops.take j)))
    case atStart => exact ⟨0, _, Nat.zero_le _, rfl, rfl, H1.out⟩
    case round =>
      obtain ⟨j, S, hj, hk, rfl, hC⟩ := hrel
      obtain ⟨wt, hwt⟩ : ∃ wt, wt = wr := ⟨_, rfl⟩
      rw [← hwt] at hC ⊢
      clear hwt
      by_cases hjm : j < m
      · obtain ⟨o, ho⟩ : ∃ o, ops[j]? = some o := ⟨_, List.getElem?_eq_getElem (by have := HL.out.2; omega)⟩
        obtain ⟨ab, ao, rfl, hab, hcells⟩ := (HL.out.1.only hC.only).elem KOp.cells_length ho (by omega)
        have g0 := hcells 0 _ rfl
        simp only [Nat.add_zero] at g0
        have g1 := hcells 1 _ rfl
        have hmade : (Ck.new.runs (ops.take j)).made < maxT := by
          have h1 := (Ck.runs_ok (ops.take j) Ck.new_ok (by have : (ops.take j).length ≤ 60 := (by rw [List.length_take]; omega); simp [Ck.new, maxT]; omega)).2
          have : (ops.take j).length ≤ 60 := by rw [List.length_take]; omega
          simp only [Ck.new, maxT] at h1 ⊢
          omega
        have hs := Ck.runs_succ (C := Ck.new) ho
        obtain ⟨C, hCC⟩ : ∃ C, C = Ck.new.runs (ops.take j) := ⟨_, rfl⟩
        rw [← hCC] at hC hmade hs
        have HX := Lib.hid (And.intro hC (And.intro hk (And.intro hs hmade)))
        obtain ⟨kd, d⟩ := o
        simp only at g0 g1
        clear hC hk hs hmade hcells ho hCC
        go_wp2_with fail
        have hoa : Only wt (wt.alloc (.cells #[.int .i64 kd, .int .i64 d] 55)) := (Stay.refl _ wt).alloc _
        refine (run_any (HX.out.1.then hoa).ck (HX.out.1.then hoa).tabw HX.out.1.g HX.out.2.2.2 ⟨kd, d⟩).mono ?_
        rintro e w2 ⟨v, rfl, S', hr, hC', hsub, hst, _⟩
        have H2 := Lib.hid ((HX.out.1.then hoa).next hC' hsub hst)
        obtain ⟨Av, cv, rfl⟩ := own_shape hr
        clear hr hC' hsub hst hoa
        go_wp2_with fail
        go_roundg (m - (j + 1))
        case measure => have := HX.out.2.1; omega
        case rel =>
          refine ⟨j + 1, S', by omega, rfl, by go_num, ?_⟩
          rw [HX.out.2.2.1]
          exact H2.out
      · obtain rfl : j = m := by omega
        have HX := Lib.hid hC
        clear hC hk
        go_wp2_with fail
        go_ret
        have e : ops.take 60 = ops.take j := by
          by_cases h60 : 60 ≤ n
          · rw [show j = 60 by have := HM.out; omega]
          · rw [List.take_of_length_le (by have := HL.out.2; omega), List.take_of_length_le (by have := HL.out.2; have := HM.out; omega)]
        rw [e]
        exact ⟨_, S, rfl, HX.out⟩
end Go.Proofs.YtbkbcpnpbfnmgaaDoor
