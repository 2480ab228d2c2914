/- play: a call on a ledger and on the reference's. -/
import Derived.Test.YtgjicobfbdikmaaLedAgree
import Derived.Test.YtgjicobfbdikmaaLedCopy
set_option linter.unusedVariables false
set_option linter.unusedSimpArgs false
namespace Go.Proofs.Ytgjicobfbdikmaa
open Go Go.RowKit

/-- Behind a call of the reference. -/
theorem LR.next {w0 w1 w2 : World} {S : Nat → Prop} {b : Nat} {L : Lg} {u v u' v' : Value} {R : RL} (ho : OL w0 S b L w1) (hi : L.Inv) (hR : Ref L R) (hP : RPost w1 u v u' v' R w2) (hu : ∀ g, u.ownBlock = some g → ¬ S g) (hv : ∀ g, v.ownBlock = some g → ¬ S g) : LR w0 w2 S b L u' v' R :=
  ⟨ho.then hP.2.2.2, hi, hR, hP.1, fun g hg hS => by
    rcases hP.2.1 g hg with h | h
    · exact hu g h hS
    · have := ho.at'.lt g hS
      omega, fun g hg hS => by
    rcases hP.2.2.1 g hg with h | h
    · exact hv g h hS
    · have := ho.at'.lt g hS
      omega⟩
theorem LR.put {w0 W : World} {S : Nat → Prop} {b n : Nat} {L : Lg} {u v : Value} {R : RL} {l : List Value} (h : LR w0 W S b L u v R) (hb : Blk W n 49 l) (hn : ¬ S n) (h0 : w0.heap.size ≤ n) (i : Nat) (x : Value) : LR w0 (W.setCell ⟨n, i, none⟩ x) S b L u v R :=
  ⟨h.ol.side (X := fun k => k = n) (Stay.put (S := fun k => k = n) (Stay.refl _ W) rfl i x) (fun k hk e => hn (e ▸ hk)) (fun k e => e ▸ h0), h.inv, h.ref, h.at'.put hb i x, h.u, h.v⟩
/-- The result of play. -/
def Played (w0 W : World) (S : Nat → Prop) (e : Ending) (w' : World) : Prop :=
  ∃ b' u' v' L' R' S', e = .returned (.tuple #[ptr b', .agg #[u', v', .int .i64 (R' : RL).time], .bool true]) ∧ LR w0 w' S' b' L' u' v' R' ∧ (∀ k, S' k → grow S W w' k) ∧ Stay S W w'

/-- Ahead of the comparison. -/
structure PMid (w0 W : World) (S : Nat → Prop) (wc : World) (b : Nat) (u v : Value) (L : Lg) (R : RL) (S' : Nat → Prop) : Prop where
  lr : LR w0 wc S' b L u v R
  sub : ∀ k, S' k → S k ∨ W.heap.size ≤ k
  st : Stay S W wc
  b4 : Blk wc W.heap.size 49 [u, v, .int .i64 R.time]
  b7 : Blk wc (W.heap.size + 1 + 1) 49 [.slice none 0 0, .slice none 0 0, .int .i64 0]
  n4 : ¬ S' W.heap.size
  n7 : ¬ S' (W.heap.size + 1 + 1)
theorem PMid.mk' {w0 W w2 : World} {S S' : Nat → Prop} {b : Nat} {L : Lg} {u v : Value} {R : RL} {l4 : List Value} (hl : LR w0 w2 S' b L u v R) (hsub : ∀ k, S' k → S k ∨ W.heap.size ≤ k) (hst : Stay S W w2) (h4 : Blk w2 W.heap.size 49 l4) (hl4 : l4.length = 3) (h7 : Blk w2 (W.heap.size + 1 + 1) 49 [.slice none 0 0, .slice none 0 0, .int .i64 0])
    (n4 : ¬ S' W.heap.size) (n7 : ¬ S' (W.heap.size + 1 + 1)) (hw : w0.heap.size ≤ W.heap.size) : PMid w0 W S (((w2.setCell ⟨W.heap.size, 0, none⟩ u).setCell ⟨W.heap.size, 1, none⟩ v).setCell ⟨W.heap.size, 2, none⟩ (.int .i64 R.time)) b u v L R S' := by
  match l4, hl4 with
  | [x0, x1, x2], _ =>
    have e1 := h4.set 0 u
    have e2 := e1.set 1 v
    exact ⟨((hl.put h4 n4 hw 0 u).put e1 n4 hw 1 v).put e2 n4 hw 2 _, hsub, ((hst.new (Nat.le_refl _) _ _).new (Nat.le_refl _) _ _).new (Nat.le_refl _) _ _, e2.set 2 _, ((h7.set_other (by simp; omega) _).set_other (by simp; omega) _).set_other (by simp; omega) _, n4, n7⟩

theorem PMid.only {w0 W wc w' : World} {S S' : Nat → Prop} {b : Nat} {L : Lg} {u v : Value} {R : RL} (h : PMid w0 W S wc b u v L R S') (ho : Only wc w') : PMid w0 W S w' b u v L R S' :=
  ⟨h.lr.only ho, h.sub, h.st.trans ho (fun _ _ h => h.elim), ho.blk h.b4, ho.blk h.b7, h.n4, h.n7⟩

set_option maxRecDepth 100000 in
set_option maxHeartbeats 8000000 in
theorem play_any {w0 W : World} {S : Nat → Prop} {b : Nat} {L : Lg} {u v : Value} {R : RL} (h : LR w0 W S b L u v R) (o : LOp) :
    Calls Try.prog 27 #[.pointer (some ⟨b, 0, none⟩), .agg #[u, v, .int .i64 R.time], .agg #[.int .i64 o.kind, .int .i64 o.task, .int .i64 o.what]] W (Played w0 W S) := by
  obtain ⟨Aa, ca, rfl⟩ := own_shape h.at'.er
  obtain ⟨Ab, cb, rfl⟩ := own_shape h.at'.br
  have H := Lib.hid h
  clear h
  go_enter Try.func27, Try.ntmps27
  go_upto_region 2 with fail
  obtain ⟨W0, hW0⟩ : ∃ W0 : World, W0 = ((W.alloc (.cells #[.slice Aa R.es.length ca, .slice Ab R.lkd.length cb, .int .i64 R.time] 49)).alloc (.cells #[.int .i64 o.kind, .int .i64 o.task, .int .i64 o.what] 33)).alloc (.cells #[.slice none 0 0, .slice none 0 0, .int .i64 0] 49) := ⟨_, rfl⟩
  have hO0 : Only W W0 := by rw [hW0]; exact (((Stay.refl _ W).alloc _).alloc _).alloc _
  have hB4 : Blk W0 W.heap.size 49 [.slice Aa R.es.length ca, .slice Ab R.lkd.length cb, .int .i64 R.time] := by rw [hW0]; exact ((Blk.new W [.slice Aa R.es.length ca, .slice Ab R.lkd.length cb, .int .i64 R.time] _).alloc _).alloc _
  have hB5 : Blk W0 (W.heap.size + 1) 33 [.int .i64 o.kind, .int .i64 o.task, .int .i64 o.what] := by rw [hW0]; exact (Blk.newAt _ [.int .i64 o.kind, .int .i64 o.task, .int .i64 o.what] _ _ (by simp)).alloc _
  have hB7 : Blk W0 (W.heap.size + 1 + 1) 49 [.slice none 0 0, .slice none 0 0, .int .i64 0] := by rw [hW0]; exact Blk.newAt _ [.slice none 0 0, .slice none 0 0, .int .i64 0] _ _ (by simp)
  rw [← hW0]
  have q5 := hB5.cell
  have m5 := hB5.lt
  have hSW := H.out.ol.at'.lt
  have H0 := Lib.hid (And.intro (H.out.only hO0) (And.intro hO0 (And.intro hB4 (And.intro hB5 (And.intro hB7 hSW)))))
  have hz0 : W.heap.size + 1 + 1 < W0.heap.size := hB7.lt
  have hw0 : w0.heap.size ≤ W.heap.size := H.out.ol.only.size
  clear hO0 hB4 hB5 hB7 hW0 hSW
  go_upto_block 0 with fail
  go_cut [0, 9] (fun v0 v9 wc => ∃ b' u' v' L' R' S', v0 = .pointer (some ⟨b', 0, none⟩) ∧ v9 = .bool true ∧ PMid w0 W S wc b' u' v' L' R' S')
  case first =>
    by_cases h0 : o.kind = 0
    · have t0 : (o.kind == 0) = true := by simp [h0]
      clear h0
      go_wp2_with fail
      refine (ol_acquire H0.out.1.ol o.task o.what).mono ?_
      rintro e w1 ⟨rfl, h1, hx1⟩
      have hsd := H0.out.1.side hx1 (fun _ h => h)
      have n4 : ¬ S W.heap.size := fun hS => by have := H0.out.2.2.2.2.2 _ hS; omega
      have n5 : ¬ S (W.heap.size + 1) := fun hS => by have := H0.out.2.2.2.2.2 _ hS; omega
      have n7 : ¬ S (W.heap.size + 1 + 1) := fun hS => by have := H0.out.2.2.2.2.2 _ hS; omega
      have g4 := hx1.blk H0.out.2.2.1 n4
      have g5 := hx1.blk H0.out.2.2.2.1 n5
      have g7 := hx1.blk H0.out.2.2.2.2.1 n7
      have hzx := hx1.size
      obtain ⟨z, hz⟩ : ∃ z, z = (L.acquire o.task o.what).2 := ⟨_, rfl⟩
      rw [← hz]
      have k4 := g4.cell
      have ll4 := g4.lt
      have k5 := g5.cell
      have ll5 := g5.lt
      have hRe := H0.out.1.ref.acq H0.out.1.inv o.task o.what
      have H1 := Lib.hid (And.intro h1 (And.intro hsd (And.intro g4 (And.intro g5 (And.intro g7 (And.intro (And.intro n4 (And.intro n5 n7)) (And.intro hz (And.intro hRe hx1))))))))
      clear h1 hx1 hsd g4 g5 g7 n4 n5 n7 hz hRe q5 m5
      go_wp2_with fail
      refine (racq_any w1 _ _ R o.task o.what H1.out.2.1.1 (H0.out.1.ref.fit H0.out.1.inv.ok)).mono ?_
      rintro e w2 ⟨a2, b2, rfl, hP⟩
      obtain ⟨R2, hR2⟩ : ∃ R2, R2 = (R.acq o.task o.what).1 := ⟨_, rfl⟩
      have hRe := H1.out.2.2.2.2.2.2.2.1
      rw [hRe.1, ← H1.out.2.2.2.2.2.2.1]
      rw [← hR2] at hP hRe
      rw [← hR2]
      obtain ⟨A2, d2, rfl⟩ := own_shape hP.1.er
      obtain ⟨B2, g2, rfl⟩ := own_shape hP.1.br
      have hLR := LR.next H1.out.1 (H0.out.1.inv.acquire o.task o.what) hRe.2 hP H1.out.2.1.2.1 H1.out.2.1.2.2
      have g4 := hP.2.2.2.blk H1.out.2.2.1
      have g7 := hP.2.2.2.blk H1.out.2.2.2.2.1
      have k4 := g4.cell
      have ll4 := g4.lt
      have ff4 := g4.free
      have hz2 := hP.2.2.2.size
      have H2 := Lib.hid (And.intro hLR (And.intro hP.2.2.2 (And.intro g4 g7)))
      clear hP hLR g4 g7 hRe hR2 k5 ll5
      go_wp2_with fail
      go_meet
      case rel =>
        refine ⟨_, _, _, _, _, _, rfl, by simp, PMid.only (PMid.mk' (S := S) (l4 := [.slice Aa R.es.length ca, .slice Ab R.lkd.length cb, .int .i64 R.time]) H2.out.1 (fun k hk => ?_) ?_ H2.out.2.2.1 rfl H2.out.2.2.2 (fun hS => ?_) (fun hS => ?_) hw0) ((Stay.refl (fun _ => False) _).alloc _)⟩
        · rcases hk with h | h
          · exact .inl h
          · exact .inr (by omega)
        · refine (((H0.out.2.1.mono (fun _ _ h => h.elim)).trans H1.out.2.2.2.2.2.2.2.2 (fun _ _ h => h)).trans H2.out.2.1 (fun _ _ h => h.elim))
        · rcases hS with h | h
          · exact H1.out.2.2.2.2.2.1.1 h
          · omega
        · rcases hS with h | h
          · exact H1.out.2.2.2.2.2.1.2.2 h
          · omega
    by_cases h1 : o.kind = 1
    · have t0 : (o.kind == 0) = false := by simp [h0]
      have t1 : (o.kind == 1) = true := by simp [h1]
      clear h0 h1
      go_wp2_with fail
      refine (ol_release H0.out.1.ol o.task o.what).mono ?_
      rintro e w1 ⟨rfl, h1, hx1⟩
      have hsd := H0.out.1.side hx1 (fun _ h => h)
      have n4 : ¬ S W.heap.size := fun hS => by have := H0.out.2.2.2.2.2 _ hS; omega
      have n5 : ¬ S (W.heap.size + 1) := fun hS => by have := H0.out.2.2.2.2.2 _ hS; omega
      have n7 : ¬ S (W.heap.size + 1 + 1) := fun hS => by have := H0.out.2.2.2.2.2 _ hS; omega
      have g4 := hx1.blk H0.out.2.2.1 n4
      have g5 := hx1.blk H0.out.2.2.2.1 n5
      have g7 := hx1.blk H0.out.2.2.2.2.1 n7
      have hzx := hx1.size
      obtain ⟨z, hz⟩ : ∃ z, z = (L.release o.task o.what).2 := ⟨_, rfl⟩
      rw [← hz]
      have k4 := g4.cell
      have ll4 := g4.lt
      have k5 := g5.cell
      have ll5 := g5.lt
      have hRe := H0.out.1.ref.release H0.out.1.inv o.task o.what
      have H1 := Lib.hid (And.intro h1 (And.intro hsd (And.intro g4 (And.intro g5 (And.intro g7 (And.intro (And.intro n4 (And.intro n5 n7)) (And.intro hz (And.intro hRe hx1))))))))
      clear h1 hx1 hsd g4 g5 g7 n4 n5 n7 hz hRe q5 m5
      go_wp2_with fail
      refine (rrel_any w1 _ _ R o.task o.what H1.out.2.1.1 (H0.out.1.ref.fit H0.out.1.inv.ok)).mono ?_
      rintro e w2 ⟨a2, b2, rfl, hP⟩
      obtain ⟨R2, hR2⟩ : ∃ R2, R2 = (R.release o.task o.what).1 := ⟨_, rfl⟩
      have hRe := H1.out.2.2.2.2.2.2.2.1
      rw [hRe.1, ← H1.out.2.2.2.2.2.2.1]
      rw [← hR2] at hP hRe
      rw [← hR2]
      obtain ⟨A2, d2, rfl⟩ := own_shape hP.1.er
      obtain ⟨B2, g2, rfl⟩ := own_shape hP.1.br
      have hLR := LR.next H1.out.1 (H0.out.1.inv.release o.task o.what) hRe.2 hP H1.out.2.1.2.1 H1.out.2.1.2.2
      have g4 := hP.2.2.2.blk H1.out.2.2.1
      have g7 := hP.2.2.2.blk H1.out.2.2.2.2.1
      have k4 := g4.cell
      have ll4 := g4.lt
      have ff4 := g4.free
      have hz2 := hP.2.2.2.size
      have H2 := Lib.hid (And.intro hLR (And.intro hP.2.2.2 (And.intro g4 g7)))
      clear hP hLR g4 g7 hRe hR2 k5 ll5
      go_wp2_with fail
      go_meet
      case rel =>
        refine ⟨_, _, _, _, _, _, rfl, by simp, PMid.only (PMid.mk' (S := S) (l4 := [.slice Aa R.es.length ca, .slice Ab R.lkd.length cb, .int .i64 R.time]) H2.out.1 (fun k hk => ?_) ?_ H2.out.2.2.1 rfl H2.out.2.2.2 (fun hS => ?_) (fun hS => ?_) hw0) ((Stay.refl (fun _ => False) _).alloc _)⟩
        · rcases hk with h | h
          · exact .inl h
          · exact .inr (by omega)
        · refine (((H0.out.2.1.mono (fun _ _ h => h.elim)).trans H1.out.2.2.2.2.2.2.2.2 (fun _ _ h => h)).trans H2.out.2.1 (fun _ _ h => h.elim))
        · rcases hS with h | h
          · exact H1.out.2.2.2.2.2.1.1 h
          · omega
        · rcases hS with h | h
          · exact H1.out.2.2.2.2.2.1.2.2 h
          · omega
    by_cases h2 : o.kind = 2
    · have t0 : (o.kind == 0) = false := by simp [h0]
      have t1 : (o.kind == 1) = false := by simp [h1]
      have t2 : (o.kind == 2) = true := by simp [h2]
      clear h0 h1 h2
      go_wp2_with fail
      refine (ol_end H0.out.1.ol o.task).mono ?_
      rintro e w1 ⟨v1, S1, rfl, h1, hr1, hsep1, hsub1, hx1⟩
      have hsd := H0.out.1.side hx1 hsub1
      have hz1 := hx1.size
      have n4 : ¬ S W.heap.size := fun hS => by have := H0.out.2.2.2.2.2 _ hS; omega
      have n5 : ¬ S (W.heap.size + 1) := fun hS => by have := H0.out.2.2.2.2.2 _ hS; omega
      have n7 : ¬ S (W.heap.size + 1 + 1) := fun hS => by have := H0.out.2.2.2.2.2 _ hS; omega
      have g4 := hx1.blk H0.out.2.2.1 n4
      have g5 := hx1.blk H0.out.2.2.2.1 n5
      have g7 := hx1.blk H0.out.2.2.2.2.1 n7
      obtain ⟨X, hX⟩ : ∃ X, X = (L.fin o.task).2.1 := ⟨_, rfl⟩
      obtain ⟨z, hz⟩ : ∃ z, z = (L.fin o.task).2.2 := ⟨_, rfl⟩
      rw [← hX] at hr1
      rw [← hz]
      obtain ⟨A1, d1, rfl⟩ := own_shape hr1
      have k4 := g4.cell
      have ll4 := g4.lt
      have k5 := g5.cell
      have ll5 := g5.lt
      have hRe := H0.out.1.ref.fin H0.out.1.inv o.task
      have H1 := Lib.hid (And.intro h1 (And.intro hsd (And.intro g4 (And.intro g5 (And.intro g7 (And.intro (And.intro n4 (And.intro n5 n7)) (And.intro (And.intro hX hz) (And.intro hRe (And.intro hx1 (And.intro hr1 hsub1))))))))))
      clear h1 hx1 hsd g4 g5 g7 n4 n5 n7 hz hX hRe q5 m5 hr1 hsep1 hsub1
      go_wp2_with fail
      refine (rend_any w1 _ _ R o.task H1.out.2.1.1 (H0.out.1.ref.fit H0.out.1.inv.ok)).mono ?_
      rintro e w2 ⟨a2, b2, v2, rfl, hP, hr2⟩
      obtain ⟨R2, hR2⟩ : ∃ R2, R2 = (R.fin o.task).1 := ⟨_, rfl⟩
      have hRe := H1.out.2.2.2.2.2.2.2.1
      rw [hRe.1, ← H1.out.2.2.2.2.2.2.1.1] at hr2
      rw [hRe.1, ← H1.out.2.2.2.2.2.2.1.2]
      rw [← hR2] at hP hRe
      rw [← hR2]
      obtain ⟨A2, d2, rfl⟩ := own_shape hP.1.er
      obtain ⟨B2, g2, rfl⟩ := own_shape hP.1.br
      obtain ⟨A3, d3, rfl⟩ := own_shape hr2
      have hLR := LR.next H1.out.1 (H0.out.1.inv.fin o.task) hRe.2 hP H1.out.2.1.2.1 H1.out.2.1.2.2
      have g4 := hP.2.2.2.blk H1.out.2.2.1
      have g7 := hP.2.2.2.blk H1.out.2.2.2.2.1
      have k4 := g4.cell
      have ll4 := g4.lt
      have ff4 := g4.free
      have hz2 := hP.2.2.2.size
      have hs1 := own_only hP.2.2.2 H1.out.2.2.2.2.2.2.2.2.2.1
      have hnb2 : ∀ g, (Value.slice A3 X.length d3).ownBlock = some g → g ≠ W.heap.size := fun g hg e => by have := (own_lt hr2 g hg).1; omega
      have hnb1 : W.heap.size < w1.heap.size := by omega
      have H2 := Lib.hid (And.intro hLR (And.intro hP.2.2.2 (And.intro g4 (And.intro g7 (And.intro hs1 hr2)))))
      clear hP hLR g4 g7 hRe hR2 k5 ll5 hs1 hr2 hnb2
      go_wp2_with fail
      have hM := PMid.only (PMid.mk' (S := S) (l4 := [.slice Aa R.es.length ca, .slice Ab R.lkd.length cb, .int .i64 R.time]) H2.out.1 (fun k hk => by
        rcases H1.out.2.2.2.2.2.2.2.2.2.2 k hk with h | h
        · exact .inl h
        · exact .inr (by omega)) (((H0.out.2.1.mono (fun _ _ h => h.elim)).trans H1.out.2.2.2.2.2.2.2.2.1 (fun _ _ h => h)).trans H2.out.2.1 (fun _ _ h => h.elim)) H2.out.2.2.1 rfl H2.out.2.2.2.1 (fun hS => by
        rcases H1.out.2.2.2.2.2.2.2.2.2.2 _ hS with h | h
        · exact H1.out.2.2.2.2.2.1.1 h
        · omega) (fun hS => by
        rcases H1.out.2.2.2.2.2.2.2.2.2.2 _ hS with h | h
        · exact H1.out.2.2.2.2.2.1.2.2 h
        · omega) hw0) ((Stay.refl (fun _ => False) _).alloc (.cells #[.slice A2 R2.es.length d2, .slice B2 R2.lkd.length g2, .int .i64 R2.time] 49))
      have rx : ∀ {B : Nat} {vv : Value}, W.heap.size < B → w2.ownsRow B 3 1 vv X.length (ints X) → ((((w2.setCell ⟨W.heap.size, 0, none⟩ (.slice A2 R2.es.length d2)).setCell ⟨W.heap.size, 1, none⟩ (.slice B2 R2.lkd.length g2)).setCell ⟨W.heap.size, 2, none⟩ (.int .i64 R2.time)).alloc (.cells #[.slice A2 R2.es.length d2, .slice B2 R2.lkd.length g2, .int .i64 R2.time] 49)).ownsRow B 3 1 vv X.length (ints X) := fun {B vv} hB hr => by
        have hne : ∀ g, vv.ownBlock = some g → g ≠ W.heap.size := fun g hg e => by have := (own_lt hr g hg).1; omega
        exact own_alloc (own_set (own_set (own_set hr (A := ⟨W.heap.size, 0, none⟩) _ hne) (A := ⟨W.heap.size, 1, none⟩) _ hne) (A := ⟨W.heap.size, 2, none⟩) _ hne) _
      have rx1 := rx (by omega) H2.out.2.2.2.2.1
      have rx2 := rx (by omega) H2.out.2.2.2.2.2
      obtain ⟨w3, hw3⟩ : ∃ w3, w3 = ((((w2.setCell ⟨W.heap.size, 0, none⟩ (.slice A2 R2.es.length d2)).setCell ⟨W.heap.size, 1, none⟩ (.slice B2 R2.lkd.length g2)).setCell ⟨W.heap.size, 2, none⟩ (.int .i64 R2.time)).alloc (.cells #[.slice A2 R2.es.length d2, .slice B2 R2.lkd.length g2, .int .i64 R2.time] 49)) := ⟨_, rfl⟩
      rw [← hw3] at hM rx1 rx2 ⊢
      have H3 := Lib.hid hM
      clear hM hw3 rx k4 ll4 ff4
      refine (eqX (own_sl' rx1) (own_sl' rx2)).mono ?_
      rintro e w4 ⟨rfl, hO4⟩
      have H4 := Lib.hid hO4
      clear hO4 rx1 rx2
      go_wp2_with fail
      go_meet
      case rel => exact ⟨_, _, _, _, _, _, rfl, by simp, H3.out.only H4.out⟩
    have t0 : (o.kind == 0) = false := by simp [h0]
    have t1 : (o.kind == 1) = false := by simp [h1]
    have t2 : (o.kind == 2) = false := by simp [h2]
    clear h0 h1 h2
    go_wp2_with fail
    refine (ledCopy_any W0 S b L H0.out.1.ol.at' H0.out.1.inv.ok).mono ?_
    rintro e w1 ⟨b1, rfl, h1, hO1⟩
    have H1 := Lib.hid (And.intro h1 hO1)
    clear h1 hO1
    go_wp2_with fail
    go_meet
    case rel =>
      have hz1 := H1.out.2.size
      refine ⟨b1, _, _, L, R, From W0.heap.size w1, rfl, rfl, ⟨⟨⟨fun k hk => ?_, H1.out.1, H0.out.1.inv.ok, H0.out.1.ol.only.trans' H1.out.2⟩, H0.out.1.inv, H0.out.1.ref, H0.out.1.at'.only H1.out.2, fun g hg hk => ?_, fun g hg hk => ?_⟩, fun k hk => .inr ?_, (H0.out.2.1.trans' H1.out.2).mono (fun _ _ h => h.elim), H1.out.2.blk H0.out.2.2.1, H1.out.2.blk H0.out.2.2.2.2.1, fun hk => ?_, fun hk => ?_⟩⟩
      · have := hk.1; omega
      · have := (own_lt H.out.at'.er g hg).2; have := hk.1; omega
      · have := (own_lt H.out.at'.br g hg).2; have := hk.1; omega
      · have := hk.1; omega
      · have := hk.1; omega
      · have := hk.1; omega
  case rest =>
    obtain ⟨b', u', v', L', R', S', rfl, rfl, hM⟩ := hcut
    obtain ⟨A4, d4, rfl⟩ := own_shape hM.lr.at'.er
    obtain ⟨B4, g4, rfl⟩ := own_shape hM.lr.at'.br
    have k4 := hM.b4.cell
    have ll4 := hM.b4.lt
    have k7 := hM.b7.cell
    have ll7 := hM.b7.lt
    have ff7 := hM.b7.free
    have hput : Hid (∀ V, Stay (fun k => k = W.heap.size + 1 + 1) wc V → PMid w0 W S wc b' (.slice A4 R'.es.length d4) (.slice B4 R'.lkd.length g4) L' R' S' → LR w0 V S' b' L' (.slice A4 R'.es.length d4) (.slice B4 R'.lkd.length g4) R' ∧ Stay S W V ∧ wc.heap.size ≤ V.heap.size ∧ Blk V W.heap.size 49 [.slice A4 R'.es.length d4, .slice B4 R'.lkd.length g4, .int .i64 R'.time]) := by
      intro V hV hM
      refine ⟨⟨hM.lr.ol.side hV (fun k hk e => hM.n7 (e ▸ hk)) (fun k e => by omega), hM.lr.inv, hM.lr.ref, hM.lr.at'.stay hV (fun g hg e => own_ne_blk hM.lr.at'.er hM.b7 (by decide) g hg e) (fun g hg e => own_ne_blk hM.lr.at'.br hM.b7 (by decide) g hg e), hM.lr.u, hM.lr.v⟩, hM.st.trans hV (fun i hi e => by omega), hV.size, hV.blk hM.b4 (by omega)⟩
    have HM := Lib.hid hM
    clear hM
    go_upto_region 19 with fail
    go_region_with (go_at_call 28; refine (agree_any (hput.out _ (by first | exact (Stay.refl _ wc).drew | exact ((((Stay.refl (fun k => k = W.heap.size + 1 + 1) wc).drew).put rfl _ _).put rfl _ _).put rfl _ _) HM.out).1).mono ?_; rintro e w5 ⟨rfl, S5, hL5, hsub5, hx5⟩; have g7 := hx5.blk (by first | exact HM.out.b7.drew | exact (((HM.out.b7.drew).set 0 _).set 1 _).set 2 _) HM.out.n7; have k7 := g7.cell; have ll7 := g7.lt; have ff7 := g7.free; have g4' := hx5.blk (hput.out _ (by first | exact (Stay.refl _ wc).drew | exact ((((Stay.refl (fun k => k = W.heap.size + 1 + 1) wc).drew).put rfl _ _).put rfl _ _).put rfl _ _) HM.out).2.2.2 HM.out.n4; have k4 := g4'.cell; have ll4 := g4'.lt; have HZ := Lib.hid (And.intro hL5 (And.intro hsub5 (And.intro hx5 g7))); clear hL5 hsub5 hx5 g7 g4')
    all_goals
      go_wp2_with fail
      have hn7c : W.heap.size + 1 + 1 < wc.heap.size := HM.out.b7.lt
      have n5 : ¬ S5 (W.heap.size + 1 + 1) := fun hS => by
        rcases HZ.out.2.1 _ hS with h | h
        · exact HM.out.n7 h
        · have := h.1
          simp at this
          omega
      have z0 := HZ.out.2.2.2.set 0 (.slice A4 R'.es.length d4)
      have z1 := z0.set 1 (.slice B4 R'.lkd.length g4)
      have z2 := z1.set 2 (.int .i64 R'.time)
      have hLf := ((HZ.out.1.put HZ.out.2.2.2 n5 (by omega) 0 (.slice A4 R'.es.length d4)).put z0 n5 (by omega) 1 (.slice B4 R'.lkd.length g4)).put z1 n5 (by omega) 2 (.int .i64 R'.time)
      have r0 := z2.cell 0
      have r1 := z2.cell 1
      have r2 := z2.cell 2
      simp only [List.set_cons_zero, List.set_cons_succ, List.getElem?_cons_zero, List.getElem?_cons_succ] at r0 r1 r2
      refine bodyPost_ret (v := .tuple #[.pointer (some ⟨b', 0, none⟩), .agg #[.slice A4 R'.es.length d4, .slice B4 R'.lkd.length g4, .int .i64 R'.time], .bool true]) (by simp [results, Try.results27, go_sem, r0, r1, r2]) rfl ?_
      refine ⟨b', _, _, L', R', S5, rfl, hLf, fun k hk => ?_, ?_⟩
      · have hlt := hLf.ol.at'.lt k hk
        rcases HZ.out.2.1 k hk with h | h
        · rcases HM.out.sub k h with h' | h'
          · exact .inl h'
          · exact .inr ⟨h', hlt⟩
        · have := h.1
          simp at this
          exact .inr ⟨by omega, hlt⟩
      · refine ((((HM.out.st.drew).trans HZ.out.2.2.1 (fun i hi hS => ?_)).new (by omega) _ _).new (by omega) _ _).new (by omega) _ _
        rcases HM.out.sub i hS with h | h
        · exact h
        · omega

end Go.Proofs.Ytgjicobfbdikmaa
