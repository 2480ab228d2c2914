/- agree: a ledger and the reference's. -/
import Derived.Test.YtgjicobfbdikmaaLedRefH
import Derived.Test.YtgjicobfbdikmaaLedRun
import Derived.Test.YtgjicobfbdikmaaIntEq
set_option linter.unusedVariables false
set_option linter.unusedSimpArgs false
namespace Go.Proofs.Ytgjicobfbdikmaa
open Go Go.RowKit

/-- A list handed out. -/
def LOut (w : World) (X : List Int) (e : Ending) (w' : World) : Prop := ∃ A c, e = .returned (.slice A X.length c) ∧ Sl w' w'.heap.size A X.length c 1 (ints X) ∧ Only w w'
theorem crossedX {w : World} {S : Nat → Prop} {b : Nat} {L : Lg} (h : LgAt w S b L) (hok : L.Ok) (X : List Int) (hX : srt L.cr = X) : Calls Try.prog 19 #[.pointer (some ⟨b, 0, none⟩)] w (LOut w X) :=
  (crossed_any w S b L h hok).mono fun e w' ⟨v, h1, h2, h3⟩ => by
    rw [← srt_length L.cr, hX] at h2
    obtain ⟨A, c, rfl⟩ := own_shape h2
    exact ⟨A, c, h1, own_sl' h2, h3⟩
theorem leaksX {w : World} {S : Nat → Prop} {b : Nat} {L : Lg} (h : LgAt w S b L) (hok : L.Ok) (X : List Int) (hX : srt L.lk = X) : Calls Try.prog 21 #[.pointer (some ⟨b, 0, none⟩)] w (LOut w X) :=
  (leaks_any w S b L h hok).mono fun e w' ⟨v, h1, h2, h3⟩ => by
    rw [← srt_length L.lk, hX] at h2
    obtain ⟨A, c, rfl⟩ := own_shape h2
    exact ⟨A, c, h1, own_sl' h2, h3⟩
theorem rcrossedX {w : World} {a b : Value} {R : RL} (h : RAt w a b R) (hf : R.Fit) (X : List Int) (hX : crsL R.es R.es.length = X) : Calls Try.prog 46 #[.agg #[a, b, .int .i64 R.time]] w (LOut w X) :=
  (rcrossed_any w a b R h hf).mono fun e w' ⟨v, h1, h2, h3⟩ => by
    rw [hX] at h2
    obtain ⟨A, c, rfl⟩ := own_shape h2
    exact ⟨A, c, h1, own_sl' h2, h3⟩
theorem rleaksX {w : World} {a b : Value} {R : RL} (h : RAt w a b R) (hf : R.Fit) (X : List Int) (hX : lkL R.lkd R.lkd.length = X) : Calls Try.prog 47 #[.agg #[a, b, .int .i64 R.time]] w (LOut w X) :=
  (rleaks_any w a b R h hf).mono fun e w' ⟨v, h1, h2, h3⟩ => by
    rw [hX] at h2
    obtain ⟨A, c, rfl⟩ := own_shape h2
    exact ⟨A, c, h1, own_sl' h2, h3⟩
theorem soundX {w : World} {S : Nat → Prop} {b : Nat} {L : Lg} {R : RL} (h : LgAt w S b L) (hI : L.Inv) (hR : Ref L R) : Calls Try.prog 23 #[.pointer (some ⟨b, 0, none⟩)] w fun e w' => e = .returned (.bool R.sound) ∧ Only w w' :=
  (sound_any w S b L h hI.ok).mono fun e w' ⟨r, h1, h2, h3⟩ => by
    refine ⟨?_, h3⟩
    rw [h1]
    congr 2
    have hs := hI.sound
    rw [hI.srt_cr, hR.srt_lk hI, ← hR.es] at hs
    have h4 : r = true ↔ R.sound = true := by
      rw [h2]
      unfold Lg.Sound RL.sound
      rw [hs]
      simp [and_assoc]
    cases r <;> cases hq : R.sound <;> simp_all
theorem eqX {w : World} {A B : Option Addr} {c d : Nat} {X : List Int} (h1 : Sl w w.heap.size A X.length c 1 (ints X)) (h2 : Sl w w.heap.size B X.length d 1 (ints X)) : Calls Try.prog 18 #[.slice A X.length c, .slice B X.length d] w fun e w' => e = .returned (.bool true) ∧ Only w w' :=
  (eqI_any w A B c d X X h1 h2).mono fun e w' ⟨h3, h4⟩ => ⟨by rw [h3]; simp, h4⟩
theorem Sl.step {w w' : World} {A : Option Addr} {n c : Nat} {xs : List Value} (h : Sl w w.heap.size A n c 1 xs) (ho : Only w w') : Sl w' w'.heap.size A n c 1 xs := h.later ho ho.size

/-- A ledger and the reference's, beside each other. -/
structure LR (w0 W : World) (S : Nat → Prop) (b : Nat) (L : Lg) (u v : Value) (R : RL) : Prop where
  ol : OL w0 S b L W
  inv : L.Inv
  ref : Ref L R
  at' : RAt W u v R
  u : ∀ g, u.ownBlock = some g → ¬ S g
  v : ∀ g, v.ownBlock = some g → ¬ S g
theorem LR.only {w0 W W' : World} {S : Nat → Prop} {b : Nat} {L : Lg} {u v : Value} {R : RL} (h : LR w0 W S b L u v R) (ho : Only W W') : LR w0 W' S b L u v R := ⟨h.ol.then ho, h.inv, h.ref, h.at'.only ho, h.u, h.v⟩
/-- Behind a call on the ledger: the reference's rows stay. -/
theorem LR.side {w0 W W' : World} {S S' : Nat → Prop} {b : Nat} {L : Lg} {u v : Value} {R : RL} (h : LR w0 W S b L u v R) (hx : Stay S W W') (hs : ∀ k, S' k → grow S W W' k) : RAt W' u v R ∧ (∀ g, u.ownBlock = some g → ¬ S' g) ∧ (∀ g, v.ownBlock = some g → ¬ S' g) :=
  ⟨h.at'.stay hx h.u h.v, fun g hg hk => by
    rcases hs g hk with h1 | h1
    · exact h.u g hg h1
    · have := (own_lt h.at'.er g hg).2
      omega, fun g hg hk => by
    rcases hs g hk with h1 | h1
    · exact h.v g hg h1
    · have := (own_lt h.at'.br g hg).2
      omega⟩

set_option maxRecDepth 100000 in
set_option maxHeartbeats 8000000 in
theorem agree_any {w0 W : World} {S : Nat → Prop} {b : Nat} {L : Lg} {u v : Value} {R : RL} (h : LR w0 W S b L u v R) :
    Calls Try.prog 28 #[.pointer (some ⟨b, 0, none⟩), .agg #[u, v, .int .i64 R.time]] W fun e w' => e = .returned (.bool true) ∧ ∃ S', LR w0 w' S' b L u v R ∧ (∀ k, S' k → grow S W w' k) ∧ Stay S W w' := by
  obtain ⟨Aa, ca, rfl⟩ := own_shape h.at'.er
  obtain ⟨Ab, cb, rfl⟩ := own_shape h.at'.br
  have hf := h.ref.fit h.ol.ok
  obtain ⟨X, hX⟩ : ∃ X, X = srt L.cr := ⟨_, rfl⟩
  have hX2 : crsL R.es R.es.length = X := by rw [hX, h.inv.srt_cr, h.ref.es]
  obtain ⟨Y, hY⟩ : ∃ Y, Y = srt L.lk := ⟨_, rfl⟩
  have hY2 : lkL R.lkd R.lkd.length = Y := by rw [hY, h.ref.srt_lk h.inv]
  obtain ⟨s, hs⟩ : ∃ s, s = R.sound := ⟨_, rfl⟩
  have H := Lib.hid (And.intro h (And.intro hf (And.intro hX (And.intro hX2 (And.intro hY (And.intro hY2 hs))))))
  have hes := h.ref.es
  have hl : R.es.length = L.es.length := by rw [hes]
  have HES := Lib.hid (And.intro hes hl)
  clear h hf hX hX2 hY hY2 hes hl
  go_enter Try.func28, Try.ntmps28
  go_upto_region 1 with fail
  obtain ⟨W0, hW0⟩ : ∃ W0 : World, W0 = W.alloc (.cells #[.slice Aa R.es.length ca, .slice Ab R.lkd.length cb, .int .i64 R.time] 49) := ⟨_, rfl⟩
  have hO0 : Only W W0 := by rw [hW0]; exact (Stay.refl _ W).alloc _
  have hB0 : Blk W0 W.heap.size 49 [.slice Aa R.es.length ca, .slice Ab R.lkd.length cb, .int .i64 R.time] := by rw [hW0]; exact Blk.new W [.slice Aa R.es.length ca, .slice Ab R.lkd.length cb, .int .i64 R.time] _
  rw [← hW0]
  have H0 := Lib.hid (And.intro (H.out.1.only hO0) (And.intro hO0 hB0))
  have c0 := hB0.cell 0
  have c1 := hB0.cell 1
  have c2 := hB0.cell 2
  have l0 := hB0.lt
  simp only [List.getElem?_cons_zero, List.getElem?_cons_succ] at c0 c1 c2
  clear hO0 hB0 hW0
  go_cut [42] from 10 to 42 (fun v wc => v = .bool false ∧ Only W0 wc)
  case first =>
    go_region_held3 (fun w' => w'.cell? ⟨W.heap.size, 0, none⟩ = some (.slice Aa R.es.length ca) ∧ w'.cell? ⟨W.heap.size, 1, none⟩ = some (.slice Ab R.lkd.length cb) ∧ w'.cell? ⟨W.heap.size, 2, none⟩ = some (.int .i64 R.time))
      (first
        | go_keep
        | (go_split_ands; refine ⟨?_, ?_, ?_⟩ <;> (first | (apply Only.cell o10; assumption) | (apply Only.cell o9; assumption) | (apply Only.cell o8; assumption) | (apply Only.cell o7; assumption) | (apply Only.cell o6; assumption) | (apply Only.cell o5; assumption) | (apply Only.cell o4; assumption) | (apply Only.cell o3; assumption) | (apply Only.cell o2; assumption) | (apply Only.cell o1; assumption))))
      (first
        | (go_at_call 14; refine (log_any _ S b L (H0.out.1.ol.then ((Stay.refl (fun _ => False) W0).drew)).at' H0.out.1.inv.ok).mono ?_; rintro e w1 ⟨v1, rfl, r1, o1⟩; obtain ⟨A1, d1, rfl⟩ := own_shape r1; have q1 : Only W0 w1 := Only.trans' ((Stay.refl (fun _ => False) W0).drew) o1; have l1 : W.heap.size < w1.heap.size := Nat.lt_of_lt_of_le l0 q1.size)
        | (go_at_call 26; refine (equalE_any w1 A1 Aa d1 ca L.es R.es (own_sl' r1) (own_sl H0.out.1.at'.er q1)).mono ?_; rintro e w2 ⟨rfl, o2⟩; rw [decide_eq_true HES.out.1.symm]; have q2 := q1.trans' o2; have l2 : W.heap.size < w2.heap.size := Nat.lt_of_lt_of_le l0 q2.size)
        | (go_at_call 19; refine (crossedX (H0.out.1.ol.then q2).at' H0.out.1.inv.ok X H.out.2.2.1.symm).mono ?_; rintro e w3 ⟨A3, d3, rfl, s3, o3⟩; have q3 := q2.trans' o3; have l3 : W.heap.size < w3.heap.size := Nat.lt_of_lt_of_le l0 q3.size)
        | (go_at_call 46; refine (rcrossedX (H0.out.1.at'.only q3) H.out.2.1 X H.out.2.2.2.1).mono ?_; rintro e w4 ⟨A4, d4, rfl, s4, o4⟩; have q4 := q3.trans' o4; have l4 : W.heap.size < w4.heap.size := Nat.lt_of_lt_of_le l0 q4.size)
        | (go_at_call 18; have hzz := s7; clear hzz; refine (eqX (s6.step o7) s7).mono ?_; rintro e w8 ⟨rfl, o8⟩; have q8 := q7.trans' o8; have l8 : W.heap.size < w8.heap.size := Nat.lt_of_lt_of_le l0 q8.size)
        | (go_at_call 18; refine (eqX (s3.step o4) s4).mono ?_; rintro e w5 ⟨rfl, o5⟩; have q5 := q4.trans' o5; have l5 : W.heap.size < w5.heap.size := Nat.lt_of_lt_of_le l0 q5.size)
        | (go_at_call 21; refine (leaksX (H0.out.1.ol.then q5).at' H0.out.1.inv.ok Y H.out.2.2.2.2.1.symm).mono ?_; rintro e w6 ⟨A6, d6, rfl, s6, o6⟩; have q6 := q5.trans' o6; have l6 : W.heap.size < w6.heap.size := Nat.lt_of_lt_of_le l0 q6.size)
        | (go_at_call 47; refine (rleaksX (H0.out.1.at'.only q6) H.out.2.1 Y H.out.2.2.2.2.2.1).mono ?_; rintro e w7 ⟨A7, d7, rfl, s7, o7⟩; have q7 := q6.trans' o7; have l7 : W.heap.size < w7.heap.size := Nat.lt_of_lt_of_le l0 q7.size)
        | (go_at_call 23; refine (soundX (H0.out.1.ol.then q8).at' H0.out.1.inv H0.out.1.ref).mono ?_; rintro e w9 ⟨rfl, o9⟩; rw [← H.out.2.2.2.2.2.2]; have q9 := q8.trans' o9; have l9 : W.heap.size < w9.heap.size := Nat.lt_of_lt_of_le l0 q9.size)
        | (go_at_call 48; refine (rsound_any w9 _ _ R (H0.out.1.at'.only q9) H.out.2.1).mono ?_; rintro e w10 ⟨rfl, o10⟩; rw [← H.out.2.2.2.2.2.2]; have q10 := q9.trans' o10; have l10 : W.heap.size < w10.heap.size := Nat.lt_of_lt_of_le l0 q10.size))
    all_goals
      go_wp2_with fail
      go_meet
      case rel => exact ⟨by simp, q10⟩
  case rest =>
    obtain ⟨rfl, hOc⟩ := hcut
    have hz0 : W.heap.size < W0.heap.size := l0
    have HC := Lib.hid (And.intro (H0.out.1.only hOc) (And.intro (H0.out.2.1.trans' hOc) (hOc.blk H0.out.2.2)))
    clear hOc c0 c1 c2 l0
    go_wp2_with fail
    go_loopg [5] 10 (fun kk vn wr => ∃ (t : Nat) (S' : Nat → Prop), t ≤ 10 ∧ kk = 10 - t ∧ vn = .int .i64 (t : Nat) ∧ LR w0 wr S' b L (.slice Aa R.es.length ca) (.slice Ab R.lkd.length cb) R ∧ (∀ k, S' k → S k ∨ (wc.heap.size ≤ k ∧ k < wr.heap.size)) ∧ Stay S W wr ∧ Blk wr W.heap.size 49 [.slice Aa R.es.length ca, .slice Ab R.lkd.length cb, .int .i64 R.time] ∧ wc.heap.size ≤ wr.heap.size)
    case atStart => exact ⟨0, S, by omega, by omega, rfl, HC.out.1, fun k hk => .inl hk, HC.out.2.1.mono (fun _ _ h => h.elim), HC.out.2.2, Nat.le_refl _⟩
    case round =>
      obtain ⟨t, S1, ht, hk, rfl, hL, hS1, hst, hB, hzr⟩ := hrel
      obtain ⟨wt, rfl⟩ : ∃ wt : World, wt = wr := ⟨_, rfl⟩
      have hWc : W.heap.size < wc.heap.size := HC.out.2.2.lt
      have hSW : ∀ k, S k → k < W.heap.size := H.out.1.ol.at'.lt
      have HSW := Lib.hid hSW
      clear hSW
      by_cases htl : t ≤ 9
      · have u0 : (t : Int) ≤ 9 := by omega
        have HT := Lib.hid (And.intro hL (And.intro hS1 (And.intro hst (And.intro hB hk))))
        clear hL hS1 hst hB hk
        go_wp2_with fail
        refine (ol_held HT.out.1.ol t).mono ?_
        rintro e w5 ⟨v5, S5, rfl, h5, hr5, hsep5, hsub5, hx5⟩
        obtain ⟨X5, hX5⟩ : ∃ X5, X5 = (if Bad (t : Int) 0 then [] else L.held t) := ⟨_, rfl⟩
        obtain ⟨z5, hz5⟩ : ∃ z5 : Int, z5 = (if Bad (t : Int) 0 then 2 else 0) := ⟨_, rfl⟩
        rw [← hX5] at hr5
        rw [← hz5]
        obtain ⟨A5, d5, rfl⟩ := own_shape hr5
        have hsd := HT.out.1.side hx5 hsub5
        have hB5 := hx5.blk HT.out.2.2.2.1 (fun hS => by
          rcases HT.out.2.1 _ hS with h | h
          · have := HSW.out _ h; omega
          · omega)
        have c0 := hB5.cell
        have l0 := hB5.lt
        have hzx := hx5.size
        have H5 := Lib.hid (And.intro (show LR w0 w5 S5 b L (.slice Aa R.es.length ca) (.slice Ab R.lkd.length cb) R from ⟨h5, HT.out.1.inv, HT.out.1.ref, hsd.1, hsd.2.1, hsd.2.2⟩) (And.intro hsub5 (And.intro hx5 (And.intro hB5 (And.intro (own_sl' hr5) (And.intro hX5 hz5))))))
        clear h5 hr5 hsep5 hsub5 hx5 hsd hB5 hX5 hz5
        go_wp2_with fail
        refine (rheld_any w5 _ _ R t H5.out.1.at' H.out.2.1).mono ?_
        rintro e w6 ⟨v6, rfl, hr6, hO6⟩
        have hhe : R.held (t : Int) = L.held t := H5.out.1.ref.held H5.out.1.inv t
        rw [hhe, ← H5.out.2.2.2.2.2.1] at hr6
        rw [← H5.out.2.2.2.2.2.2]
        obtain ⟨A6, d6, rfl⟩ := own_shape hr6
        have H6 := Lib.hid (And.intro (H5.out.2.2.2.2.1.step hO6) (And.intro (own_sl' hr6) hO6))
        clear hr6 hO6 hhe
        go_wp2_with fail
        refine (eqX H6.out.1 H6.out.2.1).mono ?_
        rintro e w7 ⟨rfl, hO7⟩
        have H7 := Lib.hid (H6.out.2.2.trans' hO7)
        clear hO7
        go_wp2_with fail
        have hz7 := H7.out.size
        go_roundg (10 - (t + 1))
        case measure => have := HT.out.2.2.2.2; omega
        case rel =>
          refine ⟨t + 1, S5, by omega, rfl, by go_num, H5.out.1.only H7.out, fun k hk => ?_, ?_, H7.out.blk H5.out.2.2.2.1, by omega⟩
          · rcases H5.out.2.1 k hk with h | h
            · rcases HT.out.2.1 k h with h' | h'
              · exact .inl h'
              · exact .inr ⟨h'.1, by omega⟩
            · exact .inr ⟨by omega, by omega⟩
          · refine (HT.out.2.2.1.trans H5.out.2.2.1 (fun i hi hS => ?_)).trans H7.out (fun _ _ h => h.elim)
            rcases HT.out.2.1 i hS with h | h
            · exact h
            · omega
      · obtain rfl : t = 10 := by omega
        have HT := Lib.hid (And.intro hL (And.intro hS1 hst))
        clear hL hS1 hst hB hk
        go_wp2_with fail
        go_ret
        refine ⟨rfl, S1, HT.out.1, fun k hk => ?_, HT.out.2.2⟩
        rcases HT.out.2.1 k hk with h | h
        · exact .inl h
        · exact .inr ⟨by omega, h.2⟩

end Go.Proofs.Ytgjicobfbdikmaa
