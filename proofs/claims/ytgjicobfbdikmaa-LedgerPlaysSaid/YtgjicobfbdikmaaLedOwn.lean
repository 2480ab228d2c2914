/- A ledger of the law's own; awake. -/
import Derived.Test.YtgjicobfbdikmaaLedSound
set_option linter.unusedVariables false
set_option linter.unusedSimpArgs false
namespace Go.Proofs.Ytgjicobfbdikmaa
open Go Go.RowKit

/-- A ledger in S, made since w0. -/
structure OL (w0 : World) (S : Nat → Prop) (b : Nat) (L : Lg) (w : World) : Prop where
  new : ∀ k, S k → w0.heap.size ≤ k
  at' : LgAt w S b L
  ok : L.Ok
  only : Only w0 w
theorem OL.then {w0 w w' : World} {S : Nat → Prop} {b : Nat} {L : Lg} (h : OL w0 S b L w) (ho : Only w w') : OL w0 S b L w' := ⟨h.new, h.at'.only ho, h.ok, h.only.trans' ho⟩
theorem OL.post {w0 w w' : World} {S : Nat → Prop} {b : Nat} {L L' : Lg} (h : OL w0 S b L w) (ha : LgAt w' (grow S w w') b L') (hs : Stay S w w') (hok : L'.Ok) : OL w0 (grow S w w') b L' w' :=
  ⟨fun k hk => by
    rcases hk with hk | hk
    · exact h.new k hk
    · exact Nat.le_trans h.only.size hk.1, ha, hok, h.only.trans hs (fun i hi hS => by have := h.new i hS; omega)⟩
theorem ol_new (w : World) : Calls Try.prog 11 #[] w fun e w' => e = .returned (ptr (w.heap.size + 1)) ∧ OL w (From w.heap.size w') (w.heap.size + 1) Lg.new w' :=
  (new_any w).mono fun e w' ⟨h1, h2, h3⟩ => ⟨h1, fun k hk => hk.1, h2, Lg.new_ok, h3⟩
theorem ol_acquire {w0 w : World} {S : Nat → Prop} {b : Nat} {L : Lg} (h : OL w0 S b L w) (t x : Int) :
    Calls Try.prog 12 #[.pointer (some ⟨b, 0, none⟩), .int .i64 t, .int .i64 x] w fun e w' => e = .returned (.int .i64 (L.acquire t x).2) ∧ OL w0 (grow S w w') b (L.acquire t x).1 w' ∧ Stay S w w' :=
  (acquire_any w S b L t x h.at' h.ok).mono fun e w' ⟨h1, h2, h3⟩ => ⟨h1, h.post h2 h3 (h.ok.acquire t x), h3⟩
theorem ol_release {w0 w : World} {S : Nat → Prop} {b : Nat} {L : Lg} (h : OL w0 S b L w) (t x : Int) :
    Calls Try.prog 13 #[.pointer (some ⟨b, 0, none⟩), .int .i64 t, .int .i64 x] w fun e w' => e = .returned (.int .i64 (L.release t x).2) ∧ OL w0 (grow S w w') b (L.release t x).1 w' ∧ Stay S w w' :=
  (release_any w S b L t x h.at' h.ok).mono fun e w' ⟨h1, h2, h3⟩ => ⟨h1, h.post h2 h3 (h.ok.release t x), h3⟩

def Lg.wake : Lg := ((Lg.new.acquire 1 7).1.release 1 7).1
theorem wake_es : Lg.wake.es = [⟨7, 1, 1, 2⟩] := by decide
theorem wake_ok : (Lg.new.acquire 1 7).2 = 0 ∧ ((Lg.new.acquire 1 7).1.release 1 7).2 = 0 := by decide
theorem wake_sound : Lg.wake.Sound := by
  refine ⟨by decide, by decide, fun t => ?_⟩
  by_cases h : t = 1
  · subst h; decide
  · have e : Lg.wake.stk = fput (fput (fun _ => []) 1 [0]) 1 [] := rfl
    rw [e, fput_other _ _ h, fput_other _ _ h]

set_option maxRecDepth 100000 in
set_option maxHeartbeats 4000000 in
theorem awake_any (w : World) : Calls Try.prog 15 #[] w fun e w' => e = .returned (.bool true) ∧ Only w w' := by
  go_enter Try.func15, Try.ntmps15
  go_wp2_with fail
  refine (ol_new w).mono ?_
  rintro e w1 ⟨rfl, h1⟩
  have H1 := Lib.hid h1
  clear h1
  unfold ptr
  go_wp2_with fail
  refine (ol_acquire H1.out 1 7).mono ?_
  rintro e w2 ⟨rfl, h2, _⟩
  have H2 := Lib.hid h2
  clear h2
  rw [wake_ok.1]
  go_wp2_with fail
  refine (ol_release H2.out 1 7).mono ?_
  rintro e w3 ⟨rfl, h3, _⟩
  have H3 := Lib.hid h3
  clear h3
  rw [wake_ok.2]
  go_wp2_with fail
  refine (log_any w3 _ _ _ H3.out.at' H3.out.ok).mono ?_
  rintro e w4 ⟨v, rfl, h4, o4⟩
  have H4 := Lib.hid (And.intro h4 o4)
  clear h4 o4
  go_wp2_with fail
  obtain ⟨w5, hw5⟩ : ∃ w5 : World, w5 = w4.alloc (.cells #[.int .i64 7, .int .i64 1, .int .i64 1, .int .i64 2] 36) := ⟨_, rfl⟩
  have hO5 : Only w4 w5 := by rw [hw5]; exact (Stay.refl _ w4).alloc _
  have hB5 : Blk w5 w4.heap.size 36 [.int .i64 7, .int .i64 1, .int .i64 1, .int .i64 2] := by rw [hw5]; exact Blk.new w4 [.int .i64 7, .int .i64 1, .int .i64 1, .int .i64 2] _
  rw [← hw5]
  have h4 := H4.out.1
  change w4.ownsRow w3.heap.size 36 4 v Lg.wake.es.length (Lg.wake.es.flatMap Ent.cells) at h4
  rw [wake_es] at h4
  obtain ⟨A, c, rfl⟩ := own_shape h4
  have hs1 := own_sl h4 hO5
  have hs2 : Sl w5 w5.heap.size (some ⟨w4.heap.size, 0, none⟩) 1 1 4 ([(⟨7, 1, 1, 2⟩ : Ent)].flatMap Ent.cells) := by
    refine ⟨rfl, by omega, by omega, fun e => (by cases e), fun _ => ⟨_, _, rfl, hB5.lt, fun j u hu => ?_⟩⟩
    rw [Nat.zero_add, hB5.cell j]
    exact hu
  have H5 := Lib.hid hO5
  clear hw5 hB5 h4 hO5
  refine (equalE_any w5 A (some ⟨w4.heap.size, 0, none⟩) c 1 [⟨7, 1, 1, 2⟩] [⟨7, 1, 1, 2⟩] hs1 hs2).mono ?_
  rintro e w6 ⟨rfl, o6⟩
  have hd : decide ([(⟨7, 1, 1, 2⟩ : Ent)] = [⟨7, 1, 1, 2⟩]) = true := by decide
  rw [hd]
  have H6 := Lib.hid (((H3.out.then H4.out.2).then H5.out).then o6)
  clear hs1 hs2 o6 hd
  go_wp2_with fail
  refine (sound_any w6 _ _ _ H6.out.at' H6.out.ok).mono ?_
  rintro e w7 ⟨r, rfl, hr, o7⟩
  obtain rfl : r = true := hr.2 wake_sound
  have H7 := Lib.hid (H6.out.only.trans' o7)
  clear hr o7
  go_wp2_with fail
  go_ret
  exact ⟨rfl, H7.out⟩

end Go.Proofs.Ytgjicobfbdikmaa
