/- run: a call of a law's list; made: a ledger after some calls. -/
import Derived.Test.YtgjicobfbdikmaaLedEnd
import Derived.Test.YtgjicobfbdikmaaLaw21Row
set_option linter.unusedVariables false
set_option linter.unusedSimpArgs false
namespace Go.Proofs.Ytgjicobfbdikmaa
open Go Go.RowKit

theorem OutPost.lies {w w' : World} {S : Nat → Prop} {b : Nat} {v : Value} {l : List Int} {L' : Lg} (h : OutPost w S b v l L' w') (hl : ∀ k, S k → k < w.heap.size) : LgAt w' (grow S w w') b L' := by
  obtain ⟨_, ⟨S', h1, h2, _⟩, hs⟩ := h
  exact h2.wide h1 (fun k hk => hk.lt hl hs.size)
theorem ol_end {w0 w : World} {S : Nat → Prop} {b : Nat} {L : Lg} (h : OL w0 S b L w) (t : Int) :
    Calls Try.prog 29 #[.pointer (some ⟨b, 0, none⟩), .int .i64 t] w fun e w' => ∃ v S', e = .returned (.tuple #[v, .int .i64 (L.fin t).2.2]) ∧ OL w0 S' b (L.fin t).1 w' ∧ w'.ownsRow w.heap.size 3 1 v (L.fin t).2.1.length (ints (L.fin t).2.1) ∧ (∀ g, v.ownBlock = some g → ¬ S' g) ∧ (∀ k, S' k → grow S w w' k) ∧ Stay S w w' :=
  (end_any w S b L t h.at' h.ok).mono fun e w' ⟨v, h1, h2, ⟨S', h3, h4, h5⟩, h6⟩ => ⟨v, S', h1, ⟨fun k hk => by
    rcases h3 k hk with hk | hk
    · exact h.new k hk
    · exact Nat.le_trans h.only.size hk.1, h4, h.ok.fin t, h.only.trans h6 (fun i hi hS => by have := h.new i hS; omega)⟩, h2, h5, h3, h6⟩
theorem ol_held {w0 w : World} {S : Nat → Prop} {b : Nat} {L : Lg} (h : OL w0 S b L w) (t : Int) :
    Calls Try.prog 20 #[.pointer (some ⟨b, 0, none⟩), .int .i64 t] w fun e w' => ∃ v S', e = .returned (.tuple #[v, .int .i64 (if Bad t 0 then 2 else 0)]) ∧ OL w0 S' b L w' ∧ w'.ownsRow w.heap.size 3 1 v (if Bad t 0 then [] else L.held t).length (ints (if Bad t 0 then [] else L.held t)) ∧ (∀ g, v.ownBlock = some g → ¬ S' g) ∧ (∀ k, S' k → grow S w w' k) ∧ Stay S w w' :=
  (held_any w S b L t h.at' h.ok).mono fun e w' ⟨v, h1, h2, ⟨S', h3, h4, h5⟩, h6⟩ => ⟨v, S', h1, ⟨fun k hk => by
    rcases h3 k hk with hk | hk
    · exact h.new k hk
    · exact Nat.le_trans h.only.size hk.1, h4, h.ok, h.only.trans h6 (fun i hi hS => by have := h.new i hS; omega)⟩, h2, h5, h3, h6⟩
theorem OL.step {w0 w w' : World} {S : Nat → Prop} {b : Nat} {L : Lg} (h : OL w0 S b L w) (ho : Only w w') : OL w0 (grow S w w') b L w' :=
  ⟨fun k hk => by
    rcases hk with hk | hk
    · exact h.new k hk
    · exact Nat.le_trans h.only.size hk.1, (h.at'.only ho).wide (fun _ => grow.old) (fun j hj => hj.lt h.at'.lt ho.size), h.ok, h.only.trans' ho⟩

theorem OL.side {w0 w w' : World} {S X : Nat → Prop} {b : Nat} {L : Lg} (h : OL w0 S b L w) (hx : Stay X w w') (hn : ∀ k, S k → ¬ X k) (h0 : ∀ k, X k → w0.heap.size ≤ k) : OL w0 S b L w' :=
  ⟨h.new, h.at'.stay hx hn (fun _ h => h) (fun j hj => Nat.lt_of_lt_of_le (h.at'.lt j hj) hx.size), h.ok, h.only.trans hx (fun i hi e => by have := h0 i e; omega)⟩

set_option maxRecDepth 100000 in
set_option maxHeartbeats 4000000 in
theorem run_any {w W : World} {S : Nat → Prop} {b : Nat} {L : Lg} (h : OL w S b L W) (o : LOp) :
    Calls Try.prog 16 #[.pointer (some ⟨b, 0, none⟩), .agg #[.int .i64 o.kind, .int .i64 o.task, .int .i64 o.what]] W fun e w' => e = .returned (.tuple #[]) ∧ OL w (grow S W w') b (L.step o) w' ∧ Stay S W w' := by
  have HH := Lib.hid h
  have hO0 := Lib.hid ((Stay.refl (fun _ => False) W).alloc (.cells #[.int .i64 o.kind, .int .i64 o.task, .int .i64 o.what] 33))
  have hgrow : Hid (∀ w', W.heap.size + 1 ≤ w'.heap.size → ∀ k, grow S (W.alloc (.cells #[.int .i64 o.kind, .int .i64 o.task, .int .i64 o.what] 33)) w' k → grow S W w' k) := by
    rintro w' hz k (hk | hk)
    · exact .inl hk
    · exact .inr ⟨by have := hk.1; simp at this; omega, hk.2⟩
  have fin : Hid (∀ w' L' (S' : Nat → Prop), OL w S' b L' w' → (∀ k, S' k → grow S (W.alloc (.cells #[.int .i64 o.kind, .int .i64 o.task, .int .i64 o.what] 33)) w' k) → Stay S (W.alloc (.cells #[.int .i64 o.kind, .int .i64 o.task, .int .i64 o.what] 33)) w' → OL w (grow S W w') b L' w' ∧ Stay S W w') := by
    intro w' L' S' hT hsub hs
    have hz := hs.size
    simp at hz
    refine ⟨⟨fun k hk => ?_, hT.at'.wide (fun k hk => hgrow.out w' hz k (hsub k hk)) (fun j hj => hj.lt HH.out.at'.lt (by omega)), hT.ok, hT.only⟩, (hO0.out.mono (fun _ _ h => h.elim)).trans hs (fun _ _ h => h)⟩
    rcases hk with hk | hk
    · exact HH.out.new k hk
    · exact Nat.le_trans HH.out.only.size hk.1
  clear h hgrow
  by_cases h0 : o.kind = 0
  · have hF := Lib.hid (show L.step o = (L.acquire o.task o.what).1 by unfold Lg.step; rw [if_pos h0])
    have b0 : (o.kind == 0) = true := by simp [h0]
    clear h0
    rw [hF.out]
    go_enter Try.func16, Try.ntmps16
    go_wp2_with fail
    refine (ol_acquire (HH.out.then hO0.out) o.task o.what).mono ?_
    rintro e w1 ⟨rfl, hT, hs⟩
    have HT := Lib.hid (And.intro hT hs)
    clear hT hs
    go_wp2_with fail
    go_end0
    exact ⟨rfl, fin.out _ _ _ HT.out.1 (fun _ h => h) HT.out.2⟩
  have b0 : (o.kind == 0) = false := by simp [h0]
  by_cases h1 : o.kind = 1
  · have hF := Lib.hid (show L.step o = (L.release o.task o.what).1 by unfold Lg.step; rw [if_neg h0, if_pos h1])
    have b1 : (o.kind == 1) = true := by simp [h1]
    clear h0 h1
    rw [hF.out]
    go_enter Try.func16, Try.ntmps16
    go_wp2_with fail
    refine (ol_release (HH.out.then hO0.out) o.task o.what).mono ?_
    rintro e w1 ⟨rfl, hT, hs⟩
    have HT := Lib.hid (And.intro hT hs)
    clear hT hs
    go_wp2_with fail
    go_end0
    exact ⟨rfl, fin.out _ _ _ HT.out.1 (fun _ h => h) HT.out.2⟩
  have b1 : (o.kind == 1) = false := by simp [h1]
  by_cases h2 : o.kind = 2
  · have hF := Lib.hid (show L.step o = (L.fin o.task).1 by unfold Lg.step; rw [if_neg h0, if_neg h1, if_pos h2])
    have b2 : (o.kind == 2) = true := by simp [h2]
    clear h0 h1 h2
    rw [hF.out]
    go_enter Try.func16, Try.ntmps16
    go_wp2_with fail
    refine (ol_end (HH.out.then hO0.out) o.task).mono ?_
    rintro e w1 ⟨v, S', rfl, hT, _, _, hsub, hs⟩
    have HT := Lib.hid (And.intro hT (And.intro hsub hs))
    clear hT hs hsub
    go_wp2_with fail
    go_end0
    exact ⟨rfl, fin.out _ _ _ HT.out.1 HT.out.2.1 HT.out.2.2⟩
  · have hF := Lib.hid (show L.step o = L by unfold Lg.step; rw [if_neg h0, if_neg h1, if_neg h2])
    have b2 : (o.kind == 2) = false := by simp [h2]
    clear h0 h1 h2
    rw [hF.out]
    go_enter Try.func16, Try.ntmps16
    go_wp2_with fail
    go_end0
    exact ⟨rfl, fin.out _ _ _ (HH.out.then hO0.out) (fun _ => grow.old) (Stay.refl _ _)⟩

theorem runs_take {L : Lg} {ops : List LOp} {j : Nat} {o : LOp} (h : ops[j]? = some o) : L.runs (ops.take (j + 1)) = (L.runs (ops.take j)).step o := by
  unfold Lg.runs
  rw [List.take_add_one, h, List.foldl_append]
  rfl

set_option maxRecDepth 100000 in
set_option maxHeartbeats 4000000 in
theorem made_any (w : World) (A : Option Addr) (len cap : Nat) (ops : List LOp) (hs : Sl w w.heap.size A len cap 3 (ops.flatMap LOp.cells)) (hl : ops.length = len) :
    Calls Try.prog 24 #[.slice A len cap] w fun e w' => e = .returned (ptr (w.heap.size + 1)) ∧ ∃ S, OL w S (w.heap.size + 1) (Lg.new.runs (ops.take 100)) w' := by
  have b1 := hs.2.1
  have b2 := hs.2.2.1
  have HS := Lib.hid (And.intro hs hl)
  clear hs
  go_enter Try.func24, Try.ntmps24
  go_wp2_with fail
  refine (ol_new w).mono ?_
  rintro e w1 ⟨rfl, h1⟩
  have H1 := Lib.hid h1
  clear h1
  unfold ptr
  go_upto_region 2 with fail
  go_cut [11, 12, 13] from 7 to 10 (fun a b i wc => ∃ m : Nat, m = min len 100 ∧ a = .slice A m cap ∧ b = .int .i64 (m : Nat) ∧ i = .int .i64 0 ∧ w1 = wc)
  case first =>
    go_wp2_with fail
    go_meet
    case rel => exact ⟨min len 100, rfl, congrArg (fun x => Value.slice A x cap) (by omega), congrArg (Value.int .i64) (by omega), rfl, rfl⟩
  case rest =>
    obtain ⟨m, hm, rfl, rfl, rfl, rfl⟩ := hcut
    have hmn : m ≤ len := by omega
    have hm100 : m ≤ 100 := by omega
    have hmc : m ≤ cap := by omega
    have HM := Lib.hid hm
    clear hm
    go_wp2_with fail
    go_loopg [13] m (fun kk vj wr => ∃ (j : Nat) (S : Nat → Prop), j ≤ m ∧ kk = m - j ∧ vj = .int .i64 (j : Nat) ∧ OL w S (w.heap.size + 1) (Lg.new.runs (ops.take j)) wr)
    case atStart => exact ⟨0, _, Nat.zero_le _, rfl, rfl, H1.out⟩
    case round =>
      obtain ⟨j, S, hj, hk, rfl, hOT⟩ := hrel
      by_cases hlt : j < m
      · obtain ⟨o, ho⟩ : ∃ o, ops[j]? = some o := ⟨_, List.getElem?_eq_getElem (by have := HS.out.2; omega)⟩
        obtain ⟨ab, ao, rfl, hab, hcells⟩ := (HS.out.1.only hOT.only).elem LOp.cells_length ho (by omega)
        have g0 := hcells 0 _ rfl
        simp only [Nat.add_zero] at g0
        have g1 := hcells 1 _ rfl
        have g2 := hcells 2 _ rfl
        have HX := Lib.hid (And.intro hOT (And.intro ho hk))
        clear hOT hcells ho hk
        go_wp2_with fail
        refine (run_any (HX.out.1.then ((Stay.refl (fun _ => False) _).alloc _)) o).mono ?_
        rintro e w2 ⟨rfl, hT2, hs2⟩
        have HY := Lib.hid hT2
        clear hT2 hs2
        go_wp2_with fail
        go_roundg (m - (j + 1))
        case measure => have := HX.out.2.2; omega
        case rel =>
          have hy := HY.out
          rw [← runs_take HX.out.2.1] at hy
          exact ⟨j + 1, _, by omega, rfl, by go_num, hy⟩
      · obtain rfl : j = m := by omega
        have HX := Lib.hid hOT
        clear hOT hk
        go_wp2_with fail
        go_ret
        have e1 : ops.take j = ops.take 100 := by
          have h2 := HS.out.2
          have h3 := HM.out
          by_cases h : len ≤ 100
          · rw [List.take_of_length_le (by omega), List.take_of_length_le (by omega)]
          · rw [show j = 100 by omega]
        rw [← e1]
        exact ⟨rfl, _, HX.out⟩

end Go.Proofs.Ytgjicobfbdikmaa
