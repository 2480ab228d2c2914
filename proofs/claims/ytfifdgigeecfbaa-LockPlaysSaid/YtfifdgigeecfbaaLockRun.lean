/- run: a call of a law's list. -/
import Derived.Test.YtfifdgigeecfbaaLockOT
import Derived.Test.YtfifdgigeecfbaaLaw18Row
set_option linter.unusedVariables false
set_option linter.unusedSimpArgs false
namespace Go.Proofs.Ytfifdgigeecfbaa
open Go Go.RowKit

/-- The table behind a call, and whether it had no error. -/
def Tb.run (t : Tb) (o : Op3) : Tb × Bool :=
  if o.kind = 0 then ((t.make o.lock).1, (t.make o.lock).2.2 == 0) else
  if o.kind = 1 then ((t.hold o.lock o.party).1, (t.hold o.lock o.party).2.2 == 0) else
  if o.kind = 2 then ((t.free o.lock o.party).1, (t.free o.lock o.party).2.2 == 0) else
  if o.kind = 3 then ((t.withdraw o.party).1, true) else (t, true)
theorem Tb.Cons.run {t : Tb} {d : Int} (h : t.Cons) (hok : t.Ok d) (o : Op3) : (t.run o).1.Cons := by
  unfold Tb.run
  split
  · exact h.make _
  split
  · exact h.hold _ _
  split
  · exact h.free hok _ _
  split
  · exact h.withdraw _
  · exact h
theorem Tb.Ok.run {t : Tb} {d : Int} (hok : t.Ok d) (o : Op3) : (t.run o).1.Ok (d + 1) := by
  unfold Tb.run
  split
  · exact (hok.make _).mono (by omega)
  split
  · exact hok.hold _ _
  split
  · exact (hok.free _ _).mono (by omega)
  split
  · exact (hok.withdraw _).mono (by omega)
  · exact hok.mono (by omega)

set_option maxRecDepth 100000 in
set_option maxHeartbeats 4000000 in
theorem run_any {w W : World} {S : Nat → Prop} {b : Nat} {t : Tb} {d : Int} (h : OT w W S b t d) (hc : t.Cons) (hd : d ≤ 1000000) (o : Op3) :
    Calls Try.prog 16 #[.pointer (some ⟨b, 0, none⟩), .agg #[.int .i64 o.kind, .int .i64 o.lock, .int .i64 o.party]] W fun e w' => e = .returned (.bool (t.run o).2) ∧ OT w w' (grow S W w') b (t.run o).1 (d + 1) ∧ Stay S W w' := by
  have HH := Lib.hid (And.intro h hc)
  have hO0 := Lib.hid ((Stay.refl (fun _ => False) W).alloc (.cells #[.int .i64 o.kind, .int .i64 o.lock, .int .i64 o.party] 31))
  have hgrow : Hid (∀ w', W.heap.size + 1 ≤ w'.heap.size → ∀ k, grow S (W.alloc (.cells #[.int .i64 o.kind, .int .i64 o.lock, .int .i64 o.party] 31)) w' k → grow S W w' k) := by
    rintro w' hz k (hk | hk)
    · exact .inl hk
    · exact .inr ⟨by have := hk.1; simp at this; omega, hk.2⟩
  have fin : Hid (∀ w' t' d', OT w w' (grow S (W.alloc (.cells #[.int .i64 o.kind, .int .i64 o.lock, .int .i64 o.party] 31)) w') b t' d' → Stay S (W.alloc (.cells #[.int .i64 o.kind, .int .i64 o.lock, .int .i64 o.party] 31)) w' → d' ≤ d + 1 → OT w w' (grow S W w') b t' (d + 1) ∧ Stay S W w') := by
    intro w' t' d' hT hs hd'
    have hz := hs.size
    simp at hz
    refine ⟨⟨hT.lies.wide (hgrow.out w' hz) (fun j hj => hj.lt HH.out.1.lies.lt (by omega)), fun k hk => ?_, hT.ok.mono hd', hT.only⟩, (hO0.out.mono (fun _ _ h => h.elim)).trans hs (fun _ _ h => h)⟩
    rcases hk with hk | hk
    · exact HH.out.1.new k hk
    · exact Nat.le_trans HH.out.1.only.size hk.1
  clear h hc hgrow
  by_cases h0 : o.kind = 0
  · have hF := Lib.hid (show t.run o = ((t.make o.lock).1, (t.make o.lock).2.2 == 0) by unfold Tb.run; rw [if_pos h0])
    have b0 : (o.kind == 0) = true := by simp [h0]
    clear h0
    rw [hF.out]
    go_enter Try.func16, Try.ntmps16
    go_wp2_with fail
    refine (ot_make (HH.out.1.step hO0.out) o.lock).mono ?_
    rintro e w1 ⟨rfl, hT, hs⟩
    have HT := Lib.hid (And.intro hT hs)
    clear hT hs
    go_wp2_with fail
    go_ret
    exact ⟨rfl, fin.out _ _ _ HT.out.1 HT.out.2 (by omega)⟩
  have b0 : (o.kind == 0) = false := by simp [h0]
  by_cases h1 : o.kind = 1
  · have hF := Lib.hid (show t.run o = ((t.hold o.lock o.party).1, (t.hold o.lock o.party).2.2 == 0) by unfold Tb.run; rw [if_neg h0, if_pos h1])
    have b1 : (o.kind == 1) = true := by simp [h1]
    clear h0 h1
    rw [hF.out]
    go_enter Try.func16, Try.ntmps16
    go_wp2_with fail
    refine (ot_hold (HH.out.1.step hO0.out) hd o.lock o.party).mono ?_
    rintro e w1 ⟨rfl, hT, hs⟩
    have HT := Lib.hid (And.intro hT hs)
    clear hT hs
    go_wp2_with fail
    go_ret
    exact ⟨rfl, fin.out _ _ _ HT.out.1 HT.out.2 (by omega)⟩
  have b1 : (o.kind == 1) = false := by simp [h1]
  by_cases h2 : o.kind = 2
  · have hF := Lib.hid (show t.run o = ((t.free o.lock o.party).1, (t.free o.lock o.party).2.2 == 0) by unfold Tb.run; rw [if_neg h0, if_neg h1, if_pos h2])
    have b2 : (o.kind == 2) = true := by simp [h2]
    clear h0 h1 h2
    rw [hF.out]
    go_enter Try.func16, Try.ntmps16
    go_wp2_with fail
    refine (ot_free (HH.out.1.step hO0.out) hd o.lock o.party).mono ?_
    rintro e w1 ⟨rfl, hT, hs⟩
    have HT := Lib.hid (And.intro hT hs)
    clear hT hs
    go_wp2_with fail
    go_ret
    exact ⟨rfl, fin.out _ _ _ HT.out.1 HT.out.2 (by omega)⟩
  have b2 : (o.kind == 2) = false := by simp [h2]
  by_cases h3 : o.kind = 3
  · have hF := Lib.hid (show t.run o = ((t.withdraw o.party).1, true) by unfold Tb.run; rw [if_neg h0, if_neg h1, if_neg h2, if_pos h3])
    have b3 : (o.kind == 3) = true := by simp [h3]
    clear h0 h1 h2 h3
    rw [hF.out]
    go_enter Try.func16, Try.ntmps16
    go_wp2_with fail
    refine (ot_withdraw (HH.out.1.step hO0.out) HH.out.2 o.party).mono ?_
    rintro e w1 ⟨rfl, hT, hs⟩
    have HT := Lib.hid (And.intro hT hs)
    clear hT hs
    go_wp2_with fail
    go_ret
    exact ⟨rfl, fin.out _ _ _ HT.out.1 HT.out.2 (by omega)⟩
  · have hF := Lib.hid (show t.run o = (t, true) by unfold Tb.run; rw [if_neg h0, if_neg h1, if_neg h2, if_neg h3])
    have b3 : (o.kind == 3) = false := by simp [h3]
    clear h0 h1 h2 h3
    rw [hF.out]
    go_enter Try.func16, Try.ntmps16
    go_wp2_with fail
    go_ret
    have hT := HH.out.1.step hO0.out
    exact ⟨rfl, ⟨hT.lies.wide (fun _ => grow.old) (fun j hj => hj.lt HH.out.1.lies.lt hO0.out.size), fun k hk => by
      rcases hk with hk | hk
      · exact HH.out.1.new k hk
      · exact Nat.le_trans HH.out.1.only.size hk.1, hT.ok.mono (by omega), hT.only⟩, hO0.out.mono (fun _ _ h => h.elim)⟩

end Go.Proofs.Ytfifdgigeecfbaa
