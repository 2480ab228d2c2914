/- made: a table after some calls; Stuck and the states of a law's own table. -/
import Derived.Test.YtfifdgigeecfbaaLockClosed
import Derived.Test.YtfifdgigeecfbaaLockStates
set_option linter.unusedVariables false
set_option linter.unusedSimpArgs false
namespace Go.Proofs.Ytfifdgigeecfbaa
open Go Go.RowKit

section
variable {w W : World} {S : Nat → Prop} {b : Nat} {t : Tb} {d : Int}
theorem ot_stuck (h : OT w W S b t d) (hc : t.Cons) (hd : d ≤ 1000000) : Calls Try.prog 22 #[.pointer (some ⟨b, 0, none⟩)] W fun e w' => ∃ A c, e = .returned (.slice A t.stuck.length c) ∧ Rw W.heap.size w' S (.slice A t.stuck.length c) t.stuck ∧ Only W w' :=
  (stuck_any W S b t d h.lies h.ok hc hd).mono fun e w' ⟨v, h1, h2, h3⟩ => by
    obtain ⟨A, c, rfl⟩ := own_shape h2
    exact ⟨A, c, h1, ⟨h2, fun g hg hs => by have := (own_lt h2 g hg).1; have := h.lies.lt g hs; omega⟩, h3⟩
end

set_option maxRecDepth 100000 in
set_option maxHeartbeats 4000000 in
theorem made_any (w : World) (A : Option Addr) (n ca : Nat) (ops : List Op3) (hl : Sl w w.heap.size A n ca 3 (ops.flatMap Op3.cells)) (hlen : ops.length = n) :
    Calls Try.prog 24 #[.slice A n ca] w fun e w' => ∃ b t S, e = .returned (.pointer (some ⟨b, 0, none⟩)) ∧ OT w w' S b t 60 ∧ t.Cons := by
  have HL := Lib.hid (And.intro hl hlen)
  have hnc := hl.2.1
  have hcm := hl.2.2.1
  clear hl hlen
  go_enter Try.func24, Try.ntmps24
  go_wp2_with fail
  refine (own_newT w w (Stay.refl _ w) (d := 0) (by omega)).mono ?_
  rintro e w1 ⟨rfl, hT, _⟩
  have HT := Lib.hid (show OT w w1 (From w.heap.size w1) (w.heap.size + 1) Tb.new 0 from ⟨hT.lies, fun k hk => hk.1, hT.ok, hT.only⟩)
  clear hT
  go_upto_region 2 with fail
  go_cut [11, 12, 13] from 7 to 10 (fun a b i wc => ∃ m : Nat, m = min n 60 ∧ a = .slice A m ca ∧ b = .int .i64 (m : Nat) ∧ i = .int .i64 0 ∧ w1 = wc)
  case first =>
    go_wp2_with fail
    go_meet
    case rel => exact ⟨min n 60, rfl, congrArg (fun x => Value.slice A x ca) (by omega), congrArg (Value.int .i64) (by omega), rfl, rfl⟩
  case rest =>
    obtain ⟨m, hm, rfl, rfl, rfl, rfl⟩ := hcut
    have hmn : m ≤ n := by omega
    have hm80 : m ≤ 60 := by omega
    have hmc : m ≤ ca := by omega
    have HM := Lib.hid hm
    clear hm
    go_wp2_with fail
    go_loopg [13] m (fun kk vj wr => ∃ (j : Nat) (t : Tb) (S : Nat → Prop), j ≤ m ∧ kk = m - j ∧ vj = .int .i64 (j : Nat) ∧ OT w wr S (w.heap.size + 1) t j ∧ t.Cons)
    case atStart => exact ⟨0, _, _, Nat.zero_le _, rfl, rfl, HT.out, Tb.new_cons⟩
    case round =>
      obtain ⟨j, t, S, hj, hk, rfl, hOT, hC⟩ := hrel
      by_cases hlt : j < m
      · obtain ⟨o, ho⟩ : ∃ o, ops[j]? = some o := ⟨_, List.getElem?_eq_getElem (by have := HL.out.2; omega)⟩
        obtain ⟨ab, ao, rfl, hab, hcells⟩ := (HL.out.1.only hOT.only).elem Op3.cells_length ho (by omega)
        have g0 := hcells 0 _ rfl
        simp only [Nat.add_zero] at g0
        have g1 := hcells 1 _ rfl
        have g2 := hcells 2 _ rfl
        have HX := Lib.hid (And.intro hOT (And.intro hC hk))
        clear hOT hC hcells ho hk
        go_wp2_with fail
        refine (run_any (HX.out.1.alloc _) HX.out.2.1 (by omega) o).mono ?_
        rintro e w2 ⟨rfl, hT2, hs2⟩
        have HY := Lib.hid (And.intro hT2 (HX.out.2.1.run HX.out.1.ok o))
        clear hT2 hs2
        go_wp2_with fail
        go_roundg (m - (j + 1))
        case measure => have := HX.out.2.2; omega
        case rel => exact ⟨j + 1, _, _, by omega, rfl, by go_num, HY.out.1.more (by omega), HY.out.2⟩
      · have HX := Lib.hid (And.intro hOT hC)
        clear hOT hC hk
        go_wp2_with fail
        go_ret
        exact ⟨_, t, S, rfl, HX.out.1.more (by omega), HX.out.2⟩

end Go.Proofs.Ytfifdgigeecfbaa
