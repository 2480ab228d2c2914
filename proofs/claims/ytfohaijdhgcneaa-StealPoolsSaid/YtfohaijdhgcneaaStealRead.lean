/- Got. -/
import Derived.Test.YtfohaijdhgcneaaStealAt
import Derived.Test.YtfohaijdhgcneaaIntClone
set_option linter.unusedVariables false
set_option linter.unusedSimpArgs false
namespace Go.Proofs.Ytfohaijdhgcneaa
open Go Go.RowKit

def Rc.got (R : Rc) (i : Int) : List Int := if i < 0 then [] else match R.acts[i.toNat]? with | none => [] | some a => a.got
set_option maxRecDepth 100000 in
set_option maxHeartbeats 4000000 in
theorem got_in {w : World} {b room n : Nat} {cells got : List Int} {top bot : Int} {cv av ov tv pv opv nx gv : Value} {abs : List Nat} {i ab : Nat} (h : Core w b room cells top bot cv av ov tv pv) (ha : w.ownsRow 0 87 1 av abs.length (abs.map pt)) (hab : abs[i]? = some ab) (hac : AcB w ab n got opv nx gv) (hal : abs.length ≤ 1000) (hgl : got.length ≤ 1000) :
    Calls Try.prog 17 #[.pointer (some ⟨b, 0, none⟩), .int .i64 i] w fun e w' => ∃ v', e = .returned v' ∧ w'.ownsRow w.heap.size 3 1 v' got.length (ints got) ∧ Only w w' := by
  have hil := (List.getElem?_eq_some_iff.1 hab).1
  obtain ⟨ga, ca, rfl, _, _⟩ := ha.form (by omega)
  have za := ha.cellAt i (by omega)
  rw [List.getElem?_map, hab] at za
  simp only [Option.map_some] at za
  obtain ⟨Ag, cg, rfl⟩ := own_shape hac.row
  have c := h.blk.cell
  have l := h.blk.lt
  have ca' := hac.blk.cell
  have la := hac.blk.lt
  have H := Lib.hid hac
  have u1 : ¬ ((i : Int) < 0) := by omega
  have u2 : (i : Int) < (abs.length : Int) := by omega
  clear h ha hac hil
  unfold pt at za
  go_enter Try.func17, Try.ntmps17
  go_wp2_with fail
  refine (cloneI_any _ Ag cg got (own_sl H.out.row (Stay.refl _ w)) (by omega)).mono ?_
  rintro e w1 ⟨v', rfl, hv, ho⟩
  have H1 := Lib.hid (And.intro hv ho)
  clear hv ho
  go_wp2_with fail
  go_ret
  exact ⟨v', rfl, H1.out.1, H1.out.2⟩
set_option maxRecDepth 100000 in
set_option maxHeartbeats 4000000 in
theorem got_low {w : World} (b : Nat) (i : Int) (hi : i < 0) : Calls Try.prog 17 #[.pointer (some ⟨b, 0, none⟩), .int .i64 i] w fun e w' => e = .returned (.slice none 0 0) ∧ Only w w' := by
  go_enter Try.func17, Try.ntmps17
  go_wp2_with fail
  go_ret
  exact ⟨rfl, Stay.refl _ w⟩
set_option maxRecDepth 100000 in
set_option maxHeartbeats 4000000 in
theorem got_high {w : World} {b room : Nat} {cells : List Int} {top bot : Int} {cv av ov tv pv : Value} {abs : List Nat} (h : Core w b room cells top bot cv av ov tv pv) (ha : w.ownsRow 0 87 1 av abs.length (abs.map pt)) (i : Int) (h0 : ¬ i < 0) (hi : (abs.length : Int) ≤ i) : Calls Try.prog 17 #[.pointer (some ⟨b, 0, none⟩), .int .i64 i] w fun e w' => e = .returned (.slice none 0 0) ∧ Only w w' := by
  obtain ⟨Aa, ca, rfl⟩ := own_shape ha
  have c := h.blk.cell
  have l := h.blk.lt
  clear h ha
  go_enter Try.func17, Try.ntmps17
  go_wp2_with fail
  go_ret
  exact ⟨rfl, Stay.refl _ w⟩
theorem got_any {w : World} {L : Nat → Nat} {b : Nat} {R : Rc} (h : RaceOk w L b R) (i : Int) :
    Calls Try.prog 17 #[.pointer (some ⟨b, 0, none⟩), .int .i64 i] w fun e w' => ∃ v', e = .returned v' ∧ w'.ownsRow w.heap.size 3 1 v' (R.got i).length (ints (R.got i)) ∧ Only w w' := by
  obtain ⟨cv, av, ov, tv, pv, rb, abs, h⟩ := h
  unfold Rc.got
  by_cases h0 : i < 0
  · rw [if_pos h0]
    exact (got_low b i h0).mono fun e w' ⟨h1, h2⟩ => ⟨_, h1, World.ownsRow_nil _ _ _ _, h2⟩
  rw [if_neg h0]
  obtain ⟨n, rfl⟩ : ∃ n : Nat, i = n := ⟨i.toNat, by omega⟩
  simp only [Int.toNat_natCast]
  cases hi : R.acts[n]? with
  | none =>
    have := List.getElem?_eq_none_iff.1 hi
    have := h.len
    exact (got_high h.core h.arow n h0 (by omega)).mono fun e w' ⟨h1, h2⟩ => ⟨_, h1, World.ownsRow_nil _ _ _ _, h2⟩
  | some a =>
    have hlt := (List.getElem?_eq_some_iff.1 hi).1
    obtain ⟨ab, hab⟩ : ∃ ab, abs[n]? = some ab := ⟨_, List.getElem?_eq_getElem (by rw [h.len]; exact hlt)⟩
    obtain ⟨ob, nx, gv, ha⟩ := h.acts n ab a hab hi
    have := h.ok.an n a hi
    have := h.ok.al
    have := h.len
    exact got_in h.core h.arow hab ha.ac (by omega) (show a.got.length ≤ 1000 by omega)
set_option maxRecDepth 100000 in
set_option maxHeartbeats 4000000 in
theorem over1_any {w : World} {ab n : Nat} {got : List Int} {opv nx gv : Value} (h : AcB w ab n got opv nx gv) :
    Calls Try.prog 54 #[.pointer (some ⟨ab, 0, none⟩)] w fun e w' => e = .returned (.bool (decide (got.length < n))) ∧ Only w w' := by
  obtain ⟨Ag, cg, rfl⟩ := own_shape h.row
  have c := h.blk.cell
  have l := h.blk.lt
  clear h
  go_enter Try.func54, Try.ntmps54
  go_wp2_with fail
  go_quiet (fail)
  go_wp2_with fail
  go_ret
  exact ⟨by simp, (Stay.refl _ w).drewN nq⟩
end Go.Proofs.Ytfohaijdhgcneaa
