/- NewRace, where it refuses. -/
import Derived.Test.YtfohaijdhgcneaaStealNew
set_option linter.unusedVariables false
set_option linter.unusedSimpArgs false
namespace Go.Proofs.Ytfohaijdhgcneaa
open Go Go.RowKit

/-- What NewRace takes. -/
structure Valid (room : Int) (own thv : List Int) : Prop where
  r1 : 1 ≤ room
  r2 : room ≤ 16
  o : own.length ≤ 60
  t : thv.length ≤ 8
  ox : ∀ x ∈ own, 0 ≤ x ∧ x ≤ 1000000
  tx : ∀ x ∈ thv, 0 ≤ x ∧ x ≤ 60
theorem getD_mem {l : List Int} {i : Nat} (h : i < l.length) : l.getD i 0 ∈ l := by
  rw [List.getD_eq_getElem?_getD, List.getElem?_eq_getElem h]
  exact List.getElem_mem h
theorem all_upto {l : List Int} {p : Int → Prop} (h : ∀ j, j < l.length → p (l.getD j 0)) : ∀ x ∈ l, p x := fun x hx => by
  obtain ⟨j, hj, rfl⟩ := List.getElem_of_mem hx
  have := h j hj
  rwa [List.getD_eq_getElem?_getD, List.getElem?_eq_getElem hj] at this
set_option maxRecDepth 100000 in
set_option maxHeartbeats 4000000 in
theorem newrace_bad (w : World) (room : Int) (own thv : List Int) (A B : Option Addr) (ca cb : Nat) (hA : Sl w w.heap.size A own.length ca 1 (ints own)) (hB : Sl w w.heap.size B thv.length cb 1 (ints thv)) (hl1 : own.length ≤ 1000) (hl2 : thv.length ≤ 1000) (hv : ¬ Valid room own thv) :
    Calls Try.prog 38 #[.int .i64 room, .slice A own.length ca, .slice B thv.length cb] w fun e w' => e = .returned (.tuple #[.pointer none, .int .i64 2]) ∧ Only w w' := by
  have HS := Lib.hid (And.intro hA (And.intro hB hv))
  clear hA hB hv
  go_enter Try.func38, Try.ntmps38
  by_cases h1 : room < 1
  · have b1 : decide (room < 1) = true := decide_eq_true h1
    clear h1
    go_wp2_with fail
    go_ret2
    exact ⟨rfl, Stay.refl _ w⟩
  by_cases h2 : room > 16
  · have b1 : decide (room < 1) = false := decide_eq_false h1
    have b2 : decide (room > 16) = true := decide_eq_true h2
    go_wp2_with fail
    go_ret2
    exact ⟨rfl, Stay.refl _ w⟩
  by_cases h3 : 60 < own.length
  · go_wp2_with fail
    go_ret2
    exact ⟨rfl, Stay.refl _ w⟩
  by_cases h4 : 8 < thv.length
  · go_wp2_with fail
    go_ret2
    exact ⟨rfl, Stay.refl _ w⟩
  go_wp2_with fail
  go_loopg [35] (own.length) (fun k vi wr => ∃ i : Nat, i ≤ own.length ∧ k = own.length - i ∧ vi = .int .i64 (i : Nat) ∧ Only w wr ∧ ∀ j, j < i → 0 ≤ own.getD j 0 ∧ own.getD j 0 ≤ 1000000)
  case atStart => exact ⟨0, by omega, by omega, rfl, Stay.refl _ w, fun j hj => by omega⟩
  case round =>
    obtain ⟨i, hi, hk, rfl, hO, hg⟩ := hrel
    by_cases hp : i < own.length
    · obtain ⟨xb, xo, rfl, hxb, hxc⟩ := (HS.out.1.only hO).ints_at (by omega)
      have e0 := hxc i hp
      obtain ⟨x, hxe⟩ : ∃ x, x = own.getD i 0 := ⟨_, rfl⟩
      rw [← hxe] at e0
      have hlt : xb < wr.heap.size := Nat.lt_of_lt_of_le hxb hO.size
      have HX := Lib.hid (And.intro hO (And.intro hk (And.intro hg hxe)))
      clear hO hk hxc hxe hg
      by_cases c1 : x < 0
      · go_wp2_with fail
        go_ret2
        exact ⟨rfl, HX.out.1⟩
      by_cases c2 : 1000000 < x
      · go_wp2_with fail
        go_ret2
        exact ⟨rfl, HX.out.1⟩
      go_wp2_with fail
      go_roundg (own.length - (i + 1))
      case measure => have := HX.out.2.1; omega
      case rel => exact ⟨i + 1, hp, rfl, rfl, HX.out.1, fun j hj => by
        by_cases hji : j = i
        · subst hji
          rw [← HX.out.2.2.2]
          omega
        · exact HX.out.2.2.1 j (by omega)⟩
    · have HX := Lib.hid (And.intro hO (fun j hj => hg j (by omega) : ∀ j, j < own.length → 0 ≤ own.getD j 0 ∧ own.getD j 0 ≤ 1000000))
      clear hO hk hg
      obtain ⟨w0, hw0⟩ : ∃ w0, w0 = wr := ⟨_, rfl⟩
      rw [← hw0] at HX ⊢
      clear hw0
      go_wp2_with fail
      go_loopg [48] (thv.length) (fun k vi wr => ∃ i : Nat, i ≤ thv.length ∧ k = thv.length - i ∧ vi = .int .i64 (i : Nat) ∧ Only w wr ∧ ∀ j, j < i → 0 ≤ thv.getD j 0 ∧ thv.getD j 0 ≤ 60)
      case atStart => exact ⟨0, by omega, by omega, rfl, HX.out.1, fun j hj => by omega⟩
      case round =>
        obtain ⟨i2, hi2, hk, rfl, hO, hg⟩ := hrel
        by_cases hp2 : i2 < thv.length
        · obtain ⟨xb, xo, rfl, hxb, hxc⟩ := (HS.out.2.1.only hO).ints_at (by omega)
          have e0 := hxc i2 hp2
          obtain ⟨x, hxe⟩ : ∃ x, x = thv.getD i2 0 := ⟨_, rfl⟩
          rw [← hxe] at e0
          have hlt : xb < wr.heap.size := Nat.lt_of_lt_of_le hxb hO.size
          have HX2 := Lib.hid (And.intro hO (And.intro hk (And.intro hg hxe)))
          clear hO hk hxc hxe hg
          by_cases c1 : x < 0
          · go_wp2_with fail
            go_ret2
            exact ⟨rfl, HX2.out.1⟩
          by_cases c2 : 60 < x
          · go_wp2_with fail
            go_ret2
            exact ⟨rfl, HX2.out.1⟩
          go_wp2_with fail
          go_roundg (thv.length - (i2 + 1))
          case measure => have := HX2.out.2.1; omega
          case rel => exact ⟨i2 + 1, hp2, rfl, rfl, HX2.out.1, fun j hj => by
            by_cases hji : j = i2
            · subst hji
              rw [← HX2.out.2.2.2]
              omega
            · exact HX2.out.2.2.1 j (by omega)⟩
        · exact absurd (Valid.mk (by omega) (by omega) (by omega) (by omega) (all_upto HX.out.2) (all_upto (fun j hj => hg j (by omega)))) HS.out.2.2
end Go.Proofs.Ytfohaijdhgcneaa
