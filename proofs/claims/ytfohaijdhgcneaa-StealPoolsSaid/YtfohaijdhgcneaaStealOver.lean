/- Over. -/
import Derived.Test.YtfohaijdhgcneaaStealRead
set_option linter.unusedVariables false
set_option linter.unusedSimpArgs false
namespace Go.Proofs.Ytfohaijdhgcneaa
open Go Go.RowKit

/-- What Over asks of each actor. -/
def Asks (w : World) (abs : List Nat) (p : Nat → Bool) : Prop := ∀ (i ab : Nat), abs[i]? = some ab → ∃ n got opv nx gv, AcB w ab n got opv nx gv ∧ p i = decide (got.length < n)
set_option maxRecDepth 100000 in
set_option maxHeartbeats 4000000 in
theorem index_any {w : World} {A : Option Addr} {ca : Nat} {abs : List Nat} {p : Nat → Bool} (ha : w.ownsRow 0 87 1 (.slice A abs.length ca) abs.length (abs.map pt)) (hp : Asks w abs p) (hal : abs.length ≤ 1000) :
    Calls Try.prog 64 #[.slice A abs.length ca, .func (.func 54) #[] #[]] w fun e w' => ∃ r : Int, e = .returned (.int .i64 r) ∧ Only w w' ∧ ((r = -1 ∧ ∀ i, i < abs.length → p i = false) ∨ (0 ≤ r ∧ ∃ i, i < abs.length ∧ p i = true)) := by
  have HS := Lib.hid (And.intro ha hp)
  clear ha hp
  go_enter Try.func64, Try.ntmps64
  go_wp2_with fail
  go_loopg [8] (abs.length) (fun k vi wr => ∃ i : Nat, i ≤ abs.length ∧ k = abs.length - i ∧ vi = .int .i64 (i : Nat) ∧ Only w wr ∧ ∀ j, j < i → p j = false)
  case atStart => exact ⟨0, by omega, by omega, rfl, Stay.refl _ w, fun j hj => by omega⟩
  case round =>
    obtain ⟨i, hi, hk, rfl, hO, hf⟩ := hrel
    by_cases hq : i < abs.length
    · obtain ⟨ab, hab⟩ : ∃ ab, abs[i]? = some ab := ⟨_, List.getElem?_eq_getElem hq⟩
      obtain ⟨n, got, opv, nx, gv, hac, hpi⟩ := HS.out.2 i ab hab
      have hrow := own_only hO HS.out.1
      obtain ⟨ga, c2, eA, _, _⟩ := hrow.form (by omega)
      cases eA
      have za := hrow.cellAt i (by omega)
      rw [List.getElem?_map, hab] at za
      simp only [Option.map_some] at za
      unfold pt at za
      have HX := Lib.hid (And.intro hO (And.intro hk (And.intro hf (And.intro hac (And.intro hab hpi)))))
      clear hO hk hf hac hab hpi hrow
      go_wp2_with fail
      refine (over1_any (HX.out.2.2.2.1.only HX.out.1)).mono ?_
      rintro e w1 ⟨rfl, ho1⟩
      have HO := Lib.hid (Only.trans' HX.out.1 ho1)
      clear ho1
      rw [← HX.out.2.2.2.2.2]
      cases hpb : p i
      · have HB := Lib.hid hpb
        clear hpb
        go_wp2_with fail
        go_roundg (abs.length - (i + 1))
        case measure => have := HX.out.2.1; omega
        case rel => exact ⟨i + 1, hq, rfl, rfl, HO.out, fun j hj => by
          by_cases hji : j = i
          · rw [hji]; exact HB.out
          · exact HX.out.2.2.1 j (by omega)⟩
      · have HB := Lib.hid hpb
        clear hpb
        go_wp2_with fail
        go_ret
        exact ⟨i, rfl, HO.out, .inr ⟨by omega, i, hq, HB.out⟩⟩
    · have HX := Lib.hid (And.intro hO hf)
      clear hO hk hf
      go_wp2_with fail
      go_ret
      exact ⟨-1, rfl, HX.out.1, .inl ⟨rfl, fun j hj => HX.out.2 j (by omega)⟩⟩
set_option maxRecDepth 100000 in
set_option maxHeartbeats 4000000 in
theorem contains_any {w : World} {A : Option Addr} {ca : Nat} {abs : List Nat} {p : Nat → Bool} (ha : w.ownsRow 0 87 1 (.slice A abs.length ca) abs.length (abs.map pt)) (hp : Asks w abs p) (hal : abs.length ≤ 1000) :
    Calls Try.prog 53 #[.slice A abs.length ca, .func (.func 54) #[] #[]] w fun e w' => ∃ q, e = .returned (.bool q) ∧ Only w w' ∧ (q = true ↔ ∃ i, i < abs.length ∧ p i = true) := by
  have HS := Lib.hid (And.intro ha hp)
  clear ha hp
  go_enter Try.func53, Try.ntmps53
  go_wp2_with fail
  refine (index_any HS.out.1 HS.out.2 hal).mono ?_
  rintro e w1 ⟨r, rfl, ho, hr⟩
  have H := Lib.hid (And.intro ho hr)
  clear ho hr
  go_wp2_with fail
  go_ret
  refine ⟨_, rfl, H.out.1, ?_⟩
  rcases H.out.2 with ⟨h1, h2⟩ | ⟨h1, i, h2, h3⟩
  · subst h1
    simp
    intro i hi
    exact h2 i hi
  · simp [h1]
    exact ⟨i, h2, h3⟩
def Rc.over (R : Rc) : Bool := R.acts.all fun a => decide (a.n ≤ a.got.length)
set_option maxRecDepth 100000 in
set_option maxHeartbeats 4000000 in
theorem over_any {w : World} {L : Nat → Nat} {b : Nat} {R : Rc} (h : RaceOk w L b R) :
    Calls Try.prog 34 #[.pointer (some ⟨b, 0, none⟩)] w fun e w' => e = .returned (.bool R.over) ∧ Only w w' := by
  obtain ⟨cv, av, ov, tv, pv, rb, abs, h⟩ := h
  obtain ⟨Aa, ca, rfl⟩ := own_shape h.arow
  have c := h.core.blk.cell
  have l := h.core.blk.lt
  have hal : abs.length ≤ 1000 := by have := h.ok.al; have := h.len; omega
  have H := Lib.hid h
  clear h
  go_enter Try.func34, Try.ntmps34
  go_wp2_with fail
  refine (contains_any (p := fun i => match R.acts[i]? with | none => false | some a => decide (a.got.length < a.n)) H.out.arow (fun i ab hab => ?_) hal).mono ?_
  · obtain ⟨a, hi⟩ : ∃ a, R.acts[i]? = some a := ⟨_, List.getElem?_eq_getElem (by rw [← H.out.len]; exact (List.getElem?_eq_some_iff.1 hab).1)⟩
    obtain ⟨ob, nx, gv, ha⟩ := H.out.acts i ab a hab hi
    exact ⟨a.n, a.got, _, nx, gv, ha.ac, by simp only [hi]⟩
  rintro e w1 ⟨q, rfl, ho, hq⟩
  have H1 := Lib.hid (And.intro ho hq)
  clear ho hq
  go_wp2_with fail
  go_ret
  refine ⟨?_, H1.out.1⟩
  have e : R.over = !q := by
    have h1 := H1.out.2
    cases hqv : q
    · rw [hqv] at h1
      simp only [Bool.not_false]
      unfold Rc.over
      rw [List.all_eq_true]
      intro a ha
      obtain ⟨i, hi⟩ := List.getElem?_of_mem ha
      by_cases hlt : a.got.length < a.n
      · exact absurd (h1.2 ⟨i, by rw [H.out.len]; exact (List.getElem?_eq_some_iff.1 hi).1, by simp only [hi]; simpa using hlt⟩) (by simp)
      · simpa using Nat.le_of_not_lt hlt
    · rw [hqv] at h1
      obtain ⟨i, hi, hp⟩ := h1.1 rfl
      simp only [Bool.not_true]
      unfold Rc.over
      rw [List.all_eq_false]
      cases hai : R.acts[i]? with
      | none => rw [hai] at hp; simp at hp
      | some a =>
        rw [hai] at hp
        exact ⟨a, List.mem_of_getElem? hai, by simpa using hp⟩
  rw [e]
  rfl
end Go.Proofs.Ytfohaijdhgcneaa
