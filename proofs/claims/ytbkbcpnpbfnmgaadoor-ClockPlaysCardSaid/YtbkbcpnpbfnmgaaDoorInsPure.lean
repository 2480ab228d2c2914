/- A timer put into a list of them from behind, place by place. -/
import Derived.Test.YtbkbcpnpbfnmgaaDoorClockSpec
set_option linter.unusedVariables false
set_option linter.unusedSimpArgs false
namespace Go.Proofs.YtbkbcpnpbfnmgaaDoor
open Go

def bef (a b : Tm) : Bool := decide (a.due < b.due ∨ a.due = b.due ∧ a.id < b.id)
theorem bef_tle {a b : Tm} : bef a b = !tle b a := by
  unfold bef tle
  rw [← decide_not]
  refine decide_eq_decide.2 ?_
  omega
theorem ins_done {l P Q : List Tm} {x : Tm} (hs : (P ++ Q).Pairwise (fun a b => tle a b = true)) (hp : l.Perm (P ++ Q)) (hq : ∀ y ∈ Q, tle x y = true) (hP : ∀ P' y, P = P' ++ [y] → tle y x = true) : P ++ x :: Q = tsort (l ++ [x]) := by
  refine (tsort_eq ?_ ?_).symm
  · rw [List.pairwise_append] at hs ⊢
    refine ⟨hs.1, List.pairwise_cons.2 ⟨hq, hs.2.1⟩, fun a ha b hb => ?_⟩
    rcases List.mem_cons.1 hb with rfl | hb
    · rcases List.eq_nil_or_concat P with rfl | ⟨P', y, rfl⟩
      · simp at ha
      · rw [List.concat_eq_append] at ha hs hP
        have hy := hP P' y rfl
        rcases List.mem_append.1 ha with ha | ha
        · exact tle_trans _ _ _ ((List.pairwise_append.1 hs.1).2.2 a ha y (List.mem_cons_self ..)) hy
        · obtain rfl := List.mem_singleton.1 ha
          exact hy
    · exact hs.2.2 a ha b hb
  · refine (hp.append_right [x]).trans ?_
    rw [List.append_assoc]
    refine List.Perm.append_left P ?_
    exact List.perm_append_comm
theorem ins_step {P' Q : List Tm} {x y : Tm} (hs : ((P' ++ [y]) ++ Q).Pairwise (fun a b => tle a b = true)) (hq : ∀ z ∈ Q, tle x z = true) (h : tle y x = false) : (P' ++ (y :: Q)).Pairwise (fun a b => tle a b = true) ∧ ∀ z ∈ y :: Q, tle x z = true := by
  refine ⟨by simpa using hs, fun z hz => ?_⟩
  rcases List.mem_cons.1 hz with rfl | hz
  · have := tle_total z x
    rw [h] at this
    simpa using this
  · exact hq z hz
end Go.Proofs.YtbkbcpnpbfnmgaaDoor
