/- What ClockFires asks of the timers, as plain lists. -/
import Derived.Test.YtbkbcpnpbfnmgaaDoorClockOps
set_option linter.unusedVariables false
set_option linter.unusedSimpArgs false
namespace Go.Proofs.YtbkbcpnpbfnmgaaDoor
open Go

theorem all_strict {C : Ck} (h : C.Ok) : C.all.Pairwise (fun a b => a.due < b.due ∨ a.due = b.due ∧ a.id < b.id) := by
  have hn : (C.all.map (·.id)).Nodup := ((tsort_perm C.ts).map _).nodup_iff.2 h.nodup
  rw [List.Nodup, List.pairwise_map] at hn
  refine ((tsort_sorted C.ts).and hn).imp fun {a b} hab => ?_
  have h1 := tle_iff.1 hab.1
  have h2 := hab.2
  omega
theorem all_at {C : Ck} (h : C.Ok) {i : Nat} {t : Tm} (ht : C.all[i]? = some t) : C.now ≤ t.due ∧ t.due ≤ maxT ∧ 1 ≤ t.id ∧ t.id ≤ maxT := by
  have hm : t ∈ C.ts := tsort_mem.1 (List.mem_of_getElem? ht)
  have h1 := h.due t hm
  have h2 := h.idr t hm
  have h3 := h.few
  omega
theorem all_two {C : Ck} (h : C.Ok) {i : Nat} {s t : Tm} (hs : C.all[i]? = some s) (ht : C.all[i + 1]? = some t) : s.due < t.due ∨ s.due = t.due ∧ s.id < t.id := by
  obtain ⟨h1, rfl⟩ := List.getElem?_eq_some_iff.1 hs
  obtain ⟨h2, rfl⟩ := List.getElem?_eq_some_iff.1 ht
  exact List.pairwise_iff_getElem.1 (all_strict h) i (i + 1) h1 h2 (by omega)
theorem all_next {C : Ck} {t : Tm} (ht : C.all[0]? = some t) : C.next = some t.due := by
  unfold Ck.next
  rw [List.head?_eq_getElem?, ht]
  rfl
theorem all_nil {C : Ck} (h : C.all.length = 0) : C.next = none := by
  unfold Ck.next
  rw [List.eq_nil_of_length_eq_zero h]
  rfl
/-- Those up to a time, of the first i; the others. -/
def Ck.dueTo (C : Ck) (x : Int) (i : Nat) : List Int := ((C.all.take i).filter fun t => decide ((t.due : Int) ≤ x)).map Tm.z
def Ck.restTo (C : Ck) (x : Int) (i : Nat) : List Tm := (C.all.take i).filter fun t => !decide ((t.due : Int) ≤ x)
theorem dueTo_len (C : Ck) (x : Int) (i : Nat) : (C.dueTo x i).length ≤ i := by
  unfold Ck.dueTo
  rw [List.length_map]
  exact Nat.le_trans (List.length_filter_le _ _) (by rw [List.length_take]; omega)
theorem restTo_len (C : Ck) (x : Int) (i : Nat) : (C.restTo x i).length ≤ i := by
  unfold Ck.restTo
  exact Nat.le_trans (List.length_filter_le _ _) (by rw [List.length_take]; omega)
theorem dueTo_yes {C : Ck} {x : Int} {i : Nat} {t : Tm} (ht : C.all[i]? = some t) (h : (t.due : Int) ≤ x) : C.dueTo x (i + 1) = C.dueTo x i ++ [t.z] ∧ C.restTo x (i + 1) = C.restTo x i := by
  unfold Ck.dueTo Ck.restTo
  rw [List.take_add_one, ht]
  simp [h]
theorem dueTo_no {C : Ck} {x : Int} {i : Nat} {t : Tm} (ht : C.all[i]? = some t) (h : ¬ (t.due : Int) ≤ x) : C.dueTo x (i + 1) = C.dueTo x i ∧ C.restTo x (i + 1) = C.restTo x i ++ [t] := by
  unfold Ck.dueTo Ck.restTo
  rw [List.take_add_one, ht]
  simp [h]
theorem dueTo_all (C : Ck) {x : Int} (h0 : 0 ≤ x) : C.dueTo x C.all.length = C.dues x.toNat ∧ C.restTo x C.all.length = (C.adv x.toNat).all := by
  unfold Ck.dueTo Ck.restTo Ck.dues
  rw [List.take_length]
  constructor
  · congr 1
    refine List.filter_congr fun t _ => decide_eq_decide.2 (by omega)
  · show _ = tsort (C.ts.filter fun t => !decide (t.due ≤ x.toNat))
    rw [← tsort_filter]
    refine List.filter_congr fun t _ => ?_
    congr 1
    exact decide_eq_decide.2 (by omega)
end Go.Proofs.YtbkbcpnpbfnmgaaDoor
