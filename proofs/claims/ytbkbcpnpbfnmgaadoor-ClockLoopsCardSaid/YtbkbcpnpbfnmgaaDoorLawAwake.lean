/- The law's own 'alike' and 'awake'. -/
import Derived.Test.YtbkbcpnpbfnmgaaDoorLawRun
import Derived.Test.YtbkbcpnpbfnmgaaDoorLawEq
import Derived.Test.YtbkbcpnpbfnmgaaDoorIntEq
set_option linter.unusedVariables false
set_option linter.unusedSimpArgs false
namespace Go.Proofs.YtbkbcpnpbfnmgaaDoor
open Go Go.RowKit

theorem tsort_one (t : Tm) : tsort [t] = [t] := tsort_eq (by simp) (List.Perm.refl _)
def Ck.like (C D : Ck) : Bool := decide (C.now = D.now ∧ C.all = D.all)
theorem all_len {C : Ck} (h : C.Ok) : C.all.length ≤ 400 := by unfold Ck.all; rw [tsort_length]; exact h.len
theorem eqT_own {w : World} {base base' : Nat} {v u : Value} {xs ys : List Tm} (hx : w.ownsRow base 39 2 v xs.length (xs.flatMap Tm.cells)) (hy : w.ownsRow base' 39 2 u ys.length (ys.flatMap Tm.cells)) :
    Calls Tryd.prog 18 #[v, u] w fun e w' => e = .returned (.bool (decide (xs = ys))) ∧ Only w w' := by
  obtain ⟨A, c, rfl⟩ := own_shape hx
  obtain ⟨B, d, rfl⟩ := own_shape hy
  exact eqT_any w A B c d xs ys (own_sl hx (Stay.refl _ _)) (own_sl hy (Stay.refl _ _))
set_option maxRecDepth 100000 in
set_option maxHeartbeats 4000000 in
theorem alike_any {w : World} {S T : Nat → Prop} {b d : Nat} {C D : Ck} (h : CkAt w S b C) (k : CkAt w T d D) :
    Calls Tryd.prog 27 #[.pointer (some ⟨b, 0, none⟩), .pointer (some ⟨d, 0, none⟩)] w fun e w' => e = .returned (.bool (C.like D)) ∧ Only w w' := by
  have H := Lib.hid (And.intro h k)
  clear h k
  obtain ⟨r, hr⟩ : ∃ r, r = C.like D := ⟨_, rfl⟩
  rw [← hr]
  have HR := Lib.hid hr
  clear hr
  go_enter Tryd.func27, Tryd.ntmps27
  go_wp2_with fail
  refine (now_any H.out.1).mono ?_
  rintro e w1 ⟨rfl, o1⟩
  have H1 := Lib.hid o1
  clear o1
  go_wp2_with fail
  refine (now_any (H.out.2.only H1.out)).mono ?_
  rintro e w2 ⟨rfl, o2⟩
  have H2 := Lib.hid (H1.out.trans' o2)
  clear o2
  by_cases hn : C.now = D.now
  · have b0 : ((C.now : Int) == (D.now : Int)) = true := by simp [hn]
    have HN := Lib.hid hn
    clear hn
    go_wp2_with fail
    refine (lall_any (H.out.1.only H2.out)).mono ?_
    rintro e w3 ⟨v3, rfl, hr3, o3⟩
    obtain ⟨A3, c3, rfl⟩ := own_shape hr3
    obtain ⟨n3, hn3⟩ : ∃ n, n = C.all.length := ⟨_, rfl⟩
    rw [← hn3] at hr3 ⊢
    have H3 := Lib.hid (And.intro hr3 (And.intro (H2.out.trans' o3) hn3))
    clear hr3 o3 hn3
    go_wp2_with fail
    refine (lall_any (H.out.2.only H3.out.2.1)).mono ?_
    rintro e w4 ⟨v4, rfl, hr4, o4⟩
    obtain ⟨A4, c4, rfl⟩ := own_shape hr4
    obtain ⟨n4, hn4⟩ : ∃ n, n = D.all.length := ⟨_, rfl⟩
    rw [← hn4] at hr4 ⊢
    have H4 := Lib.hid (And.intro hr4 (And.intro (H3.out.2.1.trans' o4) (And.intro hn4 (own_only o4 H3.out.1))))
    clear hr4 o4 hn4
    go_wp2_with fail
    refine (eqT_own (xs := C.all) (ys := D.all) (by rw [← H3.out.2.2]; exact H4.out.2.2.2) (by rw [← H4.out.2.2.1]; exact H4.out.1)).mono ?_
    rintro e w5 ⟨rfl, o5⟩
    have H5 := Lib.hid (H4.out.2.1.trans' o5)
    have hrr : decide (C.all = D.all) = r := by
      rw [HR.out]
      unfold Ck.like
      exact decide_eq_decide.2 ⟨fun h => ⟨HN.out, h⟩, fun h => h.2⟩
    rw [hrr]
    clear o5 hrr
    go_wp2_with fail
    go_ret
    exact ⟨rfl, H5.out⟩
  · have b0 : ((C.now : Int) == (D.now : Int)) = false := by simp; omega
    have hrr : r = false := by
      rw [HR.out]
      unfold Ck.like
      exact decide_eq_false (fun h => hn h.1)
    have HQ := Lib.hid hrr
    clear hn hrr
    go_wp2_with fail
    go_ret
    rw [HQ.out]
    exact ⟨rfl, H2.out⟩
set_option maxRecDepth 100000 in
set_option maxHeartbeats 4000000 in
theorem awake_any (w : World) (hT : Tab w) : Calls Tryd.prog 15 #[] w fun e w' => e = .returned (.bool true) ∧ Only w w' := by
  have HT := Lib.hid hT
  clear hT
  go_enter Tryd.func15, Tryd.ntmps15
  go_wp2_with fail
  refine (new_any w).mono ?_
  rintro e w1 ⟨rfl, hC1, hO1⟩
  have H1 : Hid (OC w w1 (From w.heap.size w1) (w.heap.size + 1) Ck.new) := Lib.hid ⟨hC1, fun k hk => hk.1, hO1, HT.out⟩
  clear hC1 hO1
  go_wp2_with fail
  have ha := arme_any H1.out.ck (by simp [Ck.new, maxT]) 5
  have e5 : Ck.new.arme 5 = (⟨0, 1, [⟨1, 5⟩]⟩, 1, 0) := by simp [Ck.arme, Ck.new, maxT, Ck.arm]
  rw [e5] at ha
  refine ha.mono ?_
  clear ha e5
  rintro e w2 ⟨rfl, S2, h2, hs2, hst2⟩
  have H2 := Lib.hid (H1.out.next h2 hs2 hst2)
  clear h2 hs2 hst2
  go_wp2_with fail
  have ht := ticke_any H2.out.ck H2.out.tabw H2.out.g
  have hall : Ck.all ⟨0, 1, [⟨1, 5⟩]⟩ = [⟨1, 5⟩] := tsort_one _
  have et : Ck.ticke ⟨0, 1, [⟨1, 5⟩]⟩ = (⟨5, 1, []⟩, [1], 0) := by
    unfold Ck.ticke Ck.next
    rw [hall]
    simp [Ck.adv, Ck.dues, hall, Tm.z]
  rw [et] at ht
  refine ht.mono ?_
  clear ht et hall
  rintro e w3 ⟨v3, rfl, S3, hr3, h3, hs3, hst3, _⟩
  obtain ⟨g, c, rfl, _, hg⟩ := hr3.form (by simp)
  have z0 := hr3.cellAt 0 (by simp)
  simp only [ints, List.map_cons, List.getElem?_cons_zero] at z0
  have H3 := Lib.hid (And.intro (H2.out.next h3 hs3 hst3) hr3)
  clear hr3 h3 hs3 hst3
  simp only [List.length_cons, List.length_nil, Nat.zero_add]
  go_wp2_with fail
  refine (now_any H3.out.1.ck).mono ?_
  rintro e w4 ⟨rfl, o4⟩
  have H4 := Lib.hid (H3.out.1.only.trans' o4)
  clear o4
  go_wp2_with fail
  go_ret
  exact ⟨rfl, H4.out⟩
end Go.Proofs.YtbkbcpnpbfnmgaaDoor
