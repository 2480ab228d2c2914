/- The calls of a clock, whatever comes in. -/
import Derived.Test.YtbkbcpnpbfnmgaaDoorClockCopy
set_option linter.unusedVariables false
set_option linter.unusedSimpArgs false
namespace Go.Proofs.YtbkbcpnpbfnmgaaDoor
open Go Go.RowKit

def Ck.arme (C : Ck) (d : Int) : Ck × Int × Int := if d < C.now ∨ d > maxT then (C, 0, 2) else if 400 ≤ C.ts.length then (C, 0, 5) else (C.arm d.toNat, (C.made : Int) + 1, 0)
def Ck.dise (C : Ck) (i : Int) : Ck × Int := (⟨C.now, C.made, C.ts.filter fun t => decide ((t.id : Int) ≠ i)⟩, if ∃ t ∈ C.ts, (t.id : Int) = i then 0 else 6)
def Ck.adve (C : Ck) (d : Int) : Ck × List Int × Int := if d < C.now ∨ d > maxT then (C, [], 2) else (C.adv d.toNat, C.dues d.toNat, 0)
def Ck.ticke (C : Ck) : Ck × List Int × Int := match C.next with
  | none => (C, [], 6)
  | some t => (C.adv t, C.dues t, 0)
theorem Ck.Ok.arme {C : Ck} (h : C.Ok) (hm : C.made < maxT) (d : Int) : (C.arme d).1.Ok := by
  unfold Ck.arme
  split
  · exact h
  · split
    · exact h
    · rename_i h1 h2
      exact h.arm (by omega) (by omega) (by omega) hm
theorem Ck.dise_eq {C : Ck} (i : Nat) : (C.dise i).1 = C.disarm i := by
  unfold Ck.dise Ck.disarm
  simp only
  congr 1
  refine List.filter_congr fun t _ => ?_
  refine decide_eq_decide.2 ?_
  omega
theorem Ck.dise_none {C : Ck} {i : Int} (h : ∀ t ∈ C.ts, (t.id : Int) ≠ i) : C.dise i = (C, 6) := by
  unfold Ck.dise
  rw [if_neg (by rintro ⟨t, ht, e⟩; exact h t ht e), List.filter_eq_self.2 (fun t ht => by simpa using h t ht)]
theorem Ck.Ok.dise {C : Ck} (h : C.Ok) (i : Int) : (C.dise i).1.Ok :=
  ⟨h.now, h.asc.sublist List.filter_sublist, fun t ht => h.idr t (List.mem_filter.1 ht).1, fun t ht => h.due t (List.mem_filter.1 ht).1, Nat.le_trans (List.length_filter_le _ _) h.len, h.few⟩
theorem Ck.Ok.adve {C : Ck} (h : C.Ok) (d : Int) : (C.adve d).1.Ok := by
  unfold Ck.adve
  split
  · exact h
  · exact h.adv (by omega) (by omega)
theorem Ck.next_rng {C : Ck} (h : C.Ok) {t : Nat} (hn : C.next = some t) : C.now ≤ t ∧ t ≤ maxT := by
  obtain ⟨x, hx, hd, _⟩ := Ck.next_some.1 hn
  have := h.due x hx
  omega
theorem Ck.Ok.ticke {C : Ck} (h : C.Ok) : (C.ticke).1.Ok := by
  unfold Ck.ticke
  split
  · exact h
  · rename_i t ht
    have := Ck.next_rng h ht
    exact h.adv this.1 this.2
theorem CkThen.only {w w' : World} {S : Nat → Prop} {b : Nat} {C : Ck} (h : CkAt w S b C) (ho : Only w w') : CkThen w S b C w' := ⟨S, h.only ho, fun _ hk => .inl hk, ho.mono (fun _ _ h => h.elim)⟩
/-- A clock and a list behind a call. -/
def ResPost (w : World) (S : Nat → Prop) (b : Nat) (C : Ck) (l : List Int) (v : Value) (w' : World) : Prop :=
  ∃ S', w'.ownsRow w.heap.size 3 1 v l.length (ints l) ∧ CkAt w' S' b C ∧ (∀ k, S' k → S k ∨ w.heap.size ≤ k) ∧ Stay S w w' ∧ ∀ k, v.ownBlock = some k → ¬ S' k
theorem ResPost.nil_ {w w' : World} {S : Nat → Prop} {b : Nat} {C : Ck} (h : CkAt w S b C) (ho : Only w w') : ResPost w S b C [] (.slice .none 0 0) w' :=
  ⟨S, World.ownsRow_nil _ _ _ _, h.only ho, fun _ hk => .inl hk, ho.mono (fun _ _ h => h.elim), fun k hk => by simp [Value.ownBlock] at hk⟩
theorem arme_anyM {w : World} {S : Nat → Prop} {b : Nat} {C : Ck} (h : CkAt w S b C) (hm : C.made < maxT) (d : Int) :
    Calls Tryd.prog 12 #[.pointer (some ⟨b, 0, .none⟩), .int .i64 d] w fun e w' => e = .returned (.tuple #[.int .i64 (C.arme d).2.1, .int .i64 (C.arme d).2.2]) ∧ CkThen w S b (C.arme d).1 w' ∧ SameMap w w' b := by
  by_cases h1 : d < C.now ∨ d > maxT
  · have e : C.arme d = (C, 0, 2) := by unfold Ck.arme; rw [if_pos h1]
    rw [e]
    refine (arm_bad h d (by unfold maxT at h1; omega)).mono ?_
    rintro e w' ⟨rfl, ho⟩
    exact ⟨rfl, CkThen.only h ho, SameMap.of_only h ho⟩
  · by_cases h2 : 400 ≤ C.ts.length
    · have e : C.arme d = (C, 0, 5) := by unfold Ck.arme; rw [if_neg h1, if_pos h2]
      rw [e]
      refine (arm_full h d (by omega) (by unfold maxT at h1; omega) h2).mono ?_
      rintro e w' ⟨rfl, ho⟩
      exact ⟨rfl, CkThen.only h ho, SameMap.of_only h ho⟩
    · have e : C.arme d = (C.arm d.toNat, (C.made : Int) + 1, 0) := by unfold Ck.arme; rw [if_neg h1, if_neg h2]
      rw [e]
      have hk := arm_okM h d.toNat (by omega) (by omega) (by omega) hm
      rw [Int.toNat_of_nonneg (by omega)] at hk
      exact hk
theorem arme_any {w : World} {S : Nat → Prop} {b : Nat} {C : Ck} (h : CkAt w S b C) (hm : C.made < maxT) (d : Int) :
    Calls Tryd.prog 12 #[.pointer (some ⟨b, 0, .none⟩), .int .i64 d] w fun e w' => e = .returned (.tuple #[.int .i64 (C.arme d).2.1, .int .i64 (C.arme d).2.2]) ∧ CkThen w S b (C.arme d).1 w' :=
  (arme_anyM h hm d).mono fun e w' h => ⟨h.1, h.2.1⟩
theorem dise_anyM {w : World} {S : Nat → Prop} {b : Nat} {C : Ck} (h : CkAt w S b C) (i : Int) :
    Calls Tryd.prog 13 #[.pointer (some ⟨b, 0, .none⟩), .int .i64 i] w fun e w' => e = .returned (.int .i64 (C.dise i).2) ∧ CkThen w S b (C.dise i).1 w' ∧ SameMap w w' b := by
  by_cases h1 : ∃ t ∈ C.ts, (t.id : Int) = i
  · obtain ⟨t, ht, rfl⟩ := h1
    have e : (C.dise t.id).2 = 0 := by unfold Ck.dise; exact if_pos ⟨t, ht, rfl⟩
    rw [e, Ck.dise_eq]
    exact disarm_okM h ht
  · have h2 : ∀ t ∈ C.ts, (t.id : Int) ≠ i := fun t ht e => h1 ⟨t, ht, e⟩
    rw [Ck.dise_none h2]
    refine (disarm_no h i h2).mono ?_
    rintro e w' ⟨rfl, ho⟩
    exact ⟨rfl, CkThen.only h ho, SameMap.of_only h ho⟩
theorem dise_any {w : World} {S : Nat → Prop} {b : Nat} {C : Ck} (h : CkAt w S b C) (i : Int) :
    Calls Tryd.prog 13 #[.pointer (some ⟨b, 0, .none⟩), .int .i64 i] w fun e w' => e = .returned (.int .i64 (C.dise i).2) ∧ CkThen w S b (C.dise i).1 w' :=
  (dise_anyM h i).mono fun e w' h => ⟨h.1, h.2.1⟩
theorem adve_any {w : World} {S : Nat → Prop} {b : Nat} {C : Ck} (h : CkAt w S b C) (hT : Tab w) (hg : ¬ S 0) (d : Int) :
    Calls Tryd.prog 20 #[.pointer (some ⟨b, 0, .none⟩), .int .i64 d] w fun e w' => ∃ v, e = .returned (.tuple #[v, .int .i64 (C.adve d).2.2]) ∧ ResPost w S b (C.adve d).1 (C.adve d).2.1 v w' := by
  by_cases h1 : d < C.now ∨ d > maxT
  · have e : C.adve d = (C, [], 2) := by unfold Ck.adve; rw [if_pos h1]
    rw [e]
    refine (adv_bad h d (by unfold maxT at h1; omega)).mono ?_
    rintro e w' ⟨rfl, ho⟩
    exact ⟨_, rfl, ResPost.nil_ h ho⟩
  · have e : C.adve d = (C.adv d.toNat, C.dues d.toNat, 0) := by unfold Ck.adve; rw [if_neg h1]
    rw [e]
    have hk := adv_ok h d.toNat (by omega) (by omega) hT hg
    rw [Int.toNat_of_nonneg (by omega)] at hk
    exact hk
theorem ticke_any {w : World} {S : Nat → Prop} {b : Nat} {C : Ck} (h : CkAt w S b C) (hT : Tab w) (hg : ¬ S 0) :
    Calls Tryd.prog 23 #[.pointer (some ⟨b, 0, .none⟩)] w fun e w' => ∃ v, e = .returned (.tuple #[v, .int .i64 C.ticke.2.2]) ∧ ResPost w S b C.ticke.1 C.ticke.2.1 v w' := by
  cases hn : C.next with
  | none =>
    have e : C.ticke = (C, [], 6) := by unfold Ck.ticke; rw [hn]
    rw [e]
    refine (tick_none h hT hn).mono ?_
    rintro e w' ⟨rfl, ho⟩
    exact ⟨_, rfl, ResPost.nil_ h ho⟩
  | some t =>
    have e : C.ticke = (C.adv t, C.dues t, 0) := by unfold Ck.ticke; rw [hn]
    rw [e]
    exact tick_some h hT hg hn
theorem dues_len {C : Ck} (h : C.Ok) (d : Nat) : (C.dues d).length ≤ 400 := by
  unfold Ck.dues
  rw [List.length_map]
  refine Nat.le_trans (List.length_filter_le _ _) ?_
  unfold Ck.all
  rw [tsort_length]
  exact h.len
/-- A clock of a law's own. -/
structure OC (w0 w : World) (S : Nat → Prop) (b : Nat) (C : Ck) : Prop where
  ck : CkAt w S b C
  ge : ∀ k, S k → w0.heap.size ≤ k
  only : Only w0 w
  tab : Tab w0
section
variable {w0 w w' : World} {S S' : Nat → Prop} {b : Nat} {C C' : Ck}
theorem OC.tabw (h : OC w0 w S b C) : Tab w := h.tab.only h.only
theorem OC.g (h : OC w0 w S b C) : ¬ S 0 := fun hk => by
  have := h.ge _ hk
  have := h.tab.lt
  omega
theorem OC.then (h : OC w0 w S b C) (ho : Only w w') : OC w0 w' S b C := ⟨h.ck.only ho, h.ge, h.only.trans' ho, h.tab⟩
theorem OC.next (h : OC w0 w S b C) (hC : CkAt w' S' b C') (hsub : ∀ k, S' k → S k ∨ w.heap.size ≤ k) (hst : Stay S w w') : OC w0 w' S' b C' :=
  ⟨hC, fun k hk => by
    rcases hsub k hk with h1 | h1
    · exact h.ge k h1
    · have := h.only.size; omega, h.only.trans hst (fun k hk hs => by have := h.ge k hs; omega), h.tab⟩
end
end Go.Proofs.YtbkbcpnpbfnmgaaDoor
