/- What many calls of 'run' fired or made, beside a clock of the law's own. -/
import Derived.Test.YtbkbcpnpbfnmgaaDoorLawAwake
import Derived.Test.YtbkbcpnpbfnmgaaDoorAppSl
set_option linter.unusedVariables false
set_option linter.unusedSimpArgs false
namespace Go.Proofs.YtbkbcpnpbfnmgaaDoor
open Go Go.RowKit

theorem Ck.like_refl (C : Ck) : C.like C = true := by simp [Ck.like]
theorem Ck.run_len {C : Ck} (h : C.Ok) (o : KOp) : (C.run o).2.length ≤ 400 := by
  unfold Ck.run
  split
  · simp
  · split
    · simp
    · split
      · unfold Ck.adve
        split
        · simp
        · exact dues_len h _
      · split
        · unfold Ck.ticke
          split
          · simp
          · exact dues_len h _
        · simp
def Ck.outs (C : Ck) : List KOp → List Int
  | [] => []
  | o :: l => (C.run o).2 ++ (C.run o).1.outs l
theorem Ck.outs_append : ∀ (l k : List KOp) (C : Ck), C.outs (l ++ k) = C.outs l ++ (C.runs l).outs k
  | [], k, C => rfl
  | o :: l, k, C => by
    show (C.run o).2 ++ (C.run o).1.outs (l ++ k) = ((C.run o).2 ++ (C.run o).1.outs l) ++ ((C.run o).1.runs l).outs k
    rw [Ck.outs_append l k, List.append_assoc]
theorem Ck.outs_succ {C : Ck} {l : List KOp} {j : Nat} {o : KOp} (h : l[j]? = some o) : C.outs (l.take (j + 1)) = C.outs (l.take j) ++ ((C.runs (l.take j)).run o).2 := by
  obtain ⟨hi, rfl⟩ := List.getElem?_eq_some_iff.1 h
  rw [List.take_succ_eq_append_getElem hi, Ck.outs_append]
  simp [Ck.outs]
/-- A clock of the law's own, and a row of ints beside it. -/
structure Outs (w0 w : World) (S : Nat → Prop) (b : Nat) (C : Ck) (B : Nat) (v : Value) (l : List Int) : Prop where
  oc : OC w0 w S b C
  row : w.ownsRow B 3 1 v l.length (ints l)
  off : ∀ g, v.ownBlock = some g → ¬ S g
section
variable {w0 w w2 w5 : World} {S : Nat → Prop} {b B : Nat} {C C' : Ck} {v u v' : Value} {l k : List Int}
theorem Outs.then (h : Outs w0 w S b C B v l) (ho : Only w w2) : Outs w0 w2 S b C B v l := ⟨h.oc.then ho, own_only ho h.row, h.off⟩
/-- Behind a call: both rows stand. -/
theorem Outs.mid (h : Outs w0 w S b C B v l) (hr : ResPost w S b C' k u w2) : w2.ownsRow B 3 1 v l.length (ints l) ∧ w2.ownsRow w.heap.size 3 1 u k.length (ints k) := by
  obtain ⟨S', h1, h2, h3, h4, h5⟩ := hr
  exact ⟨own_stay h4 h.row h.off, h1⟩
/-- Behind the append of what the call gave. -/
theorem Outs.next (h : Outs w0 w S b C B v l) (hr : ResPost w S b C' k u w2) (hB : w0.heap.size ≤ B) (hrow : w5.ownsRow B 3 1 v' (l.length + k.length) (ints l ++ ints k)) (hst : Stay (fun j => v.ownBlock = some j) w2 w5)
    (hn : ∀ g, v'.ownBlock = some g → v.ownBlock = some g ∨ w2.heap.size ≤ g) :
    ∃ S', Outs w0 w5 S' b C' B v' (l ++ k) ∧ (∀ j, S' j → S j ∨ w.heap.size ≤ j) ∧ Stay (fun j => S j ∨ v.ownBlock = some j) w w5 := by
  obtain ⟨S', h1, h2, h3, h4, h5⟩ := hr
  have hv : ∀ g, v.ownBlock = some g → g < w.heap.size := fun g hg => (own_lt h.row g hg).2
  have hvS : ∀ g, v.ownBlock = some g → ¬ S' g := fun g hg hs => by
    rcases h3 g hs with e | e
    · exact h.off g hg e
    · have := hv g hg; omega
  have hOC : OC w0 w2 S' b C' := h.oc.next h2 h3 h4
  have h25 : Only w0 w5 := hOC.only.trans hst (fun j hj e => by
    have h6 := (own_lt h.row j e).1
    omega)
  refine ⟨S', ⟨⟨h2.stay hst (fun j hj e => hvS j e hj), hOC.ge, h25, hOC.tab⟩, ?_, fun g hg hs => ?_⟩, h3, (h4.mono (fun _ _ e => .inl e)).trans hst (fun _ _ e => .inr e)⟩
  · rw [List.length_append, show ints (l ++ k) = ints l ++ ints k by simp [ints]]
    exact hrow
  · rcases hn g hg with e | e
    · exact hvS g e hs
    · have := h2.lt hs; omega
/-- Behind an append. -/
theorem Outs.app (h : Outs w0 w S b C B v l) (ho : Only w w2) (hB : w0.heap.size ≤ B) (hrow : w5.ownsRow B 3 1 v' (l.length + k.length) (ints l ++ ints k)) (hst : Stay (fun j => v.ownBlock = some j) w2 w5)
    (hn : ∀ g, v'.ownBlock = some g → v.ownBlock = some g ∨ w2.heap.size ≤ g) : Outs w0 w5 S b C B v' (l ++ k) ∧ Stay (fun j => v.ownBlock = some j) w w5 := by
  have hw : Stay (fun j => v.ownBlock = some j) w w5 := (ho.mono (fun _ _ e => e.elim)).trans hst (fun _ _ e => e)
  have h05 : Only w0 w5 := h.oc.only.trans hw (fun j hj e => by
    have h6 := (own_lt h.row j e).1
    omega)
  refine ⟨⟨⟨h.oc.ck.stay hw (fun j hj e => h.off j e hj), h.oc.ge, h05, h.oc.tab⟩, ?_, fun g hg hs => ?_⟩, hw⟩
  · rw [List.length_append, show ints (l ++ k) = ints l ++ ints k by simp [ints]]
    exact hrow
  · rcases hn g hg with e | e
    · exact h.off g e hs
    · have := h.oc.ck.lt hs; have := ho.size; omega
/-- Behind a call that gives no row. -/
theorem Outs.turn (h : Outs w0 w S b C B v l) (hr : CkThen w S b C' w2) : ∃ S', Outs w0 w2 S' b C' B v l ∧ (∀ j, S' j → S j ∨ w.heap.size ≤ j) ∧ Stay S w w2 := by
  obtain ⟨S', h2, h3, h4⟩ := hr
  refine ⟨S', ⟨h.oc.next h2 h3 h4, own_stay h4 h.row h.off, fun g hg hs => ?_⟩, h3, h4⟩
  have hv := (own_lt h.row g hg).2
  rcases h3 g hs with e | e
  · exact h.off g hg e
  · omega
end
theorem Ck.arme_ok {C : Ck} {d : Nat} (h1 : C.now ≤ d) (h2 : d ≤ maxT) (h3 : C.ts.length < 400) : C.arme d = (C.arm d, (C.made : Int) + 1, 0) := by
  unfold Ck.arme
  rw [if_neg (by omega), if_neg (by omega)]
  rfl
/-- A clock with timers armed behind it. -/
def Ck.armed (C : Ck) (l : List Tm) : Ck := ⟨C.now, C.made + l.length, C.ts ++ l⟩
/-- The timers' numbers, one behind the other. -/
def Nums (k : Nat) (l : List Tm) : Prop := ∀ (i : Nat) t, l[i]? = some t → t.id = k + 1 + i
theorem Ck.armed_nil (C : Ck) : C.armed [] = C := by simp [Ck.armed]
theorem Ck.arm_armed (C : Ck) (l : List Tm) (d : Nat) : (C.armed l).arm d = C.armed (l ++ [⟨C.made + l.length + 1, d⟩]) := by
  simp [Ck.armed, Ck.arm]
  omega
theorem Nums.snoc {k : Nat} {l : List Tm} (h : Nums k l) (d : Nat) : Nums k (l ++ [⟨k + l.length + 1, d⟩]) := by
  intro i t ht
  rw [List.getElem?_append] at ht
  split at ht
  · exact h i t ht
  · rename_i hi
    by_cases h0 : i - l.length = 0
    · rw [h0] at ht
      simp at ht
      subst ht
      simp only
      omega
    · rw [List.getElem?_eq_none (by simp; omega)] at ht
      cases ht
theorem dise_drop {C : Ck} {l : List Tm} (hC : C.Ok) (hl : Nums C.made l) (m : Nat) {i : Nat} {t : Tm} (ht : l[i]? = some t) :
    Ck.dise ⟨C.now, m, C.ts ++ l.drop i⟩ (t.id : Int) = (⟨C.now, m, C.ts ++ l.drop (i + 1)⟩, 0) := by
  obtain ⟨hi, rfl⟩ := List.getElem?_eq_some_iff.1 ht
  have hd : l.drop i = l[i] :: l.drop (i + 1) := List.drop_eq_getElem_cons hi
  have hid := hl i _ ht
  unfold Ck.dise
  simp only [Prod.mk.injEq, Ck.mk.injEq, true_and]
  constructor
  · rw [List.filter_append, hd, List.filter_cons]
    rw [if_neg (by simp)]
    congr 1
    · refine List.filter_eq_self.2 fun u hu => ?_
      have := hC.idr u hu
      simp
      omega
    · refine List.filter_eq_self.2 fun u hu => ?_
      obtain ⟨j, hj⟩ := List.mem_iff_getElem?.1 hu
      rw [List.getElem?_drop] at hj
      have := hl _ _ hj
      simp
      omega
  · rw [if_pos ⟨l[i], List.mem_append.2 (.inr (by rw [hd]; exact List.mem_cons_self)), rfl⟩]
theorem dise_gone {C : Ck} {l : List Tm} (hC : C.Ok) (hl : Nums C.made l) (m : Nat) {i : Nat} {t : Tm} (ht : l[i]? = some t) :
    Ck.dise ⟨C.now, m, C.ts ++ l.drop (i + 1)⟩ (t.id : Int) = (⟨C.now, m, C.ts ++ l.drop (i + 1)⟩, 6) := by
  have hid := hl i _ ht
  refine Ck.dise_none fun u hu => ?_
  rcases List.mem_append.1 hu with hu | hu
  · have := hC.idr u hu
    omega
  · obtain ⟨j, hj⟩ := List.mem_iff_getElem?.1 hu
    rw [List.getElem?_drop] at hj
    have := hl _ _ hj
    omega
end Go.Proofs.YtbkbcpnpbfnmgaaDoor
