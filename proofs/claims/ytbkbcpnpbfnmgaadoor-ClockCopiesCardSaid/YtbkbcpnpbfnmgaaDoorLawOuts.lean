/- What many calls of 'run' fired or made, beside a clock of the law's own. -/
import Derived.Test.YtbkbcpnpbfnmgaaDoorLawAwake
import Derived.Test.YtbkbcpnpbfnmgaaDoorAppSl
set_option linter.unusedVariables false
set_option linter.unusedSimpArgs false
namespace Go.Proofs.YtbkbcpnpbfnmgaaDoor
open Go Go.RowKit

theorem Ck.like_refl (C : Ck) : C.like C = true := by simp [Ck.like]
theorem Ck.run_len {C : Ck} (h : C.Ok) (o : KOp) : (C.run o).2.length ≤ 400 := by
  unfold Ck.run
  split
  · simp
  · split
    · simp
    · split
      · unfold Ck.adve
        split
        · simp
        · exact dues_len h _
      · split
        · unfold Ck.ticke
          split
          · simp
          · exact dues_len h _
        · simp
def Ck.outs (C : Ck) : List KOp → List Int
  | [] => []
  | o :: l => (C.run o).2 ++ (C.run o).1.outs l
theorem Ck.outs_append : ∀ (l k : List KOp) (C : Ck), C.outs (l ++ k) = C.outs l ++ (C.runs l).outs k
  | [], k, C => rfl
  | o :: l, k, C => by
    show (C.run o).2 ++ (C.run o).1.outs (l ++ k) = ((C.run o).2 ++ (C.run o).1.outs l) ++ ((C.run o).1.runs l).outs k
    rw [Ck.outs_append l k, List.append_assoc]
theorem Ck.outs_succ {C : Ck} {l : List KOp} {j : Nat} {o : KOp} (h : l[j]? = some o) : C.outs (l.take (j + 1)) = C.outs (l.take j) ++ ((C.runs (l.take j)).run o).2 := by
  obtain ⟨hi, rfl⟩ := List.getElem?_eq_some_iff.1 h
  rw [List.take_succ_eq_append_getElem hi, Ck.outs_append]
  simp [Ck.outs]
/-- A clock of the law's own, and a row of ints beside it. -/
structure Outs (w0 w : World) (S : Nat → Prop) (b : Nat) (C : Ck) (B : Nat) (v : Value) (l : List Int) : Prop where
  oc : OC w0 w S b C
  row : w.ownsRow B 3 1 v l.length (ints l)
  off : ∀ g, v.ownBlock = some g → ¬ S g
section
variable {w0 w w2 w5 : World} {S : Nat → Prop} {b B : Nat} {C C' : Ck} {v u v' : Value} {l k : List Int}
theorem Outs.then (h : Outs w0 w S b C B v l) (ho : Only w w2) : Outs w0 w2 S b C B v l := ⟨h.oc.then ho, own_only ho h.row, h.off⟩
/-- Behind a call: both rows stand. -/
theorem Outs.mid (h : Outs w0 w S b C B v l) (hr : ResPost w S b C' k u w2) : w2.ownsRow B 3 1 v l.length (ints l) ∧ w2.ownsRow w.heap.size 3 1 u k.length (ints k) := by
  obtain ⟨S', h1, h2, h3, h4, h5⟩ := hr
  exact ⟨own_stay h4 h.row h.off, h1⟩
/-- Behind the append of what the call gave. -/
theorem Outs.next (h : Outs w0 w S b C B v l) (hr : ResPost w S b C' k u w2) (hB : w0.heap.size ≤ B) (hrow : w5.ownsRow B 3 1 v' (l.length + k.length) (ints l ++ ints k)) (hst : Stay (fun j => v.ownBlock = some j) w2 w5)
    (hn : ∀ g, v'.ownBlock = some g → v.ownBlock = some g ∨ w2.heap.size ≤ g) :
    ∃ S', Outs w0 w5 S' b C' B v' (l ++ k) ∧ (∀ j, S' j → S j ∨ w.heap.size ≤ j) ∧ Stay (fun j => S j ∨ v.ownBlock = some j) w w5 := by
  obtain ⟨S', h1, h2, h3, h4, h5⟩ := hr
  have hv : ∀ g, v.ownBlock = some g → g < w.heap.size := fun g hg => (own_lt h.row g hg).2
  have hvS : ∀ g, v.ownBlock = some g → ¬ S' g := fun g hg hs => by
    rcases h3 g hs with e | e
    · exact h.off g hg e
    · have := hv g hg; omega
  have hOC : OC w0 w2 S' b C' := h.oc.next h2 h3 h4
  have h25 : Only w0 w5 := hOC.only.trans hst (fun j hj e => by
    have h6 := (own_lt h.row j e).1
    omega)
  refine ⟨S', ⟨⟨h2.stay hst (fun j hj e => hvS j e hj), hOC.ge, h25, hOC.tab⟩, ?_, fun g hg hs => ?_⟩, h3, (h4.mono (fun _ _ e => .inl e)).trans hst (fun _ _ e => .inr e)⟩
  · rw [List.length_append, show ints (l ++ k) = ints l ++ ints k by simp [ints]]
    exact hrow
  · rcases hn g hg with e | e
    · exact hvS g e hs
    · have := h2.lt hs; omega
end
end Go.Proofs.YtbkbcpnpbfnmgaaDoor
