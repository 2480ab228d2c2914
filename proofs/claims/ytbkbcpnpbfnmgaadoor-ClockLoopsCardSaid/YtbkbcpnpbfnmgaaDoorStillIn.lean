/- A region that draws its order, within a round of a loop over an iterator: one walk in the order of the text serves all. No condition but those that each names. -/
import Derived.Test.YtbkbcpnpbfnmgaaDoorHeap
import Derived.StillTactics
import Derived.RangeFuncCalls
import Derived.OrdersIn
set_option linter.unusedVariables false
set_option linter.unusedSimpArgs false
namespace Go.Proofs.YtbkbcpnpbfnmgaaDoor
open Go Go.RowKit

section
variable {n r : Nat} {P : Program} {ops : Array Oper} {md : Region.Mode} {w : World}
theorem wpIn_of_still {o : Oper} {a : Go.Act} {K : Go.Act → Prop} {K' : Go.Act → World → Prop} {Q' : Exit → Go.Act → World → Prop} (hd : ∀ c, o.op ≠ .defer c) (h : ∀ a, K a → K' a w) (hh : o.still P a w K) : o.wpIn (Fence.wide.inRound r) n P a w K' Q' := by
  unfold Oper.still at hh
  unfold Oper.wpIn
  refine ⟨fun f _ => trivial, ?_⟩
  rw [Oper.semAt_eq _ _ _ hd]
  generalize (execOp a.eval o).run P w = x at *
  cases x with
  | ok nx w' =>
    cases nx <;> simp only [Oper.stillUpon] at hh
    case enter f args =>
      obtain ⟨rfl, v, hc, hn⟩ := hh
      rw [Oper.uponIn_enter]
      refine ⟨fun h => by simp [Fence.wide, Fence.inRound] at h, ?_⟩
      refine ((callsIn_wide (n := n - 1)).2 (hc.mono fun e w'' ⟨he, hw⟩ => ?_)).inRound r
      subst he
      subst hw
      exact h _ hn
    case value v =>
      obtain ⟨rfl, h2⟩ := hh
      rw [Oper.uponIn_value]
      exact h _ h2
    case skip =>
      obtain ⟨rfl, h2⟩ := hh
      rw [Oper.uponIn_skip]
      exact h _ h2
  | halt x w' => simp only [Oper.stillUpon] at hh
theorem wpOpIn_of_stOp {i : Nat} {a : Go.Act} {K : Go.Act → Prop} {K' : Go.Act → World → Prop} {Q' : Exit → Go.Act → World → Prop} (hd : ∀ (i : Nat) o c, ops[i]? = some o → o.op ≠ .defer c) (h : ∀ a, K a → K' a w) (hh : stOp P ops w i K a) : wpOpIn (Fence.wide.inRound r) n P ops Q' i K' a w := by
  unfold stOp at hh
  unfold wpOpIn
  cases ho : ops[i]? with
  | none => simp only [ho] at hh; exact h _ hh
  | some o =>
    simp only [ho] at hh
    simp only
    split
    · rename_i hw; simp only [hw, if_true] at hh; exact wpIn_of_still (fun c => hd i o c ho) h hh
    · rename_i hw; simp only [hw] at hh; exact ⟨fun f _ => trivial, h _ hh⟩
theorem wpAnyIn_of_still {Q : Go.Act → Prop} {Q' : Exit → Go.Act → World → Prop} (hd : ∀ (i : Nat) o c, ops[i]? = some o → o.op ≠ .defer c) (hQ : ∀ a, Q a → Q' .normal a w) : ∀ (fuel : Nat) (listed : Array Bool) (a : Go.Act),
    wpAnyS P md ops w Q fuel listed a → wpAnyIn (Fence.wide.inRound r) n P md ops Q' fuel listed a w
  | 0, _, _, h => ⟨h.1, hQ _ h.2⟩
  | fuel + 1, _, _, h => ⟨fun h0 => hQ _ (h.1 h0), fun i hi => wpOpIn_of_stOp hd (fun a' => wpAnyIn_of_still hd hQ fuel _ a') (h.2 i hi)⟩
/-- Does no operation defer? -/
def calmOps (l : List Oper) : Bool := l.all fun o => match o.op with
  | .defer _ => false
  | _ => true
theorem wpIn_region_still {id : Nat} {Q : Exit → Go.Act → World → Prop} {a : Go.Act} {l : List Oper} (hm : P.follows .mixedOrders = true) (hB : Region.lexB .any l.toArray = true) (hd : calmOps l = true)
    (h : wpStill P l.toArray w.drew (fun a' => Q .normal a' w.drew) l a) : (Code.region id l.toArray true).wpIn (Fence.wide.inRound r) n P Q a w := by
  have hd' : ∀ (i : Nat) o c, l.toArray[i]? = some o → o.op ≠ .defer c := fun i o c ho e => by
    have hm : o ∈ l := by
      have := List.mem_of_getElem? (l := l) (i := i) (by simpa using ho)
      exact this
    have := List.all_eq_true.1 hd o hm
    rw [e] at this
    cases this
  simp only [Region.lexB, Bool.and_eq_true] at hB
  refine wpIn_region_any hm (wpAnyIn_of_still (w := w.drew) (Q := fun a' => Q .normal a' w.drew) hd' (fun _ h => h) _ _ _ ?_)
  have := wpAnyS_lex (md := .any) hB.1 l 0 (Array.replicate l.toArray.size false) a (by simp) (by simpa using hB.2) h
  simpa using this
end
end Go.Proofs.YtbkbcpnpbfnmgaaDoor
