/- A set of blocks that a structure takes up; how it grows; what stays beside it. -/
import Derived.Test.YtfohaijdhgcneaaIMap
set_option linter.unusedVariables false
set_option linter.unusedSimpArgs false
namespace Go.Proofs.Ytfohaijdhgcneaa
open Go Go.RowKit

/-- S, and what has been made between w and w'. -/
def grow (S : Nat → Prop) (w w' : World) : Nat → Prop := fun k => S k ∨ (w.heap.size ≤ k ∧ k < w'.heap.size)
theorem grow.old {S : Nat → Prop} {w w' : World} {k : Nat} (h : S k) : grow S w w' k := .inl h
theorem grow.new {S : Nat → Prop} {w w' : World} {k : Nat} (h : w.heap.size ≤ k) (h' : k < w'.heap.size) : grow S w w' k := .inr ⟨h, h'⟩
theorem grow.lt {S : Nat → Prop} {w w' : World} (hS : ∀ k, S k → k < w.heap.size) (hs : w.heap.size ≤ w'.heap.size) {k : Nat} (h : grow S w w' k) : k < w'.heap.size := by
  rcases h with h | h
  · exact Nat.lt_of_lt_of_le (hS k h) hs
  · exact h.2
/-- The blocks from B on. -/
def From (B : Nat) (w : World) : Nat → Prop := fun k => B ≤ k ∧ k < w.heap.size
theorem From.grow {B : Nat} {w w' : World} (hs : w.heap.size ≤ w'.heap.size) (hB : B ≤ w.heap.size) : grow (From B w) w w' = From B w' := by
  funext k
  unfold Go.Proofs.Ytfohaijdhgcneaa.grow From
  apply propext
  constructor
  · rintro (⟨h1, h2⟩ | ⟨h1, h2⟩)
    · exact ⟨h1, by omega⟩
    · exact ⟨by omega, h2⟩
  · rintro ⟨h1, h2⟩
    by_cases h : k < w.heap.size
    · exact .inl ⟨h1, h⟩
    · exact .inr ⟨by omega, h2⟩
/-- A structure in S, seen in what S has grown to. -/
theorem grow.grow {S : Nat → Prop} {a b c : World} (h1 : a.heap.size ≤ b.heap.size) (h2 : b.heap.size ≤ c.heap.size) : grow (grow S a b) b c = grow S a c := by
  funext k
  unfold Go.Proofs.Ytfohaijdhgcneaa.grow
  apply propext
  constructor
  · rintro ((h | h) | h)
    · exact .inl h
    · exact .inr ⟨h.1, by omega⟩
    · exact .inr ⟨by omega, h.2⟩
  · rintro (h | h)
    · exact .inl (.inl h)
    · by_cases hk : k < b.heap.size
      · exact .inl (.inr ⟨h.1, hk⟩)
      · exact .inr ⟨by omega, h.2⟩
theorem Stay.step {S : Nat → Prop} {a b c : World} (h : Stay S a b) (k : Stay (grow S a b) b c) : Stay S a c :=
  h.trans k (fun i hi hS => by
    rcases hS with hS | hS
    · exact hS
    · omega)

/-- The block of a slice, if any, is one of S. -/
def InS (S : Nat → Prop) (v : Value) : Prop := ∀ g, v.ownBlock = some g → S g
theorem InS.mono {S S' : Nat → Prop} {v : Value} (h : InS S v) (hs : ∀ k, S k → S' k) : InS S' v := fun g hg => hs g (h g hg)
theorem InS.nil {S : Nat → Prop} (n c : Nat) : InS S (.slice none n c) := fun g hg => by simp [Value.ownBlock] at hg
/-- An owned row stays where its block does. -/
theorem own_stay {S : Nat → Prop} {a b : World} (h : Stay S a b) {base : Nat} {e : TypeId} {size n : Nat} {v : Value} {xs : List Value} (ho : a.ownsRow base e size v n xs) (hn : ∀ g, v.ownBlock = some g → ¬ S g) : b.ownsRow base e size v n xs := by
  refine ⟨ho.1, ?_⟩
  rcases ho.2 with h0 | ⟨g, cap, cur, rfl, hb, hg, rest⟩
  · exact .inl h0
  · exact .inr ⟨g, cap, cur, rfl, hb, by rw [h.block g (lt_of_block hg) (hn g rfl)]; exact hg, rest⟩
theorem own_lt {w : World} {base : Nat} {e : TypeId} {size n : Nat} {v : Value} {xs : List Value} (ho : w.ownsRow base e size v n xs) : ∀ g, v.ownBlock = some g → base ≤ g ∧ g < w.heap.size := fun g hg => ho.lt g hg
/-- A row and a block of another type lie apart. -/
theorem own_ne_blk {w : World} {base : Nat} {e T : TypeId} {size n k : Nat} {v : Value} {xs vs : List Value} (ho : w.ownsRow base e size v n xs) (hb : Blk w k T vs) (hne : e ≠ T) : ∀ g, v.ownBlock = some g → g ≠ k := by
  rcases ho.2 with ⟨rfl, _⟩ | ⟨g, cap, cur, rfl, _, hh, _⟩
  · intro g hg; simp [Value.ownBlock] at hg
  · intro g' hg
    simp [Value.ownBlock] at hg
    subst hg
    rintro rfl
    unfold Blk at hb
    rw [hb] at hh
    simp at hh
    exact hne hh.2.symm
theorem own_ne_map {w : World} {base : Nat} {e : TypeId} {size n k : Nat} {v : Value} {xs : List Value} {l : List (Int × Value)} (ho : w.ownsRow base e size v n xs) (hb : IMap w k l) : ∀ g, v.ownBlock = some g → g ≠ k := by
  rcases ho.2 with ⟨rfl, _⟩ | ⟨g, cap, cur, rfl, _, hh, _⟩
  · intro g hg; simp [Value.ownBlock] at hg
  · intro g' hg
    simp [Value.ownBlock] at hg
    subst hg
    rintro rfl
    obtain ⟨es, c, h1, _⟩ := hb
    rw [h1] at hh
    cases hh
theorem blk_ne {w : World} {j k : Nat} {T U : TypeId} {vs us : List Value} (h : Blk w j T vs) (h' : Blk w k U us) (hne : T ≠ U) : j ≠ k := by
  rintro rfl
  exact hne (h.inj h').1
/-- An owned row behind a store into a block that is not its own. -/
theorem own_set {w : World} {base : Nat} {e : TypeId} {size n : Nat} {v : Value} {xs : List Value} (ho : w.ownsRow base e size v n xs) {A : Addr} (x : Value) (hn : ∀ g, v.ownBlock = some g → g ≠ A.block) : (w.setCell A x).ownsRow base e size v n xs :=
  own_stay (S := fun k => k = A.block) (Stay.set (S := fun k => k = A.block) (Stay.refl _ w) (p := A) (fun _ => rfl) x) ho (fun g hg e => hn g hg e)
theorem own_alloc {w : World} {base : Nat} {e : TypeId} {size n : Nat} {v : Value} {xs : List Value} (ho : w.ownsRow base e size v n xs) (o : Obj) : (w.alloc o).ownsRow base e size v n xs := own_only ((Stay.refl _ w).alloc o) ho

theorem heap_alloc_at' (w : World) (o : Obj) (k : Nat) (hk : k = w.heap.size) : (w.alloc o).heap[k]? = some o := by
  subst hk
  exact heap_alloc_new w o
theorem grown_stay {w w' : World} {v : Value} (h : w.grownBy w' v.ownBlock) : Stay (fun j => v.ownBlock = some j) w w' :=
  Stay.of_grown h (fun _ _ e => e)

end Go.Proofs.Ytfohaijdhgcneaa
