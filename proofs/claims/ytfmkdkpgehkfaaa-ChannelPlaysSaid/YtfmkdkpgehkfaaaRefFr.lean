/- Rows of a result: those that came in, or new ones. -/
import Derived.Test.YtfmkdkpgehkfaaaSame
set_option linter.unusedVariables false
set_option linter.unusedSimpArgs false
namespace Go.Proofs.Ytfmkdkpgehkfaaa
open Go Go.RowKit

/-- A slice with anything in it lies beside X. -/
def Av (X : Nat → Prop) (A : Option Addr) (n : Nat) : Prop := 0 < n → ∀ a, A = some a → ¬ X a.block
def rowsOf : Value → List (Option Addr × Nat)
  | .agg vs => match vs.toList with
    | [_, _, _, .slice A n _, .slice A' n' _, _] => [(A, n), (A', n')]
    | _ => []
  | _ => []
/-- A state's rows lie beside X. -/
def Bes (X : Nat → Prop) (x : Value) : Prop := ∀ r ∈ rowsOf x, Av X r.1 r.2
def Fr (w : World) (x y : Value) : Prop := ∀ X : Nat → Prop, (∀ b, X b → b < w.heap.size) → Bes X x → Bes X y
def FrE (w : World) (x : Value) : Ending → Prop
  | .returned (.tuple vs) => ∀ y, vs[0]? = some y → Fr w x y
  | _ => True
structure WithFr (w : World) (x : Value) (Q : Ending → World → Prop) (e : Ending) (w' : World) : Prop where
  q : Q e w'
  f : FrE w x e
theorem WithFr.mk' {w w' : World} {x y : Value} {l : List Value} {Q : Ending → World → Prop} (hf : Fr w x y) (hq : Q (.returned (.tuple (y :: l).toArray)) w') : WithFr w x Q (.returned (.tuple (y :: l).toArray)) w' :=
  ⟨hq, fun z hz => by simp at hz; subst hz; exact hf⟩
theorem fr_mk {w : World} {a1 a2 a3 a6 b1 b2 b3 b6 : Value} {A0 A0' A A' : Option Addr} {n0 n0' n n' q0 q0' q q' : Nat}
    (h : (0 < n → A = A0 ∧ 0 < n0) ∨ ∀ a, A = some a → w.heap.size ≤ a.block) (h' : (0 < n' → A' = A0' ∧ 0 < n0') ∨ ∀ a, A' = some a → w.heap.size ≤ a.block) :
    Fr w (.agg #[a1, a2, a3, .slice A0 n0 q0, .slice A0' n0' q0', a6]) (.agg #[b1, b2, b3, .slice A n q, .slice A' n' q', b6]) := by
  intro X hX hB r hr
  have hB1 := hB (A0, n0) (by simp [rowsOf])
  have hB2 := hB (A0', n0') (by simp [rowsOf])
  simp [rowsOf] at hr
  rcases hr with rfl | rfl
  · intro hn a ha hx
    rcases h with h | h
    · obtain ⟨e, h0⟩ := h hn
      exact hB1 h0 a (by rw [← e]; exact ha) hx
    · have := h a ha; have := hX _ hx; omega
  · intro hn a ha hx
    rcases h' with h | h
    · obtain ⟨e, h0⟩ := h hn
      exact hB2 h0 a (by rw [← e]; exact ha) hx
    · have := h a ha; have := hX _ hx; omega
theorem Bes.or {X Y : Nat → Prop} {x : Value} (h : Bes X x) (h' : Bes Y x) : Bes (fun b => X b ∨ Y b) x := fun r hr h0 a ha hx => by
  rcases hx with hx | hx
  · exact h r hr h0 a ha hx
  · exact h' r hr h0 a ha hx
theorem Bes.sub {X Y : Nat → Prop} {x : Value} (h : Bes X x) (hs : ∀ b, Y b → X b) : Bes Y x := fun r hr h0 a ha hx => h r hr h0 a ha (hs _ hx)
theorem Sl.beside {w w' : World} {X : Nat → Prop} {B : Nat} {A : Option Addr} {n cap size : Nat} {xs : List Value} (h : Sl w B A n cap size xs) (hs : Stay X w w') (hn : Av X A n) (hB : B ≤ w'.heap.size) : Sl w' w'.heap.size A n cap size xs := by
  refine ⟨h.1, h.2.1, h.2.2.1, h.2.2.2.1, fun h0 => ?_⟩
  obtain ⟨b, off, e, hb', hc⟩ := h.2.2.2.2 h0
  exact ⟨b, off, e, Nat.lt_of_lt_of_le hb' hB, fun j u hu => hs.cell (hc j u hu) (show ¬ X b from hn h0 _ e)⟩
theorem Sl.av {w : World} {X : Nat → Prop} {B : Nat} {A : Option Addr} {n cap size : Nat} {xs : List Value} (h : Sl w B A n cap size xs) (hX : ∀ b, X b → B ≤ b) : Av X A n := fun h0 a ha hx => by
  obtain ⟨b, off, e, hb', hc⟩ := h.2.2.2.2 h0
  rw [e] at ha
  cases ha
  have := hX _ hx
  simp at this
  omega
theorem Rd.stay {w w' : World} {X : Nat → Prop} {x : Value} {c : Ch} (h : Rd w x c) (hs : Stay X w w') (hb : Bes X x) : Rd w' x c := by
  obtain ⟨A, cp, A', cp', rfl, s1, s2⟩ := h
  exact ⟨A, cp, A', cp', rfl, s1.beside hs (hb (A, _) (by simp [rowsOf])) hs.size, s2.beside hs (hb (A', _) (by simp [rowsOf])) hs.size⟩
theorem Rd.new {w : World} {Y : Nat → Prop} {x : Value} {c : Ch} (h : Rd w x c) (hY : ∀ b, Y b → w.heap.size ≤ b) : Bes Y x := by
  obtain ⟨A, cp, A', cp', rfl, s1, s2⟩ := h
  intro r hr
  simp [rowsOf] at hr
  rcases hr with rfl | rfl
  · exact s1.av hY
  · exact s2.av hY

end Go.Proofs.Ytfmkdkpgehkfaaa
