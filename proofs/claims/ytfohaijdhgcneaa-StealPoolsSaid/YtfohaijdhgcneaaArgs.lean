/- Slices that came in, as lists of cells. -/
import Derived.Test.YtfohaijdhgcneaaHeap2
set_option linter.unusedVariables false
set_option linter.unusedSimpArgs false
namespace Go.Proofs.Ytfohaijdhgcneaa
open Go Go.RowKit

/-- A slice that came in: n elements of so many cells each, below block B. -/
def Sl (w : World) (B : Nat) (A : Option Addr) (n cap size : Nat) (xs : List Value) : Prop :=
  xs.length = n * size ∧ n ≤ cap ∧ cap ≤ 9223372036854775807 ∧ (A = none → cap = 0) ∧ (0 < n → ∃ b off, A = some ⟨b, off, none⟩ ∧ b < B ∧ ∀ j u, xs[j]? = some u → w.cell? ⟨b, off + j, none⟩ = some u)

theorem Sl.mono {w w' : World} {B : Nat} {A : Option Addr} {n cap size : Nat} {xs : List Value} (h : Sl w B A n cap size xs) (hb : Below B w w') : Sl w' B A n cap size xs := by
  refine ⟨h.1, h.2.1, h.2.2.1, h.2.2.2.1, fun hn => ?_⟩
  obtain ⟨b, off, e, hb', hc⟩ := h.2.2.2.2 hn
  exact ⟨b, off, e, hb', fun j u hu => (hb.cell (p := ⟨b, off + j, none⟩) hb').trans (hc j u hu)⟩

theorem Sl.only {w w' : World} {B : Nat} {A : Option Addr} {n cap size : Nat} {xs : List Value} (h : Sl w B A n cap size xs) (ho : Only w w') : Sl w' B A n cap size xs := by
  refine ⟨h.1, h.2.1, h.2.2.1, h.2.2.2.1, fun hn => ?_⟩
  obtain ⟨b, off, e, hb', hc⟩ := h.2.2.2.2 hn
  exact ⟨b, off, e, hb', fun j u hu => ho.cell (hc j u hu)⟩

theorem flat_at {α : Type} (f : α → List Value) (s : Nat) (hf : ∀ x, (f x).length = s) : ∀ (l : List α) (i : Nat) (x : α) (j : Nat), l[i]? = some x → j < s → (l.flatMap f)[i * s + j]? = (f x)[j]?
  | [], i, x, j, h, _ => by simp at h
  | y :: l, 0, x, j, h, hj => by
    simp only [List.getElem?_cons_zero, Option.some.injEq] at h
    subst h
    simp only [List.flatMap_cons, Nat.zero_mul, Nat.zero_add]
    rw [List.getElem?_append_left (by rw [hf]; exact hj)]
  | y :: l, i + 1, x, j, h, hj => by
    simp only [List.getElem?_cons_succ] at h
    simp only [List.flatMap_cons]
    have e : (i + 1) * s + j = (f y).length + (i * s + j) := by rw [hf, Nat.add_mul]; omega
    rw [e, List.getElem?_append_right (by omega)]
    simp only [Nat.add_sub_cancel_left]
    exact flat_at f s hf l i x j h hj

theorem flat_len {α : Type} (f : α → List Value) (s : Nat) (hf : ∀ x, (f x).length = s) (l : List α) : (l.flatMap f).length = l.length * s := by
  induction l with
  | nil => simp
  | cons y l ih => simp only [List.flatMap_cons, List.length_append, hf, ih, List.length_cons, Nat.add_mul]; omega

/-- The cells of an element. -/
theorem Sl.elem {α : Type} {f : α → List Value} {s : Nat} (hf : ∀ x, (f x).length = s) {w : World} {B : Nat} {A : Option Addr} {n cap : Nat} {l : List α} (h : Sl w B A n cap s (l.flatMap f)) {i : Nat} {x : α} (hi : l[i]? = some x) (hn : 0 < n) :
    ∃ b off, A = some ⟨b, off, none⟩ ∧ b < B ∧ ∀ j u, (f x)[j]? = some u → w.cell? ⟨b, off + i * s + j, none⟩ = some u := by
  obtain ⟨b, off, e, hb, hc⟩ := h.2.2.2.2 hn
  refine ⟨b, off, e, hb, fun j u hu => ?_⟩
  rw [Nat.add_assoc]
  refine hc _ u ?_
  have hj : j < s := by
    rw [← hf x]
    exact (List.getElem?_eq_some_iff.1 hu).1
  rw [flat_at f s hf l i x j hi hj]
  exact hu

end Go.Proofs.Ytfohaijdhgcneaa
