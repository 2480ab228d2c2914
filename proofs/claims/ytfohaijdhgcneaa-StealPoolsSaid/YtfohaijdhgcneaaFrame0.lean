/- Arguments opened: a slice of elements, as a list. -/
import Derived.Test.YtfohaijdhgcneaaArgs
import Derived.Test.YtfohaijdhgcneaaRows
import Derived.Deep.Slices
import Derived.WalkKit
import Derived.ProofKit
import Derived.OpenShut
import Derived.ShutString
import Derived.ChangeOld
import Derived.Below
set_option linter.unusedVariables false
set_option linter.unusedSimpArgs false
namespace Go.Proofs.Ytfohaijdhgcneaa
open Go Go.RowKit Go.ChangeShapes Go.WideShapes

theorem own : ownKnob Try.prog.godebug = none := by kernel_rfl
theorem laidOut : laidOutB Try.prog = true := by kernel_rfl

theorem list_of {α : Type} (q : Nat → α → Prop) : ∀ n : Nat, (∀ i, i < n → ∃ a, q i a) → ∃ l : List α, l.length = n ∧ ∀ i a, l[i]? = some a → q i a
  | 0, _ => ⟨[], rfl, by simp⟩
  | n + 1, h => by
    obtain ⟨l, hl, hq⟩ := list_of q n (fun i hi => h i (by omega))
    obtain ⟨a, ha⟩ := h n (by omega)
    refine ⟨l ++ [a], by simp [hl], fun i x hx => ?_⟩
    by_cases hi : i < l.length
    · rw [List.getElem?_append_left hi] at hx
      exact hq i x hx
    · rw [List.getElem?_append_right (by omega)] at hx
      have e : i - l.length = 0 := by
        have := (List.getElem?_eq_some_iff.1 hx).1
        simp at this
        omega
      rw [e] at hx
      simp only [List.getElem?_cons_zero, Option.some.injEq] at hx
      subst hx
      obtain rfl : i = n := by omega
      exact ha

theorem open_sl {H : Type} {enc : TypeId × Value → H} {P : Program} {w : World} {base : Nat} {spare : Nat → Bool} {held : Bool} {t e : TypeId} {α : Type} (f : α → List Value) (p : α → Prop) (size : Nat) (hf : ∀ x, (f x).length = size) (ht : P.underlying t = some (.slice e)) (hc : P.cellsOf e = size) (hs : 0 < size)
    (el : ∀ n cs x, DataW.trod enc P w base spare held n e cs = some x → ∃ a : α, cs = f a ∧ p a)
    {A : Option Addr} {len cap : Nat} {d : DataW H} {ps : List MemPlace} (hd : DataW.Trod enc P w base spare held t (.slice A len cap) d ps) : ∃ l : List α, l.length = len ∧ (∀ a ∈ l, p a) ∧ Sl w w.heap.size A len cap size (l.flatMap f) := by
  obtain ⟨fuel, hfu⟩ := hd
  rcases Go.Deep.open_slice ht hfu with ⟨hcs, _⟩ | ⟨a, l, c, m, n, D, Pl, hcs, _, hl, hm, hmm, hx, hel⟩
  · simp [Value.cells] at hcs
    obtain ⟨rfl, rfl, rfl⟩ := hcs
    exact ⟨[], rfl, by simp, by simp, Nat.le_refl _, by omega, fun _ => rfl, fun h => absurd h (by omega)⟩
  · simp [Value.cells] at hcs
    obtain ⟨rfl, rfl, rfl⟩ := hcs
    rw [hc] at hel
    have hlm : len ≤ m := by rw [hmm]; split <;> omega
    obtain ⟨xs, hxl, hxq⟩ := list_of (fun i (x : α) => p x ∧ a.block < w.heap.size ∧ ∀ j, j < size → w.cell? ((a.add (i * size)).add j) = (f x)[j]?) len (fun i hi => by
      obtain ⟨cs', h1, h2⟩ := hel i (by omega)
      obtain ⟨x, rfl, hp⟩ := el _ _ _ h2
      have hb := World.cells?_block h1 hs
      exact ⟨x, hp, by unfold Addr.add at hb; split at hb <;> exact hb, (World.cells?_some h1).2.2⟩)
    refine ⟨xs, hxl, fun x hx => ?_, by rw [flat_len f size hf, hxl], hl, Nat.le_trans hm (by simp only [maxLen]; omega), by simp, fun hn => ?_⟩
    · obtain ⟨i, hi⟩ := List.getElem?_of_mem hx
      exact (hxq i x hi).1
    · have hall : ∀ j u, (xs.flatMap f)[j]? = some u → a.block < w.heap.size ∧ w.cell? (a.add j) = some u := by
        intro j u hu
        have hjl : j < len * size := by
          have := (List.getElem?_eq_some_iff.1 hu).1
          rwa [flat_len f size hf, hxl] at this
        have hq : j / size < len := Nat.div_lt_of_lt_mul (by rwa [Nat.mul_comm] at hjl)
        obtain ⟨x, hx⟩ : ∃ x, xs[j / size]? = some x := ⟨_, List.getElem?_eq_getElem (by omega)⟩
        obtain ⟨_, h1, h2⟩ := hxq _ _ hx
        have hr : j % size < size := Nat.mod_lt _ hs
        have e : j = j / size * size + j % size := by rw [Nat.mul_comm]; exact (Nat.div_add_mod j size).symm
        refine ⟨h1, ?_⟩
        have h3 := h2 _ hr
        rw [Go.Deep.add_add, ← e] at h3
        rw [h3, ← flat_at f size hf xs _ x _ hx hr, ← e]
        exact hu
      obtain ⟨b, off, spot⟩ := a
      have h0 : (xs.flatMap f)[0]? = some ((xs.flatMap f)[0]'(by rw [flat_len f size hf, hxl]; exact Nat.mul_pos hn hs)) := List.getElem?_eq_getElem _
      obtain ⟨hb, h1⟩ := hall 0 _ h0
      have hspot : spot = none := by simpa [Addr.add] using World.cell?_spot h1
      subst hspot
      refine ⟨b, off, rfl, hb, fun j u hu => ?_⟩
      have h2 := (hall j u hu).2
      unfold Addr.add at h2
      split at h2
      · rename_i hj
        subst hj
        simpa using h2
      · exact h2

theorem cells3 : Try.prog.cellsOf 3 = 1 := by kernel_rfl

theorem fld {H : Type} {enc : TypeId × Value → H} {w : World} {base : Nat} {spare : Nat → Bool} {held : Bool} {P : Program} {fs : Array Field} {m : Nat} {cs : List Value} {xs : List (DataW H × List MemPlace)}
    (hf : ∀ (i : Nat) (f : Field), fs[i]? = some f → DataW.trod enc P w base spare held m f.type (List.take (P.cellsOf f.type) (List.drop f.offset cs)) = xs[i]?)
    (i : Nat) (f : Field) (hi : fs[i]? = some f) (T off k : Nat) (hT : f.type = T) (ho : f.offset = off) (hk : P.cellsOf T = k) : DataW.trod enc P w base spare held m T (List.take k (List.drop off cs)) = xs[i]? := by
  subst hT ho hk
  exact hf i f hi

end Go.Proofs.Ytfohaijdhgcneaa
