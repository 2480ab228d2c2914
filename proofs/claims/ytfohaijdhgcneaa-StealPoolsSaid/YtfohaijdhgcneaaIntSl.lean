/- slices of ints that a call can read: Delete, Equal, Clone, Contains, Sort. -/
import Derived.Test.YtfohaijdhgcneaaSep
import Derived.Test.YtfohaijdhgcneaaArgs
import Derived.Test.YtfohaijdhgcneaaShelf
import Derived.Lib.SlKeysI
set_option linter.unusedVariables false
set_option linter.unusedSimpArgs false
namespace Go.Proofs.Ytfohaijdhgcneaa
open Go Go.RowKit Go.Sort

abbrev ints (l : List Int) : List Value := l.map (.int .i64)
theorem own_sl' {w : World} {B : Nat} {e : TypeId} {size n : Nat} {A : Option Addr} {cap : Nat} {xs : List Value} (h : w.ownsRow B e size (.slice A n cap) n xs) : Sl w w.heap.size A n cap size xs := by
  have hx : xs.length = n * size := h.1
  rcases h.2 with h0 | ⟨g, cap', cur, e, h2⟩
  · obtain ⟨e, rfl⟩ := h0
    simp only [Value.slice.injEq] at e
    obtain ⟨rfl, _, rfl⟩ := e
    exact ⟨hx, Nat.le_refl _, by omega, fun _ => rfl, fun h => absurd h (by omega)⟩
  · simp only [Value.slice.injEq, true_and] at e
    obtain ⟨rfl, rfl⟩ := e
    have hl := (h.lt g rfl).2
    obtain ⟨hb, hg, hnc, hcm, _⟩ := h2
    exact ⟨hx, hnc, Nat.le_trans hcm (by simp only [maxLen]; omega), by simp, fun hn => ⟨g, 0, rfl, hl, fun j u hu => by
      have hj : j < n * size := by have := (List.getElem?_eq_some_iff.1 hu).1; omega
      rw [Nat.zero_add]
      exact (h.cellAt j hj).trans hu⟩⟩
theorem Sl.later {w W : World} {B B' : Nat} {A : Option Addr} {n cap size : Nat} {xs : List Value} (h : Sl w B A n cap size xs) (ho : Only w W) (hB : B ≤ B') : Sl W B' A n cap size xs := by
  have h := h.only ho
  refine ⟨h.1, h.2.1, h.2.2.1, h.2.2.2.1, fun hn => ?_⟩
  obtain ⟨b, off, e, hb, hc⟩ := h.2.2.2.2 hn
  exact ⟨b, off, e, Nat.lt_of_lt_of_le hb hB, hc⟩
/-- A row of the call's own, read in a later world. -/
theorem own_sl {w W : World} {B : Nat} {e : TypeId} {size n : Nat} {A : Option Addr} {cap : Nat} {xs : List Value} (h : w.ownsRow B e size (.slice A n cap) n xs) (ho : Only w W) : Sl W W.heap.size A n cap size xs := (own_sl' h).later ho ho.size
theorem Sl.ints_at {w : World} {B : Nat} {A : Option Addr} {cap : Nat} {l : List Int} (h : Sl w B A l.length cap 1 (ints l)) (hn : 0 < l.length) : ∃ b off, A = some ⟨b, off, none⟩ ∧ b < B ∧ ∀ j, j < l.length → w.cell? ⟨b, off + j, none⟩ = some (.int .i64 (l.getD j 0)) := by
  obtain ⟨b, off, e, hb, hc⟩ := h.2.2.2.2 hn
  exact ⟨b, off, e, hb, fun j hj => hc j _ (by simp [ints, hj])⟩
/-- A row of the call's own, as the library's words have it. -/
theorem own_holds {w : World} {base : Nat} {e : TypeId} {g n cap : Nat} {l : List Int} (h : w.ownsRow base e 1 (.slice (some ⟨g, 0, none⟩) n cap) n (ints l)) : Holds (Value.int .i64) w g 0 l.toArray ∧ n = l.length ∧ n ≤ cap ∧ cap ≤ maxLen := by
  have hl : n = l.length := by simpa using h.1.symm
  subst hl
  rcases h.2 with h0 | ⟨g', cap', cur, e, hb, hg, hnc, hcm, hcs, ht⟩
  · cases h0.1
  · simp only [Value.slice.injEq, Option.some.injEq, Addr.mk.injEq, and_true, true_and] at e
    obtain ⟨rfl, rfl⟩ := e
    exact ⟨Go.Proofs.holds_of_block_i hg (by simpa using ht), rfl, hnc, hcm⟩
/-- The row's block behind what the library has laid into it. -/
theorem own_put {w : World} {base : Nat} {e : TypeId} {g n cap q m : Nat} {xs : List Value} {d ts : List Int} (h : w.ownsRow base e 1 (.slice (some ⟨g, 0, none⟩) n cap) n xs) (hd : d.length = n) (hts : d.take m = ts) (hm : m ≤ n) (hml : ts.length = m) :
    (putRow (Value.int .i64) (Sort.ahead w q) g 0 d.toArray).ownsRow base e 1 (.slice (some ⟨g, 0, none⟩) m cap) m (ints ts) ∧ Stay (fun k => k = g) w (putRow (Value.int .i64) (Sort.ahead w q) g 0 d.toArray) := by
  rcases h.2 with h0 | ⟨g', cap', cur, e, hb, hg, hnc, hcm, hcs, ht⟩
  · cases h0.1
  · simp only [Value.slice.injEq, Option.some.injEq, Addr.mk.injEq, and_true, true_and] at e
    obtain ⟨rfl, rfl⟩ := e
    refine ⟨⟨by simp [hml], .inr ⟨g, cap, putCells (Value.int .i64) 0 d.toArray cur, rfl, hb, ?_, by omega, hcm, by simp [putCells, hcs], ?_⟩⟩, ⟨rfl, rfl, rfl, by simp [putRow, mapBlock, Sort.ahead], fun k hk hne => ?_⟩⟩
    · simp [putRow, mapBlock, Sort.ahead, Array.getElem?_modify, hg, onCells]
    · have h1 := Go.Proofs.take_putCells_i cur d (by omega)
      rw [Nat.mul_one, ← hts]
      have h2 : (putCells encZ 0 d.toArray cur).toList.take m = ((putCells encZ 0 d.toArray cur).toList.take d.length).take m := by rw [List.take_take, Nat.min_eq_left (by omega)]
      show (putCells encZ 0 d.toArray cur).toList.take m = _
      rw [h2, h1]
      simp [encZ]
    · have : g ≠ k := fun e => hne e.symm
      simp [putRow, mapBlock, Sort.ahead, Array.getElem?_modify, this]

end Go.Proofs.Ytfohaijdhgcneaa
