/- What a played race has said. -/
import Derived.Test.YtfohaijdhgcneaaStealPlayed2
import Derived.Test.YtfohaijdhgcneaaStealMade
set_option linter.unusedVariables false
set_option linter.unusedSimpArgs false
namespace Go.Proofs.Ytfohaijdhgcneaa
open Go Go.RowKit

theorem play_tr {room : Nat} {own thv : List Int} (hv : Valid room own thv) (order : List Int) :
    Tr ((Rc.start room own thv (thv.map Int.toNat)).play order).1 ((Rc.start room own thv (thv.map Int.toNat)).play order).2 ((Rc.start room own thv (thv.map Int.toNat)).play order).1.rest := by
  have hok := Rc.start_ok room own thv (thv.map Int.toNat) (by have := hv.r1; omega) (by have := hv.r2; omega) hv.o (by simpa using hv.t) hv.ox (fun n hn => by
    obtain ⟨y, hy, rfl⟩ := List.mem_map.1 hn
    have := hv.tx y hy
    omega)
  obtain ⟨q, h⟩ := Tr.runs (sched order) (Tr.start hok)
  have := h.deq.rest (play_done hok order).2
  show Tr _ _ (Rc.rest (Rc.runs (Rc.start room own thv (thv.map Int.toNat), []) (sched order)).1)
  rw [this]
  exact h
theorem start_got (room : Nat) (own thv : List Int) (i : Int) : (Rc.start room own thv (thv.map Int.toNat)).got i = [] := by
  unfold Rc.got
  split
  · rfl
  · split
    · rfl
    · rename_i a ha
      have hm := List.mem_of_getElem? ha
      rcases List.mem_cons.1 hm with rfl | hm
      · rfl
      · obtain ⟨n, _, rfl⟩ := List.mem_map.1 hm
        rfl
def said (l : List (Int × Int)) (k : Nat) : Int × Int := l.getD k (0, 0)
theorem since_at {i : Int} {l : List (Int × Int)} (h : Since i l) : ∃ m, m < l.length ∧ 0 < (said l m).2 ∧ ∀ c, m ≤ c → c < l.length → (said l c).1 ≠ i := by
  obtain ⟨l1, l2, rfl, h1, e, h2, h3⟩ := h
  obtain ⟨m, hm, rfl⟩ := List.getElem_of_mem h2
  have hs : ∀ c, l1.length ≤ c → (hc : c < (l1 ++ l2).length) → said (l1 ++ l2) c = l2[c - l1.length]'(by simp at hc; omega) := fun c h0 hc => by
    unfold said
    rw [List.getD_eq_getElem?_getD, List.getElem?_append_right h0, List.getElem?_eq_getElem (by simp at hc; omega)]
    rfl
  refine ⟨l1.length + m, by simp; omega, ?_, fun c h0 hc => ?_⟩
  · rw [hs _ (by omega) (by simp; omega)]
    simpa using h3
  · rw [hs c (by omega) hc]
    exact h1 _ (List.getElem_mem _)
theorem said_take {l : List (Int × Int)} {i c : Nat} (h : c < i) : said (l.take i) c = said l c := by
  unfold said
  rw [List.getD_eq_getElem?_getD, List.getElem?_take, if_pos h, List.getD_eq_getElem?_getD]
theorem split_at {l : List (Int × Int)} {i : Nat} (h : i < l.length) : l = l.take i ++ said l i :: l.drop (i + 1) := by
  unfold said
  rw [List.getD_eq_getElem?_getD, List.getElem?_eq_getElem h]
  simp
/-- A row of pairs. -/
theorem twos_at : ∀ (l : List (Int × Int)) (k : Nat), k < l.length → (l.flatMap two)[k * 2]? = some (.int .i64 (said l k).1) ∧ (l.flatMap two)[k * 2 + 1]? = some (.int .i64 (said l k).2)
  | [], k, h => by simp at h
  | p :: l, 0, h => ⟨rfl, rfl⟩
  | p :: l, k + 1, h => by
    have := twos_at l k (by simpa using h)
    rw [List.flatMap_cons, List.getElem?_append_right (by simp [two]; omega), List.getElem?_append_right (by simp [two]; omega), two_len, show (k + 1) * 2 - 2 = k * 2 by omega, show (k + 1) * 2 + 1 - 2 = k * 2 + 1 by omega]
    exact this
theorem row_two {w : World} {base g cap : Nat} {l : List (Int × Int)} (h : w.ownsRow base 34 2 (.slice (some ⟨g, 0, none⟩) l.length cap) l.length (l.flatMap two)) {k : Nat} (hk : k < l.length) :
    w.cell? ⟨g, k * 2, none⟩ = some (.int .i64 (said l k).1) ∧ w.cell? ⟨g, k * 2 + 1, none⟩ = some (.int .i64 (said l k).2) := by
  obtain ⟨h1, h2⟩ := twos_at l k hk
  have e1 := h.cellAt (k * 2) (by omega)
  have e2 := h.cellAt (k * 2 + 1) (by omega)
  exact ⟨e1.trans h1, e2.trans h2⟩
theorem play_len (R : Rc) (order : List Int) : (R.play order).2.length ≤ 10000 := Nat.le_trans (runs_len _ _) (by
  unfold sched
  simp only [List.length_append, tail_len, List.length_take, List.length_nil]
  omega)
/-- What a missed steal tells. -/
theorem Tr.missed {R : Rc} {out : List (Int × Int)} {q : List Int} (h : Tr R out q) {i : Nat} (hi : i < out.length) (h0 : (said out i).1 ≠ 0) (h1 : (said out i).2 = -1) :
    ∃ m, m < i ∧ 0 < (said out m).2 ∧ ∀ c, m ≤ c → c < i → (said out c).1 ≠ (said out i).1 := by
  have hs : Since (said out i).1 (out.take i) := h.miss (out.take i) (out.drop (i + 1)) (said out i).1 (by
    have e : ((said out i).1, (-1 : Int)) = said out i := by rw [← h1]
    rw [e]
    exact split_at hi) h0
  obtain ⟨m, h2, h3, h4⟩ := since_at hs
  rw [List.length_take] at h2 h4
  refine ⟨m, by omega, by rw [said_take (by omega)] at h3; exact h3, fun c hc hci => ?_⟩
  have := h4 c hc (by omega)
  rwa [said_take (by omega)] at this
end Go.Proofs.Ytfohaijdhgcneaa
