/- A channel in memory: its struct's cells (a ring of sixteen values), and the list of those who wait. -/
import Derived.Test.YtfmkdkpgehkfaaaRows
import Derived.Test.YtfmkdkpgehkfaaaHeap
import Derived.Test.YtfmkdkpgehkfaaaChanPure
set_option linter.unusedVariables false
set_option linter.unusedSimpArgs false
namespace Go.Proofs.Ytfmkdkpgehkfaaa
open Go Go.RowKit

/-- The cells of a channel's struct. -/
def cc (cap pol : Int) (closed : Bool) (r : List V) (fr n : Nat) (p : Option Addr) (nw : Nat) (dr : Int) : List Value :=
  .int .i64 cap :: .int .i64 pol :: .bool closed :: (r.flatMap V.cells ++ [.int .i64 fr, .int .i64 n, .pointer p, .int .i64 nw, .int .i64 dr])

theorem cells_length (r : List V) : (r.flatMap V.cells).length = 3 * r.length := by
  induction r with
  | nil => rfl
  | cons x l ih => simp only [List.flatMap_cons, List.length_append, ih, V.cells, List.length_cons, List.length_nil]; omega

theorem cells_at (r : List V) : ∀ (i : Nat) (v : V), r[i]? = some v → (r.flatMap V.cells)[i * 3]? = some (.int .i64 v.k) ∧ (r.flatMap V.cells)[i * 3 + 1]? = some (.int .i64 v.n) ∧ (r.flatMap V.cells)[i * 3 + 2]? = some (.string v.s) := by
  induction r with
  | nil => intro i v h; simp at h
  | cons x l ih =>
    intro i v h
    cases i with
    | zero =>
      simp only [List.getElem?_cons_zero, Option.some.injEq] at h
      subst h
      simp [V.cells]
    | succ i =>
      simp only [List.getElem?_cons_succ] at h
      obtain ⟨h1, h2, h3⟩ := ih i v h
      have e : (i + 1) * 3 = i * 3 + 1 + 1 + 1 := by omega
      simp only [List.flatMap_cons, V.cells, List.cons_append, List.nil_append, e]
      exact ⟨by simpa using h1, by simpa using h2, by simpa using h3⟩

theorem cells_set (v : V) : ∀ (r : List V) (i : Nat), i < r.length → (((r.flatMap V.cells).set (i * 3) (.int .i64 v.k)).set (i * 3 + 1) (.int .i64 v.n)).set (i * 3 + 2) (.string v.s) = (r.set i v).flatMap V.cells := by
  intro r
  induction r with
  | nil => intro i h; simp at h
  | cons x l ih =>
    intro i h
    cases i with
    | zero => simp [V.cells]
    | succ i =>
      have e : (i + 1) * 3 = i * 3 + 1 + 1 + 1 := by omega
      have := ih i (by simpa using h)
      simp only [List.flatMap_cons, V.cells, List.cons_append, List.nil_append, e, List.set_cons_succ]
      rw [this]

section
variable {cap pol : Int} {closed : Bool} {r : List V} {fr n : Nat} {p : Option Addr} {nw : Nat} {dr : Int}
theorem cc_ring (i : Nat) (v : V) (h : r[i]? = some v) : (cc cap pol closed r fr n p nw dr)[3 + i * 3]? = some (.int .i64 v.k) ∧ (cc cap pol closed r fr n p nw dr)[3 + i * 3 + 1]? = some (.int .i64 v.n) ∧ (cc cap pol closed r fr n p nw dr)[3 + i * 3 + 2]? = some (.string v.s) := by
  obtain ⟨h1, h2, h3⟩ := cells_at r i v h
  have hl : i < r.length := (List.getElem?_eq_some_iff.1 h).1
  have hc := cells_length r
  have e0 : 3 + i * 3 = i * 3 + 1 + 1 + 1 := by omega
  have e1 : i * 3 + 1 + 1 + 1 + 1 = (i * 3 + 1) + 1 + 1 + 1 := by omega
  have e2 : i * 3 + 1 + 1 + 1 + 2 = (i * 3 + 2) + 1 + 1 + 1 := by omega
  unfold cc
  rw [e0, e1, e2]
  simp only [List.getElem?_cons_succ]
  rw [List.getElem?_append_left (by omega), List.getElem?_append_left (by omega), List.getElem?_append_left (by omega)]
  exact ⟨h1, h2, h3⟩

theorem cc_tail (h : r.length = 16) (j : Nat) : (cc cap pol closed r fr n p nw dr)[51 + j]? = ([.int .i64 fr, .int .i64 n, .pointer p, .int .i64 nw, .int .i64 dr] : List Value)[j]? := by
  have hc := cells_length r
  unfold cc
  rw [show 51 + j = (48 + j) + 1 + 1 + 1 by omega]
  simp only [List.getElem?_cons_succ]
  rw [List.getElem?_append_right (by omega)]
  congr 1
  omega

theorem cc_set_ring (h : r.length = 16) (i : Nat) (hi : i < 16) (v : V) : (((cc cap pol closed r fr n p nw dr).set (3 + i * 3) (.int .i64 v.k)).set (3 + i * 3 + 1) (.int .i64 v.n)).set (3 + i * 3 + 2) (.string v.s) = cc cap pol closed (r.set i v) fr n p nw dr := by
  have hc := cells_length r
  have e0 : 3 + i * 3 = i * 3 + 1 + 1 + 1 := by omega
  have e1 : i * 3 + 1 + 1 + 1 + 1 = (i * 3 + 1) + 1 + 1 + 1 := by omega
  have e2 : i * 3 + 1 + 1 + 1 + 2 = (i * 3 + 2) + 1 + 1 + 1 := by omega
  unfold cc
  rw [e0, e1, e2]
  simp only [List.set_cons_succ]
  rw [List.set_append_left _ _ (by omega), List.set_append_left _ _ (by simp only [List.length_set]; omega), List.set_append_left _ _ (by simp only [List.length_set]; omega), cells_set v r i (by omega)]

theorem cc_set_tail (h : r.length = 16) (j : Nat) (x : Value) : (cc cap pol closed r fr n p nw dr).set (51 + j) x = .int .i64 cap :: .int .i64 pol :: .bool closed :: (r.flatMap V.cells ++ ([.int .i64 fr, .int .i64 n, .pointer p, .int .i64 nw, .int .i64 dr] : List Value).set j x) := by
  have hc := cells_length r
  unfold cc
  rw [show 51 + j = (48 + j) + 1 + 1 + 1 by omega]
  simp only [List.set_cons_succ]
  rw [List.set_append_right _ _ (by omega)]
  congr 5
  omega
theorem cc_set_fr (h : r.length = 16) (x : Nat) : (cc cap pol closed r fr n p nw dr).set 51 (.int .i64 x) = cc cap pol closed r x n p nw dr := cc_set_tail h 0 _
theorem cc_set_n (h : r.length = 16) (x : Nat) : (cc cap pol closed r fr n p nw dr).set 52 (.int .i64 x) = cc cap pol closed r fr x p nw dr := cc_set_tail h 1 _
theorem cc_set_p (h : r.length = 16) (x : Option Addr) : (cc cap pol closed r fr n p nw dr).set 53 (.pointer x) = cc cap pol closed r fr n x nw dr := cc_set_tail h 2 _
theorem cc_set_nw (h : r.length = 16) (x : Nat) : (cc cap pol closed r fr n p nw dr).set 54 (.int .i64 x) = cc cap pol closed r fr n p x dr := cc_set_tail h 3 _
theorem cc_set_dr (h : r.length = 16) (x : Int) : (cc cap pol closed r fr n p nw dr).set 55 (.int .i64 x) = cc cap pol closed r fr n p nw x := cc_set_tail h 4 _
theorem cc_set_closed (x : Bool) : (cc cap pol closed r fr n p nw dr).set 2 (.bool x) = cc cap pol x r fr n p nw dr := rfl
end

/-- The struct of a channel lies in block b. -/
def CC (w : World) (b : Nat) (cap pol : Int) (closed : Bool) (r : List V) (fr n : Nat) (p : Option Addr) (nw : Nat) (dr : Int) : Prop :=
  r.length = 16 ∧ Blk w b 75 (cc cap pol closed r fr n p nw dr)

section
variable {w : World} {b : Nat} {cap pol : Int} {closed : Bool} {r : List V} {fr n : Nat} {p : Option Addr} {nw : Nat} {dr : Int}
theorem CC.cap_ (h : CC w b cap pol closed r fr n p nw dr) : w.cell? ⟨b, 0, none⟩ = some (.int .i64 cap) := h.2.at rfl
theorem CC.pol_ (h : CC w b cap pol closed r fr n p nw dr) : w.cell? ⟨b, 1, none⟩ = some (.int .i64 pol) := h.2.at rfl
theorem CC.closed_ (h : CC w b cap pol closed r fr n p nw dr) : w.cell? ⟨b, 2, none⟩ = some (.bool closed) := h.2.at rfl
theorem CC.fr_ (h : CC w b cap pol closed r fr n p nw dr) : w.cell? ⟨b, 51, none⟩ = some (.int .i64 fr) := h.2.at (cc_tail h.1 0)
theorem CC.n_ (h : CC w b cap pol closed r fr n p nw dr) : w.cell? ⟨b, 52, none⟩ = some (.int .i64 n) := h.2.at (cc_tail h.1 1)
theorem CC.p_ (h : CC w b cap pol closed r fr n p nw dr) : w.cell? ⟨b, 53, none⟩ = some (.pointer p) := h.2.at (cc_tail h.1 2)
theorem CC.nw_ (h : CC w b cap pol closed r fr n p nw dr) : w.cell? ⟨b, 54, none⟩ = some (.int .i64 nw) := h.2.at (cc_tail h.1 3)
theorem CC.dr_ (h : CC w b cap pol closed r fr n p nw dr) : w.cell? ⟨b, 55, none⟩ = some (.int .i64 dr) := h.2.at (cc_tail h.1 4)
theorem CC.ring_ (h : CC w b cap pol closed r fr n p nw dr) {i : Nat} {v : V} (hi : r[i]? = some v) :
    w.cell? ⟨b, 3 + i * 3, none⟩ = some (.int .i64 v.k) ∧ w.cell? ⟨b, 3 + i * 3 + 1, none⟩ = some (.int .i64 v.n) ∧ w.cell? ⟨b, 3 + i * 3 + 2, none⟩ = some (.string v.s) :=
  ⟨h.2.at (cc_ring i v hi).1, h.2.at (cc_ring i v hi).2.1, h.2.at (cc_ring i v hi).2.2⟩
theorem CC.free (h : CC w b cap pol closed r fr n p nw dr) (i : Nat) : w.frozen? ⟨b, i, none⟩ = false := h.2.free i
theorem CC.lt (h : CC w b cap pol closed r fr n p nw dr) : b < w.heap.size := h.2.lt
theorem CC.same {w' : World} (h : CC w b cap pol closed r fr n p nw dr) (hb : w'.heap[b]? = w.heap[b]?) : CC w' b cap pol closed r fr n p nw dr := ⟨h.1, h.2.same hb⟩
theorem CC.stay {w' : World} {S : Nat → Prop} (h : CC w b cap pol closed r fr n p nw dr) (hs : Stay S w w') (hn : ¬ S b) : CC w' b cap pol closed r fr n p nw dr := ⟨h.1, hs.blk h.2 hn⟩
theorem CC.set_ring (h : CC w b cap pol closed r fr n p nw dr) {i : Nat} (hi : i < 16) (v : V) :
    CC (((w.setCell ⟨b, 3 + i * 3, none⟩ (.int .i64 v.k)).setCell ⟨b, 3 + i * 3 + 1, none⟩ (.int .i64 v.n)).setCell ⟨b, 3 + i * 3 + 2, none⟩ (.string v.s)) b cap pol closed (r.set i v) fr n p nw dr :=
  ⟨by simp [h.1], by rw [← cc_set_ring h.1 i hi v]; exact ((h.2.set _ _).set _ _).set _ _⟩
theorem CC.set_fr (h : CC w b cap pol closed r fr n p nw dr) (x : Nat) : CC (w.setCell ⟨b, 51, none⟩ (.int .i64 x)) b cap pol closed r x n p nw dr := ⟨h.1, by rw [← cc_set_fr h.1 x]; exact h.2.set _ _⟩
theorem CC.set_n (h : CC w b cap pol closed r fr n p nw dr) (x : Nat) : CC (w.setCell ⟨b, 52, none⟩ (.int .i64 x)) b cap pol closed r fr x p nw dr := ⟨h.1, by rw [← cc_set_n h.1 x]; exact h.2.set _ _⟩
theorem CC.set_p (h : CC w b cap pol closed r fr n p nw dr) (x : Option Addr) : CC (w.setCell ⟨b, 53, none⟩ (.pointer x)) b cap pol closed r fr n x nw dr := ⟨h.1, by rw [← cc_set_p h.1 x]; exact h.2.set _ _⟩
theorem CC.set_nw (h : CC w b cap pol closed r fr n p nw dr) (x : Nat) : CC (w.setCell ⟨b, 54, none⟩ (.int .i64 x)) b cap pol closed r fr n p x dr := ⟨h.1, by rw [← cc_set_nw h.1 x]; exact h.2.set _ _⟩
theorem CC.set_dr (h : CC w b cap pol closed r fr n p nw dr) (x : Int) : CC (w.setCell ⟨b, 55, none⟩ (.int .i64 x)) b cap pol closed r fr n p nw x := ⟨h.1, by rw [← cc_set_dr h.1 x]; exact h.2.set _ _⟩
theorem CC.set_closed (h : CC w b cap pol closed r fr n p nw dr) (x : Bool) : CC (w.setCell ⟨b, 2, none⟩ (.bool x)) b cap pol x r fr n p nw dr := ⟨h.1, h.2.set 2 _⟩
theorem CC.alloc (h : CC w b cap pol closed r fr n p nw dr) (o : Obj) : CC (w.alloc o) b cap pol closed r fr n p nw dr := ⟨h.1, h.2.alloc o⟩
theorem CC.drew (h : CC w b cap pol closed r fr n p nw dr) : CC w.drew b cap pol closed r fr n p nw dr := h
theorem CC.drewN (h : CC w b cap pol closed r fr n p nw dr) (k : Nat) : CC (w.drewN k) b cap pol closed r fr n p nw dr := h
end

/-- The cells of a node. -/
def nc (x : Wt) (p : Option Addr) : List Value := [.int .i64 x.t, .bool x.send, .int .i64 x.v.k, .int .i64 x.v.n, .string x.v.s, .pointer p]
/-- The list of those who wait, from p on: the nodes lie in the blocks ns. -/
def Chain (w : World) : Option Addr → List Wt → List Nat → Prop
  | p, [], ns => p = none ∧ ns = []
  | p, x :: l, ns => ∃ k ns' q, p = some ⟨k, 0, none⟩ ∧ ns = k :: ns' ∧ Blk w k 77 (nc x q) ∧ Chain w q l ns'

theorem Chain.lt {w : World} : ∀ {l : List Wt} {p : Option Addr} {ns : List Nat}, Chain w p l ns → ∀ k ∈ ns, k < w.heap.size
  | [], _, _, ⟨_, h⟩, k, hk => by subst h; cases hk
  | x :: l, _, _, ⟨k', ns', q, _, h, hb, hc⟩, k, hk => by
    subst h
    rcases List.mem_cons.1 hk with rfl | hk
    · exact hb.lt
    · exact hc.lt k hk

theorem Chain.stay {w w' : World} {S : Nat → Prop} (hs : Stay S w w') : ∀ {l : List Wt} {p : Option Addr} {ns : List Nat}, Chain w p l ns → (∀ k ∈ ns, ¬ S k) → Chain w' p l ns
  | [], _, _, h, _ => h
  | x :: l, _, _, ⟨k, ns', q, h1, h2, hb, hc⟩, hn => by
    subst h2
    exact ⟨k, ns', q, h1, rfl, hs.blk hb (hn k (by simp)), hc.stay hs (fun i hi => hn i (by simp [hi]))⟩

theorem Chain.len {w : World} : ∀ {l : List Wt} {p : Option Addr} {ns : List Nat}, Chain w p l ns → ns.length = l.length
  | [], _, _, ⟨_, h⟩ => by subst h; rfl
  | x :: l, _, _, ⟨k, ns', q, _, h, _, hc⟩ => by subst h; simp [hc.len]

/-- The ring holds the buffer. -/
def Ring (r : List V) (fr : Nat) (buf : List V) : Prop := fr < 16 ∧ ∀ i, i < buf.length → r[(fr + i) % 16]? = buf[i]?

/-- A channel in memory: its struct in block b, its nodes in the blocks ns. -/
def ChAt (w : World) (b : Nat) (ns : List Nat) (c : Ch) : Prop :=
  ∃ r fr p, CC w b c.cap c.pol c.closed r fr c.buf.length p c.ws.length c.drop ∧ Ring r fr c.buf ∧ Chain w p c.ws ns ∧ (b :: ns).Nodup

theorem ChAt.stay {w w' : World} {S : Nat → Prop} {b : Nat} {ns : List Nat} {c : Ch} (h : ChAt w b ns c) (hs : Stay S w w') (hn : ∀ k ∈ b :: ns, ¬ S k) : ChAt w' b ns c := by
  obtain ⟨r, fr, p, h1, h2, h3, h4⟩ := h
  exact ⟨r, fr, p, h1.stay hs (hn b (by simp)), h2, h3.stay hs (fun k hk => hn k (by simp [hk])), h4⟩
theorem ChAt.mine {w w' : World} {B : Nat} {b : Nat} {ns : List Nat} {c : Ch} (h : ChAt w b ns c) (hs : Mine B w w') (hn : ∀ k ∈ b :: ns, k < B) : ChAt w' b ns c := h.stay hs (fun k hk e => absurd (hn k hk) (Nat.not_lt.2 e))
theorem ChAt.only {w w' : World} {b : Nat} {ns : List Nat} {c : Ch} (h : ChAt w b ns c) (hs : Only w w') : ChAt w' b ns c := h.stay hs (fun _ _ => id)
theorem ChAt.lt {w : World} {b : Nat} {ns : List Nat} {c : Ch} (h : ChAt w b ns c) : ∀ k ∈ b :: ns, k < w.heap.size := by
  obtain ⟨r, fr, p, h1, h2, h3, h4⟩ := h
  intro k hk
  rcases List.mem_cons.1 hk with rfl | hk
  · exact h1.lt
  · exact h3.lt k hk

theorem Ring.push {r : List V} {fr : Nat} {buf : List V} (h : Ring r fr buf) (hr : r.length = 16) (hb : buf.length < 16) (v : V) : Ring (r.set ((fr + buf.length) % 16) v) fr (buf ++ [v]) := by
  obtain ⟨hf, h⟩ := h
  refine ⟨hf, fun i hi => ?_⟩
  simp at hi
  by_cases e : i = buf.length
  · subst e
    rw [List.getElem?_set_self (by omega)]
    simp
  · rw [List.getElem?_set_ne (by omega), List.getElem?_append_left (by omega)]
    exact h i (by omega)

theorem Ring.pop {r : List V} {fr : Nat} {x : V} {buf : List V} (h : Ring r fr (x :: buf)) (hb : buf.length < 16) (v : V) : Ring (r.set fr v) ((fr + 1) % 16) buf ∧ r[fr]? = some x := by
  obtain ⟨hf, h⟩ := h
  refine ⟨⟨by omega, fun i hi => ?_⟩, ?_⟩
  · have := h (i + 1) (by simp; omega)
    simp only [List.getElem?_cons_succ] at this
    rw [← this, List.getElem?_set_ne (by omega)]
    congr 1
    omega
  · have := h 0 (by simp)
    simpa [Nat.mod_eq_of_lt hf] using this

/-! ### Links -/
/-- The cell that leads on behind the nodes npre. -/
def LinkAt (b : Nat) (npre : List Nat) : Addr :=
  match npre.getLast? with
  | none => ⟨b, 53, none⟩
  | some k => ⟨k, 5, none⟩

theorem LinkAt_nil (b : Nat) : LinkAt b [] = ⟨b, 53, none⟩ := rfl
theorem LinkAt_snoc (b : Nat) (npre : List Nat) (k : Nat) : LinkAt b (npre ++ [k]) = ⟨k, 5, none⟩ := by simp [LinkAt]
theorem LinkAt_cons (b k : Nat) (npre : List Nat) (h : npre ≠ []) (b' : Nat) : LinkAt b (k :: npre) = LinkAt b' npre := by
  unfold LinkAt
  rw [List.getLast?_cons]
  cases h' : npre.getLast? with
  | none => simp at h'; exact absurd h' h
  | some y => simp

theorem Chain.split {w : World} : ∀ {pre suf : List Wt} {p : Option Addr} {npre nsuf : List Nat}, npre.length = pre.length → Chain w p (pre ++ suf) (npre ++ nsuf) → pre ≠ [] →
    ∃ q k, npre.getLast? = some k ∧ w.cell? ⟨k, 5, none⟩ = some (.pointer q) ∧ w.frozen? ⟨k, 5, none⟩ = false ∧ Chain w q suf nsuf
  | [], _, _, _, _, _, _, h => absurd rfl h
  | [x], suf, p, npre, nsuf, hl, hc, _ => by
    obtain ⟨k, rfl⟩ : ∃ k, npre = [k] := by
      match npre, hl with
      | [k], _ => exact ⟨k, rfl⟩
    obtain ⟨k', ns', q, h1, h2, hb, hc⟩ := hc
    simp only [List.cons_append, List.nil_append, List.cons.injEq] at h2
    obtain ⟨rfl, rfl⟩ := h2
    exact ⟨q, k, rfl, hb.at rfl, hb.free 5, hc⟩
  | x :: y :: pre, suf, p, npre, nsuf, hl, hc, _ => by
    obtain ⟨k, npre', rfl⟩ : ∃ k l, npre = k :: l := by
      match npre, hl with
      | k :: l, _ => exact ⟨k, l, rfl⟩
    obtain ⟨k', ns', q, h1, h2, hb, hc⟩ := hc
    simp only [List.cons_append, List.cons.injEq] at h2
    obtain ⟨rfl, rfl⟩ := h2
    obtain ⟨q', k', hk, h3⟩ := Chain.split (pre := y :: pre) (by simpa using hl) hc (by simp)
    exact ⟨q', k', by rw [List.getLast?_cons, hk]; rfl, h3⟩

/-- What the link behind the nodes npre leads to. -/
theorem link_cell {w : World} {b : Nat} {cap pol : Int} {closed : Bool} {r : List V} {fr n : Nat} {p : Option Addr} {nw : Nat} {dr : Int} {pre suf : List Wt} {npre nsuf : List Nat}
    (h : CC w b cap pol closed r fr n p nw dr) (hl : npre.length = pre.length) (hc : Chain w p (pre ++ suf) (npre ++ nsuf)) :
    ∃ q, w.cell? (LinkAt b npre) = some (.pointer q) ∧ w.frozen? (LinkAt b npre) = false ∧ Chain w q suf nsuf := by
  by_cases e : pre = []
  · subst e
    obtain rfl : npre = [] := List.eq_nil_of_length_eq_zero hl
    exact ⟨p, h.p_, h.free _, hc⟩
  · obtain ⟨q, k, hk, h1, h2, h3⟩ := hc.split hl e
    refine ⟨q, ?_, ?_, h3⟩ <;> unfold LinkAt <;> rw [hk]
    · exact h1
    · exact h2

theorem Chain.relink {w : World} {q' : Option Addr} {l : List Wt} {nl : List Nat} : ∀ {pre suf : List Wt} {p : Option Addr} {npre nsuf : List Nat}, npre.length = pre.length → Chain w p (pre ++ suf) (npre ++ nsuf) → pre ≠ [] → npre.Nodup →
    Chain w q' l nl → (∀ k ∈ npre, k ∉ nl) → ∀ b, Chain (w.setCell (LinkAt b npre) (.pointer q')) p (pre ++ l) (npre ++ nl)
  | [], _, _, _, _, _, _, h, _, _, _ => absurd rfl h
  | [x], suf, p, npre, nsuf, hl, hc, _, hd, hq, hn => by
    intro b
    obtain ⟨k, rfl⟩ : ∃ k, npre = [k] := by
      match npre, hl with
      | [k], _ => exact ⟨k, rfl⟩
    obtain ⟨k', ns', q, h1, h2, hb, hc⟩ := hc
    simp only [List.cons_append, List.nil_append, List.cons.injEq] at h2
    obtain ⟨rfl, rfl⟩ := h2
    refine ⟨k, nl, q', h1, rfl, hb.set 5 (.pointer q'), ?_⟩
    exact hq.stay (S := (· = k)) ((Stay.refl _ _).put (by rfl) _ _) (fun i hi e => by subst e; exact hn i (by simp) hi)
  | x :: y :: pre, suf, p, npre, nsuf, hl, hc, _, hd, hq, hn => by
    intro b
    obtain ⟨k, npre', rfl⟩ : ∃ k l, npre = k :: l := by
      match npre, hl with
      | k :: l, _ => exact ⟨k, l, rfl⟩
    obtain ⟨k', ns', q, h1, h2, hb, hc⟩ := hc
    simp only [List.cons_append, List.cons.injEq] at h2
    obtain ⟨rfl, rfl⟩ := h2
    have hne : npre' ≠ [] := by intro e; subst e; simp at hl
    rw [LinkAt_cons b k npre' hne k]
    have hd' := List.nodup_cons.1 hd
    refine ⟨k, npre' ++ nl, q, h1, rfl, ?_, Chain.relink (pre := y :: pre) (by simpa using hl) hc (by simp) hd'.2 hq (fun i hi => hn i (by simp [hi])) k⟩
    refine hb.set_other (a := LinkAt k npre') ?_ _
    unfold LinkAt
    cases hg : npre'.getLast? with
    | none => simp at hg; exact absurd hg hne
    | some z =>
      have : z ∈ npre' := List.mem_of_getLast? hg
      intro e
      have e' : z = k := e
      subst e'
      exact hd'.1 this

theorem relink {w : World} {b : Nat} {cap pol : Int} {closed : Bool} {r : List V} {fr n : Nat} {p : Option Addr} {nw : Nat} {dr : Int} {pre suf : List Wt} {npre nsuf : List Nat}
    (h : CC w b cap pol closed r fr n p nw dr) (hl : npre.length = pre.length) (hc : Chain w p (pre ++ suf) (npre ++ nsuf)) (hd : (b :: npre).Nodup)
    {q' : Option Addr} {l : List Wt} {nl : List Nat} (hq : Chain w q' l nl) (hn : ∀ k ∈ b :: npre, k ∉ nl) :
    ∃ p', CC (w.setCell (LinkAt b npre) (.pointer q')) b cap pol closed r fr n p' nw dr ∧ Chain (w.setCell (LinkAt b npre) (.pointer q')) p' (pre ++ l) (npre ++ nl) := by
  by_cases e : pre = []
  · subst e
    obtain rfl : npre = [] := List.eq_nil_of_length_eq_zero hl
    refine ⟨q', h.set_p q', ?_⟩
    exact hq.stay (S := (· = b)) ((Stay.refl _ _).put (by rfl) _ _) (fun i hi e => by subst e; exact hn i (by simp) hi)
  · have hd' := List.nodup_cons.1 hd
    refine ⟨p, ?_, hc.relink hl e hd'.2 hq (fun k hk => hn k (by simp [hk])) b⟩
    refine ⟨h.1, h.2.set_other (a := LinkAt b npre) ?_ _⟩
    unfold LinkAt
    cases hg : npre.getLast? with
    | none => simp at hg; subst hg; simp at hl; exact absurd hl.symm (by simpa using e)
    | some z =>
      intro e'
      have e'' : z = b := e'
      subst e''
      exact hd'.1 (List.mem_of_getLast? hg)

theorem LinkAt_mem (b : Nat) (npre : List Nat) : (LinkAt b npre).block ∈ b :: npre := by
  unfold LinkAt
  cases hg : npre.getLast? with
  | none => simp
  | some z => simp [List.mem_of_getLast? hg]

theorem takeW_skip {pr : Wt → Bool} : ∀ {pre suf : List Wt}, (∀ x ∈ pre, pr x = false) → takeW pr (pre ++ suf) = (takeW pr suf).map fun y => (y.1, pre ++ y.2)
  | [], suf, _ => by simp
  | x :: pre, suf, h => by
    have h0 := h x (by simp)
    simp only [List.cons_append, takeW, h0, Bool.false_eq_true, if_false]
    rw [takeW_skip (fun y hy => h y (by simp [hy]))]
    cases takeW pr suf <;> rfl

end Go.Proofs.Ytfmkdkpgehkfaaa
