/- Blocks of memory as lists of cells; what a call leaves alone; slices that a call can read. Plain lemmas, no program in sight. -/
import Derived.WalkKit
import Derived.WalkLawsBesides
import Derived.WalkSpells
import Derived.WalkSmall
import Derived.Deep.LoopGhost
import Derived.Deep.Draws
import Derived.Deep.QuietTactic
import Derived.BigQuiet
import Derived.BigRegion
import Derived.Deep.RegionWith
import Derived.Deep.DeepFit
import Derived.Lib.Hide
import Derived.KernelRfl
import Derived.OneCell
set_option linter.unusedVariables false
set_option linter.unusedSimpArgs false
namespace Go.Proofs.Ytfohaijdhgcneaa
open Go Go.RowKit

/-! ### Blocks -/
/-- Block b: its cells, none of them frozen. -/
def Blk (w : World) (b : Nat) (T : TypeId) (vs : List Value) : Prop := w.heap[b]? = some (.cells vs.toArray T (0, 0))

theorem Blk.lt {w : World} {b : Nat} {T : TypeId} {vs : List Value} (h : Blk w b T vs) : b < w.heap.size := lt_of_block h

theorem Blk.cell {w : World} {b : Nat} {T : TypeId} {vs : List Value} (h : Blk w b T vs) (i : Nat) : w.cell? ⟨b, i, none⟩ = vs[i]? := by
  unfold Blk at h
  simp [World.cell?, h]

theorem Blk.at {w : World} {b : Nat} {T : TypeId} {vs : List Value} (h : Blk w b T vs) {i : Nat} {v : Value} (hv : vs[i]? = some v) : w.cell? ⟨b, i, none⟩ = some v :=
  (h.cell i).trans hv

theorem Blk.free {w : World} {b : Nat} {T : TypeId} {vs : List Value} (h : Blk w b T vs) (i : Nat) : w.frozen? ⟨b, i, none⟩ = false := by
  unfold Blk at h
  simp [World.frozen?, h]

theorem Blk.same {w w' : World} {b : Nat} {T : TypeId} {vs : List Value} (h : Blk w b T vs) (hb : w'.heap[b]? = w.heap[b]?) : Blk w' b T vs := hb.trans h

theorem Blk.inj {w : World} {b : Nat} {T T' : TypeId} {vs vs' : List Value} (h : Blk w b T vs) (h' : Blk w b T' vs') : T = T' ∧ vs = vs' := by
  have := h.symm.trans h'
  simp only [Option.some.injEq, Obj.cells.injEq] at this
  obtain ⟨h1, h2, _⟩ := this
  exact ⟨h2, by simpa using congrArg Array.toList h1⟩

theorem Blk.set {w : World} {b : Nat} {T : TypeId} {vs : List Value} (h : Blk w b T vs) (i : Nat) (v : Value) : Blk (w.setCell ⟨b, i, none⟩ v) b T (vs.set i v) := by
  have hlt := h.lt
  unfold Blk at h ⊢
  simp only [World.setCell, Array.getElem?_modify, if_true, h, Option.map_some]
  simp

theorem Blk.set_other {w : World} {b : Nat} {T : TypeId} {vs : List Value} (h : Blk w b T vs) {a : Addr} (ha : a.block ≠ b) (v : Value) : Blk (w.setCell a v) b T vs :=
  h.same (Below.heap_setCell w a v b (fun e => ha e.symm))

theorem Blk.alloc {w : World} {b : Nat} {T : TypeId} {vs : List Value} (h : Blk w b T vs) (o : Obj) : Blk (w.alloc o) b T vs :=
  h.same (Below.heap_alloc w o b h.lt)

theorem Blk.new (w : World) (vs : List Value) (T : TypeId) : Blk (w.alloc (.cells vs.toArray T)) w.heap.size T vs := by
  unfold Blk World.alloc
  simp

theorem Blk.newAt (w : World) (vs : List Value) (T : TypeId) (n : Nat) (hn : n = w.heap.size) : Blk (w.alloc (.cells vs.toArray T)) n T vs := by
  subst hn
  exact Blk.new w vs T
theorem Blk.drew {w : World} {b : Nat} {T : TypeId} {vs : List Value} (h : Blk w b T vs) : Blk w.drew b T vs := h
theorem Blk.drewN {w : World} {b : Nat} {T : TypeId} {vs : List Value} (h : Blk w b T vs) (n : Nat) : Blk (w.drewN n) b T vs := h

/-! ### What a call leaves alone -/
/-- w' is w with new blocks, and with changes to the blocks of S alone. -/
structure Stay (S : Nat → Prop) (w w' : World) : Prop where
  os : w'.os = w.os
  tape : w'.tape = w.tape
  output : w'.output = w.output
  size : w.heap.size ≤ w'.heap.size
  block : ∀ k, k < w.heap.size → ¬ S k → w'.heap[k]? = w.heap[k]?

theorem Stay.refl (S : Nat → Prop) (w : World) : Stay S w w := ⟨rfl, rfl, rfl, Nat.le_refl _, fun _ _ _ => rfl⟩
/-- Two steps: the second may change what the first may, and what is new. -/
theorem Stay.trans {S S' : Nat → Prop} {a b c : World} (h : Stay S a b) (k : Stay S' b c) (hs : ∀ i, i < a.heap.size → S' i → S i) : Stay S a c :=
  ⟨k.os.trans h.os, k.tape.trans h.tape, k.output.trans h.output, Nat.le_trans h.size k.size,
    fun i hi hn => (k.block i (Nat.lt_of_lt_of_le hi h.size) (fun e => hn (hs i hi e))).trans (h.block i hi hn)⟩
theorem Stay.mono {S S' : Nat → Prop} {a b : World} (h : Stay S a b) (hs : ∀ i, i < a.heap.size → S i → S' i) : Stay S' a b :=
  ⟨h.os, h.tape, h.output, h.size, fun i hi hn => h.block i hi (fun e => hn (hs i hi e))⟩
theorem Stay.drew {S : Nat → Prop} {a b : World} (h : Stay S a b) : Stay S a b.drew := ⟨h.os, h.tape, h.output, h.size, h.block⟩
theorem Stay.drewN {S : Nat → Prop} {a b : World} (h : Stay S a b) (n : Nat) : Stay S a (b.drewN n) := ⟨h.os, h.tape, h.output, h.size, h.block⟩
theorem Stay.alloc {S : Nat → Prop} {a b : World} (h : Stay S a b) (o : Obj) : Stay S a (b.alloc o) :=
  ⟨h.os, h.tape, h.output, Nat.le_trans h.size (by simp), fun i hi hn => (Below.heap_alloc b o i (Nat.lt_of_lt_of_le hi h.size)).trans (h.block i hi hn)⟩
theorem Stay.set {S : Nat → Prop} {a b : World} (h : Stay S a b) {p : Addr} (hp : p.block < a.heap.size → S p.block) (v : Value) : Stay S a (b.setCell p v) :=
  ⟨h.os, h.tape, h.output, by simpa [World.setCell] using h.size, fun i hi hn => (Below.heap_setCell b p v i (by rintro rfl; exact hn (hp hi))).trans (h.block i hi hn)⟩
theorem Stay.put {S : Nat → Prop} {a w : World} (h : Stay S a w) {b : Nat} (hb : S b) (i : Nat) (v : Value) : Stay S a (w.setCell ⟨b, i, none⟩ v) := h.set (p := ⟨b, i, none⟩) (fun _ => hb) v
theorem Stay.of_below {S : Nat → Prop} {a b : World} (h : Below a.heap.size a b) : Stay S a b := ⟨h.os, h.tape, h.output, h.size, fun i hi _ => h.block i hi⟩
theorem Stay.of_grown {S : Nat → Prop} {a b : World} {row : Option Nat} (h : a.grownBy b row) (hr : ∀ k, k < a.heap.size → row = some k → S k) : Stay S a b :=
  ⟨h.os, h.tape, h.output, h.size, fun i hi hn => h.block i hi (fun e => hn (hr i hi e.symm))⟩
theorem Stay.below {S : Nat → Prop} {a b : World} (h : Stay S a b) {B : Nat} (hB : B ≤ a.heap.size) (hS : ∀ i, i < B → ¬ S i) : Below B a b :=
  ⟨h.os, h.tape, h.output, h.size, fun i hi => h.block i (Nat.lt_of_lt_of_le hi hB) (hS i hi)⟩
theorem Stay.blk {S : Nat → Prop} {a b : World} (h : Stay S a b) {k : Nat} {T : TypeId} {vs : List Value} (hb : Blk a k T vs) (hn : ¬ S k) : Blk b k T vs :=
  hb.same (h.block k hb.lt hn)
theorem Stay.cell {S : Nat → Prop} {a b : World} (h : Stay S a b) {p : Addr} {v : Value} (hc : a.cell? p = some v) (hn : ¬ S p.block) : b.cell? p = some v :=
  (World.cell?_of_block (h.block p.block (World.block_lt_of_cell? a p hc) hn)).trans hc
theorem Stay.free {S : Nat → Prop} {a b : World} (h : Stay S a b) {p : Addr} {v : Value} (hc : a.cell? p = some v) (hf : a.frozen? p = false) (hn : ¬ S p.block) : b.frozen? p = false :=
  (World.frozen?_of_block (h.block p.block (World.block_lt_of_cell? a p hc) hn)).trans hf
/-- Nothing that was there has changed. -/
abbrev Only (w w' : World) : Prop := Stay (fun _ => False) w w'

/-- Behind a new block, and whatever leaves all alone. -/
theorem Only.behind {w w1 : World} {o : Obj} (h : Only (w.alloc o) w1) : Only w w1 := ((Stay.refl _ w).alloc o).trans h (by simp)
theorem Only.trans' {a b c : World} (h : Only a b) (k : Only b c) : Only a c := h.trans k (by simp)
theorem Only.cell {a b : World} (h : Only a b) {p : Addr} {v : Value} (hc : a.cell? p = some v) : b.cell? p = some v := Stay.cell h hc id
theorem Only.free {a b : World} (h : Only a b) {p : Addr} {v : Value} (hc : a.cell? p = some v) (hf : a.frozen? p = false) : b.frozen? p = false := Stay.free h hc hf id
theorem Only.blk {a b : World} (h : Only a b) {k : Nat} {T : TypeId} {vs : List Value} (hb : Blk a k T vs) : Blk b k T vs := Stay.blk h hb id
theorem no {k : Nat} : ¬ (fun _ : Nat => False) k := id
theorem cell_off {w : World} {A p : Addr} {v u : Value} (h : w.cell? p = some u) (hne : A.block ≠ p.block) : (w.setCell A v).cell? p = some u :=
  (World.cell?_setCell_other w A p v (fun e => hne (by rw [e]))).trans h
theorem cell_off' {w : World} {A p : Addr} {v u : Value} (h : w.cell? p = some u) (hne : A ≠ p) : (w.setCell A v).cell? p = some u :=
  (World.cell?_setCell_other w A p v hne).trans h
/-- What a call owns stays owned where others are written. -/
theorem owns_stay {S : Nat → Prop} {a b : World} (h : Stay S a b) {base : Nat} {e : TypeId} {size n : Nat} {v : Value} {xs : List Value} (ho : a.ownsRow base e size v n xs) (hn : ∀ k, base ≤ k → k < a.heap.size → ¬ S k) : b.ownsRow base e size v n xs := by
  refine ⟨ho.1, ?_⟩
  rcases ho.2 with h0 | ⟨g, cap, cur, rfl, hb, hg, rest⟩
  · exact .inl h0
  · exact .inr ⟨g, cap, cur, rfl, hb, by rw [h.block g (lt_of_block hg) (hn g hb (lt_of_block hg))]; exact hg, rest⟩
theorem owns_base {w : World} {base base' : Nat} {e : TypeId} {size n : Nat} {v : Value} {xs : List Value} (ho : w.ownsRow base e size v n xs) (hb : base' ≤ base) : w.ownsRow base' e size v n xs := by
  refine ⟨ho.1, ?_⟩
  rcases ho.2 with h0 | ⟨g, cap, cur, rfl, hb', rest⟩
  · exact .inl h0
  · exact .inr ⟨g, cap, cur, rfl, Nat.le_trans hb hb', rest⟩
/-- A slice that has just been laid. -/
theorem owns_new (w : World) (cs : List Value) (e : TypeId) (size n : Nat) (hl : cs.length = n * size) (hn : n ≤ maxLen) {base : Nat} (hb : base ≤ w.heap.size) :
    (w.alloc (.cells cs.toArray e)).ownsRow base e size (.slice (some ⟨w.heap.size, 0, none⟩) n n) n cs :=
  ⟨hl, .inr ⟨w.heap.size, n, cs.toArray, rfl, hb, heap_alloc_new w _, Nat.le_refl _, hn, by simpa using hl, by simp [← hl]⟩⟩
/-- A block of the frame that a call is handed. -/
theorem Blk.of_own {w : World} {base : Nat} {e : TypeId} {size n g cap : Nat} {xs : List Value} (h : w.ownsRow base e size (.slice (some ⟨g, 0, none⟩) n cap) n xs) (j : Nat) (hj : j < n * size) : w.cell? ⟨g, j, none⟩ = xs[j]? := h.cellAt j hj
theorem owns_newAt (w : World) (cs : List Value) (e : TypeId) (size n k : Nat) (hk : k = w.heap.size) (hl : cs.length = n * size) (hn : n ≤ maxLen) {base : Nat} (hb : base ≤ w.heap.size) :
    (w.alloc (.cells cs.toArray e)).ownsRow base e size (.slice (some ⟨k, 0, none⟩) n n) n cs := by
  subst hk
  exact owns_new w cs e size n hl hn hb
/-- Blocks from B on alone have changed. -/
def Mine (B : Nat) (w w' : World) : Prop := Stay (fun k => B ≤ k) w w'
theorem Mine.refl (B : Nat) (w : World) : Mine B w w := Stay.refl _ w
theorem Mine.put {B : Nat} {a w : World} (h : Mine B a w) {b : Nat} (hb : B ≤ b) (i : Nat) (v : Value) : Mine B a (w.setCell ⟨b, i, none⟩ v) := Stay.put h hb i v
theorem Mine.alloc {B : Nat} {a w : World} (h : Mine B a w) (o : Obj) : Mine B a (w.alloc o) := Stay.alloc h o
theorem Mine.drew {B : Nat} {a w : World} (h : Mine B a w) : Mine B a w.drew := Stay.drew h
theorem Mine.drewN {B : Nat} {a w : World} (h : Mine B a w) (n : Nat) : Mine B a (w.drewN n) := Stay.drewN h n
theorem Mine.trans {B : Nat} {a b c : World} (h : Mine B a b) (k : Mine B b c) : Mine B a c := Stay.trans h k (fun _ _ h => h)
theorem Mine.mono {B B' : Nat} {a b : World} (h : Mine B a b) (hB : B' ≤ B) : Mine B' a b := Stay.mono h (fun _ _ h => Nat.le_trans hB h)
/-- Behind an append onto a row of the call's own. -/
theorem Mine.grown {B : Nat} {a wA w1 : World} (hO : Only a wA) {base : Nat} {e : TypeId} {size n : Nat} {v : Value} {xs : List Value} (hown : a.ownsRow base e size v n xs) (hB : B ≤ base) (hg : wA.grownBy w1 v.ownBlock) : Mine B a w1 :=
  Stay.trans (S := fun k => B ≤ k) (hO.mono (fun _ _ h => h.elim)) (Stay.of_grown (S := fun k => B ≤ k) hg (fun k _ e => Nat.le_trans hB (hown.lt k e).1)) (fun _ _ h => h)
theorem Mine.blk {B : Nat} {a b : World} (h : Mine B a b) {k : Nat} {T : TypeId} {vs : List Value} (hb : Blk a k T vs) (hk : k < B) : Blk b k T vs := Stay.blk h hb (Nat.not_le.2 hk)
theorem Mine.cell {B : Nat} {a b : World} (h : Mine B a b) {p : Addr} {v : Value} (hc : a.cell? p = some v) (hk : p.block < B) : b.cell? p = some v := Stay.cell h hc (Nat.not_le.2 hk)
theorem Mine.only {B : Nat} {a b : World} (h : Only a b) : Mine B a b := h.mono (fun _ _ h => h.elim)
theorem Mine.stay {a b : World} (h : Mine a.heap.size a b) : Only a b := Stay.mono h (fun i hi hB => absurd hi (Nat.not_lt.2 hB))
theorem Stay.mine {S : Nat → Prop} {a b c : World} (h : Stay S a b) (k : Mine a.heap.size b c) : Stay S a c := h.trans k (fun i hi hB => absurd hi (Nat.not_lt.2 hB))
/-- A store into a block that is new. -/
theorem Stay.new {S : Nat → Prop} {a w : World} (h : Stay S a w) {b : Nat} (hb : a.heap.size ≤ b) (i : Nat) (v : Value) : Stay S a (w.setCell ⟨b, i, none⟩ v) := h.set (p := ⟨b, i, none⟩) (fun hl => absurd hl (Nat.not_lt.2 hb)) v

end Go.Proofs.Ytfohaijdhgcneaa
