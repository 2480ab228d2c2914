/- A ledger's own blocks, and no others. -/
import Derived.Test.YtgjicobfbdikmaaLedBack
set_option linter.unusedVariables false
set_option linter.unusedSimpArgs false
namespace Go.Proofs.Ytgjicobfbdikmaa
open Go Go.RowKit

def IsC (w : World) (k : Nat) : Prop := ∃ o : Obj, w.heap[k]? = some o ∧ o.isCells = true
theorem Blk.isC {w : World} {b : Nat} {T : TypeId} {vs : List Value} (h : Blk w b T vs) : IsC w b := ⟨_, h, rfl⟩
theorem own_isC {w : World} {base : Nat} {e : TypeId} {size n : Nat} {v : Value} {xs : List Value} (ho : w.ownsRow base e size v n xs) : ∀ g, v.ownBlock = some g → IsC w g := by
  rcases ho.2 with ⟨rfl, _⟩ | ⟨g, cap, cur, rfl, _, hh, _⟩
  · intro g hg; simp [Value.ownBlock] at hg
  · intro g' hg
    simp [Value.ownBlock] at hg
    subst hg
    exact ⟨_, hh, rfl⟩
/-- The blocks that a ledger takes up. -/
def Own1 (b m : Nat) (ev cv kv : Value) (hs : List (Int × Hd)) : Nat → Prop := fun k => k = b ∨ k = m ∨ ev.ownBlock = some k ∨ cv.ownBlock = some k ∨ kv.ownBlock = some k ∨ ∃ y ∈ hs, k = y.2.b ∨ y.2.v.ownBlock = some k
section
variable {w w' : World} {S : Nat → Prop} {b m : Nat} {L : Lg} {ev cv kv : Value} {hs : List (Int × Hd)}
theorem LTab.sub (ht : LTab w S b L m ev cv kv hs) : ∀ k, Own1 b m ev cv kv hs k → S k := by
  rintro k (rfl | rfl | h | h | h | ⟨y, hy, rfl | h⟩)
  · exact ht.sb
  · exact ht.sm
  · exact ht.se k h
  · exact ht.sc k h
  · exact ht.sk k h
  · exact (ht.hd y hy).sb
  · exact (ht.hd y hy).sv k h
theorem LTab.tight (ht : LTab w S b L m ev cv kv hs) : LTab w (Own1 b m ev cv kv hs) b L m ev cv kv hs :=
  ⟨ht.blk, .inl rfl, .inr (.inl rfl), fun g hg => .inr (.inr (.inl hg)), fun g hg => .inr (.inr (.inr (.inl hg))), fun g hg => .inr (.inr (.inr (.inr (.inl hg)))), ht.mp, ht.er, ht.cw, ht.kw,
    fun y hy => ⟨(ht.hd y hy).blk, (ht.hd y hy).row, .inr (.inr (.inr (.inr (.inr ⟨y, hy, .inl rfl⟩)))), fun g hg => .inr (.inr (.inr (.inr (.inr ⟨y, hy, .inr hg⟩))))⟩, ht.st, ht.pw, ht.hc, ht.ck, fun k hk => ht.lt k (ht.sub k hk), ht.kb⟩
theorem LTab.cells (ht : LTab w S b L m ev cv kv hs) : ∀ k, Own1 b m ev cv kv hs k → k = m ∨ IsC w k := by
  rintro k (rfl | rfl | h | h | h | ⟨y, hy, rfl | h⟩)
  · exact .inr ht.blk.isC
  · exact .inl rfl
  · exact .inr (own_isC ht.er k h)
  · exact .inr (own_isC ht.cw k h)
  · exact .inr (own_isC ht.kw k h)
  · exact .inr (ht.hd y hy).blk.isC
  · exact .inr (own_isC (ht.hd y hy).row k h)
end
/-- A ledger, a box, and what has stayed: whatever else is turned that is no cells and lies from B on. -/
structure RelAt (w : World) (S : Nat → Prop) (b : Nat) (L : Lg) (B : Nat) (W : World) : Prop where
  lies : ∃ m ev cv kv hs, LTab W (Own1 b m ev cv kv hs) b L m ev cv kv hs ∧ (∀ k, Own1 b m ev cv kv hs k → S k ∨ w.heap.size ≤ k) ∧ m < B
  box : Blk W (w.heap.size + 2) 25 [.int .i64 0]
  stay : Stay S w W
theorem RelAt.turn {w : World} {S : Nat → Prop} {b : Nat} {L : Lg} {B : Nat} {W W' : World} {row : Option Nat} (h : RelAt w S b L B W) (hB : w.heap.size ≤ B) (hg : W.grownBy W' row) (hr : ∀ r, row = some r → B ≤ r ∧ ∃ o : Obj, W.heap[r]? = some o ∧ o.isCells = false) : RelAt w S b L B W' := by
  have hs : Stay (fun k => row = some k) W W' := Stay.of_grown hg (fun _ _ e => e)
  have nc : ∀ k, IsC W k → ¬ row = some k := fun k hk e => by
    obtain ⟨o, ho, hc⟩ := hk
    obtain ⟨_, o', ho', hc'⟩ := hr k e
    rw [ho] at ho'
    cases ho'
    rw [hc] at hc'
    cases hc'
  refine ⟨?_, hs.blk h.box (nc _ h.box.isC), h.stay.trans hs (fun i hi e => by have := (hr i e).1; omega)⟩
  obtain ⟨m, ev, cv, kv, hs', hT, hS, hm⟩ := h.lies
  refine ⟨m, ev, cv, kv, hs', hT.stay hs (fun k hk e => ?_) (fun _ h => h) (fun k hk => Nat.lt_of_lt_of_le (hT.lt k hk) hs.size), hS, hm⟩
  rcases hT.cells k hk with rfl | hc
  · have := (hr _ e).1; omega
  · exact nc k hc e

/-- A block of another type is none of a ledger's. -/
theorem LTab.none {w : World} {S : Nat → Prop} {b m : Nat} {L : Lg} {ev cv kv : Value} {hs : List (Int × Hd)} (ht : LTab w S b L m ev cv kv hs) {k : Nat} {T : TypeId} {us : List Value} (hb : Blk w k T us) (h1 : T ≠ 58) (h2 : T ≠ 36) (h3 : T ≠ 3) (h4 : T ≠ 64) : ¬ Own1 b m ev cv kv hs k := by
  rintro (rfl | rfl | h | h | h | ⟨y, hy, rfl | h⟩)
  · exact h1 (hb.inj ht.blk).1
  · exact ht.mp.ne_blk hb rfl
  · exact own_ne_blk ht.er hb (fun e => h2 e.symm) k h rfl
  · exact own_ne_blk ht.cw hb (fun e => h3 e.symm) k h rfl
  · exact own_ne_blk ht.kw hb (fun e => h3 e.symm) k h rfl
  · exact h4 (hb.inj (ht.hd y hy).blk).1
  · exact own_ne_blk (ht.hd y hy).row hb (fun e => h3 e.symm) k h rfl
/-- Behind the inner release and the store of the result. -/
theorem RelAt.mk' {w W W5 : World} {S X : Nat → Prop} {b m B : Nat} {L' : Lg} {ev cv kv : Value} {hs : List (Int × Hd)} (hw : w.heap.size + 2 < B) (hBW : B ≤ W.heap.size) (hSW : Stay S w W) (hX : ∀ k, X k → S k ∨ w.heap.size ≤ k) (hT : LTab W5 (grow X W W5) b L' m ev cv kv hs) (hs5 : Stay X W W5) (hm : m < B)
    {u : Value} (hb : Blk W5 (w.heap.size + 2) 25 [u]) : RelAt w S b L' B (W5.setCell ⟨w.heap.size + 2, 0, none⟩ (.int .i64 0)) := by
  have hz := hSW.size
  have hn := hT.none hb (by decide) (by decide) (by decide) (by decide)
  have hp : Stay (fun k => k = w.heap.size + 2) W5 (W5.setCell ⟨w.heap.size + 2, 0, none⟩ (.int .i64 0)) := Stay.put (S := fun k => k = w.heap.size + 2) (Stay.refl _ W5) rfl _ _
  refine ⟨⟨m, ev, cv, kv, hs, hT.tight.stay hp (fun j hj e => hn (e ▸ hj)) (fun _ h => h) (fun j hj => Nat.lt_of_lt_of_le (hT.tight.lt j hj) hp.size), fun k hk => ?_, hm⟩, hb.set 0 (.int .i64 0), (hSW.trans hs5 (fun i hi hx => ?_)).new (by omega) _ _⟩
  · rcases hT.sub k hk with h | h
    · exact hX k h
    · exact .inr (by omega)
  · rcases hX i hx with h | h
    · exact h
    · omega
theorem keepsFrom_of {W W' : World} {B : Nat} {X : Nat → Prop} (hs : Stay X W W') (hX : ∀ k, X k → k < B ∨ IsC W k) : KeepsFrom B W W' :=
  ⟨hs.size, fun k o hk h0 ho => (hs.block k (Array.getElem?_eq_some_iff.1 h0).1 (fun hx => by
    rcases hX k hx with h | ⟨o', h1, h2⟩
    · omega
    · rw [h0] at h1
      cases h1
      rw [ho] at h2
      cases h2)).trans h0⟩

end Go.Proofs.Ytgjicobfbdikmaa
