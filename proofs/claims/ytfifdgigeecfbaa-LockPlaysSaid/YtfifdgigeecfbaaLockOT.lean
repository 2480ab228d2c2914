/- A table of a law's own beside rows of the law's own; run. -/
import Derived.Test.YtfifdgigeecfbaaLockWith
import Derived.Test.YtfifdgigeecfbaaLockOwn
set_option linter.unusedVariables false
set_option linter.unusedSimpArgs false
namespace Go.Proofs.Ytfifdgigeecfbaa
open Go Go.RowKit

/-- A table in S, made since w0. -/
structure OT (w0 W : World) (S : Nat → Prop) (b : Nat) (t : Tb) (d : Int) : Prop where
  lies : TabAt W S b t
  new : ∀ k, S k → w0.heap.size ≤ k
  ok : t.Ok d
  only : Only w0 W
theorem OT.post {w0 W w' : World} {S : Nat → Prop} {b : Nat} {t t' : Tb} {d d' : Int} (h : OT w0 W S b t d) {res : Value} {e : Ending} (hp : TbPost W S b res t' e w') (hok : t'.Ok d') : e = .returned res ∧ OT w0 w' (grow S W w') b t' d' ∧ Stay S W w' := by
  obtain ⟨h1, h2, h3⟩ := hp
  refine ⟨h1, ⟨h2, fun k hk => ?_, hok, Mine.stay (Stay.trans (S := fun k => w0.heap.size ≤ k) (Mine.only h.only) h3 (fun k _ hk => h.new k hk))⟩, h3⟩
  rcases hk with hk | hk
  · exact h.new k hk
  · exact Nat.le_trans h.only.size hk.1
theorem OT.step {w0 W w' : World} {S : Nat → Prop} {b : Nat} {t : Tb} {d : Int} (h : OT w0 W S b t d) (ho : Only W w') : OT w0 w' S b t d := ⟨h.lies.only ho, h.new, h.ok, h.only.trans' ho⟩
theorem OT.aside {w0 W w' : World} {S X : Nat → Prop} {b : Nat} {t : Tb} {d : Int} (h : OT w0 W S b t d) (ho : Stay X W w') (hX : ∀ k, X k → w0.heap.size ≤ k) (hS : ∀ k, S k → ¬ X k) : OT w0 w' S b t d :=
  ⟨h.lies.stay ho hS (fun _ h => h) (fun k hk => Nat.lt_of_lt_of_le (h.lies.lt k hk) ho.size), h.new, h.ok, Mine.stay (Stay.trans (S := fun k => w0.heap.size ≤ k) (Mine.only h.only) ho (fun k _ hk => hX k hk))⟩
section
variable {w W : World} {S : Nat → Prop} {b : Nat} {t : Tb} {d : Int}
theorem ot_make (h : OT w W S b t d) (p : Int) : Calls Try.prog 11 #[.pointer (some ⟨b, 0, none⟩), .int .i64 p] W fun e w' => e = .returned (.tuple #[.int .i64 (t.make p).2.1, .int .i64 (t.make p).2.2]) ∧ OT w w' (grow S W w') b (t.make p).1 d ∧ Stay S W w' :=
  (make_any W _ b t d p h.lies h.ok).mono fun e w' hp => h.post hp (h.ok.make p)
theorem ot_hold (h : OT w W S b t d) (hd : d ≤ 1000000) (l p : Int) : Calls Try.prog 13 #[.pointer (some ⟨b, 0, none⟩), .int .i64 l, .int .i64 p] W fun e w' => e = .returned (.tuple #[.bool (t.hold l p).2.1, .int .i64 (t.hold l p).2.2]) ∧ OT w w' (grow S W w') b (t.hold l p).1 (d + 1) ∧ Stay S W w' :=
  (hold_any W _ b t d l p h.lies h.ok hd).mono fun e w' hp => h.post hp (h.ok.hold l p)
theorem ot_free (h : OT w W S b t d) (hd : d ≤ 1000000) (l p : Int) : Calls Try.prog 14 #[.pointer (some ⟨b, 0, none⟩), .int .i64 l, .int .i64 p] W fun e w' => e = .returned (.tuple #[.int .i64 (t.free l p).2.1, .int .i64 (t.free l p).2.2]) ∧ OT w w' (grow S W w') b (t.free l p).1 d ∧ Stay S W w' :=
  (free_any W _ b t d l p h.lies h.ok hd).mono fun e w' hp => h.post hp (h.ok.free l p)
theorem OT.more {d' : Int} (h : OT w W S b t d) (hd : d ≤ d') : OT w W S b t d' := ⟨h.lies, h.new, h.ok.mono hd, h.only⟩
theorem OT.alloc (h : OT w W S b t d) (o : Obj) : OT w (W.alloc o) S b t d := h.step ((Stay.refl _ W).alloc o)
end
/-- A row of ints of a law's own, beside S. -/
structure Rw (B : Nat) (W : World) (S : Nat → Prop) (v : Value) (xs : List Int) : Prop where
  row : W.ownsRow B 3 1 v xs.length (ints xs)
  off : ∀ g, v.ownBlock = some g → ¬ S g
theorem Rw.nil (B : Nat) (W : World) (S : Nat → Prop) : Rw B W S (.slice none 0 0) [] := ⟨World.ownsRow_nil _ _ _ _, fun g hg => by simp [Value.ownBlock] at hg⟩
theorem Rw.post {B : Nat} {W w' : World} {S : Nat → Prop} {v : Value} {xs : List Int} (h : Rw B W S v xs) (hs : Stay S W w') : Rw B w' (grow S W w') v xs :=
  ⟨own_stay hs h.row h.off, fun g hg hn => by
    rcases hn with hn | hn
    · exact h.off g hg hn
    · have := (own_lt h.row g hg).2; omega⟩
theorem Rw.only {B : Nat} {W w' : World} {S : Nat → Prop} {v : Value} {xs : List Int} (h : Rw B W S v xs) (hs : Only W w') : Rw B w' S v xs := ⟨own_only hs h.row, h.off⟩
theorem Rw.aside {B : Nat} {W w' : World} {S X : Nat → Prop} {v : Value} {xs : List Int} (h : Rw B W S v xs) (hs : Stay X W w') (hX : ∀ g, v.ownBlock = some g → ¬ X g) : Rw B w' S v xs := ⟨own_stay hs h.row hX, h.off⟩
/-- Two rows apart. -/
def Apart (u v : Value) : Prop := ∀ g, u.ownBlock = some g → v.ownBlock ≠ some g
theorem Apart.symm {u v : Value} (h : Apart u v) : Apart v u := fun g hg hu => h g hu hg
theorem Apart.nil (v : Value) : Apart (.slice none 0 0) v := fun g hg => by simp [Value.ownBlock] at hg
/-- Behind an append. -/
theorem Rw.push {B : Nat} {W wA w' : World} {S : Nat → Prop} {v : Value} {xs : List Int} {x : Int} {g cap : Nat} (h : Rw B W S v xs) (hA : Only W wA) (hS : ∀ k, S k → k < W.heap.size)
    (hown : w'.ownsRow B 3 1 (.slice (some ⟨g, 0, none⟩) (xs.length + 1) cap) (xs.length + 1) (ints xs ++ [.int .i64 x])) (hat : v.ownBlock = some g ∨ g = wA.heap.size) :
    Rw B w' S (.slice (some ⟨g, 0, none⟩) (xs.length + 1) cap) (xs ++ [x]) := by
  refine ⟨by simpa [ints] using hown, fun g' hg' hn => ?_⟩
  have e : g = g' := by simpa [Value.ownBlock] using hg'
  subst e
  rcases hat with e | e
  · exact h.off g e hn
  · have := hS g hn; have := hA.size; omega
theorem Apart.push {B : Nat} {W wA : World} {S : Nat → Prop} {u v : Value} {us : List Int} {g n cap : Nat} (h : Apart u v) (hu : Rw B W S u us) (hA : Only W wA) (hat : v.ownBlock = some g ∨ g = wA.heap.size) : Apart u (.slice (some ⟨g, 0, none⟩) n cap) := by
  intro g' hg' e
  have e2 : g = g' := by simpa [Value.ownBlock] using e
  subst e2
  rcases hat with e | e
  · exact h g hg' e
  · have := (own_lt hu.row g hg').2; have := hA.size; omega

theorem Sl.head {w : World} {B : Nat} {A : Option Addr} {n cap : Nat} {xs ys : List Int} (h : Sl w B A n cap 1 (ints (xs ++ ys))) : Sl w B A xs.length cap 1 (ints xs) := by
  have hn : n = xs.length + ys.length := by have := h.1; simp at this; omega
  refine ⟨by simp, by have := h.2.1; omega, h.2.2.1, h.2.2.2.1, fun h0 => ?_⟩
  obtain ⟨b, off, e, hb, hc⟩ := h.2.2.2.2 (by omega)
  refine ⟨b, off, e, hb, fun j u hu => hc j u ?_⟩
  rw [ints, List.map_append, List.getElem?_append_left (by have := (List.getElem?_eq_some_iff.1 hu).1; simpa using this)]
  exact hu


section
variable {w W : World} {S : Nat → Prop} {b : Nat} {t : Tb} {d : Int}
theorem ot_withdraw (h : OT w W S b t d) (hc : t.Cons) (p : Int) : Calls Try.prog 21 #[.pointer (some ⟨b, 0, none⟩), .int .i64 p] W fun e w' => e = .returned (.bool (t.withdraw p).2) ∧ OT w w' (grow S W w') b (t.withdraw p).1 d ∧ Stay S W w' :=
  (withdraw_any W _ b t p h.lies hc).mono fun e w' hp => h.post hp (h.ok.withdraw p)
end

end Go.Proofs.Ytfifdgigeecfbaa
