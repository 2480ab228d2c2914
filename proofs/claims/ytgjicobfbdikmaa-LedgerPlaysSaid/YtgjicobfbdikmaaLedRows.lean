/- A ledger's rows of positions anew. -/
import Derived.Test.YtgjicobfbdikmaaLedTight
set_option linter.unusedVariables false
set_option linter.unusedSimpArgs false
namespace Go.Proofs.Ytgjicobfbdikmaa
open Go Go.RowKit
section
variable {w w' : World} {S : Nat → Prop} {b m : Nat} {L : Lg} {ev cv kv v' : Value} {hs : List (Int × Hd)} {h : Hd} {t : Int}
theorem not_two {b : Nat} {u v : Value} (h1 : ∀ g', u.ownBlock = some g' → g' ≠ b) (h2 : ∀ g', u.ownBlock = some g' → v.ownBlock ≠ some g') : ∀ g', u.ownBlock = some g' → ¬ (g' = b ∨ v.ownBlock = some g') := fun g' hg => by
  rintro (e | e)
  · exact h1 g' hg e
  · exact h2 g' hg e
theorem own_off {w : World} {b1 b2 s1 s2 n1 n2 : Nat} {e1 e2 : TypeId} {u v : Value} {xs ys : List Value} (hu : w.ownsRow b1 e1 s1 u n1 xs) (hv : w.ownsRow b2 e2 s2 v n2 ys) (hne : e1 ≠ e2) : ∀ g', u.ownBlock = some g' → v.ownBlock ≠ some g' := fun g' hg hg2 => by
  rcases own_ne hu hv hne with e | e
  · rw [e] at hg; cases hg
  · exact e (hg.trans hg2.symm)
theorem in_next {S : Nat → Prop} {v v' : Value} (hv : InS S v) (hn : Next w v v') (hl : ∀ g, v'.ownBlock = some g → g < w'.heap.size) : InS (grow S w w') v' := fun g hg => by
  rcases hn g hg with h | h
  · exact grow.old (hv g h)
  · exact grow.new h (hl g hg)
/-- What is crossed has changed. -/
theorem LTab.crs (ht : LTab w S b L m ev cv kv hs) {cv' : Value} {l' : List Int} (hx : Stay (fun k => k = b ∨ cv.ownBlock = some k) w w') (hB : Blk w' b 58 [ev, .int .i64 L.time, .map (some m), cv', kv])
    (hr : w'.ownsRow 0 3 1 cv' l'.length (ints l')) (hn : Next w cv cv') : LTab w' (grow S w w') b { L with cr := l' } m ev cv' kv hs :=
  ht.body (L' := { L with cr := l' }) hx (fun _ => grow.old) (fun j hj => hj.lt ht.lt hx.size) hB
    (own_stay hx ht.er (not_two (own_ne_blk ht.er ht.blk (by decide)) (own_off ht.er ht.cw (by decide)))) hr
    (own_stay hx ht.kw (not_two (own_ne_blk ht.kw ht.blk (by decide)) (fun g hg => ht.ck.symm g hg)))
    (ht.se.mono (fun _ => grow.old)) (in_next ht.sc hn (fun g hg => (own_lt hr g hg).2)) (ht.sk.mono (fun _ => grow.old)) hn (Next.refl _ _)
    ((ht.ck.symm.next hn (fun g hg => (own_lt ht.kw g hg).2)).symm) rfl
    (by rintro (e | e); exact ht.nb e; exact own_ne_map ht.cw ht.mp m e rfl)
    (fun y hy => ⟨by rintro (e | e); exact ht.hb hy e; exact own_ne_blk ht.cw (ht.hd y hy).blk (by decide) _ e rfl, not_two (ht.vb hy) (fun g hg => (ht.hc y hy).1 g hg)⟩)
/-- What has leaked has changed. -/
theorem LTab.lks (ht : LTab w S b L m ev cv kv hs) {kv' : Value} {l' : List Int} (hx : Stay (fun k => k = b ∨ kv.ownBlock = some k) w w') (hB : Blk w' b 58 [ev, .int .i64 L.time, .map (some m), cv, kv'])
    (hr : w'.ownsRow 0 3 1 kv' l'.length (ints l')) (hn : Next w kv kv') : LTab w' (grow S w w') b { L with lk := l' } m ev cv kv' hs :=
  ht.body (L' := { L with lk := l' }) hx (fun _ => grow.old) (fun j hj => hj.lt ht.lt hx.size) hB
    (own_stay hx ht.er (not_two (own_ne_blk ht.er ht.blk (by decide)) (own_off ht.er ht.kw (by decide))))
    (own_stay hx ht.cw (not_two (own_ne_blk ht.cw ht.blk (by decide)) (fun g hg => ht.ck g hg))) hr
    (ht.se.mono (fun _ => grow.old)) (ht.sc.mono (fun _ => grow.old)) (in_next ht.sk hn (fun g hg => (own_lt hr g hg).2)) (Next.refl _ _) hn
    (ht.ck.next hn (fun g hg => (own_lt ht.cw g hg).2)) rfl
    (by rintro (e | e); exact ht.nb e; exact own_ne_map ht.kw ht.mp m e rfl)
    (fun y hy => ⟨by rintro (e | e); exact ht.hb hy e; exact own_ne_blk ht.kw (ht.hd y hy).blk (by decide) _ e rfl, not_two (ht.vb hy) (fun g hg => (ht.hc y hy).2 g hg)⟩)
end
end Go.Proofs.Ytgjicobfbdikmaa
