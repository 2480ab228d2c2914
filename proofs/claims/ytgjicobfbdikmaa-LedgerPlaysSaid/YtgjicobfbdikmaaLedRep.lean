/- A ledger in memory. -/
import Derived.Test.YtgjicobfbdikmaaIntSl
import Derived.Test.YtgjicobfbdikmaaLedPure
import Derived.Test.YtgjicobfbdikmaaChecked
import Derived.Deep.RegionHeld3
set_option linter.unusedVariables false
set_option linter.unusedSimpArgs false
namespace Go.Proofs.Ytgjicobfbdikmaa
open Go Go.RowKit

def ptr (b : Nat) : Value := .pointer (some ⟨b, 0, none⟩)
def Ent.cells (e : Ent) : List Value := [.int .i64 e.what, .int .i64 e.task, .int .i64 e.fr, .int .i64 e.to]
theorem Ent.cells_length (e : Ent) : e.cells.length = 4 := rfl
/-- What a task holds, in memory: its struct's block, its slice. -/
structure Hd where
  l : List Int
  b : Nat
  v : Value
abbrev hmap (hs : List (Int × Hd)) : List (Int × Value) := vmap (fun h => ptr h.b) hs
/-- Two rows apart. -/
def Off (u v : Value) : Prop := ∀ g, u.ownBlock = some g → v.ownBlock ≠ some g
theorem Off.symm {u v : Value} (h : Off u v) : Off v u := fun g hg hu => h g hu hg
theorem Off.nil (v : Value) (n c : Nat) : Off (.slice none n c) v := fun g hg => by simp [Value.ownBlock] at hg
theorem Off.nil' (v : Value) (n c : Nat) : Off v (.slice none n c) := (Off.nil v n c).symm
/-- A row that grew, or moved to a new block. -/
def Next (w : World) (v v' : Value) : Prop := ∀ g, v'.ownBlock = some g → v.ownBlock = some g ∨ w.heap.size ≤ g
theorem Next.refl (w : World) (v : Value) : Next w v v := fun _ h => .inl h
theorem Off.next {w : World} {u v v' : Value} (h : Off u v) (hn : Next w v v') (hu : ∀ g, u.ownBlock = some g → g < w.heap.size) : Off u v' := fun g hg hv => by
  rcases hn g hv with h1 | h1
  · exact h g hg h1
  · have := hu g hg; omega

structure HdAt (w : World) (S : Nat → Prop) (h : Hd) : Prop where
  blk : Blk w h.b 64 [h.v]
  row : w.ownsRow 0 3 1 h.v h.l.length (ints h.l)
  sb : S h.b
  sv : InS S h.v
structure LTab (w : World) (S : Nat → Prop) (b : Nat) (L : Lg) (m : Nat) (ev cv kv : Value) (hs : List (Int × Hd)) : Prop where
  blk : Blk w b 58 [ev, .int .i64 L.time, .map (some m), cv, kv]
  sb : S b
  sm : S m
  se : InS S ev
  sc : InS S cv
  sk : InS S kv
  mp : IMap w m (hmap hs)
  er : w.ownsRow 0 36 4 ev L.es.length (L.es.flatMap Ent.cells)
  cw : w.ownsRow 0 3 1 cv L.cr.length (ints L.cr)
  kw : w.ownsRow 0 3 1 kv L.lk.length (ints L.lk)
  hd : ∀ x ∈ hs, HdAt w S x.2
  st : ∀ t, L.stk t = ((aget hs t).map Hd.l).getD []
  pw : hs.Pairwise fun x y => x.2.b ≠ y.2.b ∧ Off x.2.v y.2.v
  hc : ∀ x ∈ hs, Off x.2.v cv ∧ Off x.2.v kv
  ck : Off cv kv
  lt : ∀ k, S k → k < w.heap.size
  kb : ∀ x ∈ hs, 1 ≤ x.1 ∧ x.1 ≤ 64
def LgAt (w : World) (S : Nat → Prop) (b : Nat) (L : Lg) : Prop := ∃ m ev cv kv hs, LTab w S b L m ev cv kv hs

section
variable {w w' : World} {S S' X : Nat → Prop} {b m : Nat} {L L' : Lg} {ev cv kv ev' cv' kv' v' : Value} {hs : List (Int × Hd)} {h h' : Hd} {t : Int}
theorem HdAt.stay (hk : HdAt w S h) (hx : Stay X w w') (h1 : ¬ X h.b) (h3 : ∀ g, h.v.ownBlock = some g → ¬ X g) (hS : ∀ j, S j → S' j) : HdAt w' S' h :=
  ⟨hx.blk hk.blk h1, own_stay hx hk.row h3, hS _ hk.sb, hk.sv.mono hS⟩
theorem LTab.stay (ht : LTab w S b L m ev cv kv hs) (hx : Stay X w w') (hn : ∀ j, S j → ¬ X j) (hS : ∀ j, S j → S' j) (hl : ∀ j, S' j → j < w'.heap.size) : LTab w' S' b L m ev cv kv hs :=
  ⟨hx.blk ht.blk (hn _ ht.sb), hS _ ht.sb, hS _ ht.sm, ht.se.mono hS, ht.sc.mono hS, ht.sk.mono hS, ht.mp.stay hx (hn _ ht.sm), own_stay hx ht.er (fun g hg => hn g (ht.se g hg)), own_stay hx ht.cw (fun g hg => hn g (ht.sc g hg)), own_stay hx ht.kw (fun g hg => hn g (ht.sk g hg)),
    fun x hx' => (ht.hd x hx').stay hx (hn _ (ht.hd x hx').sb) (fun g hg => hn g ((ht.hd x hx').sv g hg)) hS, ht.st, ht.pw, ht.hc, ht.ck, hl, ht.kb⟩
theorem LTab.only (ht : LTab w S b L m ev cv kv hs) (hx : Only w w') : LTab w' S b L m ev cv kv hs := ht.stay hx (fun _ _ => id) (fun _ h => h) (fun j hj => Nat.lt_of_lt_of_le (ht.lt j hj) hx.size)
theorem LTab.wide (ht : LTab w S b L m ev cv kv hs) (hS : ∀ j, S j → S' j) (hl : ∀ j, S' j → j < w.heap.size) : LTab w S' b L m ev cv kv hs := ht.stay (Stay.refl (fun _ => False) w) (fun _ _ => id) hS hl
theorem LgAt.stay (ht : LgAt w S b L) (hx : Stay X w w') (hn : ∀ j, S j → ¬ X j) (hS : ∀ j, S j → S' j) (hl : ∀ j, S' j → j < w'.heap.size) : LgAt w' S' b L := by
  obtain ⟨m, ev, cv, kv, hs, h⟩ := ht
  exact ⟨m, ev, cv, kv, hs, h.stay hx hn hS hl⟩
theorem LgAt.only (ht : LgAt w S b L) (hx : Only w w') : LgAt w' S b L := by
  obtain ⟨m, ev, cv, kv, hs, h⟩ := ht
  exact ⟨m, ev, cv, kv, hs, h.only hx⟩
theorem LgAt.lt (ht : LgAt w S b L) : ∀ k, S k → k < w.heap.size := by
  obtain ⟨m, ev, cv, kv, hs, h⟩ := ht
  exact h.lt
theorem LgAt.wide (ht : LgAt w S b L) (hS : ∀ j, S j → S' j) (hl : ∀ j, S' j → j < w.heap.size) : LgAt w S' b L := ht.stay (Stay.refl (fun _ => False) w) (fun _ _ => id) hS hl
theorem LTab.get (ht : LTab w S b L m ev cv kv hs) (hg : aget hs t = some h) : HdAt w S h := ht.hd (t, h) (aget_mem hg)
theorem LTab.oc (ht : LTab w S b L m ev cv kv hs) (hg : aget hs t = some h) : Off h.v cv := (ht.hc (t, h) (aget_mem hg)).1
theorem LTab.ok' (ht : LTab w S b L m ev cv kv hs) (hg : aget hs t = some h) : Off h.v kv := (ht.hc (t, h) (aget_mem hg)).2
theorem LTab.stk (ht : LTab w S b L m ev cv kv hs) (hg : aget hs t = some h) : L.stk t = h.l := by rw [ht.st, hg]; rfl
theorem LTab.keys (ht : LTab w S b L m ev cv kv hs) : (hs.map (·.1)).Nodup := ht.mp.keys

/-- The struct's own cells and its rows anew; what the tasks hold as it was. -/
theorem LTab.body (ht : LTab w S b L m ev cv kv hs) (hx : Stay X w w') (hS : ∀ j, S j → S' j) (hl : ∀ j, S' j → j < w'.heap.size)
    (hb : Blk w' b 58 [ev', .int .i64 L'.time, .map (some m), cv', kv'])
    (her : w'.ownsRow 0 36 4 ev' L'.es.length (L'.es.flatMap Ent.cells)) (hcw : w'.ownsRow 0 3 1 cv' L'.cr.length (ints L'.cr)) (hkw : w'.ownsRow 0 3 1 kv' L'.lk.length (ints L'.lk))
    (se : InS S' ev') (sc : InS S' cv') (sk : InS S' kv') (nc : Next w cv cv') (nk : Next w kv kv') (hck : Off cv' kv') (hst : L'.stk = L.stk)
    (nm : ¬ X m) (nx : ∀ x ∈ hs, ¬ X x.2.b ∧ ∀ g, x.2.v.ownBlock = some g → ¬ X g) : LTab w' S' b L' m ev' cv' kv' hs :=
  ⟨hb, hS _ ht.sb, hS _ ht.sm, se, sc, sk, ht.mp.stay hx nm, her, hcw, hkw, fun x hx' => (ht.hd x hx').stay hx (nx x hx').1 (nx x hx').2 hS, fun t => by rw [hst]; exact ht.st t, ht.pw,
    fun x hx' => ⟨(ht.hc x hx').1.next nc (fun g hg => (own_lt (ht.hd x hx').row g hg).2), (ht.hc x hx').2.next nk (fun g hg => (own_lt (ht.hd x hx').row g hg).2)⟩, hck, hl, ht.kb⟩
theorem LTab.nb (ht : LTab w S b L m ev cv kv hs) : m ≠ b := ht.mp.ne_blk ht.blk
theorem LTab.hb (ht : LTab w S b L m ev cv kv hs) {x : Int × Hd} (hx : x ∈ hs) : x.2.b ≠ b := blk_ne (ht.hd x hx).blk ht.blk (by decide)
theorem LTab.hm (ht : LTab w S b L m ev cv kv hs) {x : Int × Hd} (hx : x ∈ hs) : x.2.b ≠ m := fun e => ht.mp.ne_blk (ht.hd x hx).blk e.symm
theorem LTab.vb (ht : LTab w S b L m ev cv kv hs) {x : Int × Hd} (hx : x ∈ hs) : ∀ g, x.2.v.ownBlock = some g → g ≠ b := own_ne_blk (ht.hd x hx).row ht.blk (by decide)
theorem LTab.vm (ht : LTab w S b L m ev cv kv hs) {x : Int × Hd} (hx : x ∈ hs) : ∀ g, x.2.v.ownBlock = some g → g ≠ m := own_ne_map (ht.hd x hx).row ht.mp
theorem aset_pairwise {α : Type} {R : α → α → Prop} (hsy : ∀ a b, R a b → R b a) : ∀ {l : List (Int × α)} {k : Int} {v : α}, (l.map (·.1)).Nodup → l.Pairwise (fun x y => R x.2 y.2) → (∀ x ∈ l, x.1 ≠ k → R x.2 v) → (aset l k v).Pairwise (fun x y => R x.2 y.2)
  | [], _, _, _, _, _ => by simp [aset]
  | p :: l, k, v, hn, hp, hv => by
    rw [List.pairwise_cons] at hp
    simp only [List.map_cons, List.nodup_cons] at hn
    simp only [aset]
    split
    · rename_i e
      refine List.pairwise_cons.2 ⟨fun y hy => hsy _ _ (hv y (List.mem_cons_of_mem _ hy) (fun e2 => hn.1 (by rw [e, ← e2]; exact List.mem_map.2 ⟨y, hy, rfl⟩))), hp.2⟩
    · rename_i e
      refine List.pairwise_cons.2 ⟨fun y hy => ?_, aset_pairwise hsy hn.2 hp.2 (fun x hx => hv x (List.mem_cons_of_mem _ hx))⟩
      have : y ∈ l ∨ y = (k, v) := by
        clear hp hv hn
        induction l with
        | nil => simp [aset] at hy; exact .inr hy
        | cons q l ih =>
          simp only [aset] at hy
          split at hy
          · rcases List.mem_cons.1 hy with h | h
            · exact .inr h
            · exact .inl (List.mem_cons_of_mem _ h)
          · rcases List.mem_cons.1 hy with h | h
            · exact .inl (h ▸ List.mem_cons_self ..)
            · rcases ih h with h | h
              · exact .inl (List.mem_cons_of_mem _ h)
              · exact .inr h
      rcases this with h | rfl
      · exact hp.1 y h
      · exact hv p (List.mem_cons_self ..) e
theorem aset_mem {α : Type} : ∀ {l : List (Int × α)} {k : Int} {v : α} {y : Int × α}, (l.map (·.1)).Nodup → y ∈ aset l k v → (y ∈ l ∧ y.1 ≠ k) ∨ y = (k, v)
  | [], _, _, _, _, hy => by simp [aset] at hy; exact .inr hy
  | q :: l, k, v, y, hn, hy => by
    simp only [List.map_cons, List.nodup_cons] at hn
    simp only [aset] at hy
    split at hy
    · rename_i e
      rcases List.mem_cons.1 hy with h | h
      · exact .inr h
      · exact .inl ⟨List.mem_cons_of_mem _ h, fun e2 => hn.1 (by rw [e, ← e2]; exact List.mem_map.2 ⟨y, h, rfl⟩)⟩
    · rename_i e
      rcases List.mem_cons.1 hy with h | h
      · exact .inl ⟨h ▸ List.mem_cons_self .., h ▸ e⟩
      · rcases aset_mem hn.2 h with h | h
        · exact .inl ⟨List.mem_cons_of_mem _ h.1, h.2⟩
        · exact .inr h
/-- What one task holds anew. -/
theorem LTab.task (ht : LTab w S b L m ev cv kv hs) (hx : Stay X w w') (hS : ∀ j, S j → S' j) (hl : ∀ j, S' j → j < w'.heap.size) (hm : IMap w' m (hmap (aset hs t h'))) (hh : HdAt w' S' h')
    (nb : ¬ X b) (ne : ∀ g, ev.ownBlock = some g → ¬ X g) (nc : ∀ g, cv.ownBlock = some g → ¬ X g) (nk : ∀ g, kv.ownBlock = some g → ¬ X g)
    (nx : ∀ x ∈ hs, x.1 ≠ t → ¬ X x.2.b ∧ (∀ g, x.2.v.ownBlock = some g → ¬ X g) ∧ x.2.b ≠ h'.b ∧ Off x.2.v h'.v) (oc : Off h'.v cv) (ok : Off h'.v kv) (hkb : 1 ≤ t ∧ t ≤ 64) :
    LTab w' S' b { L with stk := fput L.stk t h'.l } m ev cv kv (aset hs t h') := by
  refine ⟨hx.blk ht.blk nb, hS _ ht.sb, hS _ ht.sm, ht.se.mono hS, ht.sc.mono hS, ht.sk.mono hS, hm, own_stay hx ht.er ne, own_stay hx ht.cw nc, own_stay hx ht.kw nk, fun y hy => ?_, fun q => ?_, ?_, fun y hy => ?_, ht.ck, hl, fun y hy => ?_⟩
  · rcases aset_mem ht.keys hy with ⟨h1, h2⟩ | rfl
    · exact (ht.hd y h1).stay hx (nx y h1 h2).1 (nx y h1 h2).2.1 hS
    · exact hh
  · rw [aget_set]
    by_cases e : q = t
    · subst e; simp [fput_same]
    · rw [if_neg (fun e2 => e e2.symm)]
      simp only [fput_other _ _ e]
      exact ht.st q
  · exact aset_pairwise (R := fun x y : Hd => x.b ≠ y.b ∧ Off x.v y.v) (fun a b h => ⟨fun e => h.1 e.symm, h.2.symm⟩) ht.keys ht.pw (fun x hx' hne => (nx x hx' hne).2.2)
  · rcases aset_mem ht.keys hy with ⟨h1, _⟩ | rfl
    · exact ht.hc y h1
    · exact ⟨oc, ok⟩
  · rcases aset_mem ht.keys hy with ⟨h1, _⟩ | rfl
    · exact ht.kb y h1
    · exact hkb
/-- Two tasks' structs and rows lie apart. -/
theorem LTab.two (ht : LTab w S b L m ev cv kv hs) (hg : aget hs t = some h) {x : Int × Hd} (hx : x ∈ hs) (hne : x.1 ≠ t) : x.2.b ≠ h.b ∧ Off x.2.v h.v := by
  have hm := aget_mem hg
  have hp := ht.pw
  obtain ⟨i, hi, rfl⟩ := List.getElem_of_mem hx
  obtain ⟨j, hj, e⟩ := List.getElem_of_mem hm
  rcases Nat.lt_trichotomy i j with hlt | rfl | hlt
  · have := List.pairwise_iff_getElem.1 hp i j hi hj hlt
    rw [e] at this
    exact this
  · rw [e] at hne; exact absurd rfl hne
  · have := List.pairwise_iff_getElem.1 hp j i hj hi hlt
    rw [e] at this
    exact ⟨fun e => this.1 e.symm, this.2.symm⟩
end

set_option maxRecDepth 100000 in
set_option maxHeartbeats 1000000 in
theorem new_any (w : World) : Calls Try.prog 11 #[] w fun e w' => e = .returned (ptr (w.heap.size + 1)) ∧ LgAt w' (From w.heap.size w') (w.heap.size + 1) Lg.new ∧ Only w w' := by
  have hmm := @run_makeMap Try.prog
  go_enter Try.func11, Try.ntmps11
  go_wp2
  go_ret
  refine ⟨rfl, ⟨w.heap.size, .slice none 0 0, .slice none 0 0, .slice none 0 0, [], ?_, ?_, ?_, InS.nil _ _, InS.nil _ _, InS.nil _ _, ?_, World.ownsRow_nil _ _ _ _, World.ownsRow_nil _ _ _ _, World.ownsRow_nil _ _ _ _, by simp, fun t => rfl, List.Pairwise.nil, by simp, Off.nil _ _ _, fun k hk => hk.2, by simp⟩, ((Stay.refl _ w).alloc _).alloc _⟩
  · exact Blk.newAt (w.alloc _) [.slice none 0 0, .int .i64 0, .map (some w.heap.size), .slice none 0 0, .slice none 0 0] _ _ (by simp)
  · exact ⟨by omega, by simp⟩
  · exact ⟨by omega, by simp; omega⟩
  · exact (IMap.new w).alloc _

end Go.Proofs.Ytgjicobfbdikmaa
