/- A table of locks in memory. -/
import Derived.Test.YtfifdgigeecfbaaSep
import Derived.Test.YtfifdgigeecfbaaLockPure
import Derived.Test.YtfifdgigeecfbaaChecked
import Derived.Deep.RegionHeld3
set_option linter.unusedVariables false
set_option linter.unusedSimpArgs false
namespace Go.Proofs.Ytfifdgigeecfbaa
open Go Go.RowKit

def ptr (b : Nat) : Value := .pointer (some ⟨b, 0, none⟩)
def lkc (k : Lk) (h : Nat) (v : Value) : List Value := [.int .i64 k.permits, .int .i64 k.free, .map (some h), v]
abbrev imap (l : List (Int × Int)) : List (Int × Value) := vmap (Value.int .i64) l
abbrev wmap (bs : Nat → Nat) (l : List (Int × Nat)) : List (Int × Value) := vmap (fun i => ptr (bs i)) l
def prow (bs : Nat → Nat) (n : Nat) : List Value := (List.range n).map fun i => ptr (bs i)

/-- A lock: its struct, its map of holders, its row of those who wait. -/
structure LkAt (w : World) (S : Nat → Prop) (b : Nat) (k : Lk) (h : Nat) (v : Value) : Prop where
  blk : Blk w b 72 (lkc k h v)
  map : IMap w h (imap k.holds)
  row : w.ownsRow 0 3 1 v k.waiting.length (k.waiting.map (.int .i64))
  sb : S b
  sh : S h
  sv : InS S v
structure Tab (w : World) (S : Nat → Prop) (b : Nat) (t : Tb) (m : Nat) (lv : Value) (bs hs : Nat → Nat) (vs : Nat → Value) : Prop where
  blk : Blk w b 68 [lv, .map (some m)]
  sb : S b
  sm : S m
  sl : InS S lv
  wm : IMap w m (wmap bs t.waits)
  row : w.ownsRow 0 69 1 lv t.ls.length (prow bs t.ls.length)
  lk : ∀ i k, t.ls[i]? = some k → LkAt w S (bs i) k (hs i) (vs i)
  db : ∀ i j, i < t.ls.length → j < t.ls.length → bs i = bs j → i = j
  dh : ∀ i j, i < t.ls.length → j < t.ls.length → hs i = hs j → i = j
  dm : ∀ i, i < t.ls.length → hs i ≠ m
  dv : ∀ i j g, i < t.ls.length → j < t.ls.length → (vs i).ownBlock = some g → (vs j).ownBlock = some g → i = j
  lt : ∀ k, S k → k < w.heap.size
def TabAt (w : World) (S : Nat → Prop) (b : Nat) (t : Tb) : Prop := ∃ m lv bs hs vs, Tab w S b t m lv bs hs vs

section
variable {w w' : World} {S S' X : Nat → Prop} {b m h : Nat} {t : Tb} {k k' : Lk} {lv v v' : Value} {bs hs : Nat → Nat} {vs : Nat → Value}
theorem LkAt.stay (hk : LkAt w S b k h v) (hx : Stay X w w') (h1 : ¬ X b) (h2 : ¬ X h) (h3 : ∀ g, v.ownBlock = some g → ¬ X g) (hS : ∀ j, S j → S' j) : LkAt w' S' b k h v :=
  ⟨hx.blk hk.blk h1, hk.map.stay hx h2, own_stay hx hk.row h3, hS _ hk.sb, hS _ hk.sh, hk.sv.mono hS⟩
theorem Tab.stay (ht : Tab w S b t m lv bs hs vs) (hx : Stay X w w') (hn : ∀ j, S j → ¬ X j) (hS : ∀ j, S j → S' j) (hl : ∀ j, S' j → j < w'.heap.size) : Tab w' S' b t m lv bs hs vs :=
  ⟨hx.blk ht.blk (hn _ ht.sb), hS _ ht.sb, hS _ ht.sm, ht.sl.mono hS, ht.wm.stay hx (hn _ ht.sm), own_stay hx ht.row (fun g hg => hn g (ht.sl g hg)),
    fun i k hk => (ht.lk i k hk).stay hx (hn _ (ht.lk i k hk).sb) (hn _ (ht.lk i k hk).sh) (fun g hg => hn g ((ht.lk i k hk).sv g hg)) hS, ht.db, ht.dh, ht.dm, ht.dv, hl⟩
theorem Tab.only (ht : Tab w S b t m lv bs hs vs) (hx : Only w w') : Tab w' S b t m lv bs hs vs := ht.stay hx (fun _ _ => id) (fun _ h => h) (fun j hj => Nat.lt_of_lt_of_le (ht.lt j hj) hx.size)
theorem TabAt.stay (ht : TabAt w S b t) (hx : Stay X w w') (hn : ∀ j, S j → ¬ X j) (hS : ∀ j, S j → S' j) (hl : ∀ j, S' j → j < w'.heap.size) : TabAt w' S' b t := by
  obtain ⟨m, lv, bs, hs, vs, h⟩ := ht
  exact ⟨m, lv, bs, hs, vs, h.stay hx hn hS hl⟩
theorem TabAt.only (ht : TabAt w S b t) (hx : Only w w') : TabAt w' S b t := by
  obtain ⟨m, lv, bs, hs, vs, h⟩ := ht
  exact ⟨m, lv, bs, hs, vs, h.only hx⟩
theorem TabAt.lt (ht : TabAt w S b t) : ∀ k, S k → k < w.heap.size := by
  obtain ⟨m, lv, bs, hs, vs, h⟩ := ht
  exact h.lt
theorem TabAt.wide (ht : TabAt w S b t) (hS : ∀ j, S j → S' j) (hl : ∀ j, S' j → j < w.heap.size) : TabAt w S' b t := ht.stay (Stay.refl (fun _ => False) w) (fun _ _ => id) hS hl

/-- The blocks that a call on one lock may write. -/
def Touch (bs hs : Nat → Nat) (vs : Nat → Value) (m i : Nat) : Nat → Prop := fun j => j = bs i ∨ j = hs i ∨ (vs i).ownBlock = some j ∨ j = m
theorem Tab.touch (ht : Tab w S b t m lv bs hs vs) {i : Nat} (hi : t.ls[i]? = some k) : ∀ j, Touch bs hs vs m i j → S j := by
  have hk := ht.lk i k hi
  rintro j (rfl | rfl | hj | rfl)
  · exact hk.sb
  · exact hk.sh
  · exact hk.sv j hj
  · exact ht.sm

theorem Tab.upd (ht : Tab w S b t m lv bs hs vs) {i : Nat} (hi : t.ls[i]? = some k) (hx : Stay (Touch bs hs vs m i) w w') (hS : ∀ j, S j → S' j) (hl : ∀ j, S' j → j < w'.heap.size)
    (hk : LkAt w' S' (bs i) k' (hs i) v') (hv : ∀ g, v'.ownBlock = some g → (vs i).ownBlock = some g ∨ w.heap.size ≤ g) {ws : List (Int × Nat)} (hm : IMap w' m (wmap bs ws)) :
    Tab w' S' b ⟨t.ls.set i k', ws⟩ m lv bs hs (fun j => if j = i then v' else vs j) := by
  have h0 := ht.lk i k hi
  have hil : i < t.ls.length := (List.getElem?_eq_some_iff.1 hi).1
  have nb : ∀ {T : TypeId} {j : Nat} {us : List Value}, Blk w j T us → T ≠ 72 → T ≠ 3 → ¬ Touch bs hs vs m i j := by
    intro T j us hb h1 h2 hj
    rcases hj with rfl | rfl | hj | rfl
    · exact h1 (hb.inj h0.blk).1
    · exact h0.map.ne_blk hb rfl
    · exact own_ne_blk h0.row hb (fun e => h2 e.symm) j hj rfl
    · exact ht.wm.ne_blk hb rfl
  refine ⟨hx.blk ht.blk (nb ht.blk (by decide) (by decide)), hS _ ht.sb, hS _ ht.sm, ht.sl.mono hS, hm, ?_, ?_, by simpa using ht.db, by simpa using ht.dh, by simpa using ht.dm, ?_, hl⟩
  · simp only [List.length_set]
    refine own_stay hx ht.row (fun g hg hj => ?_)
    have hr := ht.row.2
    rcases hj with rfl | rfl | hj | rfl
    · exact own_ne_blk ht.row h0.blk (by decide) _ hg rfl
    · exact own_ne_map ht.row h0.map _ hg rfl
    · rcases own_ne ht.row h0.row (by decide) with e | e
      · rw [e] at hg; cases hg
      · exact e (hg.trans hj.symm)
    · exact own_ne_map ht.row ht.wm _ hg rfl
  · intro j kj hj
    rw [List.getElem?_set] at hj
    split at hj
    · rename_i e
      subst e
      cases hj
      simpa using hk
    · rename_i e
      have hjl : j < t.ls.length := (List.getElem?_eq_some_iff.1 hj).1
      have h1 := ht.lk j kj hj
      simp only [if_neg (fun e' : j = i => e e'.symm)]
      refine h1.stay hx ?_ ?_ ?_ hS
      · rintro (hj | hj | hj | hj)
        · exact e (ht.db j i hjl hil hj).symm
        · exact h0.map.ne_blk h1.blk hj.symm
        · exact own_ne_blk h0.row h1.blk (by decide) _ hj rfl
        · exact ht.wm.ne_blk h1.blk hj.symm
      · rintro (hj | hj | hj | hj)
        · exact h1.map.ne_blk h0.blk hj
        · exact e (ht.dh j i hjl hil hj).symm
        · exact own_ne_map h0.row h1.map _ hj rfl
        · exact ht.dm j hjl hj
      · rintro g hg (hj | hj | hj | hj)
        · exact own_ne_blk h1.row h0.blk (by decide) _ hg hj
        · exact own_ne_map h1.row h0.map _ hg hj
        · exact e (ht.dv j i g hjl hil hg hj).symm
        · exact own_ne_map h1.row ht.wm _ hg hj
  · intro j1 j2 g l1 l2 g1 g2
    simp only [List.length_set] at l1 l2
    have old : ∀ j, j < t.ls.length → (vs j).ownBlock = some g → g < w.heap.size := fun j hj hg => ht.lt g ((ht.lk j _ (List.getElem?_eq_getElem hj)).sv g hg)
    split at g1 <;> split at g2
    · rename_i e1 e2; rw [e1, e2]
    · rename_i e1 e2
      rcases hv g g1 with h | h
      · exact e1.trans (ht.dv i j2 g hil l2 h g2)
      · have := old j2 l2 g2; omega
    · rename_i e1 e2
      rcases hv g g2 with h | h
      · exact (ht.dv j1 i g l1 hil g1 h).trans e2.symm
      · have := old j1 l1 g1; omega
    · exact ht.dv j1 j2 g l1 l2 g1 g2
end

theorem prow_at (bs : Nat → Nat) {n i : Nat} (hi : i < n) : (prow bs n)[i]? = some (ptr (bs i)) := by simp [prow, hi]

set_option maxRecDepth 100000 in
set_option maxHeartbeats 1000000 in
theorem new_any (w : World) : Calls Try.prog 10 #[] w fun e w' => e = .returned (ptr (w.heap.size + 1)) ∧ TabAt w' (From w.heap.size w') (w.heap.size + 1) Tb.new ∧ Only w w' := by
  have hmm := @run_makeMap Try.prog
  go_enter Try.func10, Try.ntmps10
  go_wp2
  go_ret
  refine ⟨rfl, ⟨w.heap.size, .slice none 0 0, fun _ => 0, fun _ => 0, fun _ => .slice none 0 0, ?_, ?_, ?_, InS.nil _ _, ?_, World.ownsRow_nil _ _ _ _, by simp [Tb.new], by simp [Tb.new], by simp [Tb.new], by simp [Tb.new], by simp [Tb.new], fun k hk => hk.2⟩, ((Stay.refl _ w).alloc _).alloc _⟩
  · exact Blk.newAt (w.alloc _) [.slice none 0 0, .map (some w.heap.size)] _ _ (by simp)
  · exact ⟨by omega, by simp⟩
  · exact ⟨by omega, by simp; omega⟩
  · exact (IMap.new w).alloc _

/-- What 'at' hands back. -/
def atv (t : Tb) (bs : Nat → Nat) (lock party : Int) : Value := if t.asked lock party = 0 then ptr (bs (lock - 1).toNat) else .pointer none
def AtPost (w : World) (t : Tb) (bs : Nat → Nat) (lock party : Int) (e : Ending) (w' : World) : Prop := e = .returned (.tuple #[atv t bs lock party, .int .i64 (t.asked lock party)]) ∧ Only w w'
theorem AtPost.bad {w w' : World} {t : Tb} {bs : Nat → Nat} {lock party x : Int} (h : t.asked lock party = x) (hx : x ≠ 0) (ho : Only w w') : AtPost w t bs lock party (.returned (.tuple #[.pointer none, .int .i64 x])) w' := by
  refine ⟨?_, ho⟩
  unfold atv
  rw [h, if_neg hx]
theorem AtPost.good {w w' : World} {t : Tb} {bs : Nat → Nat} {lock party : Int} {i : Nat} (h : t.asked lock party = 0) (hi : (lock - 1).toNat = i) (ho : Only w w') : AtPost w t bs lock party (.returned (.tuple #[.pointer (some ⟨bs i, 0, none⟩), .int .i64 0])) w' := by
  refine ⟨?_, ho⟩
  unfold atv
  rw [h, if_pos rfl, hi]
  rfl

set_option maxRecDepth 100000 in
set_option maxHeartbeats 2000000 in
theorem at_any (w : World) (S : Nat → Prop) (b : Nat) (t : Tb) (m : Nat) (lv : Value) (bs hs : Nat → Nat) (vs : Nat → Value) (lock party : Int) (h : Tab w S b t m lv bs hs vs) (hn : t.ls.length ≤ 16) :
    Calls Try.prog 31 #[ptr b, .int .i64 lock, .int .i64 party] w (AtPost w t bs lock party) := by
  unfold ptr
  obtain ⟨A, cp, rfl⟩ := own_shape h.row
  have c := h.blk.cell
  by_cases h1 : party < 1 ∨ 1000000 < party
  · have HF := Lib.hid (show t.asked lock party = 2 by unfold Tb.asked; rw [if_pos h1])
    clear h hn
    by_cases h2 : party < 1
    · clear h1
      go_enter Try.func31, Try.ntmps31
      go_wp2_with fail
      go_ret2
      exact AtPost.bad HF.out (by decide) (Stay.refl _ w)
    · have h3 : 1000000 < party := by omega
      have h4 : ¬ party < 1 := h2
      clear h1 h2
      go_enter Try.func31, Try.ntmps31
      go_wp2_with fail
      go_ret2
      exact AtPost.bad HF.out (by decide) (Stay.refl _ w)
  · by_cases h2 : lock < 1 ∨ t.ls.length < lock
    · have HF := Lib.hid (show t.asked lock party = 6 by unfold Tb.asked; rw [if_neg h1, if_pos h2])
      have p1 : 1 ≤ party := by omega
      have p2 : party ≤ 1000000 := by omega
      clear h h1
      by_cases h3 : lock < 1
      · clear h2
        go_enter Try.func31, Try.ntmps31
        go_wp2_with fail
        go_ret2
        exact AtPost.bad HF.out (by decide) (Stay.refl _ w)
      · have h4 : (t.ls.length : Int) < lock := by omega
        have h5 : 1 ≤ lock := by omega
        clear h2 h3
        go_enter Try.func31, Try.ntmps31
        go_wp2_with fail
        go_ret2
        exact AtPost.bad HF.out (by decide) (Stay.refl _ w)
    · have HF := Lib.hid (show t.asked lock party = 0 by unfold Tb.asked; rw [if_neg h1, if_neg h2])
      have p1 : 1 ≤ party := by omega
      have p2 : party ≤ 1000000 := by omega
      obtain ⟨i, rfl⟩ : ∃ i : Nat, lock = (i : Int) + 1 := ⟨(lock - 1).toNat, by omega⟩
      have hi : i < t.ls.length := by omega
      obtain ⟨g, cp', e, _, _⟩ := h.row.form (by omega)
      cases e
      have c2 := h.row.cellAt i (by omega)
      rw [prow_at bs hi] at c2
      unfold ptr at c2
      have hh : ((i : Int) + 1 - 1).toNat = i := by omega
      have HT := Lib.hid hh
      clear h h1 h2 hh
      go_enter Try.func31, Try.ntmps31
      go_wp2_with fail
      go_ret2
      exact AtPost.good HF.out HT.out (Stay.refl _ w)

end Go.Proofs.Ytfifdgigeecfbaa
