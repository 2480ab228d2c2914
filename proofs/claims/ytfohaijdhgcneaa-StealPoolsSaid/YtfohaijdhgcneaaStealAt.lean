/- A race and its actors in memory. -/
import Derived.Test.YtfohaijdhgcneaaStealNow
set_option linter.unusedVariables false
set_option linter.unusedSimpArgs false
namespace Go.Proofs.Ytfohaijdhgcneaa
open Go Go.RowKit

structure ActAt (w : World) (L : Nat → Nat) (b rb : Nat) (own : List Int) (i ab ob : Nat) (a : Act) (nx gv : Value) : Prop where
  ac : AcB w ab a.n a.got (.func (.func (opF i)) #[] #[.pointer (some ⟨rb, 0, none⟩), .pointer (some ⟨ob, 0, none⟩)]) nx gv
  box : Blk w ob 87 [pt ab]
  pend : PendAt w L b own i ab a nx
  la : L ab = 16 * i + 16
  lg : ∀ g, gv.ownBlock = some g → L g = 16 * i + 17
  lo : L ob = 16 * i + 18
structure RaceAt (w : World) (L : Nat → Nat) (b : Nat) (R : Rc) (cv av ov tv pv : Value) (rb : Nat) (abs : List Nat) : Prop where
  core : Core w b R.room R.cells R.top R.bot cv av ov tv pv
  orow : w.ownsRow 0 3 1 ov R.own.length (ints R.own)
  trow : w.ownsRow 0 3 1 tv R.thv.length (ints R.thv)
  prow : w.ownsRow 0 3 1 pv R.past.length (ints R.past)
  arow : w.ownsRow 0 87 1 av abs.length (abs.map pt)
  rbox : Blk w rb 26 [pt b]
  len : abs.length = R.acts.length
  acts : ∀ (i ab : Nat) (a : Act), abs[i]? = some ab → R.acts[i]? = some a → ∃ ob nx gv, ActAt w L b rb R.own i ab ob a nx gv
  lb : L b = 1
  lc : ∀ g, cv.ownBlock = some g → L g = 2
  lo : ∀ g, ov.ownBlock = some g → L g = 3
  lt : ∀ g, tv.ownBlock = some g → L g = 4
  lp : ∀ g, pv.ownBlock = some g → L g = 5
  la : ∀ g, av.ownBlock = some g → L g = 6
  lr : L rb = 7
  lab : ∀ k, L k ≠ 0 → k < w.heap.size
  ok : R.Ok
/-- A race, whatever its parts. -/
def RaceOk (w : World) (L : Nat → Nat) (b : Nat) (R : Rc) : Prop := ∃ cv av ov tv pv rb abs, RaceAt w L b R cv av ov tv pv rb abs
/-- What a step turns. -/
def XS (i : Nat) (L : Nat → Nat) (k : Nat) : Prop := L k = 1 ∨ L k = 2 ∨ L k = 5 ∨ (16 * i + 16 ≤ L k ∧ L k < 16 * i + 32 ∧ L k ≠ 16 * i + 18)
section
variable {w w' : World} {X : Nat → Prop} {L L' : Nat → Nat} {b rb i ab ob : Nat} {own : List Int} {a : Act} {nx gv : Value}
theorem ActAt.stay (h : ActAt w L b rb own i ab ob a nx gv) (hx : Stay X w w') (hX : ∀ k, X k → L k < 16 * i + 16 ∨ 16 * i + 32 ≤ L k) : ActAt w' L b rb own i ab ob a nx gv :=
  ⟨h.ac.stay hx (fun e => by have := hX _ e; have := h.la; omega) (fun g hg e => by have := hX _ e; have := h.lg g hg; omega), hx.blk h.box (fun e => by have := hX _ e; have := h.lo; omega), h.pend.stay hx (fun k hk => by have := hX k hk; omega), h.la, h.lg, h.lo⟩
theorem ActAt.label (h : ActAt w L b rb own i ab ob a nx gv) (hL : ∀ k, k < w.heap.size → 16 ≤ L k → L' k = L k) : ActAt w L' b rb own i ab ob a nx gv :=
  ⟨h.ac, h.box, h.pend.label hL, by rw [hL _ h.ac.blk.lt (by rw [h.la]; omega)]; exact h.la, fun g hg => by rw [hL _ (own_lt h.ac.row g hg).2 (by rw [h.lg g hg]; omega)]; exact h.lg g hg, by rw [hL _ h.box.lt (by rw [h.lo]; omega)]; exact h.lo⟩
end
section
variable {w wb w1 w' : World} {L L1 : Nat → Nat} {b rb i ab ob : Nat} {R : Rc} {a : Act} {cv av ov tv pv nx nx0 nx' gv gv' : Value} {abs : List Nat}
/-- A race and its actor, seen by a step. -/
def fixedOf (b ab : Nat) (cv av ov tv pv : Value) (n : Nat) (opv nx : Value) : Fixed := ⟨b, ab, cv, av, ov, tv, pv, n, opv, nx⟩
theorem RaceAt.loc (h : RaceAt w L b R cv av ov tv pv rb abs) (hi : R.acts[i]? = some a) (ha : ActAt w L b rb R.own i ab ob a nx gv) :
    Loc w ⟨b, ab, cv, av, ov, tv, pv, a.n, .func (.func (opF i)) #[] #[.pointer (some ⟨rb, 0, none⟩), .pointer (some ⟨ob, 0, none⟩)], nx⟩ (nums R a) gv := by
  have hb := h.ok.bounds
  have h1 := h.ok.an i a hi
  exact ⟨h.core, ha.ac, fun g hg hg2 => by have := h.lc g hg; have := ha.lg g hg2; omega, h.ok.r1, h.ok.r16, h.ok.cl, ⟨hb.2.2.1, by show R.top ≤ 1000; omega⟩, ⟨hb.1, by show R.bot ≤ 1000; omega⟩, by show a.got.length ≤ 500; omega⟩
theorem RaceAt.next (h : RaceAt w L b R cv av ov tv pv rb abs) (hi : R.acts[i]? = some a) (hab : abs[i]? = some ab) (hn : a.got.length ≠ a.n) (ha : ActAt w L b rb R.own i ab ob a nx gv)
    (hL1 : ∀ k, k < w.heap.size → L1 k = L k) (hl1 : ∀ k, L1 k ≠ 0 → k < wb.heap.size) (hs1 : w.heap.size ≤ wb.heap.size) (hs2 : wb.heap.size ≤ w1.heap.size)
    (hp : PendAt w1 L1 b R.own i ab (opS R i a).2 nx') (hnext : Next wb gv gv') (hg1 : ∀ g, gv'.ownBlock = some g → g < w1.heap.size) (hst : Stay (XS i L) w w1) {e : Ending} (nx0 : Value)
    (ht : TailPost w1 ⟨b, ab, cv, av, ov, tv, pv, a.n, .func (.func (opF i)) #[] #[.pointer (some ⟨rb, 0, none⟩), .pointer (some ⟨ob, 0, none⟩)], nx0⟩ (nums (opS R i a).1 (opS R i a).2) gv' nx' R.past i e w') :
    e = .returned (.bool true) ∧ ∃ L', RaceOk w' L' b (R.go i a) ∧ (∀ k, k < w.heap.size → L' k = L k) ∧ Stay (fun k => L k ≠ 0) w w' := by
  obtain ⟨he, pv', hcore, hac, hprow, hpn, htst⟩ := ht
  obtain ⟨r1, r2, r3, r4⟩ := op_room R i a
  have hil := (List.getElem?_eq_some_iff.1 hi).1
  have hact := op_act R i a (h.ok.an i a hi).2.2.1 (by have := (h.ok.an i a hi).2.1; omega)
  have hokn := h.ok.go hi hn
  have htst' : Stay (XS i L) w1 w' := htst.mono (fun k hk hx => by
    rcases hx with e | e | e
    · simp only at e; subst e; exact .inl h.lb
    · simp only at e; subst e; exact .inr (.inr (.inr ⟨by have := ha.la; omega, by have := ha.la; omega, by have := ha.la; omega⟩))
    · exact .inr (.inr (.inl (h.lp k e))))
  have hall : Stay (XS i L) w w' := hst.trans htst' (fun _ _ h => h)
  have hsz := htst.size
  have hsz0 := hall.size
  let L' : Nat → Nat := fun k => if L1 k ≠ 0 then L1 k else if gv'.ownBlock = some k then 16 * i + 17 else if pv'.ownBlock = some k then 5 else 0
  have hLL : ∀ k, L1 k ≠ 0 → L' k = L1 k := fun k hk => by show (if L1 k ≠ 0 then L1 k else _) = _; rw [if_pos hk]
  have hLo : ∀ k, L k ≠ 0 → k < w.heap.size ∧ L' k = L k := fun k hk => by
    have h1 := h.lab k hk
    have h2 := hL1 k h1
    exact ⟨h1, by rw [hLL k (by rw [h2]; exact hk), h2]⟩
  have hLold : ∀ k, k < w.heap.size → L' k = L k := fun k hk => by
    by_cases h0 : L k = 0
    · have e1 : L1 k = 0 := by rw [hL1 k hk]; exact h0
      have n1 : gv'.ownBlock ≠ some k := fun e => by
        rcases hnext k e with e2 | e2
        · have := ha.lg k e2; omega
        · omega
      have n2 : pv'.ownBlock ≠ some k := fun e => by
        rcases hpn k e with e2 | e2
        · have := h.lp k e2; omega
        · omega
      show (if L1 k ≠ 0 then L1 k else if gv'.ownBlock = some k then 16 * i + 17 else if pv'.ownBlock = some k then 5 else 0) = _
      rw [if_neg (by rw [e1]; simp), if_neg n1, if_neg n2, h0]
    · exact (hLo k h0).2
  have hg' : ∀ g, gv'.ownBlock = some g → L' g = 16 * i + 17 := fun g hg => by
    rcases hnext g hg with e2 | e2
    · have := ha.lg g e2
      rw [(hLo g (by omega)).2, this]
    · have e1 : L1 g = 0 := by
        by_cases h0 : L1 g = 0
        · exact h0
        · have := hl1 g h0; omega
      show (if L1 g ≠ 0 then L1 g else if gv'.ownBlock = some g then 16 * i + 17 else if pv'.ownBlock = some g then 5 else 0) = _
      rw [if_neg (by rw [e1]; simp), if_pos hg]
  have hp' : ∀ g, pv'.ownBlock = some g → L' g = 5 := fun g hg => by
    rcases hpn g hg with e2 | e2
    · have := h.lp g e2
      rw [(hLo g (by omega)).2, this]
    · have e1 : L1 g = 0 := by
        by_cases h0 : L1 g = 0
        · exact h0
        · have := hl1 g h0; omega
      have n1 : gv'.ownBlock ≠ some g := fun e => by
        have := hg1 g e
        omega
      show (if L1 g ≠ 0 then L1 g else if gv'.ownBlock = some g then 16 * i + 17 else if pv'.ownBlock = some g then 5 else 0) = _
      rw [if_neg (by rw [e1]; simp), if_neg n1, if_pos hg]
  have e3 : (R.go i a).own = R.own := r3
  have e4 : (R.go i a).thv = R.thv := r4
  have keep : ∀ {T : TypeId} {v : Value} {n : Nat} {xs : List Value} {m : Nat}, w.ownsRow 0 T 1 v n xs → (∀ g, v.ownBlock = some g → L g = m) → (m = 3 ∨ m = 4 ∨ m = 6) → w'.ownsRow 0 T 1 v n xs := fun hr hm h3 => own_stay hall hr (fun g hg hx => by have := hm g hg; unfold XS at hx; omega)
  refine ⟨he, L', ⟨cv, av, ov, tv, pv', rb, abs, ⟨hcore, by rw [e3]; exact keep h.orow h.lo (.inl rfl), by rw [e4]; exact keep h.trow h.lt (.inr (.inl rfl)), ?_, keep h.arow h.la (.inr (.inr rfl)), hall.blk h.rbox (fun hx => by have := h.lr; unfold XS at hx; omega), ?_, fun j ab2 a2 hj ha2 => ?_, (hLo b (by rw [h.lb]; simp)).2.trans h.lb, fun g hg => (hLo g (by rw [h.lc g hg]; simp)).2.trans (h.lc g hg), fun g hg => (hLo g (by rw [h.lo g hg]; simp)).2.trans (h.lo g hg), fun g hg => (hLo g (by rw [h.lt g hg]; simp)).2.trans (h.lt g hg), hp', fun g hg => (hLo g (by rw [h.la g hg]; simp)).2.trans (h.la g hg), (hLo rb (by rw [h.lr]; simp)).2.trans h.lr, fun k hk => ?_, hokn⟩⟩, hLold, hall.mono (fun k _ hx => by unfold XS at hx; omega)⟩
  · show w'.ownsRow 0 _ 1 pv' (R.past ++ [(i : Int)]).length _
    rw [List.length_append, List.length_singleton]
    exact hprow
  · show abs.length = (R.acts.set i _).length
    rw [List.length_set]
    exact h.len
  · have ha2' : (R.acts.set i (opS R i a).2)[j]? = some a2 := ha2
    rw [List.getElem?_set] at ha2'
    split at ha2'
    · rename_i hij
      subst hij
      cases ha2'
      rw [hab] at hj
      cases hj
      refine ⟨ob, nx', gv', ⟨by rw [hact.1]; exact hac, hall.blk ha.box (fun hx => by have := ha.lo; unfold XS at hx; omega), ?_, (hLo ab (by rw [ha.la]; simp)).2.trans ha.la, hg', (hLo ob (by rw [ha.lo]; simp)).2.trans ha.lo⟩⟩
      rw [e3]
      refine (hp.stay htst (fun k hx => ?_)).label (fun k _ hk => hLL k (by omega))
      rcases hx with e | e | e
      · simp only at e
        subst e
        have := h.lb
        rw [hL1 _ (h.lab _ (by omega)), this]
        omega
      · simp only at e
        subst e
        have := ha.la
        rw [hL1 _ (h.lab _ (by omega)), this]
        omega
      · have := h.lp k e
        rw [hL1 _ (h.lab _ (by omega)), this]
        omega
    · rename_i hij
      obtain ⟨ob2, nx2, gv2, h2⟩ := h.acts j ab2 a2 hj ha2'
      rw [e3]
      refine ⟨ob2, nx2, gv2, (h2.stay hall (fun k hx => ?_)).label (fun k _ hk => (hLo k (by omega)).2)⟩
      unfold XS at hx
      omega
  · by_cases h1 : L1 k = 0
    · have hk' : (if L1 k ≠ 0 then L1 k else if gv'.ownBlock = some k then 16 * i + 17 else if pv'.ownBlock = some k then 5 else 0) ≠ 0 := hk
      rw [if_neg (by rw [h1]; simp)] at hk'
      split at hk'
      · rename_i h3
        have := hg1 k h3
        omega
      · split at hk'
        · rename_i h3
          exact (own_lt hprow k h3).2
        · exact absurd rfl hk'
    · have := hl1 k h1
      omega
end
end Go.Proofs.Ytfohaijdhgcneaa
