/- A race is made: one actor more. -/
import Derived.Test.YtfohaijdhgcneaaStealAt
set_option linter.unusedVariables false
set_option linter.unusedSimpArgs false
namespace Go.Proofs.Ytfohaijdhgcneaa
open Go Go.RowKit

/-- A race in memory, whether its owner is there already or not. -/
structure RaceM (w : World) (L : Nat → Nat) (b : Nat) (R : Rc) (cv av ov tv pv : Value) (rb : Nat) (abs : List Nat) : Prop where
  core : Core w b R.room R.cells R.top R.bot cv av ov tv pv
  orow : w.ownsRow 0 3 1 ov R.own.length (ints R.own)
  trow : w.ownsRow 0 3 1 tv R.thv.length (ints R.thv)
  prow : w.ownsRow 0 3 1 pv R.past.length (ints R.past)
  arow : w.ownsRow 0 87 1 av abs.length (abs.map pt)
  rbox : Blk w rb 26 [pt b]
  len : abs.length = R.acts.length
  acts : ∀ (i ab : Nat) (a : Act), abs[i]? = some ab → R.acts[i]? = some a → ∃ ob nx gv, ActAt w L b rb R.own i ab ob a nx gv
  lb : L b = 1
  lc : ∀ g, cv.ownBlock = some g → L g = 2
  lo : ∀ g, ov.ownBlock = some g → L g = 3
  lt : ∀ g, tv.ownBlock = some g → L g = 4
  lp : ∀ g, pv.ownBlock = some g → L g = 5
  la : ∀ g, av.ownBlock = some g → L g = 6
  lr : L rb = 7
  lab : ∀ k, L k ≠ 0 → k < w.heap.size
section
variable {w w' : World} {L : Nat → Nat} {b rb s ob n : Nat} {R : Rc} {cv av av' ov tv pv : Value} {abs : List Nat}
theorem RaceM.at (h : RaceM w L b R cv av ov tv pv rb abs) (hok : R.Ok) : RaceAt w L b R cv av ov tv pv rb abs :=
  ⟨h.core, h.orow, h.trow, h.prow, h.arow, h.rbox, h.len, h.acts, h.lb, h.lc, h.lo, h.lt, h.lp, h.la, h.lr, h.lab, hok⟩
theorem RaceM.add (h : RaceM w L b R cv av ov tv pv rb abs) (hst : Stay (fun k => k = b ∨ av.ownBlock = some k) w w')
    (hcore : Core w' b R.room R.cells R.top R.bot cv av' ov tv pv) (har : w'.ownsRow 0 87 1 av' (abs.length + 1) ((abs ++ [s]).map pt)) (hav : Next w av av')
    (hs : w.heap.size ≤ s) (ho : w.heap.size ≤ ob) (hso : s ≠ ob) (hns : av'.ownBlock ≠ some s) (hno : av'.ownBlock ≠ some ob)
    (hac : AcB w' s n [] (.func (.func (opF R.acts.length)) #[] #[.pointer (some ⟨rb, 0, none⟩), .pointer (some ⟨ob, 0, none⟩)]) .nilFunc (.slice none 0 0)) (hbx : Blk w' ob 87 [pt s]) :
    ∃ L', RaceM w' L' b { R with acts := R.acts ++ [⟨n, 0, 0, 0, []⟩] } cv av' ov tv pv rb (abs ++ [s]) ∧ ∀ k, k < w.heap.size → L' k = L k := by
  let L' : Nat → Nat := fun k => if L k ≠ 0 then L k else if k = s then 16 * R.acts.length + 16 else if k = ob then 16 * R.acts.length + 18 else if av'.ownBlock = some k then 6 else 0
  have hL0 : ∀ k, w.heap.size ≤ k → L k = 0 := fun k hk => by
    by_cases h0 : L k = 0
    · exact h0
    · have := h.lab k h0; omega
  have hLo : ∀ k, L k ≠ 0 → L' k = L k := fun k hk => by
    show (if L k ≠ 0 then L k else _) = _
    rw [if_pos hk]
  have e1 : L' s = 16 * R.acts.length + 16 := by
    show (if L s ≠ 0 then L s else if s = s then 16 * R.acts.length + 16 else _) = _
    rw [if_neg (by rw [hL0 s hs]; simp), if_pos rfl]
  have e2 : L' ob = 16 * R.acts.length + 18 := by
    show (if L ob ≠ 0 then L ob else if ob = s then 16 * R.acts.length + 16 else if ob = ob then 16 * R.acts.length + 18 else _) = _
    rw [if_neg (by rw [hL0 ob ho]; simp), if_neg (fun e => hso e.symm), if_pos rfl]
  have e3 : ∀ g, av'.ownBlock = some g → L' g = 6 := fun g hg => by
    rcases hav g hg with e | e
    · have := h.la g e
      rw [hLo g (by omega), this]
    · show (if L g ≠ 0 then L g else if g = s then 16 * R.acts.length + 16 else if g = ob then 16 * R.acts.length + 18 else if av'.ownBlock = some g then 6 else 0) = _
      rw [if_neg (by rw [hL0 g e]; simp), if_neg (fun e2 => hns (by rw [← e2]; exact hg)), if_neg (fun e2 => hno (by rw [← e2]; exact hg)), if_pos hg]
  have eold : ∀ k, k < w.heap.size → L' k = L k := fun k hk => by
    by_cases h0 : L k = 0
    · show (if L k ≠ 0 then L k else if k = s then 16 * R.acts.length + 16 else if k = ob then 16 * R.acts.length + 18 else if av'.ownBlock = some k then 6 else 0) = _
      rw [if_neg (by rw [h0]; simp), if_neg (by omega), if_neg (by omega), if_neg (fun e => by
        rcases hav k e with e | e
        · have := h.la k e; omega
        · omega), h0]
    · exact hLo k h0
  have hX : ∀ k, (k = b ∨ av.ownBlock = some k) → L k = 1 ∨ L k = 6 := fun k hk => by
    rcases hk with e | e
    · subst e; exact .inl h.lb
    · exact .inr (h.la k e)
  have keep : ∀ {T : TypeId} {v : Value} {n : Nat} {xs : List Value} {m : Nat}, w.ownsRow 0 T 1 v n xs → (∀ g, v.ownBlock = some g → L g = m) → (m = 3 ∨ m = 4 ∨ m = 5) → w'.ownsRow 0 T 1 v n xs := fun hr hm h3 => own_stay hst hr (fun g hg hx => by have := hm g hg; have := hX g hx; omega)
  refine ⟨L', ⟨hcore, keep h.orow h.lo (.inl rfl), keep h.trow h.lt (.inr (.inl rfl)), keep h.prow h.lp (.inr (.inr rfl)), by simpa using har, hst.blk h.rbox (fun hx => by have := hX _ hx; have := h.lr; omega), by simp [h.len], fun j ab2 a2 hj ha2 => ?_, (hLo b (by rw [h.lb]; simp)).trans h.lb, fun g hg => (hLo g (by rw [h.lc g hg]; simp)).trans (h.lc g hg), fun g hg => (hLo g (by rw [h.lo g hg]; simp)).trans (h.lo g hg), fun g hg => (hLo g (by rw [h.lt g hg]; simp)).trans (h.lt g hg), fun g hg => (hLo g (by rw [h.lp g hg]; simp)).trans (h.lp g hg), e3, (hLo rb (by rw [h.lr]; simp)).trans h.lr, fun k hk => ?_⟩, eold⟩
  · rcases Nat.lt_trichotomy j abs.length with hlt | heq | hgt
    · rw [List.getElem?_append_left hlt] at hj
      rw [List.getElem?_append_left (by rw [← h.len]; exact hlt)] at ha2
      obtain ⟨ob2, nx2, gv2, h2⟩ := h.acts j ab2 a2 hj ha2
      exact ⟨ob2, nx2, gv2, (h2.stay hst (fun k hx => by have := hX k hx; omega)).label (fun k _ hk => hLo k (by omega))⟩
    · subst heq
      rw [List.getElem?_append_right (Nat.le_refl _)] at hj
      rw [h.len, List.getElem?_append_right (Nat.le_refl _)] at ha2
      simp only [Nat.sub_self, List.getElem?_cons_zero, Option.some.injEq] at hj ha2
      subst hj ha2
      rw [h.len]
      exact ⟨ob, .nilFunc, .slice none 0 0, ⟨hac, hbx, by unfold PendAt; rw [if_pos rfl], e1, fun g hg => by simp [Value.ownBlock] at hg, e2⟩⟩
    · rw [List.getElem?_eq_none (by simp; omega)] at hj
      cases hj
  · have hk' : (if L k ≠ 0 then L k else if k = s then 16 * R.acts.length + 16 else if k = ob then 16 * R.acts.length + 18 else if av'.ownBlock = some k then 6 else 0) ≠ 0 := hk
    by_cases h0 : L k = 0
    · rw [if_neg (by rw [h0]; simp)] at hk'
      by_cases h1 : k = s
      · subst h1; exact hac.blk.lt
      rw [if_neg h1] at hk'
      by_cases h2 : k = ob
      · subst h2; exact hbx.lt
      rw [if_neg h2] at hk'
      by_cases h3 : av'.ownBlock = some k
      · exact (own_lt har k h3).2
      · rw [if_neg h3] at hk'; exact absurd rfl hk'
    · exact Nat.lt_of_lt_of_le (h.lab k h0) hst.size
end
def Act.fresh (n : Nat) : Act := ⟨n, 0, 0, 0, []⟩
/-- A race whose owner and first thieves are there. -/
def Rc.start (room : Nat) (own thv : List Int) (ts : List Nat) : Rc := ⟨room, List.replicate room 0, 0, 0, Act.fresh own.length :: ts.map Act.fresh, own, thv, []⟩
theorem fresh_sum : ∀ (l : List Nat), mu (l.map Act.fresh) = 0
  | [] => rfl
  | n :: l => by
    have := fresh_sum l
    simp only [mu, List.map_cons, List.sum_cons] at this ⊢
    simp [Act.fresh]
    simpa [Act.fresh] using this
theorem Rc.start_ok (room : Nat) (own thv : List Int) (ts : List Nat) (h1 : 1 ≤ room) (h2 : room ≤ 16) (h3 : own.length ≤ 60) (h4 : ts.length ≤ 8) (h5 : ∀ x ∈ own, 0 ≤ x ∧ x ≤ 1000000) (h6 : ∀ n ∈ ts, n ≤ 60) : (Rc.start room own thv ts).Ok := by
  refine ⟨h1, h2, by simp [Rc.start], by simp [Rc.start], by simp [Rc.start]; omega, fun i a hi => ?_, ⟨Act.fresh own.length, rfl, rfl, by simp [Rc.start], ?_, fun _ => by simp [Act.fresh], fun h => absurd h.1 (by simp [Act.fresh]), fun h => absurd h.1 (by simp [Act.fresh]), fun i s hi hs hst => ?_⟩, h5, by simp [Rc.start]⟩
  · cases i with
    | zero =>
      simp only [Rc.start, List.getElem?_cons_zero, Option.some.injEq] at hi
      subst hi
      exact ⟨h3, by simp [Act.fresh], by simp [Act.fresh], by simp [Act.fresh]⟩
    | succ i =>
      simp only [Rc.start, List.getElem?_cons_succ, List.getElem?_map, Option.map_eq_some_iff] at hi
      obtain ⟨n, hn, rfl⟩ := hi
      exact ⟨h6 n (List.mem_of_getElem? hn), by simp [Act.fresh], by simp [Act.fresh], by simp [Act.fresh]⟩
  · have := lim_le 0 (decide ((Rc.start room own thv ts).tak (Act.fresh own.length)))
    simpa [Rc.start] using this.1
  · cases i with
    | zero => omega
    | succ i =>
      simp only [Rc.start, List.getElem?_cons_succ, List.getElem?_map, Option.map_eq_some_iff] at hs
      obtain ⟨n, hn, rfl⟩ := hs
      simp [Act.fresh] at hst
end Go.Proofs.Ytfohaijdhgcneaa
