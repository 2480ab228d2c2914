/- Step. -/
import Derived.Test.YtfohaijdhgcneaaStealStep2
import Derived.Test.YtfohaijdhgcneaaStealAt
set_option linter.unusedVariables false
set_option linter.unusedSimpArgs false
namespace Go.Proofs.Ytfohaijdhgcneaa
open Go Go.RowKit

section
variable {w wa wb w1 w' : World} {L : Nat → Nat} {b rb i ab ob : Nat} {R : Rc} {a : Act} {cv av ov tv pv nx nx' gv gv' : Value} {abs : List Nat}
theorem RaceAt.only (h : RaceAt w L b R cv av ov tv pv rb abs) (ho : Only w w') : RaceAt w' L b R cv av ov tv pv rb abs :=
  ⟨h.core.only ho, own_only ho h.orow, own_only ho h.trow, own_only ho h.prow, own_only ho h.arow, ho.blk h.rbox, h.len, fun j ab2 a2 h1 h2 => by
    obtain ⟨ob2, nx2, gv2, h3⟩ := h.acts j ab2 a2 h1 h2
    exact ⟨ob2, nx2, gv2, h3.stay ho (fun _ h => h.elim)⟩, h.lb, h.lc, h.lo, h.lt, h.lp, h.la, h.lr, fun k hk => Nat.lt_of_lt_of_le (h.lab k hk) ho.size, h.ok⟩
/-- What a step's own call leaves. -/
def StepQ (w : World) (L : Nat → Nat) (b ab i : Nat) (R : Rc) (a : Act) (gv : Value) (wb w1 : World) (N' : Nums) (gv' nx' : Value) : Prop :=
  ∃ L1 : Nat → Nat, (∀ k, k < w.heap.size → L1 k = L k) ∧ (∀ k, L1 k ≠ 0 → k < wb.heap.size) ∧ w.heap.size ≤ wb.heap.size ∧ wb.heap.size ≤ w1.heap.size ∧ N' = nums (opS R i a).1 (opS R i a).2 ∧ PendAt w1 L1 b R.own i ab (opS R i a).2 nx' ∧ Next wb gv gv' ∧ (∀ g, gv'.ownBlock = some g → g < w1.heap.size) ∧ Stay (XS i L) w w1
abbrev fixed (b ab : Nat) (cv av ov tv pv : Value) (n i rb ob : Nat) (nx : Value) : Fixed := ⟨b, ab, cv, av, ov, tv, pv, n, .func (.func (opF i)) #[] #[.pointer (some ⟨rb, 0, none⟩), .pointer (some ⟨ob, 0, none⟩)], nx⟩
theorem RaceAt.fin (h : RaceAt w L b R cv av ov tv pv rb abs) (hi : R.acts[i]? = some a) (hab : abs[i]? = some ab) (hn : a.got.length ≠ a.n) (ha : ActAt w L b rb R.own i ab ob a nx gv) {N' : Nums} {e : Ending}
    (hq : StepQ w L b ab i R a gv wb w1 N' gv' nx') (ht : TailPost w1 (fixed b ab cv av ov tv pv a.n i rb ob nx) N' gv' nx' R.past i e w') :
    e = .returned (.bool true) ∧ ∃ L', RaceOk w' L' b (R.go i a) ∧ (∀ k, k < w.heap.size → L' k = L k) ∧ Stay (fun k => L k ≠ 0) w w' := by
  obtain ⟨L1, q1, q2, q3, q4, rfl, q6, q7, q8, q9⟩ := hq
  exact h.next hi hab hn ha q1 q2 q3 q4 q6 q7 q8 q9 nx ht
theorem RaceAt.rows (h : RaceAt w L b R cv av ov tv pv rb abs) (hab : abs[i]? = some ab) (nx : Value) (n : Nat) : Rows w (fixed b ab cv av ov tv pv n i rb ob nx) abs R.past i :=
  ⟨h.arow, h.prow, hab, by have := h.ok.al; rw [h.len]; omega, by have := h.ok.past_le; omega⟩
theorem RaceAt.labs (h : RaceAt w L b R cv av ov tv pv rb abs) (ha : ActAt w L b rb R.own i ab ob a nx gv) (nx2 : Value) : Labs L (fixed b ab cv av ov tv pv a.n i rb ob nx2) i gv :=
  ⟨h.lb, h.lc, ha.la, ha.lg⟩
theorem lx_xs {k : Nat} (h : LX i L k) : XS i L k := by unfold LX at h; unfold XS; omega
/-- The step inside an operation. -/
theorem RaceAt.inside (h : RaceAt w L b R cv av ov tv pv rb abs) (hi : R.acts[i]? = some a) (hab : abs[i]? = some ab) (hn : a.got.length ≠ a.n) (hs : a.step ≠ 0) (ha : ActAt w L b rb R.own i ab ob a nx gv) :
    Calls Try.prog 22 #[.pointer (some ⟨b, 0, none⟩), .int .i64 i] w fun e w' => e = .returned (.bool true) ∧ ∃ L', RaceOk w' L' b (R.go i a) ∧ (∀ k, k < w.heap.size → L' k = L k) ∧ Stay (fun k => L k ≠ 0) w w' := by
  have hp := ha.pend
  unfold PendAt at hp
  rw [if_neg hs] at hp
  have hloc := h.loc hi ha
  obtain ⟨f, cs, hnx, hfs, hc⟩ := NowAt.now hloc (h.labs ha nx) (h.ok.due hi) hp
  refine (step_in (F := fixed b ab cv av ov tv pv a.n i rb ob nx) (Q := fun w1 N' gv' nx' => StepQ w L b ab i R a gv w w1 N' gv' nx') hloc (h.rows hab nx a.n) hnx hfs (hc.mono fun e w1 hpost => ?_)).mono fun e w' ⟨w1, nx', N', gv', hq, ht⟩ => h.fin hi hab hn ha hq ht
  obtain ⟨nx', he, gv', hl, hpd, hnext, hst⟩ := hpost
  refine ⟨nx', he, hpd.form, _, gv', hl, own_stay hst h.prow (fun g hg hx => by have := h.lp g hg; unfold LX at hx; omega), fun g hg hg2 => ?_, fun g hg hg2 => by have := h.lp g hg; have := h.lc g hg2; omega, L, fun _ _ => rfl, h.lab, Nat.le_refl _, hst.size, rfl, hpd, hnext, fun g hg => (own_lt hl.ac.row g hg).2, hst.mono (fun k _ hx => lx_xs hx)⟩
  have h1 := h.lp g hg
  rcases hnext g hg2 with e | e
  · have := ha.lg g e; omega
  · have := h.lab g (by omega); omega
/-- The step that begins an operation. -/
theorem RaceAt.begins (h : RaceAt w L b R cv av ov tv pv rb abs) (hi : R.acts[i]? = some a) (hab : abs[i]? = some ab) (hn : a.got.length ≠ a.n) (hs : a.step = 0) (ha : ActAt w L b rb R.own i ab ob a nx gv) (wa : World) (hoa : Only w wa) :
    Calls Try.prog (opF i) #[.int .i64 a.got.length, .pointer (some ⟨rb, 0, none⟩), .pointer (some ⟨ob, 0, none⟩)] wa fun e wb => ∃ nx1, e = .returned nx1 ∧ Only wa wb ∧ ∃ f C, nx1 = .func (.func f) #[] C ∧ f ∈ stepFns ∧
      Calls Try.prog f C (wb.setCell ⟨ab, 2, none⟩ nx1) fun e w1 => ∃ nx', e = .returned nx' ∧ (nx' = .nilFunc ∨ ∃ g D, nx' = .func (.func g) #[] D) ∧ ∃ N' gv', Loc w1 (fixed b ab cv av ov tv pv a.n i rb ob nx1) N' gv' ∧ w1.ownsRow 0 3 1 pv R.past.length (ints R.past) ∧ Off pv gv' ∧ Off pv cv ∧ StepQ w L b ab i R a gv wb w1 N' gv' nx' := by
  have han := h.ok.an i a hi
  have hgot : a.got.length < a.n := by omega
  refine (op_any L a (h.core.only hoa) (own_only hoa h.orow) (hoa.blk h.rbox) (hoa.blk ha.box) (fun h0 => ?_) ?_ hs).mono fun e wb hpost => ?_
  · subst h0
    obtain ⟨a0, p1, p2, _⟩ := h.ok.own
    rw [hi] at p1
    cases p1
    omega
  · obtain ⟨a0, p1, p2, _⟩ := h.ok.own
    have := h.ok.an 0 a0 p1
    omega
  obtain ⟨nx1, he, hnow, hob⟩ := hpost
  have howb : Only w wb := Only.trans' hoa hob
  let L1 : Nat → Nat := fun k => if k < wb.heap.size then lay L wa.heap.size i k else 0
  have e1 : ∀ k, k < w.heap.size → L1 k = L k := fun k hk => by
    have s1 := hoa.size
    have s2 := howb.size
    show (if k < wb.heap.size then lay L wa.heap.size i k else 0) = _
    rw [if_pos (by omega)]
    unfold lay
    rw [if_neg (by omega)]
  have e2 : ∀ k, L1 k ≠ 0 → k < wb.heap.size := fun k hk => by
    have hk' : (if k < wb.heap.size then lay L wa.heap.size i k else 0) ≠ 0 := hk
    split at hk'
    · assumption
    · exact absurd rfl hk'
  have hnow1 : NowAt wb L1 b R.own i ab a nx1 := hnow.label (fun k hk _ => by
    show (if k < wb.heap.size then lay L wa.heap.size i k else 0) = _
    rw [if_pos hk])
  have hloc := h.loc hi ha
  have hlocb := hloc.only howb
  have lab1 : L1 ab = 16 * i + 16 := (e1 ab (h.lab ab (by rw [ha.la]; omega))).trans ha.la
  have hput : Stay (fun k => k = ab) wb (wb.setCell ⟨ab, 2, none⟩ nx1) := Stay.put (S := fun k => k = ab) (Stay.refl _ wb) (b := ab) rfl 2 nx1
  have hnow2 : NowAt (wb.setCell ⟨ab, 2, none⟩ nx1) L1 b R.own i ab a nx1 := hnow1.stay hput (fun k hk => by subst hk; omega)
  have hlocc : Loc (wb.setCell ⟨ab, 2, none⟩ nx1) (fixed b ab cv av ov tv pv a.n i rb ob nx1) (nums R a) gv :=
    ⟨⟨hlocb.core.blk.set_other (fun e => hlocb.nab e.symm) _, own_set hlocb.core.row _ hlocb.ca⟩, ⟨hlocb.ac.blk.set 2 nx1, own_set hlocb.ac.row _ hlocb.ga⟩, hlocb.off, hlocb.r1, hlocb.r16, hlocb.cl, hlocb.tb, hlocb.bb, hlocb.gl⟩
  have hlabs : Labs L1 (fixed b ab cv av ov tv pv a.n i rb ob nx1) i gv := ⟨(e1 b (h.lab b (by rw [h.lb]; omega))).trans h.lb, fun g hg => (e1 g (h.lab g (by rw [h.lc g hg]; omega))).trans (h.lc g hg), lab1, fun g hg => (e1 g (h.lab g (by rw [ha.lg g hg]; omega))).trans (ha.lg g hg)⟩
  obtain ⟨f, cs, hnx, hfs, hc⟩ := NowAt.now hlocc hlabs (h.ok.due hi) hnow2
  refine ⟨nx1, he, hob, f, _, hnx, hfs, hc.mono fun e w1 hpost => ?_⟩
  obtain ⟨nx', he', gv', hl, hpd, hnext, hst⟩ := hpost
  have hsz : (wb.setCell ⟨ab, 2, none⟩ nx1).heap.size = wb.heap.size := by simp
  have hst1 := hst.size
  rw [hsz] at hst1
  have hall : Stay (XS i L) w w1 := ((howb.mono (fun _ _ h => h.elim)).put (S := XS i L) (b := ab) (.inr (.inr (.inr ⟨by have := ha.la; omega, by have := ha.la; omega, by have := ha.la; omega⟩))) 2 nx1).trans hst (fun k hk hx => by
    have := e1 k hk
    unfold LX at hx
    unfold XS
    omega)
  have hnext' : Next wb gv gv' := fun g hg => by
    rcases hnext g hg with e | e
    · exact .inl e
    · rw [hsz] at e; exact .inr e
  refine ⟨nx', he', hpd.form, _, gv', hl, ?_, fun g hg hg2 => ?_, fun g hg hg2 => by have := h.lp g hg; have := h.lc g hg2; omega, L1, e1, e2, howb.size, hst1, rfl, hpd, hnext', fun g hg => (own_lt hl.ac.row g hg).2, hall⟩
  · exact own_stay hst (own_set (own_only howb h.prow) _ (fun g hg (e : g = ab) => by have := h.lp g hg; have := ha.la; subst e; omega)) (fun g hg hx => by
      have h5 := h.lp g hg
      have := e1 g (h.lab g (by omega))
      unfold LX at hx
      omega)
  · have h1 := h.lp g hg
    rcases hnext' g hg2 with e | e
    · have := ha.lg g e; omega
    · have := h.lab g (by omega)
      have := howb.size
      omega
end
theorem step_any {w : World} {L : Nat → Nat} {b : Nat} {R : Rc} (h : RaceOk w L b R) (i : Int) :
    Calls Try.prog 22 #[.pointer (some ⟨b, 0, none⟩), .int .i64 i] w fun e w' => e = .returned (.bool (R.step i).2) ∧ ∃ L', RaceOk w' L' b (R.step i).1 ∧ (∀ k, k < w.heap.size → L' k = L k) ∧ Stay (fun k => L k ≠ 0) w w' := by
  obtain ⟨cv, av, ov, tv, pv, rb, abs, h⟩ := h
  have hno : ∀ {e : Ending} {w' : World}, e = .returned (.bool false) ∧ Only w w' → e = .returned (.bool (R, false).2) ∧ ∃ L', RaceOk w' L' b (R, false).1 ∧ (∀ k, k < w.heap.size → L' k = L k) ∧ Stay (fun k => L k ≠ 0) w w' := fun ⟨h1, h2⟩ => ⟨h1, L, ⟨cv, av, ov, tv, pv, rb, abs, h.only h2⟩, fun _ _ => rfl, h2.mono (fun _ _ h => h.elim)⟩
  unfold Rc.step
  by_cases h0 : i < 0
  · rw [if_pos h0]
    exact (step_low b i h0).mono fun e w' hp => hno hp
  rw [if_neg h0]
  obtain ⟨n, rfl⟩ : ∃ n : Nat, i = n := ⟨i.toNat, by omega⟩
  simp only [Int.toNat_natCast]
  cases hi : R.acts[n]? with
  | none =>
    have := List.getElem?_eq_none_iff.1 hi
    have := h.len
    exact (step_high h.core h.arow n h0 (by omega)).mono fun e w' hp => hno hp
  | some a =>
    have hlt := (List.getElem?_eq_some_iff.1 hi).1
    obtain ⟨ab, hab⟩ : ∃ ab, abs[n]? = some ab := ⟨_, List.getElem?_eq_getElem (by rw [h.len]; exact hlt)⟩
    obtain ⟨ob, nx, gv, ha⟩ := h.acts n ab a hab hi
    have hnil : a.step = 0 → nx = .nilFunc := fun hs => by
      have hp := ha.pend
      unfold PendAt at hp
      rwa [if_pos hs] at hp
    by_cases hn : a.got.length = a.n
    · simp only [if_pos hn]
      have hs : a.step = 0 := by
        by_cases hs : a.step = 0
        · exact hs
        · have := (h.ok.an n a hi).2.2.2 hs
          omega
      exact (step_done (F := fixed b ab cv av ov tv pv a.n n rb ob nx) (h.loc hi ha) (h.rows hab nx a.n) (hnil hs) hn).mono fun e w' hp => hno hp
    · simp only [if_neg hn]
      by_cases hs : a.step = 0
      · have hb := h.begins hi hab hn hs ha
        have han := h.ok.an n a hi
        by_cases hz : n = 0
        · have eo : opF n = 57 := by unfold opF; rw [if_pos hz]
          rw [eo] at hb
          exact (step_new1 (F := fixed b ab cv av ov tv pv a.n n rb ob nx) (Q := fun wb nx1 w1 N' gv' nx' => StepQ w L b ab n R a gv wb w1 N' gv' nx') (h.loc hi ha) (h.rows hab nx a.n) (hnil hs) (show a.got.length < a.n by omega) (by show Value.func (.func (opF n)) _ _ = _; rw [eo]) hb).mono fun e w' ⟨wb, nx1, w1, nx', N', gv', hq, ht⟩ => h.fin hi hab hn ha hq ht
        · have eo : opF n = 60 := by unfold opF; rw [if_neg hz]
          rw [eo] at hb
          exact (step_new2 (F := fixed b ab cv av ov tv pv a.n n rb ob nx) (Q := fun wb nx1 w1 N' gv' nx' => StepQ w L b ab n R a gv wb w1 N' gv' nx') (h.loc hi ha) (h.rows hab nx a.n) (hnil hs) (show a.got.length < a.n by omega) (by show Value.func (.func (opF n)) _ _ = _; rw [eo]) hb).mono fun e w' ⟨wb, nx1, w1, nx', N', gv', hq, ht⟩ => h.fin hi hab hn ha hq ht
      · exact h.inside hi hab hn hs ha
end Go.Proofs.Ytfohaijdhgcneaa
