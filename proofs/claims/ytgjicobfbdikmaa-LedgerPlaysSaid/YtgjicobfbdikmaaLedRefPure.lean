/- The reference's ledger, in plain lists. -/
import Derived.Test.YtgjicobfbdikmaaLedLaws
import Derived.Test.YtgjicobfbdikmaaLedEnd
set_option linter.unusedVariables false
set_option linter.unusedSimpArgs false
namespace Go.Proofs.Ytgjicobfbdikmaa
open Go Go.RowKit

structure RL where
  es : List Ent
  lkd : List Bool
  time : Int
def RL.acq (R : RL) (t x : Int) : RL × Int :=
  if Bad t x then (R, 2) else if 40 ≤ (opn t 0 R.es).length ∨ 400 ≤ R.es.length then (R, 5) else
  (⟨R.es ++ [⟨x, t, R.time + 1, 0⟩], R.lkd ++ [false], R.time + 1⟩, 0)
def RL.rel (R : RL) (k : Int) (b : Bool) : RL := ⟨shut R.es k (R.time + 1), R.lkd.set k.toNat b, R.time + 1⟩
def RL.release (R : RL) (t x : Int) : RL × Int :=
  if Bad t x then (R, 2) else
  match seek (fun k => whatAt R.es k == x) (opn t 0 R.es) (opn t 0 R.es).length with
  | none => (R, 6)
  | some i => (R.rel ((opn t 0 R.es).getD i 0) false, 0)
/-- The last n of the positions leak, the last one first. -/
def RL.ends (R : RL) (p : List Int) : Nat → RL
  | 0 => R
  | n + 1 => (RL.ends R p n).rel (p.getD (p.length - 1 - n) 0) true
def RL.fin (R : RL) (t : Int) : RL × List Int × Int :=
  if Bad t 0 then (R, [], 2) else (R.ends (opn t 0 R.es) (opn t 0 R.es).length, ((opn t 0 R.es).map (whatAt R.es)).reverse, 0)
/-- Of one ledger. -/
structure Ref (L : Lg) (R : RL) : Prop where
  es : R.es = L.es
  time : R.time = L.time
  len : R.lkd.length = L.es.length
  lk : ∀ i : Nat, R.lkd[i]? = some true ↔ (i : Int) ∈ L.lk

theorem Ref.new : Ref Lg.new ⟨[], [], 0⟩ := ⟨rfl, rfl, rfl, by simp [Lg.new]⟩
theorem Ref.opnE {L : Lg} {R : RL} (h : Ref L R) (hI : L.Inv) (t : Int) : opn t 0 R.es = L.stk t := by rw [h.es, hI.st]
theorem Ref.acq {L : Lg} {R : RL} (h : Ref L R) (hI : L.Inv) (t x : Int) : (R.acq t x).2 = (L.acquire t x).2 ∧ Ref (L.acquire t x).1 (R.acq t x).1 := by
  unfold RL.acq Lg.acquire
  rw [h.opnE hI, h.es, h.time]
  split
  · exact ⟨rfl, h⟩
  split
  · exact ⟨rfl, h⟩
  · refine ⟨rfl, rfl, rfl, by simp [h.len], fun i => ?_⟩
    simp only
    rw [← h.lk]
    by_cases hi : i < R.lkd.length
    · rw [List.getElem?_append_left hi]
    · rw [List.getElem?_append_right (by omega), List.getElem?_eq_none (l := R.lkd) (by omega)]
      cases hk : i - R.lkd.length with
      | zero => simp
      | succ k => simp
theorem Ref.cut {L : Lg} {R : RL} (h : Ref L R) (hI : L.Inv) {t : Int} {i : Nat} (hi : i < (L.stk t).length) (b : Bool) :
    (R.rel ((L.stk t).getD i 0) b).es = (L.cut t i).es ∧ (R.rel ((L.stk t).getD i 0) b).time = (L.cut t i).time ∧ (R.rel ((L.stk t).getD i 0) b).lkd.length = (L.cut t i).es.length ∧
    ∀ j : Nat, (R.rel ((L.stk t).getD i 0) b).lkd[j]? = some true ↔ (j : Int) ∈ L.lk ∨ (b = true ∧ (j : Int) = (L.stk t).getD i 0) := by
  obtain ⟨k, e, g1, g2, g3, g4, g5⟩ := hI.at hi
  have hk := (List.getElem?_eq_some_iff.1 g3).1
  have hnl : (k : Int) ∉ L.lk := fun hm => by
    obtain ⟨_, x1, hx1, h0⟩ := hI.lke _ hm
    rw [Int.toNat_natCast, g3] at hx1
    cases hx1
    exact h0 g5
  rw [g2]
  refine ⟨by simp only [RL.rel, Lg.cut, g2, h.es, h.time], by simp only [RL.rel, Lg.cut, h.time], by simp [RL.rel, Lg.cut, shut_length, h.len], fun j => ?_⟩
  simp only [RL.rel, Int.toNat_natCast]
  rw [List.getElem?_set]
  by_cases hj : k = j
  · subst hj
    rw [if_pos rfl, if_pos (by rw [h.len]; exact hk)]
    cases b
    · simp [hnl]
    · simp
  · rw [if_neg hj, h.lk]
    constructor
    · exact .inl
    · rintro (h | ⟨_, h⟩)
      · exact h
      · omega
theorem Ref.release {L : Lg} {R : RL} (h : Ref L R) (hI : L.Inv) (t x : Int) : (R.release t x).2 = (L.release t x).2 ∧ Ref (L.release t x).1 (R.release t x).1 := by
  unfold RL.release Lg.release
  rw [h.opnE hI, h.es]
  split
  · exact ⟨rfl, h⟩
  split
  · rename_i hs
    rw [hs]
    exact ⟨rfl, h⟩
  · rename_i i hs
    rw [hs]
    obtain ⟨a, b, c, d⟩ := h.cut hI (seek_spec hs).1 false
    exact ⟨rfl, a, b, c, fun j => (d j).trans (by simp [Lg.cut])⟩
theorem Ref.leak {L : Lg} {R : RL} (h : Ref L R) (hI : L.Inv) (t : Int) (hp : 0 < (L.stk t).length) : Ref (L.leak t) (R.rel ((L.stk t).getD ((L.stk t).length - 1) 0) true) := by
  obtain ⟨a, b, c, d⟩ := h.cut hI (show (L.stk t).length - 1 < (L.stk t).length by omega) true
  exact ⟨a, b, c, fun j => by rw [d]; simp [Lg.leak]⟩
theorem Ref.ends {L : Lg} {R : RL} (h : Ref L R) (hI : L.Inv) (t : Int) : ∀ n : Nat, n ≤ (L.stk t).length → Ref (Lg.leaks n L t) (R.ends (L.stk t) n)
  | 0, _ => h
  | n + 1, hn => by
    have ih := Ref.ends h hI t n (by omega)
    have hIn := Lg.Inv.leaks n hI (t := t) (by omega)
    have hs := leaks_stk L t n (by omega)
    rw [leaks_succ]
    have hln : ((Lg.leaks n L t).stk t).length = (L.stk t).length - n := by rw [hs, List.length_take]; omega
    have e : ((Lg.leaks n L t).stk t).getD (((Lg.leaks n L t).stk t).length - 1) 0 = (L.stk t).getD ((L.stk t).length - 1 - n) 0 := by
      rw [hln, hs, List.getD_eq_getElem?_getD, List.getD_eq_getElem?_getD, List.getElem?_take, if_pos (by omega)]
      congr 2
      omega
    have := ih.leak hIn t (by omega)
    rw [e] at this
    exact this
theorem Ref.fin {L : Lg} {R : RL} (h : Ref L R) (hI : L.Inv) (t : Int) : (R.fin t).2 = (L.fin t).2 ∧ Ref (L.fin t).1 (R.fin t).1 := by
  unfold RL.fin Lg.fin
  rw [h.opnE hI]
  split
  · exact ⟨rfl, h⟩
  · refine ⟨?_, h.ends hI t _ (Nat.le_refl _)⟩
    simp only
    rw [h.es]
    rfl
theorem Ref.held {L : Lg} {R : RL} (h : Ref L R) (hI : L.Inv) (t : Int) : (opn t 0 R.es).map (whatAt R.es) = L.held t := by rw [h.opnE hI, h.es]; rfl

/-- What is crossed, by the entries. -/
def crsB (es : List Ent) (k : Nat) : Bool := match es[k]? with
  | none => false
  | some x => (es.drop (k + 1)).any fun y => decide (y.task = x.task ∧ 0 < x.to ∧ y.fr < x.to ∧ (y.to = 0 ∨ x.to < y.to))
theorem crsB_iff (es : List Ent) (k : Nat) : crsB es k = true ↔ Crs es k := by
  unfold crsB Crs
  cases hx : es[k]? with
  | none => simp
  | some x =>
    simp only [List.any_eq_true, decide_eq_true_eq]
    constructor
    · rintro ⟨y, hy, a, b, c, d⟩
      obtain ⟨q, hq⟩ := List.getElem?_of_mem hy
      rw [List.getElem?_drop] at hq
      exact ⟨x, rfl, b, k + 1 + q, y, by omega, hq, a, c, d⟩
    · rintro ⟨x', e, b, j, y, hkj, hy, a, c, d⟩
      cases e
      refine ⟨y, List.mem_of_getElem? (i := j - (k + 1)) ?_, a, b, c, d⟩
      rw [List.getElem?_drop, show k + 1 + (j - (k + 1)) = j by omega]
      exact hy
def crsL (es : List Ent) (n : Nat) : List Int := ((List.range n).filter (crsB es)).map fun i : Nat => (i : Int)
theorem crsL_succ (es : List Ent) (n : Nat) : crsL es (n + 1) = crsL es n ++ (if crsB es n = true then [(n : Int)] else []) := by
  unfold crsL
  rw [List.range_succ, List.filter_append, List.map_append]
  congr 1
  simp only [List.filter_cons, List.filter_nil]
  split <;> rfl
theorem filt_sorted (p : Nat → Bool) (n : Nat) : (((List.range n).filter p).map fun i : Nat => (i : Int)).Pairwise (fun a b => a < b) := by
  rw [List.pairwise_map]
  exact (List.pairwise_lt_range.filter p).imp (fun h => by omega)
theorem perm_of_mem {l s : List Int} (h1 : l.Nodup) (h2 : s.Nodup) (h : ∀ x, x ∈ l ↔ x ∈ s) : l.Perm s := by
  rw [List.perm_iff_count]
  intro a
  have hc : ∀ {u : List Int}, u.Nodup → u.count a = if a ∈ u then 1 else 0 := fun {u} hu => by
    split
    · rename_i hm
      have h1 := List.one_le_count_iff.2 hm
      have h2 := List.nodup_iff_count.1 hu a
      omega
    · rename_i hm
      exact List.count_eq_zero_of_not_mem hm
  rw [hc h1, hc h2]
  by_cases hm : a ∈ l
  · rw [if_pos hm, if_pos ((h a).1 hm)]
  · rw [if_neg hm, if_neg (fun hs => hm ((h a).2 hs))]
theorem Lg.Inv.srt_cr {L : Lg} (h : L.Inv) : srt L.cr = crsL L.es L.es.length := by
  have hs := filt_sorted (crsB L.es) L.es.length
  refine srt_eq (perm_of_mem h.crn (hs.imp (fun h => by omega)) fun x => ?_) (hs.imp (fun h => by omega))
  rw [h.cr]
  unfold crsL
  simp only [List.mem_map, List.mem_filter, List.mem_range, crsB_iff]
  constructor
  · rintro ⟨h0, hc⟩
    refine ⟨x.toNat, ⟨?_, hc⟩, by omega⟩
    obtain ⟨e, he, _⟩ := hc
    exact (List.getElem?_eq_some_iff.1 he).1
  · rintro ⟨i, ⟨hi, hc⟩, rfl⟩
    exact ⟨by omega, by rw [Int.toNat_natCast]; exact hc⟩
def lkL (l : List Bool) (n : Nat) : List Int := ((List.range n).filter fun i => l[i]? == some true).map fun i : Nat => (i : Int)
theorem lkL_succ (l : List Bool) (n : Nat) : lkL l (n + 1) = lkL l n ++ (if l[n]? = some true then [(n : Int)] else []) := by
  unfold lkL
  rw [List.range_succ, List.filter_append, List.map_append]
  congr 1
  simp only [List.filter_cons, List.filter_nil, beq_iff_eq]
  split <;> rfl
theorem Ref.srt_lk {L : Lg} {R : RL} (h : Ref L R) (hI : L.Inv) : srt L.lk = lkL R.lkd R.lkd.length := by
  have hs := filt_sorted (fun i => R.lkd[i]? == some true) R.lkd.length
  refine srt_eq (perm_of_mem hI.lkn (hs.imp (fun h => by omega)) fun x => ?_) (hs.imp (fun h => by omega))
  unfold lkL
  simp only [List.mem_map, List.mem_filter, List.mem_range, beq_iff_eq]
  constructor
  · intro hx
    have h0 := hI.ok.li x hx
    refine ⟨x.toNat, ⟨by rw [h.len]; omega, (h.lk _).2 ?_⟩, by omega⟩
    rw [show ((x.toNat : Nat) : Int) = x by omega]
    exact hx
  · rintro ⟨i, ⟨hi, hc⟩, rfl⟩
    exact (h.lk i).1 hc
/-- Nothing is open. -/
def allShut (es : List Ent) : Bool := es.all fun e => e.to != 0
theorem Lg.Inv.sound {L : Lg} (h : L.Inv) : L.cr = [] ∧ L.lk = [] ∧ (∀ t, L.stk t = []) ↔ allShut L.es = true ∧ srt L.cr = [] ∧ srt L.lk = [] := by
  have h1 : ∀ l : List Int, srt l = [] ↔ l = [] := fun l => ⟨fun e => List.eq_nil_of_length_eq_zero (by rw [← srt_length, e]; rfl), fun e => by rw [e]; simp [srt]⟩
  rw [h1, h1]
  have h2 : (∀ t, L.stk t = []) ↔ allShut L.es = true := by
    unfold allShut
    rw [List.all_eq_true]
    constructor
    · intro hs e he
      obtain ⟨i, hi⟩ := List.getElem?_of_mem he
      by_cases h0 : e.to = 0
      · have := hs e.task
        rw [h.st] at this
        have hm := (opn_mem e.task L.es 0 ((0 + i : Nat) : Int)).2 ⟨i, e, rfl, hi, rfl, h0⟩
        rw [this] at hm
        simp at hm
      · simp [h0]
    · intro hs t
      rw [h.st]
      refine List.eq_nil_iff_forall_not_mem.2 fun k hk => ?_
      obtain ⟨j, e, _, he, _, h0⟩ := (opn_mem t L.es 0 k).1 hk
      have := hs e (List.mem_of_getElem? he)
      simp [h0] at this
  rw [h2]
  constructor
  · rintro ⟨a, b, c⟩; exact ⟨c, a, b⟩
  · rintro ⟨c, a, b⟩; exact ⟨a, b, c⟩

end Go.Proofs.Ytgjicobfbdikmaa
