/- A clock as its callers see it: its time, how many timers were made, and those that are armed. No program in sight. -/
import Derived.Test.YtbkbcpnpbfnmgaaDoorClockPure
set_option linter.unusedVariables false
set_option linter.unusedSimpArgs false
namespace Go.Proofs.YtbkbcpnpbfnmgaaDoor
open Go

/-! ### The order of timers -/
def tle (a b : Tm) : Bool := decide (a.due < b.due ∨ a.due = b.due ∧ a.id ≤ b.id)
theorem tle_iff {a b : Tm} : tle a b = true ↔ (a.due < b.due ∨ a.due = b.due ∧ a.id ≤ b.id) := by simp [tle]
theorem tle_trans (a b c : Tm) (h : tle a b = true) (k : tle b c = true) : tle a c = true := by
  rw [tle_iff] at *
  omega
theorem tle_total (a b : Tm) : (tle a b || tle b a) = true := by
  rw [Bool.or_eq_true, tle_iff, tle_iff]
  omega
theorem tle_anti {a b : Tm} (h : tle a b = true) (k : tle b a = true) : a = b := by
  rw [tle_iff] at *
  obtain ⟨i, d⟩ := a
  obtain ⟨j, e⟩ := b
  simp only at h k
  have e1 : i = j := by omega
  have e2 : d = e := by omega
  rw [e1, e2]
def tsort (l : List Tm) : List Tm := l.mergeSort tle
theorem tsort_perm (l : List Tm) : (tsort l).Perm l := List.mergeSort_perm l tle
theorem tsort_sorted (l : List Tm) : (tsort l).Pairwise (fun a b => tle a b = true) := List.pairwise_mergeSort tle_trans tle_total l
theorem sorted_one {l m : List Tm} (hl : l.Pairwise (fun a b => tle a b = true)) (hm : m.Pairwise (fun a b => tle a b = true)) (h : l.Perm m) : l = m :=
  h.eq_of_pairwise (fun a b _ _ h k => tle_anti h k) hl hm
theorem tsort_eq {l m : List Tm} (hm : m.Pairwise (fun a b => tle a b = true)) (h : l.Perm m) : tsort l = m :=
  sorted_one (tsort_sorted l) hm ((tsort_perm l).trans h)
theorem tsort_congr {l m : List Tm} (h : l.Perm m) : tsort l = tsort m := tsort_eq (tsort_sorted m) (h.trans (tsort_perm m).symm)
theorem tsort_mem {l : List Tm} {t : Tm} : t ∈ tsort l ↔ t ∈ l := (tsort_perm l).mem_iff
theorem tsort_length (l : List Tm) : (tsort l).length = l.length := (tsort_perm l).length_eq
theorem tsort_filter (l : List Tm) (p : Tm → Bool) : (tsort l).filter p = tsort (l.filter p) :=
  (tsort_eq ((tsort_sorted l).sublist List.filter_sublist) ((tsort_perm l).symm.filter p)).symm
theorem tsort_nil : tsort [] = [] := tsort_eq List.Pairwise.nil (List.Perm.refl _)
theorem tsort_eq_nil {l : List Tm} : tsort l = [] ↔ l = [] := by
  constructor
  · intro h
    have := tsort_length l
    rw [h] at this
    exact List.eq_nil_of_length_eq_zero this.symm
  · rintro rfl
    exact tsort_nil
/-- The first ones, then the others. -/
theorem tsort_split {l : List Tm} (p : Tm → Bool) (h : ∀ a ∈ l, ∀ b ∈ l, p a = true → p b = false → a.due < b.due) : tsort l = tsort (l.filter p) ++ tsort (l.filter fun t => !p t) := by
  refine tsort_eq (List.pairwise_append.2 ⟨tsort_sorted _, tsort_sorted _, fun a ha b hb => ?_⟩) ?_
  · rw [tsort_mem, List.mem_filter] at ha hb
    rw [tle_iff]
    exact .inl (h a ha.1 b hb.1 ha.2 (by simpa using hb.2))
  · exact (List.filter_append_perm p l).symm.trans ((tsort_perm _).symm.append (tsort_perm _).symm)

/-! ### A clock -/
structure Ck where
  now : Nat
  made : Nat
  ts : List Tm
def maxT : Nat := 1000000000000
structure Ck.Ok (C : Ck) : Prop where
  now : C.now ≤ maxT
  asc : C.ts.Pairwise (fun a b => a.id < b.id)
  idr : ∀ t ∈ C.ts, 1 ≤ t.id ∧ t.id ≤ C.made
  due : ∀ t ∈ C.ts, C.now ≤ t.due ∧ t.due ≤ maxT
  len : C.ts.length ≤ 400
  few : C.made ≤ maxT
def Ck.new : Ck := ⟨0, 0, []⟩
def Ck.all (C : Ck) : List Tm := tsort C.ts
def Ck.next (C : Ck) : Option Nat := C.all.head?.map (·.due)
def Tm.z (t : Tm) : Int := t.id
def Ck.dues (C : Ck) (to : Nat) : List Int := (C.all.filter fun t => decide (t.due ≤ to)).map Tm.z
def Ck.adv (C : Ck) (to : Nat) : Ck := ⟨to, C.made, C.ts.filter fun t => !decide (t.due ≤ to)⟩
def Ck.arm (C : Ck) (d : Nat) : Ck := ⟨C.now, C.made + 1, C.ts ++ [⟨C.made + 1, d⟩]⟩
def Ck.disarm (C : Ck) (i : Nat) : Ck := ⟨C.now, C.made, C.ts.filter fun t => decide (t.id ≠ i)⟩
def Ck.has (C : Ck) (i : Nat) : Prop := ∃ t ∈ C.ts, t.id = i
theorem Ck.new_ok : Ck.new.Ok := ⟨by simp [Ck.new, maxT], List.Pairwise.nil, by simp [Ck.new], by simp [Ck.new], by simp [Ck.new], by simp [Ck.new]⟩
theorem Ck.Ok.arm {C : Ck} (h : C.Ok) {d : Nat} (h1 : C.now ≤ d) (h2 : d ≤ maxT) (h3 : C.ts.length < 400) (h4 : C.made < maxT) : (C.arm d).Ok := by
  refine ⟨h.now, List.pairwise_append.2 ⟨h.asc, by simp, fun a ha b hb => ?_⟩, fun t ht => ?_, fun t ht => ?_, by simp [Ck.arm]; omega, h4⟩
  · obtain rfl := List.mem_singleton.1 hb
    have := h.idr a ha
    simp only
    omega
  · rcases List.mem_append.1 ht with ht | ht
    · have := h.idr t ht
      simp only [Ck.arm]
      omega
    · obtain rfl := List.mem_singleton.1 ht
      simp [Ck.arm]
  · rcases List.mem_append.1 ht with ht | ht
    · exact h.due t ht
    · obtain rfl := List.mem_singleton.1 ht
      exact ⟨h1, h2⟩
theorem Ck.Ok.disarm {C : Ck} (h : C.Ok) (i : Nat) : (C.disarm i).Ok :=
  ⟨h.now, h.asc.sublist List.filter_sublist, fun t ht => h.idr t (List.mem_filter.1 ht).1, fun t ht => h.due t (List.mem_filter.1 ht).1, Nat.le_trans (List.length_filter_le _ _) h.len, h.few⟩
theorem Ck.Ok.adv {C : Ck} (h : C.Ok) {to : Nat} (h1 : C.now ≤ to) (h2 : to ≤ maxT) : (C.adv to).Ok :=
  ⟨h2, h.asc.sublist List.filter_sublist, fun t ht => h.idr t (List.mem_filter.1 ht).1, fun t ht => ⟨by
    have := (List.mem_filter.1 ht).2
    simp at this
    show to ≤ t.due
    omega, (h.due t (List.mem_filter.1 ht).1).2⟩, Nat.le_trans (List.length_filter_le _ _) h.len, h.few⟩
theorem Ck.Ok.nodup {C : Ck} (h : C.Ok) : (C.ts.map (·.id)).Nodup := by
  rw [List.Nodup, List.pairwise_map]
  exact h.asc.imp (fun h => by omega)
theorem Ck.Ok.one {C : Ck} (h : C.Ok) {t u : Tm} (ht : t ∈ C.ts) (hu : u ∈ C.ts) (e : t.id = u.id) : t = u := by
  obtain ⟨i, hi⟩ := List.getElem?_of_mem ht
  obtain ⟨j, hj⟩ := List.getElem?_of_mem hu
  obtain ⟨hi1, hi2⟩ := List.getElem?_eq_some_iff.1 hi
  obtain ⟨hj1, hj2⟩ := List.getElem?_eq_some_iff.1 hj
  have key := List.pairwise_iff_getElem.1 h.asc
  rcases Nat.lt_trichotomy i j with h1 | h1 | h1
  · have := key i j hi1 hj1 h1
    rw [hi2, hj2] at this
    omega
  · subst h1
    rw [hi] at hj
    exact Option.some.inj hj
  · have := key j i hj1 hi1 h1
    rw [hi2, hj2] at this
    omega
theorem Ck.next_none {C : Ck} : C.next = none ↔ C.ts = [] := by
  unfold Ck.next Ck.all
  rw [Option.map_eq_none_iff, List.head?_eq_none_iff, tsort_eq_nil]
theorem Ck.next_some {C : Ck} {t : Nat} : C.next = some t ↔ ∃ x ∈ C.ts, x.due = t ∧ ∀ y ∈ C.ts, t ≤ y.due := by
  unfold Ck.next Ck.all
  have hs := tsort_sorted C.ts
  have hm : ∀ x, x ∈ tsort C.ts ↔ x ∈ C.ts := fun x => tsort_mem
  cases h : tsort C.ts with
  | nil =>
    rw [h] at hm
    simp only [List.head?_nil, Option.map_none]
    constructor
    · intro e; cases e
    · rintro ⟨x, hx, _⟩
      exact absurd ((hm x).2 hx) (by simp)
  | cons a l =>
    rw [h] at hs hm
    rw [List.pairwise_cons] at hs
    have ha := (hm a).1 (List.mem_cons_self ..)
    have hle : ∀ y ∈ C.ts, a.due ≤ y.due := fun y hy => by
      rcases List.mem_cons.1 ((hm y).2 hy) with rfl | h1
      · exact Nat.le_refl _
      · have := tle_iff.1 (hs.1 y h1)
        omega
    simp only [List.head?_cons, Option.map_some, Option.some.injEq]
    constructor
    · rintro rfl
      exact ⟨a, ha, rfl, hle⟩
    · rintro ⟨x, hx, rfl, hy⟩
      exact Nat.le_antisymm (hle x hx) (hy a ha)
/-- A round of Advance: those at the next time. -/
def Ck.at' (C : Ck) (t : Nat) : List Tm := C.ts.filter fun x => decide (x.due = t)
theorem Ck.adv_adv {C : Ck} {a b : Nat} (h : a ≤ b) : (C.adv a).adv b = C.adv b := by
  unfold Ck.adv
  simp only [List.filter_filter, Ck.mk.injEq, true_and]
  refine List.filter_congr fun t _ => ?_
  by_cases h1 : t.due ≤ b
  · simp [h1]
  · have : ¬ t.due ≤ a := by omega
    simp [h1, this]
theorem Ck.dues_dues {C : Ck} {a b : Nat} (h : a ≤ b) : C.dues a ++ (C.adv a).dues b = C.dues b := by
  unfold Ck.dues Ck.all Ck.adv
  rw [← List.map_append]
  congr 1
  rw [tsort_filter, tsort_filter, tsort_filter, List.filter_filter]
  have e := tsort_split (l := C.ts.filter fun t => decide (t.due ≤ b)) (fun t => decide (t.due ≤ a)) (fun x _ y _ hx hy => by simp at hx hy; omega)
  rw [e, List.filter_filter, List.filter_filter]
  congr 2
  · refine List.filter_congr fun t _ => ?_
    by_cases h1 : t.due ≤ a
    · have : t.due ≤ b := by omega
      simp [h1, this]
    · simp [h1]
  · refine List.filter_congr fun t _ => ?_
    rw [Bool.and_comm]
/-- When nothing is due. -/
theorem Ck.adv_none {C : Ck} {to : Nat} (h : ∀ t ∈ C.ts, to < t.due) : C.dues to = [] ∧ C.adv to = ⟨to, C.made, C.ts⟩ := by
  constructor
  · unfold Ck.dues Ck.all
    rw [tsort_filter, List.filter_eq_nil_iff.2 (fun t ht => by have := h t ht; simp; omega), tsort_nil]
    rfl
  · unfold Ck.adv
    rw [List.filter_eq_self.2 (fun t ht => by have := h t ht; simp; omega)]
/-- At the next time. -/
theorem Ck.adv_next {C : Ck} {t : Nat} (h : ∀ y ∈ C.ts, t ≤ y.due) : C.dues t = (tsort (C.at' t)).map Tm.z ∧ C.adv t = ⟨t, C.made, C.ts.filter fun x => !decide (x.due = t)⟩ := by
  constructor
  · unfold Ck.dues Ck.all Ck.at'
    rw [tsort_filter]
    congr 2
    refine List.filter_congr fun x hx => ?_
    have := h x hx
    by_cases e : x.due = t
    · simp [e]
    · have : ¬ x.due ≤ t := by omega
      simp [e, this]
  · unfold Ck.adv
    congr 1
    refine List.filter_congr fun x hx => ?_
    have := h x hx
    by_cases e : x.due = t
    · simp [e]
    · have : ¬ x.due ≤ t := by omega
      simp [e, this]
theorem ids_sorted {l : List Tm} {d : Nat} (h : ∀ t ∈ l, t.due = d) : ((tsort l).map Tm.z).Pairwise (· ≤ ·) := by
  rw [List.pairwise_map]
  refine (tsort_sorted l).imp_of_mem fun {a b} ha hb hab => ?_
  have h1 := h a (tsort_mem.1 ha)
  have h2 := h b (tsort_mem.1 hb)
  rw [tle_iff] at hab
  unfold Tm.z
  omega
end Go.Proofs.YtbkbcpnpbfnmgaaDoor
