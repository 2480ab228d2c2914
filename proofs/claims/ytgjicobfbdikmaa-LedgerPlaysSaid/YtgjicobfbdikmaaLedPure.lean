/- A ledger: plain lists, no program in sight. -/
import Derived.Test.YtgjicobfbdikmaaIMap
set_option linter.unusedVariables false
set_option linter.unusedSimpArgs false
namespace Go.Proofs.Ytgjicobfbdikmaa
open Go Go.RowKit

/-- An entry: a resource, its task, when it was acquired, when released (0: not yet). -/
structure Ent where
  what : Int
  task : Int
  fr : Int
  to : Int
deriving DecidableEq
/-- A ledger: entries, its time, what each task holds (positions), what was crossed, what leaked. -/
structure Lg where
  es : List Ent
  time : Int
  stk : Int → List Int
  cr : List Int
  lk : List Int

def fput (f : Int → List Int) (p : Int) (l : List Int) : Int → List Int := fun q => if q = p then l else f q
theorem fput_same (f : Int → List Int) (p : Int) (l : List Int) : fput f p l p = l := by simp [fput]
theorem fput_other (f : Int → List Int) {p q : Int} (l : List Int) (h : q ≠ p) : fput f p l q = f q := by simp [fput, h]
def Lg.new : Lg := ⟨[], 0, fun _ => [], [], []⟩
def Bad (task what : Int) : Prop := task < 1 ∨ 64 < task ∨ what < 0 ∨ 999 < what
instance (a b : Int) : Decidable (Bad a b) := inferInstanceAs (Decidable (_ ∨ _ ∨ _ ∨ _))
def Lg.acquire (L : Lg) (t x : Int) : Lg × Int :=
  if Bad t x then (L, 2) else if 40 ≤ (L.stk t).length ∨ 400 ≤ L.es.length then (L, 5) else
  ({ L with es := L.es ++ [⟨x, t, L.time + 1, 0⟩], time := L.time + 1, stk := fput L.stk t (L.stk t ++ [(L.es.length : Int)]) }, 0)
/-- An entry is ended. -/
def shut (es : List Ent) (k : Int) (tm : Int) : List Ent := es.modify k.toNat fun e => { e with to := tm }
/-- What a task holds at a place of its own is released. -/
def Lg.cut (L : Lg) (t : Int) (i : Nat) : Lg :=
  { L with es := shut L.es ((L.stk t).getD i 0) (L.time + 1), time := L.time + 1, stk := fput L.stk t ((L.stk t).eraseIdx i) }
def whatAt (es : List Ent) (k : Int) : Int := ((es[k.toNat]?).map (·.what)).getD 0
/-- The last place below n where p holds. -/
def seek (p : Int → Bool) (l : List Int) : Nat → Option Nat
  | 0 => none
  | n + 1 => if p (l.getD n 0) then some n else seek p l n
def Lg.release (L : Lg) (t x : Int) : Lg × Int :=
  if Bad t x then (L, 2) else
  match seek (fun k => whatAt L.es k == x) (L.stk t) (L.stk t).length with
  | none => (L, 6)
  | some i => ({ L.cut t i with cr := if i + 1 < (L.stk t).length then L.cr ++ [(L.stk t).getD i 0] else L.cr }, 0)
/-- The last thing that a task holds leaks. -/
def Lg.leak (L : Lg) (t : Int) : Lg := { L.cut t ((L.stk t).length - 1) with lk := L.lk ++ [(L.stk t).getD ((L.stk t).length - 1) 0] }
def Lg.leaks : Nat → Lg → Int → Lg
  | 0, L, _ => L
  | n + 1, L, t => Lg.leaks n (L.leak t) t
def Lg.held (L : Lg) (t : Int) : List Int := (L.stk t).map (whatAt L.es)
def Lg.fin (L : Lg) (t : Int) : Lg × List Int × Int :=
  if Bad t 0 then (L, [], 2) else (Lg.leaks (L.stk t).length L t, (L.held t).reverse, 0)

/-- What each ledger of the program keeps. -/
structure Lg.Ok (L : Lg) : Prop where
  n : L.es.length ≤ 400
  t0 : 0 ≤ L.time
  tm : L.time ≤ L.es.length + (L.es.filter fun e => e.to != 0).length
  hl : ∀ t, (L.stk t).length ≤ 40
  hin : ∀ t k, k ∈ L.stk t → 0 ≤ k ∧ k < L.es.length
  hop : ∀ t k e, k ∈ L.stk t → L.es[k.toNat]? = some e → e.to = 0 ∧ e.task = t
  hnd : ∀ t, (L.stk t).Nodup
  cl : (L.cr.length : Int) ≤ L.time
  ll : (L.lk.length : Int) ≤ L.time
  ci : ∀ k ∈ L.cr, 0 ≤ k ∧ k < L.es.length
  li : ∀ k ∈ L.lk, 0 ≤ k ∧ k < L.es.length

theorem Lg.Ok.time_le {L : Lg} (h : L.Ok) : L.time ≤ 800 := by
  have := h.tm
  have := h.n
  have := List.length_filter_le (fun e : Ent => e.to != 0) L.es
  omega
theorem Lg.new_ok : Lg.new.Ok := ⟨by simp [Lg.new], by simp [Lg.new], by simp [Lg.new], by simp [Lg.new], by simp [Lg.new], by simp [Lg.new], by simp [Lg.new], by simp [Lg.new], by simp [Lg.new], by simp [Lg.new], by simp [Lg.new]⟩
theorem Lg.Ok.acquire {L : Lg} (h : L.Ok) (t x : Int) : (L.acquire t x).1.Ok := by
  unfold Lg.acquire
  split
  · exact h
  split
  · exact h
  rename_i h1 h2
  have ht := h.t0
  refine ⟨by simp; omega, by simp; omega, ?_, ?_, ?_, ?_, ?_, by have := h.cl; simp; omega, by have := h.ll; simp; omega, ?_, ?_⟩
  · have := h.tm
    simp [List.filter_append]
    omega
  · intro q
    by_cases e : q = t
    · subst e; simp [fput_same]; omega
    · simp only [fput_other _ _ e]; exact h.hl q
  · intro q k hk
    simp only at hk
    by_cases e : q = t
    · subst e
      rw [fput_same] at hk
      rcases List.mem_append.1 hk with hk | hk
      · have := h.hin q k hk; simp; omega
      · simp at hk; subst hk; simp; omega
    · rw [fput_other _ _ e] at hk
      have := h.hin q k hk; simp; omega
  · intro q k e hk he
    simp only at hk
    have old : ∀ q', k ∈ L.stk q' → e.to = 0 ∧ e.task = q' := fun q' hk => by
      have h3 := h.hin q' k hk
      simp only at he
      rw [List.getElem?_append_left (by omega)] at he
      exact h.hop q' k e hk he
    by_cases e' : q = t
    · subst e'
      rw [fput_same] at hk
      rcases List.mem_append.1 hk with hk | hk
      · exact old q hk
      · simp at hk
        subst hk
        simp at he
        subst he
        exact ⟨rfl, rfl⟩
    · rw [fput_other _ _ e'] at hk
      exact old q hk
  · intro q
    by_cases e : q = t
    · subst e
      simp only [fput_same]
      refine List.nodup_append.2 ⟨h.hnd q, by simp, fun a ha b hb e => ?_⟩
      simp at hb
      subst hb
      have := h.hin q a ha
      omega
    · simp only [fput_other _ _ e]; exact h.hnd q
  · intro k hk; have := h.ci k hk; simp; omega
  · intro k hk; have := h.li k hk; simp; omega
theorem shut_length (es : List Ent) (k tm : Int) : (shut es k tm).length = es.length := by simp [shut]
theorem shut_get (es : List Ent) (k tm : Int) (j : Nat) : (shut es k tm)[j]? = if k.toNat = j then (es[j]?).map (fun e => { e with to := tm }) else es[j]? := by
  unfold shut
  rw [List.getElem?_modify]
  split
  · rfl
  · simp
theorem shut_filter : ∀ (es : List Ent) (k : Nat) (tm : Int) (e : Ent), es[k]? = some e → e.to = 0 → tm ≠ 0 → ((es.modify k fun e => { e with to := tm }).filter fun e => e.to != 0).length = (es.filter fun e => e.to != 0).length + 1
  | [], _, _, _, h, _, _ => by simp at h
  | a :: es, 0, tm, e, h, h0, hn => by
    simp at h
    subst h
    simp [h0, hn]
  | a :: es, k + 1, tm, e, h, h0, hn => by
    simp at h
    have ih := shut_filter es k tm e h h0 hn
    simp only [List.modify_succ_cons, List.filter_cons]
    split
    · simp only [List.length_cons, ih]
    · exact ih
theorem nodup_inj {l : List Int} (h : l.Nodup) {i j : Nat} (hi : i < l.length) (hj : j < l.length) (e : l[i] = l[j]) : i = j := by
  rcases Nat.lt_trichotomy i j with h1 | h1 | h1
  · exact absurd e (List.pairwise_iff_getElem.1 h i j hi hj h1)
  · exact h1
  · exact absurd e.symm (List.pairwise_iff_getElem.1 h j i hj hi h1)
theorem Lg.Ok.cut {L : Lg} (h : L.Ok) (t : Int) (i : Nat) (hi : i < (L.stk t).length) : (L.cut t i).Ok := by
  obtain ⟨k, hk⟩ : ∃ k, (L.stk t)[i]? = some k := ⟨_, List.getElem?_eq_getElem hi⟩
  have hkm := List.mem_of_getElem? hk
  have hkr := h.hin t k hkm
  obtain ⟨e, he⟩ : ∃ e, L.es[k.toNat]? = some e := ⟨_, List.getElem?_eq_getElem (by omega)⟩
  have heo := h.hop t k e hkm he
  have hg : (L.stk t).getD i 0 = k := by rw [List.getD_eq_getElem?_getD, hk]; rfl
  have ht := h.t0
  unfold Lg.cut
  rw [hg]
  have hsub : ∀ q a, a ∈ fput L.stk t ((L.stk t).eraseIdx i) q → a ∈ L.stk q ∧ (a = k → False) := by
    intro q a ha
    by_cases e' : q = t
    · subst e'
      rw [fput_same] at ha
      refine ⟨List.mem_of_mem_eraseIdx ha, fun e' => ?_⟩
      subst e'
      have := h.hnd q
      obtain ⟨j, hj, hja⟩ := List.getElem_of_mem ha
      rw [List.getElem_eraseIdx] at hja
      obtain ⟨_, hki⟩ := List.getElem?_eq_some_iff.1 hk
      split at hja
      · have := nodup_inj this _ _ (hja.trans hki.symm); omega
      · have := nodup_inj this _ _ (hja.trans hki.symm); omega
    · rw [fput_other _ _ e'] at ha
      refine ⟨ha, fun e2 => ?_⟩
      subst e2
      exact e' ((h.hop q a e ha he).2.symm.trans heo.2)
  refine ⟨by simpa [shut_length] using h.n, by simp; omega, ?_, ?_, ?_, ?_, ?_, by have := h.cl; simp; omega, by have := h.ll; simp; omega, by simpa [shut_length] using h.ci, by simpa [shut_length] using h.li⟩
  · have h1 := h.tm
    have h2 := shut_filter L.es k.toNat (L.time + 1) e he heo.1 (by omega)
    simp only [shut_length]
    unfold shut
    rw [h2]
    push_cast
    omega
  · intro q
    by_cases e' : q = t
    · subst e'; simp only [fput_same]; have := h.hl q; rw [List.length_eraseIdx]; split <;> omega
    · simp only [fput_other _ _ e']; exact h.hl q
  · intro q a ha
    simp only [shut_length]
    exact h.hin q a (hsub q a ha).1
  · intro q a e2 ha he2
    simp only at he2
    rw [shut_get] at he2
    have ha' := hsub q a ha
    rw [if_neg (fun e3 => ha'.2 (by have := h.hin q a ha'.1; omega))] at he2
    exact h.hop q a e2 ha'.1 he2
  · intro q
    by_cases e' : q = t
    · subst e'; simp only [fput_same]; exact (h.hnd q).sublist (List.eraseIdx_sublist _ _)
    · simp only [fput_other _ _ e']; exact h.hnd q
theorem seek_spec {p : Int → Bool} {l : List Int} : ∀ {n i : Nat}, seek p l n = some i → i < n ∧ p (l.getD i 0) = true
  | 0, _, h => by simp [seek] at h
  | n + 1, i, h => by
    simp only [seek] at h
    split at h
    · cases h
      exact ⟨by omega, by assumption⟩
    · have := seek_spec h
      exact ⟨by omega, this.2⟩
theorem Lg.Ok.release {L : Lg} (h : L.Ok) (t x : Int) : (L.release t x).1.Ok := by
  unfold Lg.release
  split
  · exact h
  split
  · exact h
  · rename_i i hs
    have hi := (seek_spec hs).1
    have hc := h.cut t i hi
    obtain ⟨k, hk⟩ : ∃ k, (L.stk t)[i]? = some k := ⟨_, List.getElem?_eq_getElem hi⟩
    have hg : (L.stk t).getD i 0 = k := by rw [List.getD_eq_getElem?_getD, hk]; rfl
    have hkr := h.hin t k (List.mem_of_getElem? hk)
    refine ⟨hc.n, hc.t0, hc.tm, hc.hl, hc.hin, hc.hop, hc.hnd, ?_, hc.ll, ?_, hc.li⟩
    · have := h.cl
      simp only [Lg.cut]
      split
      · simp; omega
      · simp; omega
    · intro a ha
      have hlen : (L.cut t i).es.length = L.es.length := by simp [Lg.cut, shut_length]
      simp only at ha ⊢
      rw [hlen]
      split at ha
      · rcases List.mem_append.1 ha with ha | ha
        · exact h.ci a ha
        · simp only [List.mem_cons, List.not_mem_nil, or_false] at ha
          rw [ha, hg]
          exact hkr
      · exact h.ci a ha
theorem Lg.Ok.leak {L : Lg} (h : L.Ok) (t : Int) (hi : 0 < (L.stk t).length) : (L.leak t).Ok := by
  have hc := h.cut t ((L.stk t).length - 1) (by omega)
  obtain ⟨k, hk⟩ : ∃ k, (L.stk t)[(L.stk t).length - 1]? = some k := ⟨_, List.getElem?_eq_getElem (by omega)⟩
  have hg : (L.stk t).getD ((L.stk t).length - 1) 0 = k := by rw [List.getD_eq_getElem?_getD, hk]; rfl
  have hkr := h.hin t k (List.mem_of_getElem? hk)
  have hlen : (L.cut t ((L.stk t).length - 1)).es.length = L.es.length := by simp [Lg.cut, shut_length]
  refine ⟨hc.n, hc.t0, hc.tm, hc.hl, hc.hin, hc.hop, hc.hnd, hc.cl, ?_, hc.ci, ?_⟩
  · have := h.ll
    simp only [Lg.leak, Lg.cut]
    simp
    omega
  · intro a ha
    simp only [Lg.leak] at ha ⊢
    rw [hlen]
    rcases List.mem_append.1 ha with ha | ha
    · exact h.li a ha
    · simp only [List.mem_cons, List.not_mem_nil, or_false] at ha
      rw [ha, hg]
      exact hkr
theorem leak_stk (L : Lg) (t : Int) : (L.leak t).stk t = (L.stk t).eraseIdx ((L.stk t).length - 1) := by simp [Lg.leak, Lg.cut, fput_same]
theorem Lg.Ok.leaks : ∀ (n : Nat) {L : Lg} {t : Int}, L.Ok → n ≤ (L.stk t).length → (Lg.leaks n L t).Ok
  | 0, _, _, h, _ => h
  | n + 1, L, t, h, hn => Lg.Ok.leaks n (h.leak t (by omega)) (by rw [leak_stk, List.length_eraseIdx]; split <;> omega)
theorem Lg.Ok.fin {L : Lg} (h : L.Ok) (t : Int) : (L.fin t).1.Ok := by
  unfold Lg.fin
  split
  · exact h
  · exact Lg.Ok.leaks _ h (Nat.le_refl _)

end Go.Proofs.Ytgjicobfbdikmaa
