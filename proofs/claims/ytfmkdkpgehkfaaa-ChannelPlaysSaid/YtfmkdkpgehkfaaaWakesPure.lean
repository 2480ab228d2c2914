/- ChannelWakes: the plain law. -/
import Derived.Test.YtfmkdkpgehkfaaaChanPure
set_option linter.unusedVariables false
set_option linter.unusedSimpArgs false
namespace Go.Proofs.Ytfmkdkpgehkfaaa
open Go Go.RowKit

theorem takeW_none {p : Wt → Bool} : ∀ {l : List Wt}, takeW p l = none → ∀ x ∈ l, p x = false
  | [], _ => by simp
  | y :: l, h => by
    unfold takeW at h
    split at h
    · simp at h
    · rename_i hy
      simp only [Option.map_eq_none_iff] at h
      intro x hx
      rcases List.mem_cons.1 hx with rfl | hx
      · simpa using hy
      · exact takeW_none h x hx
theorem takeW_none_of {p : Wt → Bool} : ∀ {l : List Wt}, (∀ x ∈ l, p x = false) → takeW p l = none
  | [], _ => rfl
  | y :: l, h => by
    unfold takeW
    rw [if_neg (by simp [h y (by simp)]), takeW_none_of (fun x hx => h x (by simp [hx]))]
    rfl
theorem takeW_mem {p : Wt → Bool} : ∀ {l : List Wt} {x : Wt} {r : List Wt}, takeW p l = some (x, r) → p x = true ∧ x ∈ l ∧ ∀ y ∈ r, y ∈ l
  | [], _, _, h => by simp [takeW] at h
  | y :: l, x, r, h => by
    unfold takeW at h
    split at h
    · rename_i hy
      simp only [Option.some.injEq, Prod.mk.injEq] at h
      obtain ⟨rfl, rfl⟩ := h
      exact ⟨hy, by simp, fun z hz => by simp [hz]⟩
    · simp only [Option.map_eq_some_iff, Prod.mk.injEq] at h
      obtain ⟨⟨a, b⟩, hb, rfl, rfl⟩ := h
      obtain ⟨h1, h2, h3⟩ := takeW_mem hb
      exact ⟨h1, by simp [h2], fun z hz => by
        rcases List.mem_cons.1 hz with rfl | hz
        · simp
        · simp [h3 z hz]⟩

/-- Who waits cannot go on. -/
def Ch.Stuck (c : Ch) : Prop :=
  (c.closed = true → c.ws = []) ∧ (((∀ x ∈ c.ws, x.send = true ∧ valid x.v = true ∧ c.pol = 0 ∧ c.cap ≤ (c.buf.length : Int))) ∨ (∀ x ∈ c.ws, x.send = false ∧ c.buf = []))

theorem Ch.Stuck.empty {c : Ch} (h : c.ws = []) : c.Stuck := ⟨fun _ => h, .inl (by simp [h])⟩
theorem Ch.Stuck.sub {c c' : Ch} (h : c.Stuck) (h1 : c'.closed = c.closed) (h2 : c'.pol = c.pol) (h3 : c'.cap = c.cap) (h4 : c'.buf = c.buf) (h5 : ∀ x ∈ c'.ws, x ∈ c.ws) : c'.Stuck := by
  refine ⟨fun hc => ?_, ?_⟩
  · rw [h1] at hc
    have := h.1 hc
    apply List.eq_nil_iff_forall_not_mem.2
    intro x hx
    have h6 := h5 x hx
    rw [this] at h6
    simp at h6
  · rw [h2, h3, h4]
    rcases h.2 with k | k
    · exact .inl fun x hx => k x (h5 x hx)
    · exact .inr fun x hx => k x (h5 x hx)

def Ch.wake (c : Ch) (i : Int) (kind t : Int) (v : V) : Ch :=
  if kind = 0 then (if (c.offer v).2.2.2 = true then (c.offer v).1 else ((c.offer v).1.park (i + 1) true v).1)
  else if kind = 1 then (if c.take.2.2.2.2 = true then c.take.1 else (c.take.1.park (i + 1) false v).1)
  else if kind = 3 then (c.withdraw t).1
  else if kind = 4 then c.close.1
  else c

theorem Ch.Stuck.wake {c : Ch} (h : c.Stuck) (hb : (c.buf.length : Int) ≤ c.cap) (hc0 : 0 ≤ c.cap) (i kind t : Int) (v : V) : (c.wake i kind t v).Stuck := by
  unfold Ch.wake
  split
  · generalize hr : c.offer v = r
    unfold Ch.offer at hr
    by_cases hv : valid v = false
    · rw [if_pos hv] at hr
      subst hr
      rw [if_neg (by simp)]
      unfold Ch.park
      rw [if_pos (.inr ⟨rfl, hv⟩)]
      exact h
    rw [if_neg hv] at hr
    by_cases hcl : c.closed = true
    · rw [if_pos hcl] at hr
      subst hr
      rw [if_pos rfl]
      exact h
    rw [if_neg hcl] at hr
    cases ht : takeW (fun x => !x.send) c.ws with
    | some y =>
      obtain ⟨x, l⟩ := y
      rw [ht] at hr
      subst hr
      rw [if_pos rfl]
      exact h.sub rfl rfl rfl rfl (takeW_mem ht).2.2
    | none =>
      rw [ht] at hr
      have hn := takeW_none ht
      have hs : ∀ x ∈ c.ws, x.send = true ∧ valid x.v = true ∧ c.pol = 0 ∧ c.cap ≤ (c.buf.length : Int) := by
        rcases h.2 with k | k
        · exact k
        · intro x hx
          have := hn x hx
          rw [(k x hx).1] at this
          simp at this
      have he : (c.pol ≠ 0 ∨ (c.buf.length : Int) < c.cap) → c.ws = [] := by
        intro ho
        apply List.eq_nil_iff_forall_not_mem.2
        intro x hx
        have := hs x hx
        omega
      simp only at hr
      by_cases h1 : (c.buf.length : Int) < c.cap
      · rw [if_pos h1] at hr
        subst hr
        rw [if_pos rfl]
        exact Ch.Stuck.empty (he (.inr h1))
      rw [if_neg h1] at hr
      by_cases h2 : c.pol = 0
      · rw [if_pos h2] at hr
        subst hr
        rw [if_neg (by simp)]
        unfold Ch.park
        split
        · exact h
        split
        · exact h
        split
        · exact h
        · refine ⟨fun hc => absurd hc hcl, .inl fun x hx => ?_⟩
          rcases List.mem_append.1 hx with hx | hx
          · exact hs x hx
          · simp only [if_true, List.mem_singleton] at hx
            subst hx
            exact ⟨rfl, by simpa using hv, h2, by show c.cap ≤ (c.buf.length : Int); omega⟩
      rw [if_neg h2] at hr
      split at hr
      · subst hr
        rw [if_pos rfl]
        exact Ch.Stuck.empty (he (.inl h2))
      · subst hr
        rw [if_pos rfl]
        exact Ch.Stuck.empty (he (.inl h2))
  split
  · generalize hr : c.take = r
    unfold Ch.take at hr
    cases hbf : c.buf with
    | cons u l =>
      rw [hbf] at hr
      simp only at hr
      cases ht : takeW (fun x => x.send) c.ws with
      | none =>
        rw [ht] at hr
        subst hr
        rw [if_pos rfl]
        have hn := takeW_none ht
        refine Ch.Stuck.empty ?_
        apply List.eq_nil_iff_forall_not_mem.2
        intro x hx
        have h1 := hn x hx
        rcases h.2 with k | k
        · rw [(k x hx).1] at h1
          simp at h1
        · have := (k x hx).2
          rw [hbf] at this
          simp at this
      | some y =>
        obtain ⟨x, r⟩ := y
        rw [ht] at hr
        subst hr
        rw [if_pos rfl]
        obtain ⟨t1, t2, t3⟩ := takeW_mem ht
        refine ⟨fun hc => ?_, ?_⟩
        · have := h.1 hc
          rw [this] at t2
          simp at t2
        · rcases h.2 with k | k
          · refine .inl fun y hy => ?_
            obtain ⟨q1, q2, q3, q4⟩ := k y (t3 y hy)
            rw [hbf] at q4
            exact ⟨q1, q2, q3, by simpa using q4⟩
          · rw [(k x t2).1] at t1
            simp at t1
    | nil =>
      rw [hbf] at hr
      simp only at hr
      cases ht : takeW (fun x => x.send) c.ws with
      | some y =>
        obtain ⟨x, r⟩ := y
        rw [ht] at hr
        subst hr
        rw [if_pos rfl]
        exact h.sub rfl rfl rfl hbf.symm (takeW_mem ht).2.2
      | none =>
        rw [ht] at hr
        have hn := takeW_none ht
        simp only at hr
        by_cases hcl : c.closed = true
        · rw [if_pos hcl] at hr
          subst hr
          rw [if_pos rfl]
          exact h
        · rw [if_neg hcl] at hr
          subst hr
          rw [if_neg (by simp)]
          unfold Ch.park
          split
          · exact h
          split
          · exact h
          split
          · exact h
          · refine ⟨fun hc => absurd hc hcl, .inr fun x hx => ?_⟩
            rcases List.mem_append.1 hx with hx | hx
            · have h1 := hn x hx
              exact ⟨h1, hbf⟩
            · simp only [List.mem_singleton] at hx
              subst hx
              exact ⟨rfl, hbf⟩
  split
  · unfold Ch.withdraw
    split
    · rename_i y l e
      exact h.sub rfl rfl rfl rfl (takeW_mem e).2.2
    · exact h
  split
  · unfold Ch.close
    split
    · exact h
    · exact Ch.Stuck.empty rfl
  · exact h

/-- So an offer for a sender that waits is refused, and a take for a receiver. -/
theorem Ch.Stuck.sender {c : Ch} (h : c.Stuck) {x : Wt} (hx : x ∈ c.ws) (hs : x.send = true) : (c.offer x.v).2.2.2 = false := by
  rcases h.2 with k | k
  · obtain ⟨_, hv, hp, hf⟩ := k x hx
    have hcl : c.closed ≠ true := fun e => by
      have := h.1 e
      rw [this] at hx
      simp at hx
    have ht : takeW (fun x => !x.send) c.ws = none := takeW_none_of (fun y hy => by simp [(k y hy).1])
    unfold Ch.offer
    rw [if_neg (by simp [hv]), if_neg hcl, ht]
    simp only
    rw [if_neg (by omega), if_pos hp]
  · rw [(k x hx).1] at hs
    simp at hs
theorem Ch.Stuck.receiver {c : Ch} (h : c.Stuck) {x : Wt} (hx : x ∈ c.ws) (hs : x.send = false) : c.take.2.2.2.2 = false := by
  rcases h.2 with k | k
  · rw [(k x hx).1] at hs
    simp at hs
  · have hb := (k x hx).2
    have hcl : c.closed ≠ true := fun e => by
      have := h.1 e
      rw [this] at hx
      simp at hx
    have ht : takeW (fun x => x.send) c.ws = none := takeW_none_of (fun y hy => (k y hy).1)
    unfold Ch.take
    rw [hb]
    simp only
    rw [ht]
    simp only
    rw [if_neg hcl]

end Go.Proofs.Ytfmkdkpgehkfaaa
