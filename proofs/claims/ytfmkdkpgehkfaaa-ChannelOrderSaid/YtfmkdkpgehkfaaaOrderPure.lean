/- ChannelOrder: the plain law. -/
import Derived.Test.YtfmkdkpgehkfaaaWakesPure
set_option linter.unusedVariables false
set_option linter.unusedSimpArgs false
namespace Go.Proofs.Ytfmkdkpgehkfaaa
open Go Go.RowKit

def numV (n : Int) : V := ⟨1, n, ⟨#[]⟩⟩

theorem takeW_head {p : Wt → Bool} {l : List Wt} (h : ∀ x ∈ l, p x = true) {x : Wt} {r : List Wt} (e : takeW p l = some (x, r)) : l = x :: r := by
  cases l with
  | nil => simp [takeW] at e
  | cons y s =>
    unfold takeW at e
    rw [if_pos (h y (by simp))] at e
    simp at e
    rw [e.1, e.2]

/-- What was received, what lies in the buffer, what waits. -/
def line (c : Ch) (recv : List Int) : List Int := recv ++ (c.buf.map (·.n) ++ (c.ws.filter (·.send)).map (·.v.n))

/-- What holds while a channel is used as it is meant: the numbers sent, those received, i calls so far. -/
structure Ord (c : Ch) (sent recv : List Int) (i : Int) : Prop where
  opened : c.closed = false
  full : c.ws ≠ [] → ((∀ x ∈ c.ws, x.send = true) ∧ c.pol = 0 ∧ c.cap ≤ (c.buf.length : Int)) ∨ ((∀ x ∈ c.ws, x.send = false) ∧ c.buf = [])
  tickets : ∀ x ∈ c.ws, x.t ≤ i
  len : (c.ws.length : Int) ≤ i
  sorted : (line c recv).Pairwise (· < ·)
  below : ∀ n ∈ line c recv, n < i
  count : ((line c recv).length : Int) + c.drop = sent.length
  same : c.drop = 0 → line c recv = sent
  drop : c.drop ≠ 0 → c.pol ≠ 0
  drop0 : 0 ≤ c.drop
  lens : (sent.length : Int) ≤ i ∧ (recv.length : Int) ≤ i

theorem valid_numV {n : Int} (h1 : 0 ≤ n) (h2 : n ≤ 1000000) : valid (numV n) = true := by
  have e : (⟨#[]⟩ : ByteArray).toList = [] := by unfold ByteArray.toList ByteArray.toList.loop; rfl
  have h3 : -1000000000000 ≤ n := by omega
  have h4 : n ≤ 1000000000000 := by omega
  simp [valid, numV, e, h3, h4]

theorem filter_none {l : List Wt} (h : ∀ x ∈ l, x.send = false) : l.filter (·.send) = [] := by
  apply List.filter_eq_nil_iff.2
  intro x hx
  simp [h x hx]
theorem filter_all {l : List Wt} (h : ∀ x ∈ l, x.send = true) : l.filter (·.send) = l := List.filter_eq_self.2 h

theorem snoc_sorted {l : List Int} {i : Int} (h : l.Pairwise (· < ·)) (hb : ∀ n ∈ l, n < i) : (l ++ [i]).Pairwise (· < ·) := by
  rw [List.pairwise_append]
  refine ⟨h, List.pairwise_singleton _ _, fun a ha b hb' => ?_⟩
  simp at hb'
  subst hb'
  exact hb a ha
theorem snoc_below {l : List Int} {i : Int} (hb : ∀ n ∈ l, n < i) : ∀ n ∈ l ++ [i], n < i + 1 := by
  intro n hn
  rcases List.mem_append.1 hn with hn | hn
  · have := hb n hn
    omega
  · simp at hn
    omega

def Ch.sends (c : Ch) (i : Int) : Ch := if (c.offer (numV i)).2.2.2 = true then (c.offer (numV i)).1 else ((c.offer (numV i)).1.park (i + 1) true (numV i)).1
def Ch.takes (c : Ch) (i : Int) : Ch := if c.take.2.2.2.2 = true then c.take.1 else (c.take.1.park (i + 1) false V.nil).1

/-- A new line that is the old one and i. -/
theorem Ord.more {c c' : Ch} {sent recv recv' : List Int} {i : Int} (h : Ord c sent recv i) (h1 : c'.closed = false) (h2 : c'.ws ≠ [] → ((∀ x ∈ c'.ws, x.send = true) ∧ c'.pol = 0 ∧ c'.cap ≤ (c'.buf.length : Int)) ∨ ((∀ x ∈ c'.ws, x.send = false) ∧ c'.buf = []))
    (h3 : ∀ x ∈ c'.ws, x.t ≤ i + 1) (h4 : (c'.ws.length : Int) ≤ i + 1) (h5 : line c' recv' = line c recv ++ [i]) (h6 : c'.drop = c.drop) (h7 : c'.pol = c.pol) (h8 : (recv'.length : Int) ≤ i + 1) : Ord c' (sent ++ [i]) recv' (i + 1) := by
  refine ⟨h1, h2, h3, h4, ?_, ?_, ?_, ?_, ?_, ?_, ?_, h8⟩
  · rw [h5]; exact snoc_sorted h.sorted h.below
  · rw [h5]; exact snoc_below h.below
  · rw [h5, h6]; have := h.count; simp; omega
  · rw [h5, h6]; intro e; rw [h.same e]
  · rw [h6, h7]; exact h.drop
  · rw [h6]; exact h.drop0
  · have := h.lens.1; simp; omega
/-- The line stays. -/
theorem Ord.keep {c c' : Ch} {sent recv recv' : List Int} {i : Int} (h : Ord c sent recv i) (h1 : c'.closed = false) (h2 : c'.ws ≠ [] → ((∀ x ∈ c'.ws, x.send = true) ∧ c'.pol = 0 ∧ c'.cap ≤ (c'.buf.length : Int)) ∨ ((∀ x ∈ c'.ws, x.send = false) ∧ c'.buf = []))
    (h3 : ∀ x ∈ c'.ws, x.t ≤ i + 1) (h4 : (c'.ws.length : Int) ≤ i + 1) (h5 : line c' recv' = line c recv) (h6 : c'.drop = c.drop) (h7 : c'.pol = c.pol) (h8 : (recv'.length : Int) ≤ i + 1) : Ord c' sent recv' (i + 1) := by
  refine ⟨h1, h2, h3, h4, ?_, ?_, ?_, ?_, ?_, ?_, ?_, h8⟩
  · rw [h5]; exact h.sorted
  · rw [h5]; intro n hn; have := h.below n hn; omega
  · rw [h5, h6]; exact h.count
  · rw [h5, h6]; exact h.same
  · rw [h6, h7]; exact h.drop
  · rw [h6]; exact h.drop0
  · have := h.lens.1; omega

theorem park_free {c : Ch} {sent recv : List Int} {i : Int} (h : Ord c sent recv i) (h0 : 0 ≤ i) (h9 : i ≤ 199) (send : Bool) (v : V) (hv : send = true → valid v = true) :
    c.park (i + 1) send v = ({ c with ws := c.ws ++ [⟨i + 1, send, if send then v else V.nil⟩] }, 0) := by
  unfold Ch.park
  rw [if_neg (by
    rintro (h | ⟨h, h'⟩)
    · omega
    · rw [hv h] at h'; simp at h'), if_neg, if_neg]
  · have := h.len; omega
  · intro ha
    obtain ⟨x, hx, hx'⟩ := List.any_eq_true.1 ha
    have := h.tickets x hx
    simp at hx'
    omega

theorem Ord.send {c : Ch} {sent recv : List Int} {i : Int} (h : Ord c sent recv i) (h0 : 0 ≤ i) (h9 : i ≤ 199) (hb : (c.buf.length : Int) ≤ c.cap) :
    (c.offer (numV i)).2.2.1.k = 0 ∧ ((c.offer (numV i)).2.2.2 = false → ((c.offer (numV i)).1.park (i + 1) true (numV i)).2 = 0) ∧ Ord (c.sends i) (sent ++ [i]) (recv ++ (c.offer (numV i)).2.1.map (·.v.n)) (i + 1) := by
  have hv := valid_numV h0 (by omega : i ≤ 1000000)
  have hpk := park_free h h0 h9 true (numV i) (fun _ => hv)
  have hl := h.lens
  unfold Ch.sends
  generalize hr : c.offer (numV i) = r
  unfold Ch.offer at hr
  rw [if_neg (by simp [hv]), if_neg (by simp [h.opened])] at hr
  cases ht : takeW (fun x => !x.send) c.ws with
  | some y =>
    obtain ⟨x, l⟩ := y
    rw [ht] at hr
    subst hr
    obtain ⟨t1, t2, t3⟩ := takeW_mem ht
    have hall : (∀ x ∈ c.ws, x.send = false) ∧ c.buf = [] := by
      rcases h.full (List.ne_nil_of_mem t2) with k | k
      · rw [k.1 x t2] at t1
        simp at t1
      · exact k
    refine ⟨rfl, by simp, ?_⟩
    rw [if_pos rfl]
    have hlen := takeW_length ht
    have := h.len
    refine h.more h.opened (fun _ => .inr ⟨fun y hy => hall.1 y (t3 y hy), hall.2⟩) (fun y hy => by have := h.tickets y (t3 y hy); omega) (by simp; omega) ?_ rfl rfl (by simp; omega)
    simp only [line, hall.2, List.map_nil, List.nil_append, filter_none hall.1, List.append_nil, filter_none (fun y hy => hall.1 y (t3 y hy))]
    rfl
  | none =>
    rw [ht] at hr
    simp only at hr
    have hn := takeW_none ht
    have hs : ∀ x ∈ c.ws, x.send = true := fun x hx => by simpa using hn x hx
    have hfull : c.ws ≠ [] → c.pol = 0 ∧ c.cap ≤ (c.buf.length : Int) := fun hw => by
      rcases h.full hw with k | k
      · exact k.2
      · obtain ⟨x, hx⟩ := List.exists_mem_of_ne_nil _ hw
        have h1 := hs x hx
        rw [k.1 x hx] at h1
        simp at h1
    by_cases h1 : (c.buf.length : Int) < c.cap
    · rw [if_pos h1] at hr
      subst hr
      have hw : c.ws = [] := by
        apply Classical.byContradiction
        intro hw
        have := (hfull hw).2
        omega
      refine ⟨rfl, by simp, ?_⟩
      rw [if_pos rfl]
      refine h.more h.opened (fun hw' => absurd hw hw') (by simp [hw]) (by simp [hw]; omega) ?_ rfl rfl (by simp; omega)
      simp [line, hw, numV]
    rw [if_neg h1] at hr
    by_cases h2 : c.pol = 0
    · rw [if_pos h2] at hr
      subst hr
      rw [if_neg (by simp)]
      simp only
      rw [hpk]
      refine ⟨rfl, fun _ => rfl, ?_⟩
      simp only [if_true, List.map_nil, List.append_nil]
      refine h.more h.opened (fun _ => .inl ⟨fun x hx => ?_, h2, by show c.cap ≤ (c.buf.length : Int); omega⟩) (fun x hx => ?_) (by have := h.len; simp; omega) ?_ rfl rfl (by omega)
      · rcases List.mem_append.1 hx with hx | hx
        · exact hs x hx
        · simp at hx
          rw [hx]
      · rcases List.mem_append.1 hx with hx | hx
        · have := h.tickets x hx
          omega
        · simp at hx
          rw [hx]
          simp
      · simp [line, numV]
    rw [if_neg h2] at hr
    have hw : c.ws = [] := by
      apply Classical.byContradiction
      intro hw
      exact h2 (hfull hw).1
    have hline : line c recv = recv ++ c.buf.map (·.n) := by simp [line, hw]
    by_cases h3 : c.pol = 1 ∧ 0 < c.cap
    · rw [if_pos h3] at hr
      subst hr
      refine ⟨rfl, by simp, ?_⟩
      rw [if_pos rfl]
      obtain ⟨u, l, hul⟩ : ∃ u l, c.buf = u :: l := by
        cases hbuf : c.buf with
        | nil => rw [hbuf] at h1; simp at h1; omega
        | cons u l => exact ⟨u, l, rfl⟩
      have hline' : line { c with buf := c.buf.tail ++ [numV i], drop := c.drop + 1 } recv = (recv ++ l.map (·.n)) ++ [i] := by simp [line, hw, hul, numV]
      have hsub : (recv ++ l.map (·.n)).Sublist (line c recv) := by
        rw [hline, hul]
        exact (List.Sublist.refl _).append (by simp)
      have hlen : (line c recv).length = (recv ++ l.map (·.n)).length + 1 := by rw [hline, hul]; simp; omega
      have hd0 := h.drop0
      have hct := h.count
      simp only [List.map_nil, List.append_nil]
      refine ⟨h.opened, fun hw' => absurd hw hw', by simp [hw], by simp [hw]; omega, ?_, ?_, ?_, ?_, ?_, ?_, ?_, by omega⟩
      · rw [hline']; exact snoc_sorted (h.sorted.sublist hsub) (fun n hn => h.below n (hsub.subset hn))
      · rw [hline']; exact snoc_below (fun n hn => h.below n (hsub.subset hn))
      · rw [hline']; simp at hlen ⊢; omega
      · simp only; omega
      · intro _; exact h2
      · simp only; omega
      · simp; omega
    · rw [if_neg h3] at hr
      subst hr
      refine ⟨rfl, by simp, ?_⟩
      rw [if_pos rfl]
      have hline' : line { c with drop := c.drop + 1 } recv = line c recv := rfl
      have hd0 := h.drop0
      have hct := h.count
      simp only [List.map_nil, List.append_nil]
      refine ⟨h.opened, fun hw' => absurd hw hw', by simp [hw], by simp [hw]; omega, ?_, ?_, ?_, ?_, ?_, ?_, ?_, by omega⟩
      · rw [hline']; exact h.sorted
      · rw [hline']; intro n hn; have := h.below n hn; omega
      · rw [hline']; simp; omega
      · simp only; omega
      · intro _; exact h2
      · simp only; omega
      · simp; omega

theorem Ord.take {c : Ch} {sent recv : List Int} {i : Int} (h : Ord c sent recv i) (h0 : 0 ≤ i) (h9 : i ≤ 199) :
    c.take.2.2.2.1.k = 0 ∧ (c.take.2.2.2.2 = false → (c.take.1.park (i + 1) false V.nil).2 = 0) ∧ Ord (c.takes i) sent (recv ++ if c.take.2.2.2.2 = true then [c.take.2.1.n] else []) (i + 1) := by
  have hpk := park_free h h0 h9 false V.nil (by simp)
  have hl := h.lens
  have hlw := h.len
  unfold Ch.takes
  generalize hr : c.take = r
  unfold Ch.take at hr
  cases hbf : c.buf with
  | cons u l =>
    rw [hbf] at hr
    simp only at hr
    have hsend : c.ws ≠ [] → ∀ x ∈ c.ws, x.send = true := fun hw => by
      rcases h.full hw with k | k
      · exact k.1
      · rw [hbf] at k
        simp at k
    cases ht : takeW (fun x => x.send) c.ws with
    | none =>
      rw [ht] at hr
      subst hr
      have hw : c.ws = [] := by
        apply Classical.byContradiction
        intro hw
        obtain ⟨x, hx⟩ := List.exists_mem_of_ne_nil _ hw
        have h1 := takeW_none ht x hx
        rw [hsend hw x hx] at h1
        simp at h1
      refine ⟨rfl, by simp, ?_⟩
      rw [if_pos rfl, if_pos rfl]
      refine h.keep h.opened (fun hw' => absurd hw hw') (by simp [hw]) (by simp [hw]; omega) ?_ rfl rfl (by simp; omega)
      simp [line, hw, hbf]
    | some y =>
      obtain ⟨x, r⟩ := y
      rw [ht] at hr
      subst hr
      obtain ⟨t1, t2, t3⟩ := takeW_mem ht
      have hall := hsend (List.ne_nil_of_mem t2)
      have hws : c.ws = x :: r := takeW_head hall ht
      have hfull : c.pol = 0 ∧ c.cap ≤ (c.buf.length : Int) := by
        rcases h.full (List.ne_nil_of_mem t2) with k | k
        · exact k.2
        · rw [hbf] at k
          simp at k
      refine ⟨rfl, by simp, ?_⟩
      rw [if_pos rfl, if_pos rfl]
      have hxs := hall x t2
      rw [hws] at hlw
      simp at hlw
      refine h.keep h.opened (fun _ => .inl ⟨fun y hy => hall y (t3 y hy), hfull.1, ?_⟩) (fun y hy => by have := h.tickets y (t3 y hy); omega) (by simp; omega) ?_ rfl rfl (by simp; omega)
      · have := hfull.2
        rw [hbf] at this
        simpa using this
      · simp [line, hws, hbf, hxs]
  | nil =>
    rw [hbf] at hr
    simp only at hr
    cases ht : takeW (fun x => x.send) c.ws with
    | some y =>
      obtain ⟨x, r⟩ := y
      rw [ht] at hr
      subst hr
      obtain ⟨t1, t2, t3⟩ := takeW_mem ht
      have hk : (∀ x ∈ c.ws, x.send = true) ∧ c.pol = 0 ∧ c.cap ≤ (c.buf.length : Int) := by
        rcases h.full (List.ne_nil_of_mem t2) with k | k
        · exact k
        · rw [k.1 x t2] at t1
          simp at t1
      have hall := hk.1
      have hws : c.ws = x :: r := takeW_head hall ht
      have hxs := hall x t2
      rw [hws] at hlw
      simp at hlw
      refine ⟨rfl, by simp, ?_⟩
      rw [if_pos rfl, if_pos rfl]
      refine h.keep h.opened (fun _ => .inl ⟨fun y hy => hall y (t3 y hy), hk.2.1, ?_⟩) (fun y hy => by have := h.tickets y (t3 y hy); omega) (by simp; omega) ?_ rfl rfl (by simp; omega)
      · have := hk.2.2
        rw [hbf] at this
        simpa using this
      · simp [line, hws, hbf, hxs]
    | none =>
      rw [ht] at hr
      simp only at hr
      rw [if_neg (by simp [h.opened])] at hr
      subst hr
      have hn := takeW_none ht
      rw [if_neg (by simp), if_neg (by simp)]
      simp only
      rw [hpk]
      refine ⟨rfl, fun _ => rfl, ?_⟩
      simp only [List.append_nil]
      refine h.keep h.opened (fun _ => .inr ⟨fun x hx => ?_, hbf⟩) (fun x hx => ?_) (by simp; omega) ?_ rfl rfl (by omega)
      · rcases List.mem_append.1 hx with hx | hx
        · exact hn x hx
        · simp at hx
          rw [hx]
      · rcases List.mem_append.1 hx with hx | hx
        · have := h.tickets x hx
          omega
        · simp at hx
          rw [hx]
          simp
      · simp [line]

end Go.Proofs.Ytfmkdkpgehkfaaa
