/- The clock's wheel, pure: where a timer stands, how the wheel turns, what is next. No program in sight. -/
import Derived.Lib.BitFns
import Derived.Lib.ItoaNum
set_option linter.unusedVariables false
set_option linter.unusedSimpArgs false
namespace Go.Proofs.YtbkbcpnpbfnmgaaDoor
open Go

structure Tm where
  id : Nat
  due : Nat
deriving DecidableEq

/-! ### Levels -/
def lvl (x y : Nat) : Nat := (Lib.bitLen (x ^^^ y) - 1) / 6
theorem pow64 (l : Nat) : 64 ^ l = 2 ^ (6 * l) := by
  rw [Nat.pow_mul]
theorem xor_zero {a b : Nat} (h : a ^^^ b = 0) : a = b := by
  have h1 : (a ^^^ b) ^^^ b = b := by rw [h, Nat.zero_xor]
  rwa [Nat.xor_assoc, Nat.xor_self, Nat.xor_zero] at h1
theorem div_eq_of_xor {x y k : Nat} (h : x ^^^ y < 2 ^ k) : x / 2 ^ k = y / 2 ^ k := by
  have h0 : (x ^^^ y) >>> k = 0 := by rw [Nat.shiftRight_eq_div_pow]; exact Nat.div_eq_of_lt h
  rw [Nat.shiftRight_xor_distrib] at h0
  have := xor_zero h0
  rwa [Nat.shiftRight_eq_div_pow, Nat.shiftRight_eq_div_pow] at this
theorem div_ne_of_xor {x y k : Nat} (h : 2 ^ k ≤ x ^^^ y) : x / 2 ^ k ≠ y / 2 ^ k := by
  intro e
  have h1 : (x ^^^ y) >>> k = 0 := by
    rw [Nat.shiftRight_xor_distrib, Nat.shiftRight_eq_div_pow, Nat.shiftRight_eq_div_pow, e, Nat.xor_self]
  rw [Nat.shiftRight_eq_div_pow] at h1
  have := Nat.div_pos h (Nat.two_pow_pos k)
  omega
/-- The level at which y stands when it is x. -/
structure Lv (x y l : Nat) : Prop where
  up : x / 64 ^ (l + 1) = y / 64 ^ (l + 1)
  at' : l = 0 ∨ x / 64 ^ l ≠ y / 64 ^ l
theorem div_up {x y l m : Nat} (h : x / 64 ^ l = y / 64 ^ l) (hm : l ≤ m) : x / 64 ^ m = y / 64 ^ m := by
  obtain ⟨k, rfl⟩ : ∃ k, m = l + k := ⟨m - l, by omega⟩
  rw [Nat.pow_add, ← Nat.div_div_eq_div_mul, ← Nat.div_div_eq_div_mul, h]
theorem Lv.one {x y l m : Nat} (h : Lv x y l) (k : Lv x y m) : l = m := by
  rcases Nat.lt_trichotomy l m with h1 | h1 | h1
  · rcases k.at' with h2 | h2
    · omega
    · exact absurd (div_up h.up h1) h2
  · exact h1
  · rcases h.at' with h2 | h2
    · omega
    · exact absurd (div_up k.up h1) h2
theorem lvl_spec {x y : Nat} (hx : x < 2 ^ 42) (hy : y < 2 ^ 42) : Lv x y (lvl x y) ∧ lvl x y ≤ 6 := by
  have hd : x ^^^ y < 2 ^ 42 := Nat.xor_lt_two_pow hx hy
  have hL : Lib.bitLen (x ^^^ y) ≤ 42 := Lib.bitLen_le _ 42 (by omega) hd
  unfold lvl
  by_cases h0 : x ^^^ y = 0
  · have e : x = y := xor_zero h0
    refine ⟨⟨by rw [e], .inl ?_⟩, by omega⟩
    rw [h0]
    rfl
  · obtain ⟨h1, h2, h3⟩ := Lib.bitLenAux_bounds 64 (x ^^^ y) (Nat.lt_of_lt_of_le hd (by decide)) h0
    change 1 ≤ Lib.bitLen (x ^^^ y) at h1
    change 2 ^ (Lib.bitLen (x ^^^ y) - 1) ≤ _ at h2
    change _ < 2 ^ (Lib.bitLen (x ^^^ y)) at h3
    obtain ⟨L, hLL⟩ : ∃ L, L = Lib.bitLen (x ^^^ y) := ⟨_, rfl⟩
    rw [← hLL] at h1 h2 h3 hL ⊢
    refine ⟨⟨?_, ?_⟩, by omega⟩
    · rw [pow64]
      exact div_eq_of_xor (Nat.lt_of_lt_of_le h3 (Nat.pow_le_pow_right (by decide) (by omega)))
    · by_cases hk : (L - 1) / 6 = 0
      · exact .inl hk
      · refine .inr ?_
        rw [pow64]
        exact div_ne_of_xor (Nat.le_trans (Nat.pow_le_pow_right (by decide) (by omega)) h2)
/-- The slot of a level. -/
def slot (y l : Nat) : Nat := y / 64 ^ l % 64
theorem slot_lt (y l : Nat) : slot y l < 64 := Nat.mod_lt _ (by decide)
theorem div_split (y l : Nat) : y / 64 ^ l = y / 64 ^ (l + 1) * 64 + slot y l := by
  unfold slot
  rw [Nat.pow_succ, ← Nat.div_div_eq_div_mul]
  omega
def place (now due : Nat) : Nat := lvl now due * 64 + slot due (lvl now due)
theorem place_lt {now due : Nat} (hn : now < 2 ^ 42) (hd : due < 2 ^ 42) : place now due < 448 := by
  have := (lvl_spec hn hd).2
  have := slot_lt due (lvl now due)
  unfold place
  omega
theorem place_iff {now due l s : Nat} (hn : now < 2 ^ 42) (hd : due < 2 ^ 42) (hs : s < 64) : place now due = l * 64 + s ↔ Lv now due l ∧ slot due l = s := by
  have h := (lvl_spec hn hd).1
  have h2 := slot_lt due (lvl now due)
  unfold place
  constructor
  · intro e
    have e1 : lvl now due = l := by omega
    rw [e1] at h e
    exact ⟨h, by omega⟩
  · rintro ⟨h1, h3⟩
    rw [h.one h1, h3]
theorem place_self {now : Nat} (hn : now < 2 ^ 42) : place now now = slot now 0 := by
  have := (place_iff (l := 0) (s := slot now 0) hn hn (slot_lt _ _)).2 ⟨⟨rfl, .inl rfl⟩, rfl⟩
  omega

/-! ### The wheel -/
abbrev Wheel := List (List Tm)
def Wheel.at (W : Wheel) (i : Nat) : List Tm := W.getD i []
theorem Wheel.at_set (W : Wheel) {i : Nat} (h : i < W.length) (l : List Tm) (j : Nat) : Wheel.at (W.set i l) j = if i = j then l else W.at j := by
  unfold Wheel.at
  rw [List.getD_eq_getElem?_getD, List.getElem?_set]
  split
  · rename_i e
    subst e
    try rw [if_pos h]
    rfl
  · rw [← List.getD_eq_getElem?_getD]
theorem wflat_set : ∀ (W : Wheel) (i : Nat) (l : List Tm), i < W.length → ((W.set i l).flatten).Perm (l ++ (W.set i []).flatten)
  | [], i, l, h => by simp at h
  | q :: W, 0, l, h => by simp
  | q :: W, i + 1, l, h => by
    have := wflat_set W i l (by simpa using h)
    simp only [List.set_cons_succ, List.flatten_cons]
    refine (this.append_left q).trans ?_
    rw [← List.append_assoc, ← List.append_assoc]
    exact List.Perm.append_right _ List.perm_append_comm
theorem wset_same {W : Wheel} {i : Nat} (h : i < W.length) : W.set i (W.at i) = W := by
  refine List.ext_getElem? fun k => ?_
  rw [List.getElem?_set]
  split
  · rename_i e
    subst e
    unfold Wheel.at
    rw [List.getD_eq_getElem?_getD, List.getElem?_eq_getElem h]
    rfl
  · rfl
theorem wflat_take {W : Wheel} {i : Nat} (h : i < W.length) : (W.flatten).Perm (W.at i ++ (W.set i []).flatten) := by
  have := wflat_set W i (W.at i) h
  rwa [wset_same h] at this
theorem wmem {W : Wheel} {t : Tm} : t ∈ W.flatten ↔ ∃ i, t ∈ W.at i := by
  rw [List.mem_flatten]
  constructor
  · rintro ⟨l, hl, ht⟩
    obtain ⟨i, hi⟩ := List.getElem?_of_mem hl
    exact ⟨i, by unfold Wheel.at; rw [List.getD_eq_getElem?_getD, hi]; exact ht⟩
  · rintro ⟨i, ht⟩
    unfold Wheel.at at ht
    rw [List.getD_eq_getElem?_getD] at ht
    cases h : W[i]? with
    | none => rw [h] at ht; simp at ht
    | some l =>
      rw [h] at ht
      exact ⟨l, List.mem_of_getElem? h, ht⟩
/-- A timer laid. -/
def Wheel.put (W : Wheel) (now : Nat) (t : Tm) : Wheel := W.set (place now t.due) (W.at (place now t.due) ++ [t])
theorem Wheel.put_len (W : Wheel) (now : Nat) (t : Tm) : (W.put now t).length = W.length := by simp [Wheel.put]
theorem Wheel.put_flat {W : Wheel} {now : Nat} {t : Tm} (h : place now t.due < W.length) : ((W.put now t).flatten).Perm (t :: W.flatten) := by
  unfold Wheel.put
  refine (wflat_set W _ _ h).trans ?_
  refine List.Perm.trans ?_ ((wflat_take h).symm.cons t)
  rw [List.append_assoc]
  exact List.perm_middle
theorem Wheel.put_at {W : Wheel} {now : Nat} {t : Tm} (h : place now t.due < W.length) (j : Nat) : (W.put now t).at j = if place now t.due = j then W.at j ++ [t] else W.at j := by
  unfold Wheel.put
  rw [Wheel.at_set W h]
  split
  · rename_i e; rw [e]
  · rfl
def Wheel.puts (W : Wheel) (now : Nat) (l : List Tm) : Wheel := l.foldl (fun W t => W.put now t) W
theorem Wheel.puts_len (now : Nat) : ∀ (l : List Tm) (W : Wheel), (W.puts now l).length = W.length
  | [], W => rfl
  | t :: l, W => by
    show (Wheel.puts (W.put now t) now l).length = _
    rw [Wheel.puts_len now l, Wheel.put_len]
theorem Wheel.puts_flat {now : Nat} : ∀ (l : List Tm) (W : Wheel), (∀ t ∈ l, place now t.due < W.length) → ((W.puts now l).flatten).Perm (l ++ W.flatten)
  | [], W, _ => List.Perm.refl _
  | t :: l, W, h => by
    have h1 := Wheel.put_flat (h t (List.mem_cons_self ..))
    have h2 := Wheel.puts_flat (now := now) l (W.put now t) (fun u hu => by rw [Wheel.put_len]; exact h u (List.mem_cons_of_mem _ hu))
    refine h2.trans ((h1.append_left l).trans ?_)
    exact List.perm_middle
theorem Wheel.puts_mem {now : Nat} : ∀ (l : List Tm) (W : Wheel), (∀ t ∈ l, place now t.due < W.length) → ∀ (j : Nat) (u : Tm), u ∈ (W.puts now l).at j ↔ u ∈ W.at j ∨ (u ∈ l ∧ place now u.due = j)
  | [], W, _, j, u => by simp [Wheel.puts]
  | t :: l, W, h, j, u => by
    have h2 := Wheel.puts_mem (now := now) l (W.put now t) (fun u hu => by rw [Wheel.put_len]; exact h u (List.mem_cons_of_mem _ hu)) j u
    show u ∈ Wheel.at (Wheel.puts (W.put now t) now l) j ↔ _
    rw [h2, Wheel.put_at (h t (List.mem_cons_self ..))]
    by_cases e : place now t.due = j
    · rw [if_pos e, List.mem_append, List.mem_singleton, List.mem_cons]
      constructor
      · rintro ((h | rfl) | h)
        · exact .inl h
        · exact .inr ⟨.inl rfl, e⟩
        · exact .inr ⟨.inr h.1, h.2⟩
      · rintro (h | ⟨rfl | h, h3⟩)
        · exact .inl (.inl h)
        · exact .inl (.inr rfl)
        · exact .inr ⟨h, h3⟩
    · rw [if_neg e, List.mem_cons]
      constructor
      · rintro (h | h)
        · exact .inl h
        · exact .inr ⟨.inr h.1, h.2⟩
      · rintro (h | ⟨rfl | h, h3⟩)
        · exact .inl h
        · exact absurd h3 e
        · exact .inr ⟨h, h3⟩
/-- Each timer in its place. -/
structure WOk (now : Nat) (W : Wheel) : Prop where
  len : W.length = 448
  now42 : now < 2 ^ 42
  pl : ∀ (i : Nat) (t : Tm), t ∈ W.at i → now ≤ t.due ∧ t.due < 2 ^ 42 ∧ place now t.due = i
theorem WOk.put {now : Nat} {W : Wheel} (h : WOk now W) {t : Tm} (h1 : now ≤ t.due) (h2 : t.due < 2 ^ 42) : WOk now (W.put now t) := by
  refine ⟨by rw [Wheel.put_len]; exact h.len, h.now42, fun i u hu => ?_⟩
  rw [Wheel.put_at (by rw [h.len]; exact place_lt h.now42 h2)] at hu
  split at hu
  · rename_i e
    rcases List.mem_append.1 hu with hu | hu
    · exact h.pl i u hu
    · obtain rfl := List.mem_singleton.1 hu
      exact ⟨h1, h2, e⟩
  · exact h.pl i u hu
theorem WOk.take {now : Nat} {W : Wheel} (h : WOk now W) (i : Nat) (hi : i < 448) : WOk now (W.set i []) := by
  refine ⟨by simp [h.len], h.now42, fun j u hu => ?_⟩
  rw [Wheel.at_set W (by rw [h.len]; exact hi)] at hu
  split at hu
  · simp at hu
  · exact h.pl j u hu
theorem WOk.puts {now : Nat} : ∀ (l : List Tm) {W : Wheel}, WOk now W → (∀ t ∈ l, now ≤ t.due ∧ t.due < 2 ^ 42) → WOk now (W.puts now l)
  | [], W, h, _ => h
  | t :: l, W, h, hl => WOk.puts l (h.put (hl t (List.mem_cons_self ..)).1 (hl t (List.mem_cons_self ..)).2) (fun u hu => hl u (List.mem_cons_of_mem _ hu))

/-! ### The turn -/
/-- A slot of a level comes down. -/
def Wheel.down (W : Wheel) (to l : Nat) : Wheel := Wheel.puts (W.set (l * 64 + slot to l) []) to (W.at (l * 64 + slot to l))
/-- Half turned: levels above L stand as the new time wants it. -/
structure Half (to : Nat) (W : Wheel) (L : Nat) : Prop where
  len : W.length = 448
  to42 : to < 2 ^ 42
  pl : ∀ (l s : Nat) (t : Tm), s < 64 → t ∈ W.at (l * 64 + s) → to ≤ t.due ∧ t.due < 2 ^ 42 ∧ slot t.due l = s ∧ to / 64 ^ (l + 1) = t.due / 64 ^ (l + 1) ∧ (L < l → Lv to t.due l)
theorem div_mid {a b c k : Nat} (h1 : a ≤ b) (h2 : b ≤ c) (h : a / k = c / k) : b / k = c / k :=
  Nat.le_antisymm (Nat.div_le_div_right h2) (by rw [← h]; exact Nat.div_le_div_right h1)
theorem Half.start {now to : Nat} {W : Wheel} (h : WOk now W) (h1 : now ≤ to) (h2 : to < 2 ^ 42) (h3 : ∀ t ∈ W.flatten, to ≤ t.due) : Half to W 6 := by
  refine ⟨h.len, h2, fun l s t hs ht => ?_⟩
  obtain ⟨a, b, c⟩ := h.pl _ _ ht
  have hto := h3 t (wmem.2 ⟨_, ht⟩)
  obtain ⟨d, e⟩ := (place_iff h.now42 b hs).1 c
  refine ⟨hto, b, e, div_mid h1 hto d.up, fun hl => ?_⟩
  have := (lvl_spec h.now42 b)
  have := this.1.one d
  omega
theorem Half.down {to L : Nat} {W : Wheel} (h : Half to W L) (hL : 1 ≤ L) (hL6 : L ≤ 6) : Half to (W.down to L) (L - 1) ∧ ((W.down to L).flatten).Perm W.flatten := by
  have hs := slot_lt to L
  have hi : L * 64 + slot to L < W.length := by rw [h.len]; omega
  have hpl : ∀ t ∈ W.at (L * 64 + slot to L), place to t.due < (W.set (L * 64 + slot to L) []).length := fun t ht => by
    rw [List.length_set, h.len]
    exact place_lt h.to42 (h.pl L _ t hs ht).2.1
  constructor
  · refine ⟨by unfold Wheel.down; rw [Wheel.puts_len, List.length_set]; exact h.len, h.to42, fun l s t hs' ht => ?_⟩
    unfold Wheel.down at ht
    rw [Wheel.puts_mem _ _ hpl, Wheel.at_set W hi] at ht
    rcases ht with ht | ⟨ht, hp⟩
    · split at ht
      · simp at ht
      · rename_i hne
        obtain ⟨a, b, c, d, e⟩ := h.pl l s t hs' ht
        refine ⟨a, b, c, d, fun hl => ?_⟩
        by_cases hlL : L < l
        · exact e hlL
        · have : l = L := by omega
          subst this
          refine ⟨d, .inr fun hd => hne ?_⟩
          have e1 := div_split to l
          have e2 := div_split t.due l
          omega
    · obtain ⟨a, b, c, d, e⟩ := h.pl L _ t hs ht
      obtain ⟨f, g⟩ := (place_iff h.to42 b hs').1 hp
      refine ⟨a, b, g, f.up, fun _ => f⟩
  · unfold Wheel.down
    exact (Wheel.puts_flat _ _ hpl).trans (wflat_take hi).symm
theorem Half.done {to : Nat} {W : Wheel} (h : Half to W 0) : WOk to W := by
  refine ⟨h.len, h.to42, fun i t ht => ?_⟩
  obtain ⟨l, s, hs, rfl⟩ : ∃ l s, s < 64 ∧ i = l * 64 + s := ⟨i / 64, i % 64, Nat.mod_lt _ (by decide), by omega⟩
  obtain ⟨a, b, c, d, e⟩ := h.pl l s t hs ht
  refine ⟨a, b, (place_iff h.to42 b hs).2 ⟨?_, c⟩⟩
  by_cases hl : 0 < l
  · exact e hl
  · have : l = 0 := by omega
    subst this
    exact ⟨d, .inl rfl⟩

/-! ### What is next -/
/-- The first place of the wheel that holds anything. -/
structure First (W : Wheel) (i : Nat) : Prop where
  some : W.at i ≠ []
  none : ∀ j, j < i → W.at j = []
theorem div_lt_of {a b k : Nat} (h : a / k < b / k) : a < b := by
  by_cases hab : b ≤ a
  · exact absurd (Nat.div_le_div_right (c := k) hab) (by omega)
  · omega
theorem div_le_up {a b l m : Nat} (hm : l ≤ m) (h : a / 64 ^ m < b / 64 ^ m) : a / 64 ^ l < b / 64 ^ l := by
  by_cases hab : b / 64 ^ l ≤ a / 64 ^ l
  · obtain ⟨k, rfl⟩ : ∃ k, m = l + k := ⟨m - l, by omega⟩
    rw [Nat.pow_add, ← Nat.div_div_eq_div_mul, ← Nat.div_div_eq_div_mul] at h
    exact absurd (Nat.div_le_div_right (c := 64 ^ k) hab) (by omega)
  · omega
/-- What stands first comes first. -/
theorem First.least {now : Nat} {W : Wheel} (h : WOk now W) {i : Nat} (hf : First W i) {t u : Tm} (ht : t ∈ W.at i) (hm : ∀ x ∈ W.at i, t.due ≤ x.due) (hu : u ∈ W.flatten) : t.due ≤ u.due := by
  obtain ⟨j, hj⟩ := wmem.1 hu
  rcases Nat.lt_trichotomy j i with hlt | rfl | hgt
  · rw [hf.none j hlt] at hj
    simp at hj
  · exact hm u hj
  · obtain ⟨l, s, hs, rfl⟩ : ∃ l s, s < 64 ∧ i = l * 64 + s := ⟨i / 64, i % 64, Nat.mod_lt _ (by decide), by omega⟩
    obtain ⟨l', s', hs', rfl⟩ : ∃ l s, s < 64 ∧ j = l * 64 + s := ⟨j / 64, j % 64, Nat.mod_lt _ (by decide), by omega⟩
    obtain ⟨a, b, c⟩ := h.pl _ _ ht
    obtain ⟨a', b', c'⟩ := h.pl _ _ hj
    obtain ⟨d, e⟩ := (place_iff h.now42 b hs).1 c
    obtain ⟨d', e'⟩ := (place_iff h.now42 b' hs').1 c'
    refine Nat.le_of_lt ?_
    by_cases hl : l = l'
    · subst hl
      have e1 := div_split t.due l
      have e2 := div_split u.due l
      have e3 := d.up.symm.trans d'.up
      exact div_lt_of (k := 64 ^ l) (by omega)
    · have hll : l < l' := by omega
      have h1 : now / 64 ^ l' = t.due / 64 ^ l' := div_up d.up hll
      rcases d'.at' with h2 | h2
      · omega
      · have h3 := Nat.div_le_div_right (c := 64 ^ l') a'
        exact div_lt_of (k := 64 ^ l') (by omega)
/-- What stands at the time itself. -/
theorem WOk.due {now : Nat} {W : Wheel} (h : WOk now W) (t : Tm) : t ∈ W.at (slot now 0) ↔ t ∈ W.flatten ∧ t.due = now := by
  constructor
  · intro ht
    refine ⟨wmem.2 ⟨_, ht⟩, ?_⟩
    obtain ⟨a, b, c⟩ := h.pl _ _ ht
    obtain ⟨d, e⟩ := (place_iff (l := 0) (s := slot now 0) h.now42 b (slot_lt _ _)).1 (by omega)
    have e1 := div_split now 0
    have e2 := div_split t.due 0
    have := d.up
    simp only [Nat.pow_zero, Nat.div_one] at e1 e2
    omega
  · rintro ⟨ht, rfl⟩
    obtain ⟨i, hi⟩ := wmem.1 ht
    obtain ⟨a, b, c⟩ := h.pl _ _ hi
    rw [place_self h.now42] at c
    rw [c]
    exact hi
end Go.Proofs.YtbkbcpnpbfnmgaaDoor
