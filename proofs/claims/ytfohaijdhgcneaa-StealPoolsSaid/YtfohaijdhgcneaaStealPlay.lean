/- A race is played to its end: what its actors say, and in which order. -/
import Derived.Test.YtfohaijdhgcneaaStealQueue
import Derived.Test.YtfohaijdhgcneaaStealOver
import Derived.Test.YtfohaijdhgcneaaStealRest
import Derived.Test.YtfohaijdhgcneaaStealNew
set_option linter.unusedVariables false
set_option linter.unusedSimpArgs false
namespace Go.Proofs.Ytfohaijdhgcneaa
open Go Go.RowKit

/-- What an actor's step says, if its operation ends. -/
def Rc.say (R : Rc) (i : Int) : List (Int × Int) :=
  if (R.got i).length < ((R.step i).1.got i).length then [(i, ((R.step i).1.got i).getD (((R.step i).1.got i).length - 1) 0)] else []
/-- Steps in an order: the race, and all that was said. -/
def Rc.runs : Rc × List (Int × Int) → List Int → Rc × List (Int × Int)
  | p, [] => p
  | p, i :: l => Rc.runs ((p.1.step i).1, p.2 ++ p.1.say i) l
theorem runs_append : ∀ (l1 l2 : List Int) (p : Rc × List (Int × Int)), Rc.runs p (l1 ++ l2) = Rc.runs (Rc.runs p l1) l2
  | [], _, _ => rfl
  | i :: l1, l2, p => runs_append l1 l2 _
/-- What has been done to a deque, by whom: the owner's results. -/
inductive Hist (room : Nat) (own : List Int) : List (Int × Int) → List Int → List Int → Prop
  | nil : Hist room own [] [] []
  | mine {out : List (Int × Int)} {g q q' : List Int} {r : Int} : Hist room own out g q → g.length < own.length → Ev room 0 (own.getD g.length 0) r q q' → Hist room own (out ++ [(0, r)]) (g ++ [r]) q'
  | theirs {out : List (Int × Int)} {g q q' : List Int} {i : Nat} {op r : Int} : Hist room own out g q → 0 < i → Ev room i op r q q' → Hist room own (out ++ [((i : Int), r)]) g q'
/-- Somebody else has ended an operation with a number since the last one of i. -/
def Since (i : Int) (out : List (Int × Int)) : Prop := ∃ l1 l2, out = l1 ++ l2 ∧ (∀ e ∈ l2, e.1 ≠ i) ∧ ∃ e ∈ l2, 0 < e.2
theorem Since.more {i : Int} {out : List (Int × Int)} (h : Since i out) {j r : Int} (hj : j ≠ i) : Since i (out ++ [(j, r)]) := by
  obtain ⟨l1, l2, rfl, h1, e, h2, h3⟩ := h
  refine ⟨l1, l2 ++ [(j, r)], by simp, fun e he => ?_, e, by simp [h2], h3⟩
  rcases List.mem_append.1 he with he | he
  · exact h1 e he
  · simp at he
    subst he
    exact hj
theorem Since.now (i : Int) (out : List (Int × Int)) {j r : Int} (hj : j ≠ i) (hr : 0 < r) : Since i (out ++ [(j, r)]) :=
  ⟨out, [(j, r)], rfl, fun e he => by simp at he; subst he; exact hj, (j, r), by simp, hr⟩
structure Tr (R : Rc) (out : List (Int × Int)) (q : List Int) : Prop where
  deq : Deq R q
  hist : ∃ a, R.acts[0]? = some a ∧ Hist R.room R.own out a.got q
  prog : ∀ (i : Nat) (s : Act), 0 < i → R.acts[i]? = some s → 1 ≤ s.step → s.t < R.top → Since i out
  miss : ∀ (l1 l2 : List (Int × Int)) (i : Int), out = l1 ++ (i, -1) :: l2 → i ≠ 0 → Since i l1
theorem steal_t {R : Rc} {a : Act} (hs : a.step ≤ 3) (h : (stealS R a).2.got = a.got) : (stealS R a).2.t = (if a.step = 0 then R.top else a.t) := by
  unfold stealS at h ⊢
  split
  · rfl
  · rename_i h0
    rw [if_neg h0] at h
    split
    · rename_i h1
      rw [if_pos h1] at h
      split
      · rename_i h2; rw [if_pos h2] at h; simp [Act.done] at h
      · rfl
    · rename_i h1
      rw [if_neg h1] at h
      split
      · rfl
      · rename_i h2
        rw [if_neg h2] at h
        split
        · rename_i h3; rw [if_pos h3] at h; simp [Act.done] at h
        · rename_i h3; rw [if_neg h3] at h; simp [Act.done] at h
theorem steal_miss {R : Rc} {a : Act} (h : (stealS R a).2.got = a.got ++ [-1]) (ht : (stealS R a).1.top = R.top) : 2 ≤ a.step ∧ R.top ≠ a.t := by
  unfold stealS at h ht
  by_cases h0 : a.step = 0
  · rw [if_pos h0] at h; simp at h
  rw [if_neg h0] at h ht
  by_cases h1 : a.step = 1
  · rw [if_pos h1] at h
    split at h
    · simp [Act.done] at h
    · simp at h
  rw [if_neg h1] at h ht
  by_cases h2 : a.step = 2
  · rw [if_pos h2] at h; simp at h
  rw [if_neg h2] at h ht
  by_cases h3 : R.top = a.t
  · rw [if_pos h3] at ht
    simp at ht
    omega
  · exact ⟨by omega, h3⟩
theorem append_one {l1 l2 : List (Int × Int)} {x y : Int × Int} {out : List (Int × Int)} (h : out ++ [y] = l1 ++ x :: l2) : (l1 = out ∧ x = y ∧ l2 = []) ∨ ∃ l3, out = l1 ++ x :: l3 := by
  rcases List.eq_nil_or_concat l2 with rfl | ⟨l3, z, rfl⟩
  · have := List.append_inj' h rfl
    simp at this
    exact .inl ⟨this.1.symm, this.2.symm, rfl⟩
  · refine .inr ⟨l3, ?_⟩
    have h2 : out ++ [y] = (l1 ++ x :: l3) ++ [z] := by simpa using h
    exact (List.append_inj' h2 rfl).1
theorem step_none {R : Rc} {i : Int} (h : (R.step i).2 = false) : (R.step i).1 = R := by
  unfold Rc.step at h ⊢
  split
  · rfl
  · rename_i h0
    rw [if_neg h0] at h
    split
    · rfl
    · rename_i a ha
      rw [ha] at h
      split
      · rfl
      · rename_i h1
        simp only [if_neg h1] at h
        cases h
theorem step_some {R : Rc} {i : Int} (h : (R.step i).2 = true) : ∃ a, i = ((i.toNat : Nat) : Int) ∧ R.acts[i.toNat]? = some a ∧ a.got.length ≠ a.n ∧ (R.step i).1 = R.go i.toNat a := by
  unfold Rc.step at h ⊢
  by_cases h0 : i < 0
  · rw [if_pos h0] at h; cases h
  rw [if_neg h0] at h ⊢
  cases ha : R.acts[i.toNat]? with
  | none => rw [ha] at h; cases h
  | some a =>
    rw [ha] at h
    simp only at h ⊢
    by_cases h1 : a.got.length = a.n
    · rw [if_pos h1] at h; cases h
    · rw [if_neg h1]
      exact ⟨a, by omega, rfl, h1, rfl⟩
theorem got_at {R : Rc} {i : Nat} {a : Act} (h : R.acts[i]? = some a) : R.got (i : Int) = a.got := by
  unfold Rc.got
  rw [if_neg (by omega), show ((i : Int)).toNat = i by omega, h]
theorem go_got {R : Rc} {i : Nat} {a : Act} (h : R.acts[i]? = some a) : (R.go i a).got (i : Int) = (opS R i a).2.got := by
  refine got_at ?_
  show (R.acts.set i _)[i]? = _
  rw [List.getElem?_set, if_pos rfl, if_pos (List.getElem?_eq_some_iff.1 h).1]
theorem say_go {R : Rc} {i : Nat} {a : Act} (h : R.acts[i]? = some a) (hn : a.got.length ≠ a.n) : R.step (i : Int) = (R.go i a, true) := by
  unfold Rc.step
  rw [if_neg (by omega), show ((i : Int)).toNat = i by omega, h]
  simp only
  rw [if_neg hn]
theorem say_same {R : Rc} {i : Int} (h : ((R.step i).1.got i).length = (R.got i).length) : R.say i = [] := by
  unfold Rc.say
  rw [if_neg (by omega)]
theorem say_one {R : Rc} {i r : Int} (h : (R.step i).1.got i = R.got i ++ [r]) : R.say i = [(i, r)] := by
  unfold Rc.say
  rw [h, if_pos (by simp)]
  simp [List.getD_eq_getElem?_getD]
theorem go_room (R : Rc) (i : Nat) (a : Act) : (R.go i a).room = R.room := (op_room R i a).1

/-- A step keeps all. -/
theorem Tr.step {R : Rc} {out : List (Int × Int)} {q : List Int} (h : Tr R out q) (i : Int) : ∃ q', Tr (R.step i).1 (out ++ R.say i) q' := by
  cases hb : (R.step i).2 with
  | false =>
    have e := step_none hb
    rw [say_same (by rw [e]), e, List.append_nil]
    exact ⟨q, h⟩
  | true =>
    obtain ⟨a, hi, ha, hn, e⟩ := step_some hb
    obtain ⟨k, hk⟩ : ∃ k, k = i.toNat := ⟨_, rfl⟩
    rw [← hk] at hi ha e
    subst hi
    clear hk
    have han := h.deq.ok.an k a ha
    have hil := (List.getElem?_eq_some_iff.1 ha).1
    obtain ⟨a0, hz, hh⟩ := h.hist
    obtain ⟨_, p1, p2, p3, p4, p5, p6, p7, p8⟩ := h.deq.ok.own
    have hgg := go_got ha
    have hgi : ∀ (j : Nat) (s : Act), k ≠ j → ((R.go k a).acts[j]? = some s ↔ R.acts[j]? = some s) := fun j s hj => by
      show (R.acts.set k _)[j]? = some s ↔ _
      rw [List.getElem?_set, if_neg hj]
    have hgk : (R.go k a).acts[k]? = some (opS R k a).2 := by
      show (R.acts.set k _)[k]? = _
      rw [List.getElem?_set, if_pos rfl, if_pos hil]
    have htop : (R.go k a).top = (opS R k a).1.top := rfl
    rw [e]
    rcases h.deq.go ha hn with ⟨h1, h2, h3⟩ | ⟨r, q', h1, h2, h3, h4, h5⟩
    · rw [say_same (by rw [e, hgg, h1, got_at ha]), List.append_nil]
      refine ⟨q, h3, ?_, fun j s hj hs hst ht => ?_, h.miss⟩
      · rw [go_room, go_own]
        by_cases hk : k = 0
        · subst hk
          rw [hz] at ha
          cases ha
          exact ⟨_, hgk, by rw [h1]; exact hh⟩
        · exact ⟨a0, (hgi 0 a0 hk).2 hz, hh⟩
      · rw [htop, h2] at ht
        by_cases hk : k = j
        · subst hk
          rw [hgk] at hs
          cases hs
          have e2 := op_thv R k a (by omega)
          rw [e2] at h1 ht
          rw [steal_t han.2.2.1 h1] at ht
          split at ht
          · omega
          · exact h.prog k a hj ha (by omega) ht
        · exact h.prog j s hj ((hgi j s hk).1 hs) hst ht
    · rw [say_one (r := r) (by rw [e, hgg, h1, got_at ha])]
      refine ⟨q', h5, ?_, fun j s hj hs hst ht => ?_, fun l1 l2 j hl hj => ?_⟩
      · rw [go_room, go_own]
        by_cases hk : k = 0
        · subst hk
          rw [hz] at ha
          cases ha
          rw [hz] at p1
          cases p1
          exact ⟨_, hgk, by rw [h1]; exact hh.mine (by omega) h3⟩
        · exact ⟨a0, (hgi 0 a0 hk).2 hz, hh.theirs (by omega) h3⟩
      · by_cases hk : k = j
        · subst hk
          rw [hgk] at hs
          cases hs
          omega
        · have hs' := (hgi j s hk).1 hs
          by_cases hp : 0 < r
          · exact Since.now _ _ (by omega) hp
          · have ht2 : (R.go k a).top = R.top := h4.resolve_right hp
            rw [ht2] at ht
            exact (h.prog j s hj hs' hst ht).more (by omega)
      · rcases append_one hl with ⟨rfl, hx, _⟩ | ⟨l3, rfl⟩
        · have hx1 : j = (k : Int) := congrArg Prod.fst hx
          have hx2 : -1 = r := congrArg Prod.snd hx
          subst hx1 hx2
          have e2 := op_thv R k a (by omega)
          have ht2 := h4.resolve_right (by omega)
          rw [e2] at h1 ht2
          obtain ⟨g1, g2⟩ := steal_miss h1 ht2
          have := (p8 k a (by omega) ha (by omega)).2.1
          exact h.prog k a (by omega) ha (by omega) (by omega)
        · exact h.miss l1 l3 j rfl hj
theorem Tr.runs : ∀ (l : List Int) {R : Rc} {out : List (Int × Int)} {q : List Int}, Tr R out q → ∃ q', Tr (Rc.runs (R, out) l).1 (Rc.runs (R, out) l).2 q'
  | [], _, _, q, h => ⟨q, h⟩
  | i :: l, R, out, q, h => by
    obtain ⟨q', h'⟩ := h.step i
    exact Tr.runs l h'
theorem Tr.start {room : Nat} {own thv : List Int} {ts : List Nat} (h : (Rc.start room own thv ts).Ok) : Tr (Rc.start room own thv ts) [] [] := by
  have hst : ∀ (i : Nat) (s : Act), (Rc.start room own thv ts).acts[i]? = some s → s.step = 0 := fun i s hs => by
    have hm := List.mem_of_getElem? hs
    rcases List.mem_cons.1 hm with rfl | hm
    · rfl
    · obtain ⟨n, _, rfl⟩ := List.mem_map.1 hm
      rfl
  refine ⟨⟨h, fun x hx => by simp at hx, by simp, fun k hk => by simp at hk, fun a ha => ?_, fun i s h0 hs h3 => ?_⟩, ⟨_, rfl, .nil⟩, fun i s h0 hs h1 => ?_, fun l1 l2 i hl => by simp at hl⟩
  · have := hst 0 a ha
    have tk : decide ((Rc.start room own thv ts).tak a) = false := by simp [Rc.tak, this]
    rw [tk, lim_false]
    exact ⟨rfl, fun _ h => by omega, fun _ h => by omega⟩
  · have := hst i s hs
    omega
  · have := hst i s hs
    omega
/-! ### To the end -/
theorem step_len (R : Rc) (i : Int) : (R.step i).1.acts.length = R.acts.length := by
  cases hb : (R.step i).2 with
  | false => rw [step_none hb]
  | true =>
    obtain ⟨a, hi, ha, hn, e⟩ := step_some hb
    rw [e]
    show (R.acts.set _ _).length = _
    rw [List.length_set]
theorem step_keep (R : Rc) (i : Int) (k : Nat) (a : Act) (hk : (k : Int) ≠ i) (h : R.acts[k]? = some a) : (R.step i).1.acts[k]? = some a := by
  cases hb : (R.step i).2 with
  | false => rw [step_none hb]; exact h
  | true =>
    obtain ⟨b, hi, hb2, hn, e⟩ := step_some hb
    rw [e]
    show (R.acts.set _ _)[k]? = _
    rw [List.getElem?_set, if_neg (by omega)]
    exact h
/-- An actor that has made m steps since. -/
theorem step_more {R : Rc} (hok : R.Ok) {k m : Nat} {a : Act} (h : R.acts[k]? = some a) (hm : a.got.length = a.n ∨ m ≤ 4 * a.got.length + a.step) : ∃ b, (R.step (k : Int)).1.acts[k]? = some b ∧ (b.got.length = b.n ∨ m + 1 ≤ 4 * b.got.length + b.step) := by
  by_cases hn : a.got.length = a.n
  · have e : R.step (k : Int) = (R, false) := by
      unfold Rc.step
      rw [if_neg (by omega), show ((k : Int)).toNat = k by omega, h]
      simp only
      rw [if_pos hn]
    rw [e]
    exact ⟨a, h, .inl hn⟩
  · rw [say_go h hn]
    have han := hok.an k a h
    have ho := op_act R k a han.2.2.1 (by omega)
    refine ⟨(opS R k a).2, ?_, .inr ?_⟩
    · show (R.acts.set k _)[k]? = _
      rw [List.getElem?_set, if_pos rfl, if_pos (List.getElem?_eq_some_iff.1 h).1]
    · have := hm.resolve_left hn
      omega
theorem runs_ok : ∀ (l : List Int) (R : Rc) (out : List (Int × Int)), R.Ok → (Rc.runs (R, out) l).1.Ok ∧ (Rc.runs (R, out) l).1.acts.length = R.acts.length
  | [], _, _, h => ⟨h, rfl⟩
  | i :: l, R, out, h => by
    have := runs_ok l (R.step i).1 (out ++ R.say i) (h.step i)
    exact ⟨this.1, this.2.trans (step_len R i)⟩
theorem runs_rep : ∀ (m : Nat) (R : Rc) (out : List (Int × Int)) (k c : Nat) (a : Act), R.Ok → R.acts[k]? = some a → (a.got.length = a.n ∨ c ≤ 4 * a.got.length + a.step) → ∃ b, (Rc.runs (R, out) (List.replicate m (k : Int))).1.acts[k]? = some b ∧ (b.got.length = b.n ∨ c + m ≤ 4 * b.got.length + b.step)
  | 0, R, out, k, c, a, hok, h, hm => ⟨a, h, hm⟩
  | m + 1, R, out, k, c, a, hok, h, hm => by
    obtain ⟨b, h1, h2⟩ := step_more hok h hm
    obtain ⟨b2, h3, h4⟩ := runs_rep m _ (out ++ R.say k) k (c + 1) b (hok.step _) h1 h2
    rw [List.replicate_succ]
    exact ⟨b2, h3, h4.imp id (fun h => by omega)⟩
theorem runs_keep : ∀ (l : List Int) (R : Rc) (out : List (Int × Int)) (k : Nat) (a : Act), (∀ i ∈ l, (k : Int) ≠ i) → R.acts[k]? = some a → (Rc.runs (R, out) l).1.acts[k]? = some a
  | [], _, _, _, _, _, h => h
  | i :: l, R, out, k, a, hl, h => runs_keep l _ _ k a (fun j hj => hl j (List.mem_cons_of_mem _ hj)) (step_keep R i k a (hl i (List.mem_cons_self ..)) h)
/-- The actors one after the other. -/
def tailOf (n : Nat) : List Int := (List.range n).flatMap fun (k : Nat) => List.replicate 240 (k : Int)
theorem tailOf_succ (n : Nat) : tailOf (n + 1) = tailOf n ++ List.replicate 240 (n : Int) := by
  unfold tailOf
  rw [List.range_succ, List.flatMap_append]
  simp
theorem runs_tail (n : Nat) (R : Rc) (out : List (Int × Int)) (hok : R.Ok) : ∀ (k : Nat) (a : Act), k < n → (Rc.runs (R, out) (tailOf n)).1.acts[k]? = some a → a.got.length = a.n := by
  induction n with
  | zero => intro k a h; omega
  | succ n ih =>
    intro k a hk ha
    rw [tailOf_succ, runs_append] at ha
    obtain ⟨R1, out1, he⟩ : ∃ R1 out1, Rc.runs (R, out) (tailOf n) = (R1, out1) := ⟨_, _, rfl⟩
    have h1 := runs_ok (tailOf n) R out hok
    rw [he] at ha h1 ih
    have h2 := runs_ok (List.replicate 240 (n : Int)) R1 out1 h1.1
    have hkl : k < R1.acts.length := by rw [← h2.2]; exact (List.getElem?_eq_some_iff.1 ha).1
    by_cases hkn : k = n
    · subst hkn
      obtain ⟨b, h3, h4⟩ := runs_rep 240 R1 out1 k 0 _ h1.1 (List.getElem?_eq_getElem hkl) (.inr (Nat.zero_le _))
      rw [h3] at ha
      cases ha
      have := h2.1.an k _ h3
      omega
    · have h3 := runs_keep (List.replicate 240 (n : Int)) R1 out1 k _ (fun i hi => by have := List.eq_of_mem_replicate hi; omega) (List.getElem?_eq_getElem hkl)
      rw [h3] at ha
      cases ha
      exact ih k _ (by omega) (List.getElem?_eq_getElem hkl)
/-- The steps of a law's play. -/
def sched (order : List Int) : List Int := order.take 600 ++ tailOf 9
def Rc.play (R : Rc) (order : List Int) : Rc × List (Int × Int) := Rc.runs (R, []) (sched order)
theorem play_done {R : Rc} (hok : R.Ok) (order : List Int) : (R.play order).1.over = true ∧ ∀ (k : Nat) (a : Act), (R.play order).1.acts[k]? = some a → a.got.length = a.n := by
  have h : ∀ (k : Nat) (a : Act), (R.play order).1.acts[k]? = some a → a.got.length = a.n := fun k a ha => by
    have hk := (runs_ok (sched order) R [] hok)
    have hkl : k < 9 := by
      have := (List.getElem?_eq_some_iff.1 ha).1
      have h2 := hk.2
      have := hok.al
      unfold Rc.play at this
      unfold Rc.play at *
      omega
    unfold Rc.play sched at ha
    rw [runs_append] at ha
    have hok1 := (runs_ok (order.take 600) R [] hok).1
    obtain ⟨R1, out1, he⟩ : ∃ R1 out1, Rc.runs (R, []) (order.take 600) = (R1, out1) := ⟨_, _, rfl⟩
    rw [he] at ha hok1
    exact runs_tail 9 R1 out1 hok1 k a hkl ha
  refine ⟨?_, h⟩
  unfold Rc.over
  rw [List.all_eq_true]
  intro a ha
  obtain ⟨k, hk⟩ := List.getElem?_of_mem ha
  simp [h k a hk]
/-- What is left, when all is done. -/
theorem Deq.rest {R : Rc} {q : List Int} (h : Deq R q) (hd : ∀ (k : Nat) (a : Act), R.acts[k]? = some a → a.got.length = a.n) : R.rest = q := by
  obtain ⟨a0, p1, _⟩ := h.ok.own
  have h1 := (h.own a0 p1).1
  have han := h.ok.an 0 a0 p1
  have hs : a0.step = 0 := by
    have := hd 0 a0 p1
    omega
  have tk : decide (R.tak a0) = false := by simp [Rc.tak, hs]
  rw [tk, lim_false] at h1
  have hl : (R.bot - R.top).toNat = q.length := by omega
  unfold Rc.rest
  rw [hl]
  refine List.ext_getElem? fun k => ?_
  unfold Rc.upto
  rw [List.getElem?_map]
  by_cases hk : k < q.length
  · rw [List.getElem?_range hk, Option.map_some, h.val k hk, List.getD_eq_getElem?_getD, List.getElem?_eq_getElem hk]
    rfl
  · rw [List.getElem?_eq_none (by simpa using hk), List.getElem?_eq_none (by omega)]
    rfl
end Go.Proofs.Ytfohaijdhgcneaa
