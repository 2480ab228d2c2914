/- A pool's calls and those of the reference, each as one contract. -/
import Derived.Test.YtfohaijdhgcneaaRefPE
import Derived.Test.YtfohaijdhgcneaaPoolPure
import Derived.Test.YtfohaijdhgcneaaPoolCopy
set_option linter.unusedVariables false
set_option linter.unusedSimpArgs false
namespace Go.Proofs.Ytfohaijdhgcneaa
open Go Go.RowKit

set_option maxRecDepth 100000 in
set_option maxHeartbeats 4000000 in
theorem rnewpool_bad (w : World) (n : Int) (hn : ¬ (1 ≤ n ∧ n ≤ 8)) : Calls Try.prog 26 #[.int .i64 n] w fun e w' => e = .returned (.tuple #[.agg #[.slice none 0 0], .int .i64 2]) ∧ Only w w' := by
  go_enter Try.func26, Try.ntmps26
  have hB : Blk (w.alloc (.cells #[.slice none 0 0] 60)) w.heap.size 60 [.slice none 0 0] := Blk.new w [_] _
  have hO : Only w (w.alloc (.cells #[.slice none 0 0] 60)) := (Stay.refl _ w).alloc _
  have H := Lib.hid (And.intro hB hO)
  clear hB hO
  by_cases h1 : n < 1
  · have b1 : decide (n < 1) = true := decide_eq_true h1
    clear hn
    go_wp2_with fail
    have r0 := H.out.1.cell 0
    simp only [List.getElem?_cons_zero] at r0
    refine bodyPost_ret (v := .tuple #[.agg #[.slice none 0 0], .int .i64 2]) (by simp [results, Try.results26, go_sem, r0]) rfl ?_
    exact ⟨rfl, H.out.2⟩
  · have b1 : decide (n < 1) = false := decide_eq_false h1
    have b2 : decide (n > 8) = true := decide_eq_true (by omega)
    clear hn
    go_wp2_with fail
    have r0 := H.out.1.cell 0
    simp only [List.getElem?_cons_zero] at r0
    refine bodyPost_ret (v := .tuple #[.agg #[.slice none 0 0], .int .i64 2]) (by simp [results, Try.results26, go_sem, r0]) rfl ?_
    exact ⟨rfl, H.out.2⟩
set_option maxRecDepth 100000 in
set_option maxHeartbeats 4000000 in
theorem rnewpool_any (w : World) (n : Nat) (h1 : 1 ≤ n) (h8 : n ≤ 8) : Calls Try.prog 26 #[.int .i64 n] w fun e w' => ∃ v, e = .returned (.tuple #[.agg #[v], .int .i64 0]) ∧ RP w' v (List.replicate n []) (more (fun _ => False) w w') ∧ Only w w' := by
  obtain ⟨ii, hii0, hii1, hii2, hii3⟩ := info_parts infoQ
  obtain ⟨ar, har⟩ : ∃ ar, ar = (List.replicate n (Value.slice none 0 0)).toArray := ⟨_, rfl⟩
  have hmk : ∀ (W : World), (Instr.makeSlice 58 (.int .i64 n) (.int .i64 n)).run Try.prog W = .ok (.slice (some ⟨W.heap.size, 0, none⟩) n n) (W.alloc (.cells ar 22)) := fun W => by
    have h := run_makeSlice (P := Try.prog) W 58 22 ii (.slice none 0 0) (by rfl) hii0 hii1 .i64 .i64 n n (by omega) (by omega) (by rw [hii2]; omega) (by rw [hii3]; omega) (by omega)
    rw [hii2] at h
    simp only [Int.toNat_natCast, Nat.mul_one] at h
    rw [madeQ, ← har] at h
    simpa using h
  clear hii0 hii1 hii2 hii3
  have HA := Lib.hid har
  clear har
  go_enter Try.func26, Try.ntmps26
  go_wp2_with fail
  have hB : Blk ((w.alloc (.cells #[.slice (some ⟨w.heap.size + 1, 0, none⟩) n n] 60)).alloc (.cells ar 22)) w.heap.size 60 [.slice (some ⟨w.heap.size + 1, 0, none⟩) n n] := (Blk.new w [_] _).alloc _
  have r0 := hB.cell 0
  simp only [List.getElem?_cons_zero] at r0
  have hO : Only w ((w.alloc (.cells #[.slice (some ⟨w.heap.size + 1, 0, none⟩) n n] 60)).alloc (.cells ar 22)) := ((Stay.refl _ w).alloc _).alloc _
  refine bodyPost_ret (v := .tuple #[.agg #[.slice (some ⟨w.heap.size + 1, 0, none⟩) n n], .int .i64 0]) (by simp [results, Try.results26, go_sem, r0]) rfl ?_
  refine ⟨_, rfl, RP.start ?_, hO⟩
  rw [HA.out]
  exact owns_base (owns_newAt (w.alloc (.cells #[.slice (some ⟨w.heap.size + 1, 0, none⟩) n n] 60)) (List.replicate n (Value.slice none 0 0)) 22 1 n (w.heap.size + 1) (by simp) (by simp) (by simp only [maxLen]; omega) (Nat.le_refl _)) (by simp)
/-- A pool of the program and one of the reference, that share nothing. -/
structure PR (w W : World) (b kq : Nat) (qp qr : List (List Int)) (qv : Value) (vs : List Value) (v : Value) (R : Nat → Prop) : Prop where
  p : PoolAt w W b qp qv vs
  q : Blk W kq 60 [v]
  r : RP W v qr R
  lt : ∀ k, R k → k < W.heap.size
  off : ∀ k, R k → ¬ PBlk b qv vs k
  only : Only w W
  kw : w.heap.size ≤ kq
section
variable {w W W' : World} {b kq : Nat} {qp qr qp' qr' : List (List Int)} {qv v v' : Value} {vs : List Value} {R : Nat → Prop}
theorem PR.apart (h : PR w W b kq qp qr qv vs v R) : ¬ PBlk b qv vs kq := fun hk => by
  rcases hk with rfl | e | ⟨i, u, hu, e⟩
  · exact absurd (h.q.inj h.p.blk).1 (by decide)
  · exact own_ne_blk h.p.row h.q (by decide) kq e rfl
  · have hi := (List.getElem?_eq_some_iff.1 hu).1
    exact (h.p.q i u _ hu (List.getElem?_eq_getElem (by rw [← h.p.len]; exact hi))).ne_blk h.q (by decide) kq e rfl
theorem PR.then (h : PR w W b kq qp qr qv vs v R) (ho : Only W W') : PR w W' b kq qp qr qv vs v R :=
  ⟨h.p.only ho, ho.blk h.q, h.r.only ho, fun k hk => Nat.lt_of_lt_of_le (h.lt k hk) ho.size, h.off, h.only.trans' ho, h.kw⟩
/-- The program's call. -/
theorem PR.prog (h : PR w W b kq qp qr qv vs v R) (hp : PoolPost w W b qv vs qp' W') : ∃ vs', PR w W' b kq qp' qr qv vs' v R := by
  obtain ⟨vs', h1, h2, h3⟩ := hp
  refine ⟨vs', h1, h2.blk h.q h.apart, h.r.stay h2 h.off, fun k hk => Nat.lt_of_lt_of_le (h.lt k hk) h2.size, fun k hk hb => ?_, h.only.trans h2 (fun k hk hb => by have := (h.p.lt hb).1; omega), h.kw⟩
  rcases h3 k hb with h4 | h4
  · exact h.off k hk h4
  · have := h.lt k hk; omega
/-- The reference's call. -/
theorem PR.ref (h : PR w W b kq qp qr qv vs v R) (ho : Only W W') (hr : RP W' v' qr' (more R W W')) {W2 : World} (ho2 : Only W' W2) : PR w (W2.setCell ⟨kq, 0, none⟩ v') b kq qp qr' qv vs v' (more R W W') := by
  have h2 := h.then (ho.trans' ho2)
  have hs : Stay (fun k => k = kq) W2 (W2.setCell ⟨kq, 0, none⟩ v') := Stay.put (S := fun k => k = kq) (Stay.refl _ W2) rfl 0 v'
  refine ⟨h2.p.stay hs (fun k hk e => h2.apart (e ▸ hk)), h2.q.set 0 v', (hr.only ho2).aside h2.q (by decide) (by decide) 0 v', fun k hk => ?_, fun k hk hb => ?_, h2.only.new h.kw 0 v', h.kw⟩
  · have := more_lt h.lt ho.size k hk
    have := ho2.size
    simp
    omega
  · rcases hk with hk | hk
    · exact h.off k hk hb
    · have := (h.p.lt hb).2; omega
/-- Another pool of the program. -/
theorem PR.copied {b' : Nat} {qv' : Value} {vs' : List Value} (h : PR w W b kq qp qr qv vs v R) (ho : Only W W') (hp : PoolAt W W' b' qp qv' vs') : PR w W' b' kq qp qr qv' vs' v R := by
  have h2 := h.then ho
  refine ⟨⟨hp.blk, owns_base hp.row h.only.size, fun i u l hu hl => (hp.q i u l hu hl).rebase h.only.size, hp.off, Nat.le_trans h.only.size hp.bb⟩, h2.q, h2.r, h2.lt, fun k hk hb => ?_, h2.only, h.kw⟩
  have := (hp.lt hb).1
  have := h.lt k hk
  omega
end
theorem len_flat {qs : List (List Int)} (i : Nat) : (qs.getD i []).length ≤ qs.flatten.length := by
  by_cases h : i < qs.length
  · have := (flat_split h).length_eq
    rw [List.length_append] at this
    omega
  · rw [List.getD_eq_getElem?_getD, List.getElem?_eq_none (by omega)]
    simp
theorem replicate_flat (n : Nat) : (List.replicate n ([] : List Int)).flatten = [] := by
  induction n with
  | zero => rfl
  | succ n ih => rw [List.replicate_succ, List.flatten_cons, ih]; rfl

def pPut (qs : List (List Int)) (ow x : Int) : List (List Int) × Int :=
  if 1 ≤ ow ∧ ow ≤ (qs.length : Int) then (qs.set (ow.toNat - 1) (qs.getD (ow.toNat - 1) [] ++ [x]), 0) else (qs, 2)
def pNext (qs : List (List Int)) (ow seed : Int) : List (List Int) × Int × Int × Bool :=
  if 1 ≤ ow ∧ ow ≤ (qs.length : Int) then
    match qs.getD (ow.toNat - 1) [] with
    | x :: l => (qs.set (ow.toNat - 1) l, x, ow, true)
    | [] => match pFind qs (ow.toNat - 1 + 1) seed with
      | none => (qs, 0, 0, false)
      | some j => match (pHalf qs (ow.toNat - 1) j).getD (ow.toNat - 1) [] with
        | x :: l => ((pHalf qs (ow.toNat - 1) j).set (ow.toNat - 1) l, x, (j : Int) + 1, true)
        | [] => (qs, 0, 0, false)
  else (qs, 0, 0, false)
theorem pPut_in (qs : List (List Int)) {i : Nat} (hi : i < qs.length) (x : Int) : pPut qs ((i : Int) + 1) x = (qs.set i (qs.getD i [] ++ [x]), 0) := by
  unfold pPut
  rw [if_pos (by omega), show ((i : Int) + 1).toNat - 1 = i by omega]
theorem pNext_own {qs : List (List Int)} {i : Nat} (hi : i < qs.length) {x : Int} {l : List Int} (hx : qs.getD i [] = x :: l) (seed : Int) : pNext qs ((i : Int) + 1) seed = (qs.set i l, x, (i : Int) + 1, true) := by
  unfold pNext
  rw [if_pos (by omega), show ((i : Int) + 1).toNat - 1 = i by omega, hx]
theorem pNext_none {qs : List (List Int)} {i : Nat} (hi : i < qs.length) (hx : qs.getD i [] = []) {seed : Int} (hno : pFind qs (i + 1) seed = none) : pNext qs ((i : Int) + 1) seed = (qs, 0, 0, false) := by
  unfold pNext
  rw [if_pos (by omega), show ((i : Int) + 1).toNat - 1 = i by omega, hx]
  simp only [hno]
theorem pNext_some {qs : List (List Int)} {i j : Nat} (hi : i < qs.length) (hx : qs.getD i [] = []) {seed x : Int} {l : List Int} (hyes : pFind qs (i + 1) seed = some j) (hh : (pHalf qs i j).getD i [] = x :: l) : pNext qs ((i : Int) + 1) seed = ((pHalf qs i j).set i l, x, (j : Int) + 1, true) := by
  unfold pNext
  rw [if_pos (by omega), show ((i : Int) + 1).toNat - 1 = i by omega, hx]
  simp only [hyes, hh]
/-- What Next meets. -/
theorem next_ways {qs : List (List Int)} {ow : Int} (seed : Int) (h : 1 ≤ ow ∧ ow ≤ (qs.length : Int)) : ∃ i : Nat, ow = (i : Int) + 1 ∧ i < qs.length ∧
    ((∃ x l, qs.getD i [] = x :: l) ∨ (qs.getD i [] = [] ∧ pFind qs (i + 1) seed = none) ∨ ∃ j x l, qs.getD i [] = [] ∧ pFind qs (i + 1) seed = some j ∧ j < qs.length ∧ j ≠ i ∧ qs.getD j [] ≠ [] ∧ (pHalf qs i j).getD i [] = x :: l) := by
  obtain ⟨i, hi⟩ : ∃ i : Nat, ow = (i : Int) + 1 := ⟨ow.toNat - 1, by omega⟩
  have hil : i < qs.length := by omega
  refine ⟨i, hi, hil, ?_⟩
  cases hq : qs.getD i [] with
  | cons x l => exact .inl ⟨x, l, rfl⟩
  | nil =>
    cases hp : pFind qs (i + 1) seed with
    | none => exact .inr (.inl ⟨rfl, rfl⟩)
    | some j =>
      obtain ⟨h1, h2, h3⟩ := pfind_some hil hp
      obtain ⟨x, l, h4⟩ := half_head hil h2 h3
      exact .inr (.inr ⟨j, x, l, rfl, rfl, h1, h2, h3, h4⟩)
theorem pPut_len (qs : List (List Int)) (ow x : Int) : (pPut qs ow x).1.length = qs.length ∧ (pPut qs ow x).1.flatten.length ≤ qs.flatten.length + 1 := by
  by_cases h : 1 ≤ ow ∧ ow ≤ (qs.length : Int)
  · obtain ⟨i, rfl⟩ : ∃ i : Nat, ow = (i : Int) + 1 := ⟨ow.toNat - 1, by omega⟩
    have hi : i < qs.length := by omega
    rw [pPut_in qs hi]
    have := (flat_put hi x).length_eq
    rw [List.length_cons] at this
    exact ⟨List.length_set .., by simp only; omega⟩
  · unfold pPut
    rw [if_neg h]
    exact ⟨rfl, by simp only; omega⟩
theorem pNext_len (qs : List (List Int)) (ow seed : Int) : (pNext qs ow seed).1.length = qs.length ∧ (pNext qs ow seed).1.flatten.length ≤ qs.flatten.length := by
  by_cases h : 1 ≤ ow ∧ ow ≤ (qs.length : Int)
  · obtain ⟨i, rfl, hi, ⟨x, l, hx⟩ | ⟨hx, hn⟩ | ⟨j, x, l, hx, hy, hj, hji, hne, hh⟩⟩ := next_ways seed h
    · rw [pNext_own hi hx]
      have := (flat_next hi hx).length_eq
      rw [List.length_cons] at this
      exact ⟨List.length_set .., by simp only; omega⟩
    · rw [pNext_none hi hx hn]
      exact ⟨rfl, Nat.le_refl _⟩
    · rw [pNext_some hi hx hy hh]
      have h1 := (flat_half hi hj (fun e => hji e.symm) hx).length_eq
      have h2 := (flat_next (qs := pHalf qs i j) (by rw [half_len]; exact hi) hh).length_eq
      rw [List.length_cons] at h2
      exact ⟨by rw [List.length_set, half_len], by simp only; omega⟩
  · unfold pNext
    rw [if_neg h]
    exact ⟨rfl, Nat.le_refl _⟩
section
variable {w W : World} {b kq : Nat} {qs qr : List (List Int)} {qv v : Value} {vs : List Value} {R : Nat → Prop}
theorem qs_le {qs : List (List Int)} {N : Nat} (h : qs.flatten.length ≤ N) (i : Nat) : (qs.getD i []).length ≤ N := Nat.le_trans (len_flat i) h
theorem post_stay {w0 w w' : World} {b : Nat} {qv : Value} {vs : List Value} {qs : List (List Int)} (h : PoolPost w0 w b qv vs qs w') : Stay (PBlk b qv vs) w w' := by
  obtain ⟨_, _, h, _⟩ := h
  exact h
theorem pp_put (h : PR w W b kq qs qr qv vs v R) (h8 : qs.length ≤ 8) (hf : qs.flatten.length ≤ 99999) (ow x : Int) :
    Calls Try.prog 27 #[.pointer (some ⟨b, 0, none⟩), .int .i64 ow, .int .i64 x] W fun e w' => e = .returned (.int .i64 (pPut qs ow x).2) ∧ (∃ vs', PR w w' b kq (pPut qs ow x).1 qr qv vs' v R) ∧ Stay (PBlk b qv vs) W w' := by
  by_cases hin : 1 ≤ ow ∧ ow ≤ (qs.length : Int)
  · obtain ⟨i, rfl⟩ : ∃ i : Nat, ow = (i : Int) + 1 := ⟨ow.toNat - 1, by omega⟩
    have hi : i < qs.length := by omega
    rw [pPut_in qs hi]
    exact (put_in h.p hi h8 (by have := qs_le hf i; omega) h.only.size x).mono fun e w' ⟨h1, h2⟩ => ⟨h1, h.prog h2, post_stay h2⟩
  · unfold pPut
    rw [if_neg hin]
    exact (put_out h.p ow x hin).mono fun e w' ⟨h1, h2⟩ => ⟨h1, ⟨vs, h.then h2⟩, h2.mono (fun _ _ h => h.elim)⟩
theorem rp_put (h : PR w W b kq qr qs qv vs v R) (h8 : qs.length ≤ 8) (hf : qs.flatten.length ≤ 99999) {N : Nat} (hN : qs.length = N) (ow x : Int) :
    Calls Try.prog 28 #[.agg #[v], .int .i64 ow, .int .i64 x] W fun e w' => ∃ A c, e = .returned (.tuple #[.agg #[.slice A N c], .int .i64 (pPut qs ow x).2]) ∧ RP w' (.slice A N c) (pPut qs ow x).1 (more R W w') ∧ Only W w' := by
  subst hN
  by_cases hin : 1 ≤ ow ∧ ow ≤ (qs.length : Int)
  · obtain ⟨i, rfl⟩ : ∃ i : Nat, ow = (i : Int) + 1 := ⟨ow.toNat - 1, by omega⟩
    have hi : i < qs.length := by omega
    rw [pPut_in qs hi]
    refine (rput_in h.r h.lt hi h8 (qs_le hf i) x).mono ?_
    rintro e w' ⟨v', rfl, h1, h2⟩
    obtain ⟨A, c, rfl⟩ := h1.shape
    rw [List.length_set] at h1 ⊢
    exact ⟨A, c, rfl, h1, h2⟩
  · unfold pPut
    rw [if_neg hin]
    refine (rput_out h.r ow x hin).mono ?_
    rintro e w' ⟨rfl, h2⟩
    obtain ⟨A, c, rfl⟩ := h.r.shape
    exact ⟨A, c, rfl, (h.r.only h2).mono (fun k hk => .inl hk), h2⟩
theorem pp_next (h : PR w W b kq qs qr qv vs v R) (h8 : qs.length ≤ 8) (hf : qs.flatten.length ≤ 99999) (ow seed : Int) :
    Calls Try.prog 29 #[.pointer (some ⟨b, 0, none⟩), .int .i64 ow, .int .i64 seed] W fun e w' => e = .returned (.tuple #[.int .i64 (pNext qs ow seed).2.1, .int .i64 (pNext qs ow seed).2.2.1, .bool (pNext qs ow seed).2.2.2]) ∧ (∃ vs', PR w w' b kq (pNext qs ow seed).1 qr qv vs' v R) ∧ Stay (PBlk b qv vs) W w' := by
  have hle := fun i => Nat.le_trans (qs_le hf i) (show 99999 ≤ 100000 by omega)
  by_cases hin : 1 ≤ ow ∧ ow ≤ (qs.length : Int)
  · obtain ⟨i, rfl, hi, ⟨x, l, hx⟩ | ⟨hx, hn⟩ | ⟨j, x, l, hx, hy, hj, hji, hne, hh⟩⟩ := next_ways seed hin
    · rw [pNext_own hi hx]
      exact (next_own h.p hi h8 hx (by have := hle i; rw [hx] at this; simp at this; omega) h.only.size seed).mono fun e w' ⟨h1, h2⟩ => ⟨h1, h.prog h2, post_stay h2⟩
    · rw [pNext_none hi hx hn]
      exact (next_none h.p hi h8 hle hx h.only.size seed hn).mono fun e w' ⟨h1, h2⟩ => ⟨h1, ⟨vs, h.then h2⟩, h2.mono (fun _ _ h => h.elim)⟩
    · rw [pNext_some hi hx hy hh]
      refine (next_some h.p hi h8 hle hx hh ?_ h.only.size seed hy).mono fun e w' ⟨h1, h2⟩ => ⟨h1, h.prog h2, post_stay h2⟩
      have h3 := len_flat (qs := pHalf qs i j) i
      have h4 := (flat_half hi hj (fun e => hji e.symm) hx).length_eq
      rw [hh, List.length_cons] at h3
      omega
  · unfold pNext
    rw [if_neg hin]
    exact (next_out h.p ow seed hin).mono fun e w' ⟨h1, h2⟩ => ⟨h1, ⟨vs, h.then h2⟩, h2.mono (fun _ _ h => h.elim)⟩
theorem rp_next (h : PR w W b kq qr qs qv vs v R) (h8 : qs.length ≤ 8) (hf : qs.flatten.length ≤ 99999) {N : Nat} (hN : qs.length = N) (ow seed : Int) :
    Calls Try.prog 30 #[.agg #[v], .int .i64 ow, .int .i64 seed] W fun e w' => ∃ A c, e = .returned (.tuple #[.agg #[.slice A N c], .int .i64 (pNext qs ow seed).2.1, .int .i64 (pNext qs ow seed).2.2.1, .bool (pNext qs ow seed).2.2.2]) ∧ RP w' (.slice A N c) (pNext qs ow seed).1 (more R W w') ∧ Only W w' := by
  subst hN
  have hle := fun i => Nat.le_trans (qs_le hf i) (show 99999 ≤ 100000 by omega)
  by_cases hin : 1 ≤ ow ∧ ow ≤ (qs.length : Int)
  · obtain ⟨i, rfl, hi, ⟨x, l, hx⟩ | ⟨hx, hn⟩ | ⟨j, x, l, hx, hy, hj, hji, hne, hh⟩⟩ := next_ways seed hin
    · rw [pNext_own hi hx]
      refine (rnext_own h.r h.lt hi h8 hx (by have := hle i; rw [hx] at this; simp at this; omega) seed).mono ?_
      rintro e w' ⟨v', rfl, h1, h2⟩
      obtain ⟨A, c, rfl⟩ := h1.shape
      rw [List.length_set] at h1 ⊢
      exact ⟨A, c, rfl, h1, h2⟩
    · rw [pNext_none hi hx hn]
      refine (rnext_none h.r h.lt hi h8 hx seed hn).mono ?_
      rintro e w' ⟨v', rfl, h1, h2⟩
      obtain ⟨A, c, rfl⟩ := h1.shape
      exact ⟨A, c, rfl, h1, h2⟩
    · rw [pNext_some hi hx hy hh]
      refine (rnext_some h.r h.lt hi h8 hle hx hh ?_ seed hy hj (List.length_pos_iff.2 hne)).mono ?_
      · have h3 := len_flat (qs := pHalf qs i j) i
        have h4 := (flat_half hi hj (fun e => hji e.symm) hx).length_eq
        rw [hh, List.length_cons] at h3
        omega
      · rintro e w' ⟨v', rfl, h1, h2⟩
        obtain ⟨A, c, rfl⟩ := h1.shape
        rw [List.length_set, half_len] at h1 ⊢
        exact ⟨A, c, rfl, h1, h2⟩
  · unfold pNext
    rw [if_neg hin]
    refine (rnext_out h.r ow seed hin).mono ?_
    rintro e w' ⟨rfl, h2⟩
    obtain ⟨A, c, rfl⟩ := h.r.shape
    exact ⟨A, c, rfl, (h.r.only h2).mono (fun k hk => .inl hk), h2⟩
theorem pp_copy (h : PR w W b kq qs qr qv vs v R) (h1 : 1 ≤ qs.length) (h8 : qs.length ≤ 8) (hf : qs.flatten.length ≤ 99999) :
    Calls Try.prog 31 #[.pointer (some ⟨b, 0, none⟩)] W fun e w' => ∃ b' qv' vs', e = .returned (.pointer (some ⟨b', 0, none⟩)) ∧ PR w w' b' kq qs qr qv' vs' v R ∧ Only W w' :=
  (pcopy_any h.p h1 h8 (fun j => Nat.le_trans (qs_le hf j) (by omega))).mono fun e w' ⟨b', qv', vs', h1, h2, h3⟩ => ⟨b', qv', vs', h1, h.copied h3 h2, h3⟩
end

end Go.Proofs.Ytfohaijdhgcneaa
