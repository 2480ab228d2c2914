/- The reference pool: Is, joined, with, Mod, the victim, NewPool's start, Put. -/
import Derived.Test.YtfohaijdhgcneaaPoolNext
import Derived.Test.YtfohaijdhgcneaaAppSl
import Derived.Deep.RegionHeld3
import Derived.Test.YtfohaijdhgcneaaPoolNew
import Derived.Deep.RegionLaw
import Derived.Deep.MidRow
set_option linter.unusedVariables false
set_option linter.unusedSimpArgs false
namespace Go.Proofs.Ytfohaijdhgcneaa
open Go Go.RowKit

/-- A pool of the reference: a row of queues, that read as they do, its blocks among R. -/
def RP (w : World) (v : Value) (qs : List (List Int)) (R : Nat → Prop) : Prop :=
  ∃ vs, w.ownsRow 0 22 1 v qs.length vs ∧ (∀ (i : Nat) (u : Value) (l : List Int), vs[i]? = some u → qs[i]? = some l → Qu w 0 u l) ∧ (∀ k, v.ownBlock = some k → R k) ∧ ∀ (i : Nat) (u : Value) k, vs[i]? = some u → u.ownBlock = some k → R k
section
variable {w w' : World} {v : Value} {qs : List (List Int)} {R R' X : Nat → Prop}
theorem RP.stay (h : RP w v qs R) (hx : Stay X w w') (hX : ∀ k, R k → ¬ X k) : RP w' v qs R := by
  obtain ⟨vs, h1, h2, h3, h4⟩ := h
  exact ⟨vs, own_stay hx h1 (fun g hg => hX g (h3 g hg)), fun i u l hu hl => (h2 i u l hu hl).stay hx (fun g hg => hX g (h4 i u g hu hg)), h3, h4⟩
theorem RP.only (h : RP w v qs R) (ho : Only w w') : RP w' v qs R := h.stay ho (fun _ _ h => h)
theorem RP.mono (h : RP w v qs R) (hr : ∀ k, R k → R' k) : RP w v qs R' := by
  obtain ⟨vs, h1, h2, h3, h4⟩ := h
  exact ⟨vs, h1, h2, fun k hk => hr k (h3 k hk), fun i u k hu hk => hr k (h4 i u k hu hk)⟩
theorem RP.shape (h : RP w v qs R) : ∃ A c, v = .slice A qs.length c := by
  obtain ⟨vs, h1, _⟩ := h
  exact own_shape h1
/-- A worker's queue, as the code meets it. -/
theorem RP.at (h : RP w v qs R) {i : Nat} (hi : i < qs.length) :
    ∃ g cap A c, v = .slice (some ⟨g, 0, none⟩) qs.length cap ∧ g < w.heap.size ∧ w.cell? ⟨g, i, none⟩ = some (.slice A (qs.getD i []).length c) ∧ Qu w 0 (.slice A (qs.getD i []).length c) (qs.getD i []) ∧ ∀ k, (Value.slice A (qs.getD i []).length c).ownBlock = some k → R k := by
  obtain ⟨vs, h1, h2, h3, h4⟩ := h
  have hl : vs.length = qs.length := by have := h1.1; omega
  obtain ⟨g, cap, e, _, hlt⟩ := h1.form (by omega)
  have hv : i < vs.length := by omega
  have hq := h2 i vs[i] (qs.getD i []) (List.getElem?_eq_getElem hv) (by rw [List.getD_eq_getElem?_getD, List.getElem?_eq_getElem hi]; rfl)
  obtain ⟨A, c, e2⟩ := hq.shape
  have hR := h4 i vs[i] 
  rw [e2] at hq hR
  rw [e] at h1
  have hc := h1.cellAt i (by omega)
  rw [List.getElem?_eq_getElem hv, e2] at hc
  exact ⟨g, cap, A, c, e, hlt, hc, hq, fun k hk => hR k (by rw [List.getElem?_eq_getElem hv, e2]) hk⟩
end
set_option maxRecDepth 100000 in
set_option maxHeartbeats 4000000 in
theorem ris_any {w : World} {v : Value} {qs : List (List Int)} {R : Nat → Prop} (h : RP w v qs R) (x : Int) :
    Calls Try.prog 32 #[.agg #[v], .int .i64 x] w fun e w' => e = .returned (.bool (decide (1 ≤ x ∧ x ≤ (qs.length : Int)))) ∧ Only w w' := by
  obtain ⟨A, c, rfl⟩ := h.shape
  obtain ⟨r, hr⟩ : ∃ r, r = decide (1 ≤ x ∧ x ≤ (qs.length : Int)) := ⟨_, rfl⟩
  obtain ⟨n, hn⟩ : ∃ n, n = qs.length := ⟨_, rfl⟩
  rw [← hr]
  rw [← hn] at hr ⊢
  clear h hn
  have key : (decide (x ≥ 1) = false ∧ r = false) ∨ (decide (x ≥ 1) = true ∧ decide (x ≤ (n : Int)) = r) := by
    subst hr
    by_cases h1 : x ≥ 1
    · exact .inr ⟨decide_eq_true h1, decide_eq_decide.2 ⟨fun h => ⟨h1, h⟩, fun h => h.2⟩⟩
    · exact .inl ⟨decide_eq_false h1, decide_eq_false (fun h => h1 h.1)⟩
  clear hr
  rcases key with ⟨b1, rfl⟩ | ⟨b1, b2⟩
  all_goals
    go_enter Try.func32, Try.ntmps32
    go_wp2_with fail
    go_ret
    exact ⟨rfl, (Stay.refl _ w).alloc _⟩
set_option maxRecDepth 100000 in
set_option maxHeartbeats 4000000 in
theorem joined_any (w : World) (A B : Option Addr) (ca cb : Nat) (xs ys : List Int) (hx : Sl w w.heap.size A xs.length ca 1 (ints xs)) (hy : Sl w w.heap.size B ys.length cb 1 (ints ys)) (h1 : xs.length ≤ 100000) (h2 : ys.length ≤ 100000) :
    Calls Try.prog 50 #[.slice A xs.length ca, .slice B ys.length cb] w fun e w' => ∃ v, e = .returned v ∧ w'.ownsRow w.heap.size 3 1 v (xs ++ ys).length (ints (xs ++ ys)) ∧ Only w w' := by
  obtain ⟨ii, hii0, hii1, hii2, hii3⟩ := info_parts infoI
  obtain ⟨n, hn⟩ : ∃ n, n = xs.length := ⟨_, rfl⟩
  obtain ⟨m, hm⟩ : ∃ m, m = ys.length := ⟨_, rfl⟩
  have HN := Lib.hid (And.intro hn hm)
  rw [← hn] at hx h1 ⊢
  rw [← hm] at hy h2 ⊢
  have H := Lib.hid (And.intro hx hy)
  clear hx hy hn hm
  go_enter Try.func50, Try.ntmps50
  go_upto_region 3 with (at_builtin; refine wpList_append_sl _ rfl _ _ _ rfl w.heap.size 3 ii _ 1 8 Try.underlying22 hii0 hii1 hii2 hii3 rfl (by omega) (.slice none 0 0) 0 [] (by rfl) (World.ownsRow_nil _ _ _ _) _ A n ca (ints xs) (by rfl) H.out.1 (fun u hu => by obtain ⟨y, _, rfl⟩ := List.mem_map.1 hu; rfl) (by simp only [maxLen]; omega) (by omega) (Nat.le_refl _) ?_; intro A1 d1 w4 hown hst hnx; have HA := Lib.hid (And.intro hown (hst.mono (fun j _ e => by simp [Value.ownBlock] at e : ∀ i, i < w.heap.size → _ → False))); clear hown hst hnx)
  simp only [Nat.zero_add, List.nil_append] at HA ⊢
  go_wp2_with (at_builtin; refine wpList_append_sl _ rfl _ _ _ rfl w.heap.size 3 ii _ 1 8 Try.underlying22 hii0 hii1 hii2 hii3 rfl (by omega) _ n _ (by rfl) HA.out.1 _ B m cb (ints ys) (by rfl) (H.out.2.only HA.out.2) (fun u hu => by obtain ⟨y, _, rfl⟩ := List.mem_map.1 hu; rfl) (by simp only [maxLen]; omega) (by omega) HA.out.2.size ?_; intro A2 d2 w5 hown hst hnx; have HB := Lib.hid (And.intro hown (HA.out.2.trans hst (fun j hj e => by have := (own_lt HA.out.1 j e).1; omega))); clear hown hst hnx)
  go_ret
  refine ⟨_, rfl, ?_, HB.out.2⟩
  rw [List.length_append, ← HN.out.1, ← HN.out.2]
  have := HB.out.1
  unfold ints at this ⊢
  rw [List.map_append]
  exact this

theorem infoQ' : (Try.prog.info? 22).map (fun i => (i.zero, i.size, i.bytes)) = some (some (.slice none 0 0), 1, 24) := by kernel_rfl
/-- The structs of a call of the reference: what came in, the result. -/
structure P2 (w W : World) (v1 v2 : Value) : Prop where
  o : Only w W
  b1 : Blk W w.heap.size 60 [v1]
  b2 : Blk W (w.heap.size + 1) 60 [v2]
theorem P2.start (w : World) (a : Value) : P2 w ((w.alloc (.cells #[a] 60)).alloc (.cells #[.slice none 0 0] 60)) a (.slice none 0 0) :=
  ⟨((Stay.refl _ w).alloc _).alloc _, (Blk.new w [a] _).alloc _, Blk.newAt _ [.slice none 0 0] _ _ (by simp)⟩
theorem P2.only {w W W' : World} {a b : Value} (h : P2 w W a b) (ho : Only W W') : P2 w W' a b := ⟨h.o.trans' ho, ho.blk h.b1, ho.blk h.b2⟩
theorem P2.put1 {w W : World} {a b : Value} (h : P2 w W a b) (v : Value) : P2 w (W.setCell ⟨w.heap.size, 0, none⟩ v) v b := ⟨h.o.new (by omega) 0 v, h.b1.set 0 v, h.b2.set_other (by simp) v⟩
theorem P2.put2 {w W : World} {a b : Value} (h : P2 w W a b) (v : Value) : P2 w (W.setCell ⟨w.heap.size + 1, 0, none⟩ v) a v := ⟨h.o.new (by omega) 0 v, h.b1.set_other (by simp) v, h.b2.set 0 v⟩
theorem P2.row {w W W' : World} {a b : Value} (h : P2 w W a b) {e : TypeId} {s n : Nat} {v : Value} {xs : List Value} {B : Nat} (hr : W.ownsRow B e s v n xs) (hB : w.heap.size ≤ B) (hne : e ≠ 60) (hs : Stay (fun k => v.ownBlock = some k) W W') : P2 w W' a b :=
  ⟨h.o.trans hs (fun k hk e => by have := (own_lt hr k e).1; omega), hs.blk h.b1 (fun e => own_ne_blk hr h.b1 hne _ e rfl), hs.blk h.b2 (fun e => own_ne_blk hr h.b2 hne _ e rfl)⟩
/-- R, and what is new. -/
def more (R : Nat → Prop) (w w' : World) : Nat → Prop := fun k => R k ∨ (w.heap.size ≤ k ∧ k < w'.heap.size)
theorem slices_one {w : World} {qs : List (List Int)} {vs : List Value} (hl : vs.length = qs.length) (h : ∀ (i : Nat) (u : Value) (l : List Int), vs[i]? = some u → qs[i]? = some l → Qu w 0 u l) : ∀ u ∈ vs, u.oneCell' = true := fun u hu => by
  obtain ⟨i, hi⟩ := List.getElem?_of_mem hu
  have hi2 := (List.getElem?_eq_some_iff.1 hi).1
  obtain ⟨A, c, rfl⟩ := (h i u _ hi (List.getElem?_eq_getElem (by omega))).shape
  rfl
set_option maxRecDepth 100000 in
set_option maxHeartbeats 4000000 in
theorem with_any {w : World} {v : Value} {qs : List (List Int)} {R : Nat → Prop} (h : RP w v qs R) (hRw : ∀ k, R k → k < w.heap.size) {i : Nat} (hi : i < qs.length) (h8 : qs.length ≤ 8) {Au : Option Addr} {cu : Nat} {l : List Int} (hu : Qu w 0 (.slice Au l.length cu) l) (huR : ∀ k, (Value.slice Au l.length cu).ownBlock = some k → R k) :
    Calls Try.prog 49 #[.agg #[v], .int .i64 ((i : Int) + 1), .slice Au l.length cu] w fun e w' => ∃ v', e = .returned (.agg #[v']) ∧ RP w' v' (qs.set i l) (more R w w') ∧ Only w w' := by
  obtain ⟨iq, hiq0, hiq1, hiq2, hiq3⟩ := info_parts infoQ'
  have h0 := h
  obtain ⟨vs, h1, h2, h3, h4⟩ := h0
  have hvl : vs.length = qs.length := by have := h1.1; omega
  have hone := slices_one hvl h2
  obtain ⟨A, c, rfl⟩ := own_shape h1
  obtain ⟨n, hn⟩ : ∃ n, n = qs.length := ⟨_, rfl⟩
  obtain ⟨q, hq⟩ : ∃ q, q = l.length := ⟨_, rfl⟩
  have hsl := own_sl h1 (Stay.refl _ w)
  rw [← hn] at hi h8 h1 hsl ⊢
  rw [← hq] at hu huR ⊢
  have hw3 : wrap64 ((i : Int) + 1 - 1) = (i : Int) := by rw [show (i : Int) + 1 - 1 = (i : Int) from Int.add_sub_cancel _ _]; exact IntWalk.wrap64_in _ ⟨by omega, by omega⟩
  have hw4 : wrap64 (i : Int) = (i : Int) := IntWalk.wrap64_in _ ⟨by omega, by omega⟩
  have u1 : (0 : Int) ≤ (i : Int) := by omega
  have u2 : (i : Int) < (n : Int) := by omega
  have H := Lib.hid (And.intro h (And.intro hsl (And.intro hone (And.intro hn (And.intro hq (And.intro hu (And.intro huR (And.intro hRw (And.intro hvl (And.intro h2 h4))))))))))
  clear h h1 h2 h3 h4 hsl hone hn hq hu huR hRw hvl
  go_enter Try.func49, Try.ntmps49
  go_upto_region 1 with fail
  obtain ⟨W0, hW0⟩ : ∃ W0 : World, W0 = (w.alloc (.cells #[.slice A n c] 60)).alloc (.cells #[.slice none 0 0] 60) := ⟨_, rfl⟩
  have hT0 : P2 w W0 (.slice A n c) (.slice none 0 0) := by rw [hW0]; exact P2.start w _
  rw [← hW0]
  have c1 := hT0.b1.cell
  have l1 := hT0.b1.lt
  have hz0 := hT0.o.size
  have H0 := Lib.hid hT0
  clear hT0 hW0
  go_upto_region 3 with (at_builtin; refine wpList_append_sl _ rfl _ _ _ rfl w.heap.size 22 iq _ 1 24 Try.underlying58 hiq0 hiq1 hiq2 hiq3 rfl (by omega) (.slice none 0 0) 0 [] (by rfl) (World.ownsRow_nil _ _ _ _) _ A n c vs (by rfl) (H.out.2.1.only H0.out.o) H.out.2.2.1 (by simp only [maxLen]; omega) (by omega) hz0 ?_; intro A1 d1 w4 hown hst hnx; have hT4 := H0.out.row (World.ownsRow_nil W0 w.heap.size 22 1) (Nat.le_refl _) (by decide) hst; have HA := Lib.hid (And.intro hown hT4); clear hown hst hnx hT4)
  simp only [Nat.zero_add, List.nil_append] at HA ⊢
  obtain ⟨g, cap, e1, _, hg⟩ := HA.out.1.form (by omega)
  have e1' : A1 = some ⟨g, 0, none⟩ ∧ d1 = cap := by simpa using e1
  obtain ⟨rfl, rfl⟩ := e1'
  have fr := HA.out.1.frozenAt i
  have ci := HA.out.1.cellAt i (by omega)
  have hvi : vs[i]? = some (vs[i]'(by have := H.out.2.2.2.2.2.2.2.2.1; have := H.out.2.2.2.1; omega)) := List.getElem?_eq_getElem _
  rw [hvi] at ci
  have hT4 := HA.out.2
  have f2 := hT4.b2.free
  have c2 := hT4.b2.cell
  have l2 := hT4.b2.lt
  have hgn : g ≠ w.heap.size + 1 := own_ne_blk HA.out.1 hT4.b2 (by decide) g rfl
  have hgn' : w.heap.size + 1 ≠ g := hgn.symm
  clear e1 hT4 hvi c1 l1
  go_wp2_with fail
  have hst := (HA.out.1.stored i (.slice Au q cu)).1
  have hgw : w.heap.size ≤ g := (own_lt HA.out.1 g rfl).1
  have hP5 : P2 w (w4.setCell ⟨g, i, none⟩ (.slice Au q cu)) (.slice A n c) (.slice none 0 0) := ⟨HA.out.2.o.new hgw _ _, HA.out.2.b1.set_other (own_ne_blk HA.out.1 HA.out.2.b1 (by decide) g rfl) _, HA.out.2.b2.set_other hgn _⟩
  have hP6 := hP5.put2 (.slice (some ⟨g, 0, none⟩) n d1)
  have r0 := hP6.b2.cell 0
  simp only [List.getElem?_cons_zero] at r0
  refine bodyPost_ret (v := .agg #[.slice (some ⟨g, 0, none⟩) n d1]) (by simp [results, Try.results49, go_sem, r0]) rfl ?_
  refine ⟨.slice (some ⟨g, 0, none⟩) n d1, rfl, ⟨vs.set i (.slice Au q cu), ?_, fun j u m hu hm => ?_, fun k hk => ?_, fun j u k hu hk => ?_⟩, hP6.o⟩
  · rw [List.length_set, ← H.out.2.2.2.1]
    exact owns_base (own_set hst (A := ⟨w.heap.size + 1, 0, none⟩) _ (own_ne_blk hst hP5.b2 (by decide))) (Nat.zero_le _)
  · rw [List.getElem?_set] at hu hm
    by_cases hij : i = j
    · subst hij
      rw [if_pos rfl] at hu hm
      split at hu
      · split at hm
        · cases hu
          cases hm
          exact H.out.2.2.2.2.2.1.only hP6.o
        · cases hm
      · cases hu
    · rw [if_neg hij] at hu hm
      exact (H.out.2.2.2.2.2.2.2.2.2.1 j u m hu hm).only hP6.o
  · have e : g = k := by simpa [Value.ownBlock] using hk
    subst e
    exact .inr ⟨hgw, by have := hg; have := (own_lt hst g rfl).2; simpa using this⟩
  · rw [List.getElem?_set] at hu
    by_cases hij : i = j
    · subst hij
      rw [if_pos rfl] at hu
      split at hu
      · cases hu
        exact .inl (H.out.2.2.2.2.2.2.1 k hk)
      · cases hu
    · rw [if_neg hij] at hu
      exact .inl (H.out.2.2.2.2.2.2.2.2.2.2 j u k hu hk)
set_option maxRecDepth 100000 in
set_option maxHeartbeats 4000000 in
theorem mod_any (n : Int) (m : Nat) (hm : 0 < m) (h8 : m ≤ 8) (w : World) : Calls Try.prog 63 #[.int .i64 n, .int .i64 m] w fun e w' => e = .returned (.int .i64 (n % (m : Int))) ∧ w' = w := by
  have hm0 : ((m : Int) == 0) = false := by simp; omega
  have hm1 : ¬ (m : Int) = 0 := by omega
  obtain ⟨k, hk⟩ : ∃ k, k = n.tmod (m : Int) := ⟨_, rfl⟩
  have hft := from_tmod hm n
  rw [← hk] at hft
  have hr : -(m : Int) < k ∧ k < (m : Int) := hft.2
  have hwk : wrap64 k = k := IntWalk.wrap64_in _ ⟨by omega, by omega⟩
  have hwk2 : wrap64 (k + (m : Int)) = k + (m : Int) := IntWalk.wrap64_in _ ⟨by omega, by omega⟩
  have hres : n % (m : Int) = if k < 0 then k + (m : Int) else k := by
    have h1 := Int.emod_nonneg n hm1
    have h2 := hft.1
    rw [Int.toNat_of_nonneg h1, Int.tmod_eq_emod_of_nonneg (by omega)] at h2
    rw [← h2]
    split
    · exact Int.emod_eq_of_lt (by omega) (by omega)
    · rw [Int.add_emod_right]
      exact Int.emod_eq_of_lt (by omega) hr.2
  clear hft
  rw [hres]
  clear hres
  have hk' : n.tmod (m : Int) = k := hk.symm
  clear hk
  by_cases h0 : k < 0
  · have b1 : decide (k < 0) = true := decide_eq_true h0
    rw [if_pos h0]
    go_enter Try.func63, Try.ntmps63
    go_wp2_with fail
    go_ret
    exact ⟨rfl, rfl⟩
  · have b1 : decide (k < 0) = false := decide_eq_false h0
    rw [if_neg h0]
    go_enter Try.func63, Try.ntmps63
    go_wp2_with fail
    go_ret
    exact ⟨rfl, rfl⟩

def oneUp : Option Nat → Int
  | none => 0
  | some j => (j : Int) + 1
theorem wrap_lit (z : Int) (h0 : -1000 ≤ z) (h1 : z ≤ 1000) : IntKind.i64.wrap z = z := IntWalk.i64_in _ ⟨by omega, by omega⟩
set_option maxRecDepth 100000 in
set_option maxHeartbeats 4000000 in
theorem rvictim_any {w : World} {v : Value} {qs : List (List Int)} {R : Nat → Prop} (h : RP w v qs R) {i : Nat} (hi : i < qs.length) (h8 : qs.length ≤ 8) (seed : Int) :
    Calls Try.prog 52 #[.agg #[v], .int .i64 ((i : Int) + 1), .int .i64 seed] w fun e w' => e = .returned (.int .i64 (oneUp (pFind qs (i + 1) seed))) ∧ Only w w' := by
  obtain ⟨A0, c0, rfl⟩ := h.shape
  obtain ⟨m, hm⟩ : ∃ m, qs.length = m + 1 := ⟨qs.length - 1, by omega⟩
  have H := Lib.hid (And.intro h hm)
  have hm7 : m ≤ 7 := by omega
  have him : i < m + 1 := by omega
  rw [hm]
  clear h h8 hi
  by_cases hm0 : m = 0
  · subst hm0
    have hp : pFind qs (i + 1) seed = none := by unfold pFind; rw [hm]; rfl
    rw [hp]
    clear hm hp
    go_enter Try.func52, Try.ntmps52
    go_wp2_with fail
    go_ret
    exact ⟨rfl, (Stay.refl _ w).alloc _⟩
  · obtain ⟨f, hf2⟩ : ∃ f, f = (seed % (m : Int)).toNat := ⟨_, rfl⟩
    have hf : fromOf qs.length seed = f := by unfold fromOf; rw [hm, hf2]; rfl
    have hfm : f < m := by
      have := Int.emod_lt_of_pos seed (show (0 : Int) < (m : Int) by omega)
      have := Int.emod_nonneg seed (show (m : Int) ≠ 0 by omega)
      omega
    have hmod0 : ∀ W, Calls Try.prog 63 #[.int .i64 seed, .int .i64 m] W fun e w' => e = .returned (.int .i64 f) ∧ w' = W := fun W => by
      have := mod_any seed m (by omega) (by omega) W
      rw [show seed % (m : Int) = (f : Int) by rw [hf2]; exact (Int.toNat_of_nonneg (Int.emod_nonneg seed (show (m : Int) ≠ 0 by omega))).symm] at this
      exact this
    have b0 : ((m : Int) + 1 == 1) = false := by simp; omega
    have hw1 : IntKind.i64.wrap ((m : Int) + 1 - 1) = (m : Int) := by rw [show (m : Int) + 1 - 1 = (m : Int) from Int.add_sub_cancel _ _]; exact wrap_lit _ (by omega) (by omega)
    have hw2 : IntKind.i64.wrap (m : Int) = (m : Int) := by rw [show (m : Int) + 1 - 1 = (m : Int) from Int.add_sub_cancel _ _] at hw1; exact hw1
    have HF := Lib.hid (And.intro hf (And.intro hm hmod0))
    clear hf hf2 hm hmod0
    go_enter Try.func52, Try.ntmps52
    go_wp2_with fail
    obtain ⟨W1, hW1⟩ : ∃ W1 : World, W1 = w.alloc (.cells #[.slice A0 (m + 1) c0] 60) := ⟨_, rfl⟩
    have hO1 : Only w W1 := by rw [hW1]; exact (Stay.refl _ w).alloc _
    have hB1 : Blk W1 w.heap.size 60 [.slice A0 (m + 1) c0] := by rw [hW1]; exact Blk.new w [_] _
    rw [← hW1]
    have H1 := Lib.hid (And.intro hO1 hB1)
    clear hO1 hB1 hW1
    refine (HF.out.2.2 _).mono ?_
    rintro e w2 ⟨rfl, hw2e⟩
    subst hw2e
    go_wp2_with fail
    go_loopg [9] m (fun kk vi wr => ∃ k : Nat, k ≤ m ∧ kk = m - k ∧ vi = .int .i64 (k : Nat) ∧ w2 = wr ∧ ∀ k', k' < k → qs.getD (vic (m + 1) (i + 1) f k') [] = [])
    case atStart => exact ⟨0, Nat.zero_le _, rfl, rfl, rfl, fun k' h => absurd h (Nat.not_lt_zero _)⟩
    case round =>
      obtain ⟨k, hk, hkk, rfl, rfl, hemp⟩ := hrel
      by_cases hkm : k < m
      · have HW1 := Lib.hid (And.intro hw1 hw2)
        clear hw1 hw2
        obtain ⟨j, hj⟩ : ∃ j, j = vic (m + 1) (i + 1) f k := ⟨_, rfl⟩
        obtain ⟨r, hr⟩ : ∃ r, r = (f + k) % m := ⟨_, rfl⟩
        have hrm : r < m := by rw [hr]; exact Nat.mod_lt _ (by omega)
        have hjv : j = (i + 1 + r) % (m + 1) := by rw [hj, hr]; rfl
        have hjl : j < m + 1 := by rw [hjv]; exact Nat.mod_lt _ (by omega)
        have hmod1 : ∀ W, Calls Try.prog 63 #[.int .i64 ((f : Int) + (k : Int)), .int .i64 m] W fun e w' => e = .returned (.int .i64 r) ∧ w' = W := fun W => by
          have := mod_any ((f : Int) + (k : Int)) m (by omega) (by omega) W
          rw [show ((f : Int) + (k : Int)) % (m : Int) = (r : Int) by rw [hr]; simp] at this
          exact this
        have hmod2 : ∀ W, Calls Try.prog 63 #[.int .i64 ((i : Int) + 1 + (r : Int)), .int .i64 ((m : Int) + 1)] W fun e w' => e = .returned (.int .i64 j) ∧ w' = W := fun W => by
          have := mod_any ((i : Int) + 1 + (r : Int)) (m + 1) (by omega) (by omega) W
          rw [show ((i : Int) + 1 + (r : Int)) % ((m + 1 : Nat) : Int) = (j : Int) by rw [hjv]; simp] at this
          exact this
        have hR := H.out.1.only H1.out.1
        obtain ⟨g2, cap2, Aj, cj, e2, hg2, hcj, hqj, hRj⟩ := hR.at (i := j) (by have := H.out.2; omega)
        have e2' : A0 = some ⟨g2, 0, none⟩ ∧ c0 = cap2 := by simpa using e2
        obtain ⟨rfl, rfl⟩ := e2'
        obtain ⟨q, hq⟩ : ∃ q, q = (qs.getD j []).length := ⟨_, rfl⟩
        rw [← hq] at hcj
        have c1 := H1.out.2.cell
        have l1 := H1.out.2.lt
        have u1 : (0 : Int) ≤ (j : Int) := by omega
        have u2 : (j : Int) < (m : Int) + 1 := by omega
        have u3 : (k : Int) < (m : Int) := by omega
        have u6 : decide (k < m) = true := decide_eq_true hkm
        have u7 : decide ((k : Int) < (m : Int)) = true := decide_eq_true u3
        have y1 : -1000 ≤ (f : Int) + (k : Int) ∧ (f : Int) + (k : Int) ≤ 1000 := ⟨by omega, by omega⟩
        have y2 : -1000 ≤ (i : Int) + 1 + (r : Int) ∧ (i : Int) + 1 + (r : Int) ≤ 1000 := ⟨by omega, by omega⟩
        have y3 : -1000 ≤ (j : Int) + 1 ∧ (j : Int) + 1 ≤ 1000 := ⟨by omega, by omega⟩
        have y4 : -1000 ≤ (j : Int) ∧ (j : Int) ≤ 1000 := ⟨by omega, by omega⟩
        have y5 : -1000 ≤ (k : Int) + 1 ∧ (k : Int) + 1 ≤ 1000 := ⟨by omega, by omega⟩
        have y6 := Lib.hid (fun h : 0 < q => (show (q : Int) > 0 by omega))
        have v1 : IntKind.i64.wrap ((f : Int) + (k : Int)) = (f : Int) + (k : Int) := wrap_lit _ y1.1 y1.2
        have v2 : IntKind.i64.wrap ((i : Int) + 1 + (r : Int)) = (i : Int) + 1 + (r : Int) := wrap_lit _ y2.1 y2.2
        have v3 : IntKind.i64.wrap ((j : Int) + 1) = (j : Int) + 1 := wrap_lit _ y3.1 y3.2
        have v5 : IntKind.i64.wrap (j : Int) = (j : Int) := wrap_lit _ y4.1 y4.2
        have v4 : IntKind.i64.wrap ((j : Int) + 1 - 1) = (j : Int) := by rw [show (j : Int) + 1 - 1 = (j : Int) from Int.add_sub_cancel _ _]; exact v5
        have v6 : IntKind.i64.wrap ((k : Int) + 1) = (k : Int) + 1 := wrap_lit _ y5.1 y5.2
        clear y1 y2 y3 y4 y5
        have HM := Lib.hid (And.intro hmod1 (And.intro hmod2 (And.intro hemp (And.intro hkk (And.intro hj hq)))))
        have hw1 := HW1.out.1
        have hw2 := HW1.out.2
        clear hmod1 hmod2 hemp hkk hj hjv hr e2 hR hqj hq hRj
        go_wp2_with fail
        refine (HM.out.1 _).mono ?_
        rintro e w3 ⟨rfl, hw3e⟩
        subst hw3e
        go_wp2_with fail
        refine (HM.out.2.1 _).mono ?_
        rintro e w4 ⟨rfl, hw4e⟩
        subst hw4e
        by_cases hl0 : q = 0
        · subst hl0
          go_wp2_with fail
          clear v1 v2 v3 v4 v5 v6 hw1 hw2
          go_roundg (m - (k + 1))
          case measure => have := HM.out.2.2.2.1; omega
          case rel =>
            refine ⟨k + 1, by omega, rfl, by go_num, rfl, fun k' hk' => ?_⟩
            by_cases hkk : k' = k
            · subst hkk
              rw [← HM.out.2.2.2.2.1]
              exact List.eq_nil_of_length_eq_zero HM.out.2.2.2.2.2.symm
            · exact HM.out.2.2.1 k' (by omega)
        · have u4 : (q : Int) > 0 := y6.out (Nat.pos_of_ne_zero hl0)
          have u5 : decide ((q : Int) > 0) = true := decide_eq_true u4
          go_wp2_with fail
          go_ret
          clear v1 v2 v3 v4 v5 v6 hw1 hw2
          refine ⟨?_, H1.out.1⟩
          have hp : pFind qs (i + 1) seed = some j := by
            unfold pFind
            rw [List.find?_eq_some_iff_getElem]
            have hne : qs.getD j [] ≠ [] := fun e => hl0 (by rw [HM.out.2.2.2.2.2, e]; rfl)
            refine ⟨by simpa using hne, k, by simp; have := H.out.2; omega, ?_, fun k' hk' => ?_⟩
            · simp only [List.getElem_map, List.getElem_range]
              rw [HF.out.1, H.out.2, ← HM.out.2.2.2.2.1]
            · simp only [List.getElem_map, List.getElem_range]
              rw [HF.out.1, H.out.2, HM.out.2.2.1 k' hk']
              rfl
          rw [hp]
          rfl
      · obtain rfl : k = m := Nat.le_antisymm hk (Nat.not_lt.1 hkm)
        have HK := Lib.hid hemp
        have u3 : ¬ (k : Int) < (k : Int) := Int.lt_irrefl _
        clear hemp hkk
        go_wp2_with fail
        go_ret
        clear hw1 hw2
        refine ⟨?_, H1.out.1⟩
        have hp : pFind qs (i + 1) seed = none := by
          unfold pFind
          rw [List.find?_eq_none]
          intro j hj
          obtain ⟨k', hk', rfl⟩ := List.mem_map.1 hj
          rw [List.mem_range] at hk'
          rw [HF.out.1, H.out.2]
          have := HK.out k' (by have := H.out.2; omega)
          rw [this]
          simp
        rw [hp]
        rfl

/-- A queue without its first ones. -/
theorem Qu.back {w : World} {base : Nat} {l : List Int} {ga oa c : Nat} (h : Qu w base (.slice (some ⟨ga, oa, none⟩) l.length c) l) {m : Nat} (hm : m ≤ l.length) (h0 : 0 < l.length) :
    Sl w w.heap.size (if c = m then some ⟨ga, oa, none⟩ else some ⟨ga, oa + m, none⟩) (l.drop m).length (c - m) 1 (ints (l.drop m)) := by
  obtain ⟨g, off, cap, e, hg, hlc, hcm, hcells⟩ := h.form h0
  have e' : (ga = g ∧ oa = off) ∧ c = cap := by simpa using e
  obtain ⟨⟨rfl, rfl⟩, rfl⟩ := e'
  have hdl : (l.drop m).length = l.length - m := List.length_drop ..
  refine ⟨by simp [ints], by omega, by simp only [maxLen] at hcm; omega, fun e => (by split at e <;> cases e), fun hh => ?_⟩
  by_cases hc : c = m
  · omega
  · rw [if_neg hc]
    refine ⟨ga, oa + m, rfl, hg, fun jj u hu => ?_⟩
    unfold ints at hu
    rw [List.getElem?_map, Option.map_eq_some_iff] at hu
    obtain ⟨x, hx, rfl⟩ := hu
    rw [List.getElem?_drop] at hx
    rw [Nat.add_assoc]
    exact hcells (m + jj) x hx
theorem joined0 (w : World) (A : Option Addr) (ca n : Nat) (xs : List Int) (hn : n = xs.length) (hx : Sl w w.heap.size A n ca 1 (ints xs)) (h1 : n ≤ 100000) :
    Calls Try.prog 50 #[.slice A n ca, .slice none 0 0] w fun e w' => ∃ A' c', e = .returned (.slice A' n c') ∧ Qu w' w.heap.size (.slice A' n c') xs ∧ Only w w' := by
  subst hn
  refine (joined_any w A none ca 0 xs [] hx ⟨rfl, Nat.le_refl _, by omega, fun _ => rfl, fun h => absurd h (by simp)⟩ h1 (by simp)).mono ?_
  rintro e w' ⟨v, rfl, hr, ho⟩
  rw [List.append_nil] at hr
  obtain ⟨A', c', rfl⟩ := own_shape hr
  exact ⟨A', c', rfl, Qu.of_row hr, ho⟩
theorem joined1 (w : World) (A B : Option Addr) (ca n : Nat) (xs : List Int) (x : Int) (hn : n = xs.length) (hx : Sl w w.heap.size A n ca 1 (ints xs)) (hy : Sl w w.heap.size B 1 1 1 (ints [x])) (h1 : n ≤ 100000) :
    Calls Try.prog 50 #[.slice A n ca, .slice B 1 1] w fun e w' => ∃ A' c', e = .returned (.slice A' (n + 1) c') ∧ Qu w' w.heap.size (.slice A' (n + 1) c') (xs ++ [x]) ∧ Only w w' := by
  subst hn
  refine (joined_any w A B ca 1 xs [x] hx hy h1 (by simp)).mono ?_
  rintro e w' ⟨v, rfl, hr, ho⟩
  have hle : (xs ++ [x]).length = xs.length + 1 := by simp
  obtain ⟨A', c', rfl⟩ := own_shape hr
  have hq := Qu.of_row hr
  rw [hle] at hq
  exact ⟨A', c', by rw [hle], hq, ho⟩
theorem more_more {R : Nat → Prop} {w w1 w2 : World} (h1 : w.heap.size ≤ w1.heap.size) (h2 : w1.heap.size ≤ w2.heap.size) (k : Nat) (h : more (more R w w1) w1 w2 k) : more R w w2 k := by
  rcases h with (h | h) | h
  · exact .inl h
  · exact .inr (by omega)
  · exact .inr (by omega)
theorem more_lt {R : Nat → Prop} {w w1 : World} (hR : ∀ k, R k → k < w.heap.size) (h1 : w.heap.size ≤ w1.heap.size) (k : Nat) (h : more R w w1 k) : k < w1.heap.size := by
  rcases h with h | h
  · have := hR k h; omega
  · exact h.2
theorem RP.start {w w' : World} {v : Value} {n : Nat} {R : Nat → Prop} (h : w'.ownsRow w.heap.size 22 1 v n (List.replicate n (.slice none 0 0))) : RP w' v (List.replicate n []) (more R w w') := by
  refine ⟨List.replicate n (.slice none 0 0), by rw [List.length_replicate]; exact owns_base h (Nat.zero_le _), fun i u l hu hl => ?_, fun k hk => .inr (own_lt h k hk), fun i u k hu hk => ?_⟩
  · rw [List.getElem?_replicate] at hu hl
    by_cases hin : i < n
    · rw [if_pos hin] at hu hl
      cases hu
      cases hl
      exact Qu.nil _ _
    · rw [if_neg hin] at hu
      cases hu
  · rw [List.getElem?_replicate] at hu
    by_cases hin : i < n
    · rw [if_pos hin] at hu
      cases hu
      cases hk
    · rw [if_neg hin] at hu
      cases hu
/-- What is stored into a block of another kind. -/
theorem RP.aside {w : World} {v : Value} {qs : List (List Int)} {R : Nat → Prop} {k : Nat} {T : TypeId} {us : List Value} (h : RP w v qs R) (hb : Blk w k T us) (h1 : 22 ≠ T) (h2 : 3 ≠ T) (i : Nat) (u : Value) : RP (w.setCell ⟨k, i, none⟩ u) v qs R := by
  obtain ⟨vs, r1, r2, r3, r4⟩ := h
  have hs := Stay.put (S := fun j => j = k) (Stay.refl _ w) rfl i u
  exact ⟨vs, own_stay hs r1 (fun g hg e => own_ne_blk r1 hb h1 g hg e), fun i u l hu hl => (r2 i u l hu hl).stay hs (fun g hg e => (r2 i u l hu hl).ne_blk hb h2 g hg e), r3, r4⟩
theorem RP.ne_blk {w : World} {g n cap k : Nat} {qs : List (List Int)} {R : Nat → Prop} {T : TypeId} {us : List Value} (h : RP w (.slice (some ⟨g, 0, none⟩) n cap) qs R) (hb : Blk w k T us) (h1 : 22 ≠ T) : g ≠ k := by
  obtain ⟨vs, r1, _⟩ := h
  exact own_ne_blk r1 hb h1 g rfl
theorem more_set {R : Nat → Prop} {w W : World} {a : Addr} {u : Value} (k : Nat) (h : more R w W k) : more R w (W.setCell a u) k := by
  unfold more at h ⊢
  simpa using h
theorem rwith2 {w w5 : World} {v : Value} {qs : List (List Int)} {R : Nat → Prop} (h : RP w v qs R) (hRw : ∀ k, R k → k < w.heap.size) {i : Nat} (hi : i < qs.length) (h8 : qs.length ≤ 8) (ho : Only w w5) {Au : Option Addr} {cu m B : Nat} {l : List Int} (hm : m = l.length) (hB : w.heap.size ≤ B) (hu : Qu w5 B (.slice Au m cu) l) :
    Calls Try.prog 49 #[.agg #[v], .int .i64 ((i : Int) + 1), .slice Au m cu] w5 fun e w' => ∃ A' c', e = .returned (.agg #[.slice A' qs.length c']) ∧ RP w' (.slice A' qs.length c') (qs.set i l) (more R w w') ∧ Only w5 w' := by
  subst hm
  refine (with_any ((h.only ho).mono (R' := more R w w5) (fun k hk => .inl hk)) (more_lt hRw ho.size) hi h8 (hu.rebase (Nat.zero_le _)) (fun k hk => .inr ⟨Nat.le_trans hB (hu.lt k hk).1, (hu.lt k hk).2⟩)).mono ?_
  rintro e w' ⟨v', rfl, h1, h2⟩
  obtain ⟨A', c', rfl⟩ := h1.shape
  rw [List.length_set] at h1 ⊢
  exact ⟨A', c', rfl, h1.mono (fun k hk => more_more ho.size h2.size k hk), h2⟩
theorem lit1 (w : World) (x : Int) : Sl (w.alloc (.cells #[.int .i64 x] 3)) (w.alloc (.cells #[.int .i64 x] 3)).heap.size (some ⟨w.heap.size, 0, none⟩) 1 1 1 (ints [x]) := by
  refine ⟨rfl, Nat.le_refl _, by omega, fun e => (by cases e), fun _ => ⟨_, _, rfl, by simp, fun j u hu => ?_⟩⟩
  rw [Nat.zero_add]
  exact ((Blk.new w (ints [x]) 3).cell j).trans hu
set_option maxRecDepth 100000 in
set_option maxHeartbeats 4000000 in
theorem rput_out {w : World} {v : Value} {qs : List (List Int)} {R : Nat → Prop} (h : RP w v qs R) (x y : Int) (hx : ¬ (1 ≤ x ∧ x ≤ (qs.length : Int))) :
    Calls Try.prog 28 #[.agg #[v], .int .i64 x, .int .i64 y] w fun e w' => e = .returned (.tuple #[.agg #[v], .int .i64 2]) ∧ Only w w' := by
  obtain ⟨A0, c0, rfl⟩ := h.shape
  obtain ⟨n, hn⟩ : ∃ n, n = qs.length := ⟨_, rfl⟩
  have H := Lib.hid (And.intro h (And.intro hn hx))
  rw [← hn]
  clear h hn hx
  go_enter Try.func28, Try.ntmps28
  go_upto_region 1 with fail
  obtain ⟨W0, hW0⟩ : ∃ W0 : World, W0 = (w.alloc (.cells #[.slice A0 n c0] 60)).alloc (.cells #[.slice none 0 0] 60) := ⟨_, rfl⟩
  have hT0 : P2 w W0 (.slice A0 n c0) (.slice none 0 0) := by rw [hW0]; exact P2.start w _
  rw [← hW0]
  have c1 := hT0.b1.cell
  have l1 := hT0.b1.lt
  have H0 := Lib.hid hT0
  clear hT0 hW0
  go_wp2_with fail
  have his := ris_any (H.out.1.only H0.out.o) x
  rw [← H.out.2.1] at his
  refine his.mono ?_
  clear his
  rintro e w1 ⟨rfl, ho1⟩
  rw [decide_eq_false (by rw [H.out.2.1]; exact H.out.2.2)]
  have hT1 := H0.out.only ho1
  have c1 := hT1.b1.cell
  have l1 := hT1.b1.lt
  have c2 := hT1.b2.cell
  have l2 := hT1.b2.lt
  have f2 := hT1.b2.free
  have H1 := Lib.hid hT1
  clear ho1 hT1
  go_wp2_with fail
  have hP := H1.out.put2 (.slice A0 n c0)
  have r0 := hP.b2.cell 0
  simp only [List.getElem?_cons_zero] at r0
  refine bodyPost_ret (v := .tuple #[.agg #[.slice A0 n c0], .int .i64 2]) (by simp [results, Try.results28, go_sem, r0]) rfl ?_
  exact ⟨rfl, hP.o⟩
set_option maxRecDepth 100000 in
set_option maxHeartbeats 4000000 in
theorem rput_in {w : World} {v : Value} {qs : List (List Int)} {R : Nat → Prop} (h : RP w v qs R) (hRw : ∀ k, R k → k < w.heap.size) {i : Nat} (hi : i < qs.length) (h8 : qs.length ≤ 8) (hl : (qs.getD i []).length ≤ 99999) (x : Int) :
    Calls Try.prog 28 #[.agg #[v], .int .i64 ((i : Int) + 1), .int .i64 x] w fun e w' => ∃ v', e = .returned (.tuple #[.agg #[v'], .int .i64 0]) ∧ RP w' v' (qs.set i (qs.getD i [] ++ [x])) (more R w w') ∧ Only w w' := by
  obtain ⟨g, cap, A, c, rfl, hg, hc, hq, hR⟩ := h.at hi
  obtain ⟨l, hll⟩ : ∃ l, l = qs.getD i [] := ⟨_, rfl⟩
  rw [← hll] at hc hq hR hl ⊢
  obtain ⟨q, hql⟩ : ∃ q, q = l.length := ⟨_, rfl⟩
  obtain ⟨n, hn⟩ : ∃ n, n = qs.length := ⟨_, rfl⟩
  rw [← hql] at hc hq hR hl
  have hin : i < n := by omega
  have hi9 : i < 9 := by omega
  have u1 : (0 : Int) ≤ (i : Int) := by omega
  have u2 : (i : Int) < (n : Int) := by omega
  have w7 : IntKind.i64.wrap (i : Int) = (i : Int) := IntWalk.i64_in _ (by omega)
  have H := Lib.hid (And.intro h (And.intro hn (And.intro hRw (And.intro h8 (And.intro hq (And.intro hR hql))))))
  rw [← hn] 
  clear h hn hRw h8 hq hR hql hll hi
  go_enter Try.func28, Try.ntmps28
  go_upto_region 1 with fail
  obtain ⟨W0, hW0⟩ : ∃ W0 : World, W0 = (w.alloc (.cells #[.slice (some ⟨g, 0, none⟩) n cap] 60)).alloc (.cells #[.slice none 0 0] 60) := ⟨_, rfl⟩
  have hT0 : P2 w W0 (.slice (some ⟨g, 0, none⟩) n cap) (.slice none 0 0) := by rw [hW0]; exact P2.start w _
  rw [← hW0]
  have c1 := hT0.b1.cell
  have l1 := hT0.b1.lt
  have H0 := Lib.hid hT0
  clear hT0 hW0
  go_wp2_with fail
  have his := ris_any (H.out.1.only H0.out.o) ((i : Int) + 1)
  rw [← H.out.2.1] at his
  refine his.mono ?_
  clear his
  rintro e w1 ⟨rfl, ho1⟩
  rw [decide_eq_true (p := 1 ≤ (i : Int) + 1 ∧ (i : Int) + 1 ≤ (n : Int)) (by omega)]
  have hT1 := H0.out.only ho1
  have c1 := hT1.b1.cell
  have l1 := hT1.b1.lt
  have c2 := hT1.b2.cell
  have l2 := hT1.b2.lt
  have f2 := hT1.b2.free
  have hc1 := hT1.o.cell hc
  have hg1 := Nat.lt_of_lt_of_le hg hT1.o.size
  have n1 : g ≠ w.heap.size + 1 := by omega
  have n2 : w.heap.size + 1 ≠ g := by omega
  have n3 : g ≠ w.heap.size := by omega
  have H1 := Lib.hid hT1
  clear ho1 hT1 hc hg
  go_upto_region 3 with fail
  have hqs : Sl w w.heap.size A q c 1 (ints l) := by
    have := H.out.2.2.2.2.1
    have e := H.out.2.2.2.2.2.2
    rw [e] at this ⊢
    exact this.sl
  have HQS := Lib.hid hqs
  clear hqs
  have hj : ∀ W, Only w1 W → W.cell? ⟨w1.heap.size, 0, none⟩ = some (.int .i64 x) → w1.heap.size < W.heap.size → Calls Try.prog 50 #[.slice A q c, .slice (some ⟨w1.heap.size, 0, none⟩) 1 1] W fun e w' => ∃ A' c', e = .returned (.slice A' (q + 1) c') ∧ Qu w' w1.heap.size (.slice A' (q + 1) c') (l ++ [x]) ∧ Only w1 w' := fun W hW hx hs => by
    refine (joined1 W A _ c q l x H.out.2.2.2.2.2.2 (Sl.later HQS.out (H1.out.o.trans' hW) (H1.out.o.trans' hW).size) ⟨rfl, Nat.le_refl _, by omega, fun e => (by cases e), fun _ => ⟨_, _, rfl, hs, fun j u hu => ?_⟩⟩ (by omega)).mono ?_
    · cases j with
      | zero => simp [ints] at hu; subst hu; exact hx
      | succ j => simp [ints] at hu
    · rintro e w' ⟨A', c', rfl, h1, h2⟩
      exact ⟨A', c', rfl, h1.rebase hW.size, hW.trans' h2⟩
  have hwi : ∀ W (A' : Option Addr) (c' : Nat), Only w1 W → Qu W w1.heap.size (.slice A' (q + 1) c') (l ++ [x]) → Calls Try.prog 49 #[.agg #[.slice (some ⟨g, 0, none⟩) n cap], .int .i64 ((i : Int) + 1), .slice A' (q + 1) c'] W fun e w' => ∃ A' c', e = .returned (.agg #[.slice A' n c']) ∧ RP w' (.slice A' n c') (qs.set i (l ++ [x])) (more R w w') ∧ Only w1 w' := fun W A' c' hW hq => by
    have := rwith2 H.out.1 H.out.2.2.1 (i := i) (by rw [← H.out.2.1]; exact hin) H.out.2.2.2.1 (H1.out.o.trans' hW) (by simp [← H.out.2.2.2.2.2.2]) H1.out.o.size hq
    rw [← H.out.2.1] at this
    exact this.mono fun e w' ⟨A', c', h1, h2, h3⟩ => ⟨A', c', h1, h2, hW.trans' h3⟩
  have HJ := Lib.hid (And.intro hj hwi)
  have z1 := c1 0
  simp only [List.getElem?_cons_zero] at z1
  clear hj hwi
  go_region_held3 (fun w' => w'.cell? ⟨w.heap.size, 0, none⟩ = some (.slice (some ⟨g, 0, none⟩) n cap) ∧ w'.cell? ⟨g, i, none⟩ = some (.slice A q c))
    (first
      | go_keep
      | (go_split_ands; refine ⟨?_, ?_⟩ <;> (apply Only.cell o6; assumption))
      | (go_split_ands; refine ⟨?_, ?_⟩ <;> (apply Only.cell o5; assumption)))
    (first
      | (go_at_call 49; refine (HJ.out.2 _ _ _ o5 q5).mono ?_; rintro e w6 ⟨A6, c6, rfl, h6, o6⟩; have hT6 := H1.out.only o6; have c6x := hT6.b2.cell; have f6x := hT6.b2.free; have l6x := hT6.b2.lt; have HT := Lib.hid (And.intro hT6 h6); clear hT6 h6)
      | (go_at_call 50; refine (HJ.out.1 _ (by first | exact ((Stay.refl _ w1).alloc _).drew | exact ((Stay.refl _ w1).drew).alloc _) (by simp [World.cell?_alloc_at]) (by simp)).mono ?_; rintro e w5 ⟨A5, c5, rfl, q5, o5⟩))
  go_wp2_with fail
  have hP6 := HT.out.1.put2 (.slice A6 n c6)
  have r0 := hP6.b2.cell 0
  simp only [List.getElem?_cons_zero] at r0
  refine bodyPost_ret (v := .tuple #[.agg #[.slice A6 n c6], .int .i64 0]) (by simp [results, Try.results28, go_sem, r0]) rfl ?_
  exact ⟨_, rfl, (HT.out.2.aside HT.out.1.b2 (by decide) (by decide) 0 _).mono more_set, hP6.o⟩

end Go.Proofs.Ytfohaijdhgcneaa
