/- The reference pool: Next. -/
import Derived.Test.YtfohaijdhgcneaaRefPoolA
set_option linter.unusedVariables false
set_option linter.unusedSimpArgs false
namespace Go.Proofs.Ytfohaijdhgcneaa
open Go Go.RowKit

theorem part_facts {W : World} {v : Value} {qs : List (List Int)} {R : Nat → Prop} (h : RP W v qs R) (hR : ∀ k, R k → k < W.heap.size) {i : Nat} (hi : i < qs.length) (h8 : qs.length ≤ 8) {A : Option Addr} {m c n : Nat} {l : List Int} (hn : n = qs.length) (hm : m = l.length) (hs : Sl W W.heap.size A m c 1 (ints l)) (hb : m ≤ 100000) :
    (∀ W', Only W W' → Calls Try.prog 50 #[.slice A m c, .slice none 0 0] W' fun e w' => ∃ A' c', e = .returned (.slice A' m c') ∧ Qu w' W.heap.size (.slice A' m c') l ∧ Only W w') ∧
    ∀ W' (A' : Option Addr) (c' : Nat), Only W W' → Qu W' W.heap.size (.slice A' m c') l → Calls Try.prog 49 #[.agg #[v], .int .i64 ((i : Int) + 1), .slice A' m c'] W' fun e w' => ∃ A' c', e = .returned (.agg #[.slice A' n c']) ∧ RP w' (.slice A' n c') (qs.set i l) (more R W w') ∧ Only W w' := by
  subst hn
  refine ⟨fun W' ho => ?_, fun W' A' c' ho hq => ?_⟩
  · refine (joined0 W' A c m l hm (Sl.later hs ho ho.size) hb).mono ?_
    rintro e w' ⟨A', c', rfl, h1, h2⟩
    exact ⟨A', c', rfl, h1.rebase ho.size, ho.trans' h2⟩
  · refine (rwith2 h hR hi h8 ho hm (Nat.le_refl _) hq).mono ?_
    rintro e w' ⟨A', c', rfl, h1, h2⟩
    exact ⟨A', c', rfl, h1, ho.trans' h2⟩
theorem rn_cells (w W : World) (v v2 : Value) (h : P2 w W v v2) : W.cell? ⟨w.heap.size, 0, none⟩ = some v ∧ W.cell? ⟨w.heap.size + 1, 0, none⟩ = some v2 := ⟨by simpa using h.b1.cell 0, by simpa using h.b2.cell 0⟩
set_option maxRecDepth 100000 in
set_option maxHeartbeats 4000000 in
theorem rnext_out {w : World} {v : Value} {qs : List (List Int)} {R : Nat → Prop} (h : RP w v qs R) (x y : Int) (hx : ¬ (1 ≤ x ∧ x ≤ (qs.length : Int))) :
    Calls Try.prog 30 #[.agg #[v], .int .i64 x, .int .i64 y] w fun e w' => e = .returned (.tuple #[.agg #[v], .int .i64 0, .int .i64 0, .bool false]) ∧ Only w w' := by
  obtain ⟨A0, c0, rfl⟩ := h.shape
  obtain ⟨n, hn⟩ : ∃ n, n = qs.length := ⟨_, rfl⟩
  have H := Lib.hid (And.intro h (And.intro hn hx))
  rw [← hn]
  clear h hn hx
  go_enter Try.func30, Try.ntmps30
  go_upto_region 1 with fail
  obtain ⟨W0, hW0⟩ : ∃ W0 : World, W0 = (w.alloc (.cells #[.slice A0 n c0] 60)).alloc (.cells #[.slice none 0 0] 60) := ⟨_, rfl⟩
  have hT0 : P2 w W0 (.slice A0 n c0) (.slice none 0 0) := by rw [hW0]; exact P2.start w _
  rw [← hW0]
  have c1 := hT0.b1.cell
  have l1 := hT0.b1.lt
  have H0 := Lib.hid hT0
  clear hT0 hW0
  go_wp2_with fail
  have his := ris_any (H.out.1.only H0.out.o) x
  rw [← H.out.2.1] at his
  refine his.mono ?_
  clear his
  rintro e w1 ⟨rfl, ho1⟩
  rw [decide_eq_false (by rw [H.out.2.1]; exact H.out.2.2)]
  have hT1 := H0.out.only ho1
  have c1 := hT1.b1.cell
  have l1 := hT1.b1.lt
  have c2 := hT1.b2.cell
  have l2 := hT1.b2.lt
  have f2 := hT1.b2.free
  have H1 := Lib.hid hT1
  clear ho1 hT1
  go_wp2_with fail
  have hP := H1.out.put2 (.slice A0 n c0)
  have r0 := hP.b2.cell 0
  simp only [List.getElem?_cons_zero] at r0
  refine bodyPost_ret (v := .tuple #[.agg #[.slice A0 n c0], .int .i64 0, .int .i64 0, .bool false]) (by simp [results, Try.results30, go_sem, r0]) rfl ?_
  exact ⟨rfl, hP.o⟩
set_option maxRecDepth 100000 in
set_option maxHeartbeats 4000000 in
theorem rnext_own {w : World} {v : Value} {qs : List (List Int)} {R : Nat → Prop} (h : RP w v qs R) (hRw : ∀ k, R k → k < w.heap.size) {i : Nat} (hi : i < qs.length) (h8 : qs.length ≤ 8) {x : Int} {l : List Int} (hx : qs.getD i [] = x :: l) (hl : l.length ≤ 100000) (seed : Int) :
    Calls Try.prog 30 #[.agg #[v], .int .i64 ((i : Int) + 1), .int .i64 seed] w fun e w' => ∃ v', e = .returned (.tuple #[.agg #[v'], .int .i64 x, .int .i64 ((i : Int) + 1), .bool true]) ∧ RP w' v' (qs.set i l) (more R w w') ∧ Only w w' := by
  obtain ⟨g, cap, A, c, rfl, hg, hc, hq, hR⟩ := h.at hi
  obtain ⟨n, hn⟩ : ∃ n, n = qs.length := ⟨_, rfl⟩
  have hin : i < n := by omega
  have hi9 : i < 9 := by omega
  have u1 : (0 : Int) ≤ (i : Int) := by omega
  have u2 : (i : Int) < (n : Int) := by omega
  have w7 : IntKind.i64.wrap (i : Int) = (i : Int) := IntWalk.i64_in _ (by omega)
  obtain ⟨q, hqn⟩ : ∃ q, q = l.length := ⟨_, rfl⟩
  have hql : (qs.getD i []).length = q + 1 := by rw [hx, hqn]; rfl
  obtain ⟨ga, oa, ca, e4, hga, hlc, hcm, hcells⟩ := hq.form (by omega)
  have e4' : A = some ⟨ga, oa, none⟩ ∧ c = ca := by simpa using e4
  obtain ⟨rfl, rfl⟩ := e4'
  have hsl := Qu.back hq (m := 1) (by omega) (by omega)
  have hx0 := hcells 0 x (by rw [hx]; rfl)
  rw [Nat.add_zero] at hx0
  rw [hql] at hc hlc
  have hdl : (qs.getD i []).drop 1 = l := by rw [hx]; rfl
  rw [hdl, ← hqn] at hsl
  obtain ⟨Ax, hAx⟩ : ∃ Ax, (if c = 1 then some (⟨ga, oa, none⟩ : Addr) else some ⟨ga, oa + 1, none⟩) = Ax := ⟨_, rfl⟩
  rw [hAx] at hsl
  have u5 : (1 : Int) ≤ (q : Int) + 1 := by omega
  have HX := Lib.hid (And.intro hsl (And.intro hqn hl))
  clear e4 hcells hql hdl hsl hqn hx hl
  have H := Lib.hid (And.intro h (And.intro hn (And.intro hRw h8)))
  rw [← hn]
  clear h hn hRw h8 hq hR hi
  go_enter Try.func30, Try.ntmps30
  go_upto_region 1 with fail
  obtain ⟨W0, hW0⟩ : ∃ W0 : World, W0 = (w.alloc (.cells #[.slice (some ⟨g, 0, none⟩) n cap] 60)).alloc (.cells #[.slice none 0 0] 60) := ⟨_, rfl⟩
  have hT0 : P2 w W0 (.slice (some ⟨g, 0, none⟩) n cap) (.slice none 0 0) := by rw [hW0]; exact P2.start w _
  rw [← hW0]
  have c1 := hT0.b1.cell
  have l1 := hT0.b1.lt
  have H0 := Lib.hid hT0
  clear hT0 hW0
  go_wp2_with fail
  have his := ris_any (H.out.1.only H0.out.o) ((i : Int) + 1)
  rw [← H.out.2.1] at his
  refine his.mono ?_
  clear his
  rintro e w1 ⟨rfl, ho1⟩
  rw [decide_eq_true (p := 1 ≤ (i : Int) + 1 ∧ (i : Int) + 1 ≤ (n : Int)) (by omega)]
  have hT1 := H0.out.only ho1
  have c1 := hT1.b1.cell
  have l1 := hT1.b1.lt
  have c2 := hT1.b2.cell
  have l2 := hT1.b2.lt
  have f2 := hT1.b2.free
  have hc1 := hT1.o.cell hc
  have hg1 := Nat.lt_of_lt_of_le hg hT1.o.size
  have n1 : g ≠ w.heap.size + 1 := by omega
  have n2 : w.heap.size + 1 ≠ g := by omega
  have n3 : g ≠ w.heap.size := by omega
  have hRP1 : RP w1 (.slice (some ⟨g, 0, none⟩) n cap) qs R := by have := H.out.1.only hT1.o; rw [← H.out.2.1] at this; exact this
  have H1 := Lib.hid (And.intro hT1 hRP1)
  clear ho1 hT1 hRP1 hc hg
  have hx1 := H1.out.1.o.cell hx0
  have z1 := c1 0
  simp only [List.getElem?_cons_zero] at z1
  have hga1 := Nat.lt_of_lt_of_le hga H1.out.1.o.size
  have n4 : ga ≠ w.heap.size + 1 := by omega
  have n5 : w.heap.size + 1 ≠ ga := by omega
  have hpf := part_facts H1.out.2 (fun k hk => Nat.lt_of_lt_of_le (H.out.2.2.1 k hk) H1.out.1.o.size) (i := i) (by rw [← H.out.2.1]; exact hin) H.out.2.2.2 H.out.2.1 HX.out.2.1 (Sl.later HX.out.1 H1.out.1.o H1.out.1.o.size) (by rw [HX.out.2.1]; exact HX.out.2.2)
  have HJ := Lib.hid hpf
  clear hpf hx0 hga
  go_upto_region 13 with fail
  go_region_held3 (fun w' => w'.cell? ⟨w.heap.size, 0, none⟩ = some (.slice (some ⟨g, 0, none⟩) n cap) ∧ w'.cell? ⟨ga, oa, none⟩ = some (.int .i64 x))
    (first
      | go_keep
      | (go_split_ands; refine ⟨?_, ?_⟩ <;> (apply Only.cell o6; assumption))
      | (go_split_ands; refine ⟨?_, ?_⟩ <;> (apply Only.cell o5; assumption)))
    (first
      | (go_at_call 49; refine (HJ.out.2 _ _ _ o5 q5).mono ?_; rintro e w6 ⟨A6, c6, rfl, h6, o6⟩; have hT6 := H1.out.1.only o6; have c6x := hT6.b2.cell; have f6x := hT6.b2.free; have l6x := hT6.b2.lt; have HT := Lib.hid (And.intro hT6 h6); clear hT6 h6)
      | (go_at_call 50; refine (HJ.out.1 _ (by first | exact (Stay.refl _ w1).drew | exact Stay.refl _ w1)).mono ?_; rintro e w5 ⟨A5, c5, rfl, q5, o5⟩))
  go_wp2_with fail
  have hP6 := HT.out.1.put2 (.slice A6 n c6)
  have r0 := hP6.b2.cell 0
  simp only [List.getElem?_cons_zero] at r0
  refine bodyPost_ret (v := .tuple #[.agg #[.slice A6 n c6], .int .i64 x, .int .i64 ((i : Int) + 1), .bool true]) (by simp [results, Try.results30, go_sem, r0]) rfl ?_
  exact ⟨_, rfl, (HT.out.2.aside HT.out.1.b2 (by decide) (by decide) 0 _).mono (fun k hk => more_set k (hk.elim .inl (fun h => .inr ⟨Nat.le_trans H1.out.1.o.size h.1, h.2⟩))), hP6.o⟩
set_option maxRecDepth 100000 in
set_option maxHeartbeats 4000000 in
theorem rnext_none {w : World} {v : Value} {qs : List (List Int)} {R : Nat → Prop} (h : RP w v qs R) (hRw : ∀ k, R k → k < w.heap.size) {i : Nat} (hi : i < qs.length) (h8 : qs.length ≤ 8) (hx : qs.getD i [] = []) (seed : Int) (hno : pFind qs (i + 1) seed = none) :
    Calls Try.prog 30 #[.agg #[v], .int .i64 ((i : Int) + 1), .int .i64 seed] w fun e w' => ∃ v', e = .returned (.tuple #[.agg #[v'], .int .i64 0, .int .i64 0, .bool false]) ∧ RP w' v' qs (more R w w') ∧ Only w w' := by
  obtain ⟨g, cap, A, c, rfl, hg, hc, hq, hR⟩ := h.at hi
  obtain ⟨n, hn⟩ : ∃ n, n = qs.length := ⟨_, rfl⟩
  have hin : i < n := by omega
  have hi9 : i < 9 := by omega
  have u1 : (0 : Int) ≤ (i : Int) := by omega
  have u2 : (i : Int) < (n : Int) := by omega
  have w7 : IntKind.i64.wrap (i : Int) = (i : Int) := IntWalk.i64_in _ (by omega)
  have hql : (qs.getD i []).length = 0 := by rw [hx]; rfl
  rw [hql] at hc
  clear hql
  have H := Lib.hid (And.intro h (And.intro hn (And.intro hRw h8)))
  rw [← hn]
  clear h hn hRw h8 hq hR hi
  go_enter Try.func30, Try.ntmps30
  go_upto_region 1 with fail
  obtain ⟨W0, hW0⟩ : ∃ W0 : World, W0 = (w.alloc (.cells #[.slice (some ⟨g, 0, none⟩) n cap] 60)).alloc (.cells #[.slice none 0 0] 60) := ⟨_, rfl⟩
  have hT0 : P2 w W0 (.slice (some ⟨g, 0, none⟩) n cap) (.slice none 0 0) := by rw [hW0]; exact P2.start w _
  rw [← hW0]
  have c1 := hT0.b1.cell
  have l1 := hT0.b1.lt
  have H0 := Lib.hid hT0
  clear hT0 hW0
  go_wp2_with fail
  have his := ris_any (H.out.1.only H0.out.o) ((i : Int) + 1)
  rw [← H.out.2.1] at his
  refine his.mono ?_
  clear his
  rintro e w1 ⟨rfl, ho1⟩
  rw [decide_eq_true (p := 1 ≤ (i : Int) + 1 ∧ (i : Int) + 1 ≤ (n : Int)) (by omega)]
  have hT1 := H0.out.only ho1
  have c1 := hT1.b1.cell
  have l1 := hT1.b1.lt
  have c2 := hT1.b2.cell
  have l2 := hT1.b2.lt
  have f2 := hT1.b2.free
  have hc1 := hT1.o.cell hc
  have hg1 := Nat.lt_of_lt_of_le hg hT1.o.size
  have n1 : g ≠ w.heap.size + 1 := by omega
  have n2 : w.heap.size + 1 ≠ g := by omega
  have n3 : g ≠ w.heap.size := by omega
  have hRP1 : RP w1 (.slice (some ⟨g, 0, none⟩) n cap) qs R := by have := H.out.1.only hT1.o; rw [← H.out.2.1] at this; exact this
  have H1 := Lib.hid (And.intro hT1 hRP1)
  clear ho1 hT1 hRP1 hc hg
  have HX := Lib.hid hno
  clear hno hx
  go_wp2_with fail
  have hvi := rvictim_any H1.out.2 (i := i) (by rw [← H.out.2.1]; exact hin) H.out.2.2.2 seed
  rw [HX.out] at hvi
  refine hvi.mono ?_
  clear hvi
  rintro e w2 ⟨rfl, ho2⟩
  have hT2 := H1.out.1.only ho2
  have c1 := hT2.b1.cell
  have l1 := hT2.b1.lt
  have c2 := hT2.b2.cell
  have l2 := hT2.b2.lt
  have f2 := hT2.b2.free
  have H2 := Lib.hid (And.intro hT2 (H1.out.2.only ho2))
  clear ho2 hT2
  unfold oneUp
  go_wp2_with fail
  have hP6 := H2.out.1.put2 (.slice (some ⟨g, 0, none⟩) n cap)
  have r0 := hP6.b2.cell 0
  simp only [List.getElem?_cons_zero] at r0
  refine bodyPost_ret (v := .tuple #[.agg #[.slice (some ⟨g, 0, none⟩) n cap], .int .i64 0, .int .i64 0, .bool false]) (by simp [results, Try.results30, go_sem, r0]) rfl ?_
  exact ⟨_, rfl, (H2.out.2.aside H2.out.1.b2 (by decide) (by decide) 0 _).mono (fun k hk => .inl hk), hP6.o⟩
set_option maxRecDepth 100000 in
set_option maxHeartbeats 4000000 in
theorem rnext_some {w : World} {v : Value} {qs : List (List Int)} {R : Nat → Prop} (h : RP w v qs R) (hRw : ∀ k, R k → k < w.heap.size) {i : Nat} (hi : i < qs.length) (h8 : qs.length ≤ 8) (hll : ∀ j, (qs.getD j []).length ≤ 100000) (hq0 : qs.getD i [] = []) {j : Nat} {x : Int} {l : List Int} (hx : (pHalf qs i j).getD i [] = x :: l) (hl : l.length ≤ 100000) (seed : Int) (hyes : pFind qs (i + 1) seed = some j) (hj : j < qs.length) (hne : 0 < (qs.getD j []).length) :
    Calls Try.prog 30 #[.agg #[v], .int .i64 ((i : Int) + 1), .int .i64 seed] w fun e w' => ∃ v', e = .returned (.tuple #[.agg #[v'], .int .i64 x, .int .i64 ((j : Int) + 1), .bool true]) ∧ RP w' v' ((pHalf qs i j).set i l) (more R w w') ∧ Only w w' := by
  obtain ⟨g, cap, A, c, rfl, hg, hc, hq, hR⟩ := h.at hi
  obtain ⟨n, hn⟩ : ∃ n, n = qs.length := ⟨_, rfl⟩
  have hin : i < n := by omega
  have hi9 : i < 9 := by omega
  have u1 : (0 : Int) ≤ (i : Int) := by omega
  have u2 : (i : Int) < (n : Int) := by omega
  have w7 : IntKind.i64.wrap (i : Int) = (i : Int) := IntWalk.i64_in _ (by omega)
  have hql : (qs.getD i []).length = 0 := by rw [hq0]; rfl
  rw [hql] at hc
  clear hql
  obtain ⟨gj, capj, Aj, cj, e1, hgj, hcj, hqj, hRj⟩ := h.at hj
  have e1' : g = gj ∧ cap = capj := by simpa using e1
  obtain ⟨rfl, rfl⟩ := e1'
  have hjn : j < n := by omega
  have hj9 : j < 9 := by omega
  have u3 : (0 : Int) ≤ (j : Int) := by omega
  have u4 : (j : Int) < (n : Int) := by omega
  have w8 : IntKind.i64.wrap (j : Int) = (j : Int) := IntWalk.i64_in _ (by omega)
  have bj : ((j : Int) + 1 == 0) = false := by simp; omega
  obtain ⟨m, hm⟩ : ∃ m, m = (qs.getD j []).length := ⟨_, rfl⟩
  have hlj := hll j
  obtain ⟨hf, hhf⟩ : ∃ hf, hf = (m + 1) / 2 := ⟨_, rfl⟩
  obtain ⟨gb, ob, cb, e5, hgb, hlb, hmb, hcellsb⟩ := hqj.form hne
  rw [← hm] at e5 hlb hcj hlj hne
  have e5' : Aj = some ⟨gb, ob, none⟩ ∧ cj = cb := by simpa using e5
  obtain ⟨rfl, rfl⟩ := e5'
  have hfm : hf ≤ m := by omega
  have hf1 : 1 ≤ hf := by omega
  have w5 : IntKind.i64.wrap ((m : Int) + 1) = (m : Int) + 1 := IntWalk.i64_in _ (by omega)
  have q5 : ((m : Int) + 1).tdiv 2 = (hf : Int) := by
    rw [Int.tdiv_eq_ediv_of_nonneg (by omega)]
    omega
  have w6 : IntKind.i64.wrap (hf : Int) = (hf : Int) := IntWalk.i64_in _ (by omega)
  have u5 : (0 : Int) ≤ (hf : Int) := by omega
  have u6 : (hf : Int) ≤ (cj : Int) := by omega
  have u9 : (hf : Int) ≤ (m : Int) := by omega
  have hslf := hqj.sl.front (m := hf) (by omega)
  have hft : hf = ((qs.getD j []).take hf).length := by rw [List.length_take]; omega
  rw [← hft] at hslf
  have hslb := Qu.back hqj (m := hf) (by omega) (by omega)
  have hbt : m - hf = ((qs.getD j []).drop hf).length := by rw [List.length_drop]; omega
  rw [← hbt] at hslb
  obtain ⟨Ax, hAx⟩ : ∃ Ax, (if cj = hf then some (⟨gb, ob, none⟩ : Addr) else some ⟨gb, ob + hf, none⟩) = Ax := ⟨_, rfl⟩
  rw [hAx] at hslb
  have HX := Lib.hid (And.intro hyes (And.intro hm (And.intro hhf (And.intro hslf (And.intro hft (And.intro hslb hbt))))))
  have HL := Lib.hid (And.intro hx hl)
  have HS := Lib.hid (And.intro hj (And.intro hlj hi))
  clear hyes hm hhf hslf hft hslb hbt hx hl hll hq0 hj e1 e5 hqj hRj hcellsb hlj hgj
  have H := Lib.hid (And.intro h (And.intro hn (And.intro hRw h8)))
  rw [← hn]
  clear h hn hRw h8 hq hR hi
  go_enter Try.func30, Try.ntmps30
  go_upto_region 1 with fail
  obtain ⟨W0, hW0⟩ : ∃ W0 : World, W0 = (w.alloc (.cells #[.slice (some ⟨g, 0, none⟩) n cap] 60)).alloc (.cells #[.slice none 0 0] 60) := ⟨_, rfl⟩
  have hT0 : P2 w W0 (.slice (some ⟨g, 0, none⟩) n cap) (.slice none 0 0) := by rw [hW0]; exact P2.start w _
  rw [← hW0]
  have c1 := hT0.b1.cell
  have l1 := hT0.b1.lt
  have H0 := Lib.hid hT0
  clear hT0 hW0
  go_wp2_with fail
  have his := ris_any (H.out.1.only H0.out.o) ((i : Int) + 1)
  rw [← H.out.2.1] at his
  refine his.mono ?_
  clear his
  rintro e w1 ⟨rfl, ho1⟩
  rw [decide_eq_true (p := 1 ≤ (i : Int) + 1 ∧ (i : Int) + 1 ≤ (n : Int)) (by omega)]
  have hT1 := H0.out.only ho1
  have c1 := hT1.b1.cell
  have l1 := hT1.b1.lt
  have c2 := hT1.b2.cell
  have l2 := hT1.b2.lt
  have f2 := hT1.b2.free
  have hc1 := hT1.o.cell hc
  have hg1 := Nat.lt_of_lt_of_le hg hT1.o.size
  have n1 : g ≠ w.heap.size + 1 := by omega
  have n2 : w.heap.size + 1 ≠ g := by omega
  have n3 : g ≠ w.heap.size := by omega
  have hRP1 : RP w1 (.slice (some ⟨g, 0, none⟩) n cap) qs R := by have := H.out.1.only hT1.o; rw [← H.out.2.1] at this; exact this
  have H1 := Lib.hid (And.intro hT1 hRP1)
  clear ho1 hT1 hRP1 hc hg
  have hcj1 := H1.out.1.o.cell hcj
  have hgb1 := Nat.lt_of_lt_of_le hgb H1.out.1.o.size
  clear hcj hgb
  go_wp2_with fail
  have hvi := rvictim_any H1.out.2 (i := i) (by rw [← H.out.2.1]; exact hin) H.out.2.2.2 seed
  rw [HX.out.1] at hvi
  refine hvi.mono ?_
  clear hvi
  rintro e w2 ⟨rfl, ho2⟩
  have hT2 := H1.out.1.only ho2
  have c1 := hT2.b1.cell
  have l1 := hT2.b1.lt
  have c2 := hT2.b2.cell
  have l2 := hT2.b2.lt
  have f2 := hT2.b2.free
  have f1 := hT2.b1.free
  have hcj2 := ho2.cell hcj1
  have hg2 := Nat.lt_of_lt_of_le hg1 ho2.size
  have hgb2 := Nat.lt_of_lt_of_le hgb1 ho2.size
  have hpa := part_facts (H1.out.2.only ho2) (fun k hk => Nat.lt_of_lt_of_le (H.out.2.2.1 k hk) hT2.o.size) (i := i) HS.out.2.2 H.out.2.2.2 H.out.2.1 HX.out.2.2.2.2.1 (Sl.later HX.out.2.2.2.1 hT2.o hT2.o.size) (by have := HS.out.2.1; omega)
  have H2 := Lib.hid (And.intro hT2 (And.intro (H1.out.2.only ho2) hpa))
  clear ho2 hT2 hpa hcj1 hgb1 hg1 hc1
  unfold oneUp
  go_upto_region 10 with fail
  go_cut [] from 14 to 74 (fun we => ∃ A3 c3, P2 w we (.slice A3 n c3) (.slice none 0 0) ∧ RP we (.slice A3 n c3) (qs.set i ((qs.getD j []).take hf)) (more R w we))
  case first =>
    have z1 := c1 0
    simp only [List.getElem?_cons_zero] at z1
    go_region_with
      (first
        | (go_at_call 49; refine (H2.out.2.2.2 _ _ _ o5 q5).mono ?_; rintro e w6 ⟨A6, c6, rfl, h6, o6⟩; have hT6 := H2.out.1.only o6; have c6x := hT6.b1.cell; have f6x := hT6.b1.free; have l6x := hT6.b1.lt; have HT := Lib.hid (And.intro hT6 (And.intro h6 o6)); clear hT6 h6)
        | (go_at_call 50; refine (H2.out.2.2.1 _ (by first | exact (Stay.refl _ w2).drew | exact Stay.refl _ w2)).mono ?_; rintro e w5 ⟨A5, c5, rfl, q5, o5⟩; have hT5 := H2.out.1.only o5; have c5x := hT5.b1.cell; have l5x := hT5.b1.lt; clear hT5))
    all_goals
      go_wp2_with fail
      go_meet
      case rel =>
        have hP6 := HT.out.1.put1 (.slice A6 n c6)
        exact ⟨_, _, hP6, (HT.out.2.1.aside HT.out.1.b1 (by decide) (by decide) 0 _).mono (fun k hk => more_set k (hk.elim .inl (fun h => .inr ⟨Nat.le_trans H2.out.1.o.size h.1, h.2⟩)))⟩
  case rest =>
    obtain ⟨A3, c3, hT3, hRP3⟩ := hcut
    obtain ⟨qs2, hqs2⟩ : ∃ qs2, qs2 = qs.set i ((qs.getD j []).take hf) := ⟨_, rfl⟩
    rw [← hqs2] at hRP3
    have hn2 : n = qs2.length := by rw [hqs2, List.length_set]; exact H.out.2.1
    have hpa := part_facts hRP3 (more_lt H.out.2.2.1 hT3.o.size) (i := j) (by rw [← hn2]; exact hjn) (by rw [← hn2, H.out.2.1]; exact H.out.2.2.2) hn2 HX.out.2.2.2.2.2.2 (Sl.later HX.out.2.2.2.2.2.1 hT3.o hT3.o.size) (by have := HS.out.2.1; omega)
    have c1 := hT3.b1.cell
    have l1 := hT3.b1.lt
    have f1 := hT3.b1.free
    have H3 := Lib.hid (And.intro hT3 (And.intro hRP3 (And.intro hpa (And.intro hqs2 hn2))))
    clear hT3 hRP3 hpa hqs2 hn2 hcj2
    go_upto_region 11 with fail
    go_cut [] from 14 to 74 (fun we => ∃ A4 c4, P2 w we (.slice A4 n c4) (.slice none 0 0) ∧ RP we (.slice A4 n c4) (pHalf qs i j) (more R w we))
    case first =>
      go_region_with
        (first
          | (go_at_call 49; refine (H3.out.2.2.1.2 _ _ _ o5 q5).mono ?_; rintro e w6 ⟨A6, c6, rfl, h6, o6⟩; have hT6 := H3.out.1.only o6; have c6x := hT6.b1.cell; have f6x := hT6.b1.free; have l6x := hT6.b1.lt; have HT := Lib.hid (And.intro hT6 (And.intro h6 o6)); clear hT6 h6)
          | (go_at_call 50; refine (H3.out.2.2.1.1 _ (by first | exact (Stay.refl _ wc).drew | exact Stay.refl _ wc)).mono ?_; rintro e w5 ⟨A5, c5, rfl, q5, o5⟩; have hT5 := H3.out.1.only o5; have c5x := hT5.b1.cell; have l5x := hT5.b1.lt; clear hT5))
      all_goals
        go_wp2_with fail
        go_meet
        case rel =>
          have hP6 := HT.out.1.put1 (.slice A6 n c6)
          have hh := HT.out.2.1
          rw [H3.out.2.2.2.1] at hh
          have hpp : (qs.set i ((qs.getD j []).take hf)).set j ((qs.getD j []).drop hf) = pHalf qs i j := by unfold pHalf; rw [HX.out.2.2.1, HX.out.2.1]
          rw [hpp] at hh
          exact ⟨_, _, hP6, (hh.aside HT.out.1.b1 (by decide) (by decide) 0 _).mono (fun k hk => more_set k (more_more H3.out.1.o.size HT.out.2.2.size k hk))⟩
    case rest =>
      obtain ⟨A4, c4, hT4, hRP4⟩ := hcut
      have hn4 : n = (pHalf qs i j).length := by rw [half_len]; exact H.out.2.1
      obtain ⟨g4, cap4, A, c, e4, hg4, hc4, hq4, hR4⟩ := hRP4.at (i := i) (by rw [← hn4]; exact hin)
      rw [← hn4] at e4
      have e4' : A4 = some ⟨g4, 0, none⟩ ∧ c4 = cap4 := by simpa using e4
      obtain ⟨rfl, rfl⟩ := e4'
      obtain ⟨q, hqn⟩ : ∃ q, q = l.length := ⟨_, rfl⟩
      have hx := HL.out.1
      have hql : ((pHalf qs i j).getD i []).length = q + 1 := by rw [hx, hqn]; rfl
      obtain ⟨ga, oa, ca, e6, hga, hlc, hcm, hcells⟩ := hq4.form (by omega)
      have e6' : A = some ⟨ga, oa, none⟩ ∧ c = ca := by simpa using e6
      obtain ⟨rfl, rfl⟩ := e6'
      have hsl := Qu.back hq4 (m := 1) (by omega) (by omega)
      have hx1 := hcells 0 x (by rw [hx]; rfl)
      rw [Nat.add_zero] at hx1
      rw [hql] at hc4 hlc
      have hdl : ((pHalf qs i j).getD i []).drop 1 = l := by rw [hx]; rfl
      rw [hdl, ← hqn] at hsl
      obtain ⟨Ay, hAy⟩ : ∃ Ay, (if c = 1 then some (⟨ga, oa, none⟩ : Addr) else some ⟨ga, oa + 1, none⟩) = Ay := ⟨_, rfl⟩
      rw [hAy] at hsl
      have u7 : (1 : Int) ≤ (q : Int) + 1 := by omega
      have hpf := part_facts hRP4 (more_lt H.out.2.2.1 hT4.o.size) (i := i) (by rw [← hn4]; exact hin) (by rw [← hn4, H.out.2.1]; exact H.out.2.2.2) hn4 hqn hsl (by rw [hqn]; exact HL.out.2)
      have HJ := Lib.hid hpf
      have c1 := hT4.b1.cell
      have l1 := hT4.b1.lt
      have z1 := c1 0
      simp only [List.getElem?_cons_zero] at z1
      have c2 := hT4.b2.cell
      have l2 := hT4.b2.lt
      have f2 := hT4.b2.free
      have m1 : g4 ≠ w.heap.size + 1 := hRP4.ne_blk hT4.b2 (by decide)
      have m2 : w.heap.size + 1 ≠ g4 := m1.symm
      have n4 : ga ≠ w.heap.size + 1 := hq4.ne_blk hT4.b2 (by decide) ga rfl
      have n5 : w.heap.size + 1 ≠ ga := n4.symm
      have H4 := Lib.hid (And.intro hT4 hRP4)
      clear hpf hT4 hRP4 hn4 e4 hq4 hR4 hqn hx hql e6 hcells hsl hdl f1 HL HX HS
      go_upto_region 13 with fail
      go_region_held3 (fun w' => w'.cell? ⟨w.heap.size, 0, none⟩ = some (.slice (some ⟨g4, 0, none⟩) n c4) ∧ w'.cell? ⟨ga, oa, none⟩ = some (.int .i64 x))
        (first
          | go_keep
          | (go_split_ands; refine ⟨?_, ?_⟩ <;> (apply Only.cell o6; assumption))
          | (go_split_ands; refine ⟨?_, ?_⟩ <;> (apply Only.cell o5; assumption)))
        (first
          | (go_at_call 49; refine (HJ.out.2 _ _ _ o5 q5).mono ?_; rintro e w6 ⟨A6, c6, rfl, h6, o6⟩; have hT6 := H4.out.1.only o6; have c6x := hT6.b2.cell; have f6x := hT6.b2.free; have l6x := hT6.b2.lt; have HT := Lib.hid (And.intro hT6 h6); clear hT6 h6)
          | (go_at_call 50; refine (HJ.out.1 _ (by first | exact (Stay.refl _ wc).drew | exact Stay.refl _ wc)).mono ?_; rintro e w5 ⟨A5, c5, rfl, q5, o5⟩))
      go_wp2_with fail
      have hP6 := HT.out.1.put2 (.slice A6 n c6)
      have r0 := hP6.b2.cell 0
      simp only [List.getElem?_cons_zero] at r0
      refine bodyPost_ret (v := .tuple #[.agg #[.slice A6 n c6], .int .i64 x, .int .i64 ((j : Int) + 1), .bool true]) (by simp [results, Try.results30, go_sem, r0]) rfl ?_
      exact ⟨_, rfl, (HT.out.2.aside HT.out.1.b2 (by decide) (by decide) 0 _).mono (fun k hk => more_set k (more_more H4.out.1.o.size o6.size k hk)), hP6.o⟩
end Go.Proofs.Ytfohaijdhgcneaa
