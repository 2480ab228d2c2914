/- The reference clock: Arm, Disarm. -/
import Derived.Test.YtbkbcpnpbfnmgaaDoorRefCA
import Derived.Test.YtbkbcpnpbfnmgaaDoorClockOps
import Derived.Test.YtbkbcpnpbfnmgaaDoorLawOuts
set_option linter.unusedVariables false
set_option linter.unusedSimpArgs false
namespace Go.Proofs.YtbkbcpnpbfnmgaaDoor
open Go Go.RowKit

/-- The structs of a call of the reference: what came in, the result. -/
structure U2 (w W : World) (l1 l2 : List Value) : Prop where
  o : Only w W
  b1 : Blk W w.heap.size 53 l1
  b2 : Blk W (w.heap.size + 1) 53 l2
theorem U2.start (w : World) (a b c : Value) : U2 w ((w.alloc (.cells #[a, b, c] 53)).alloc (.cells #[.int .i64 0, .int .i64 0, .slice none 0 0] 53)) [a, b, c] [.int .i64 0, .int .i64 0, .slice none 0 0] :=
  ⟨((Stay.refl _ w).alloc _).alloc _, (Blk.new w [a, b, c] _).alloc _, Blk.newAt _ [.int .i64 0, .int .i64 0, .slice none 0 0] _ _ (by simp)⟩
theorem U2.only {w W W' : World} {l1 l2 : List Value} (h : U2 w W l1 l2) (ho : Only W W') : U2 w W' l1 l2 := ⟨h.o.trans' ho, ho.blk h.b1, ho.blk h.b2⟩
theorem U2.put1 {w W : World} {l1 l2 : List Value} (h : U2 w W l1 l2) (i : Nat) (v : Value) : U2 w (W.setCell ⟨w.heap.size, i, none⟩ v) (l1.set i v) l2 :=
  ⟨h.o.new (by omega) i v, h.b1.set i v, h.b2.set_other (by simp) v⟩
theorem U2.put2 {w W : World} {l1 l2 : List Value} (h : U2 w W l1 l2) (i : Nat) (v : Value) : U2 w (W.setCell ⟨w.heap.size + 1, i, none⟩ v) l1 (l2.set i v) :=
  ⟨h.o.new (by omega) i v, h.b1.set_other (by simp) v, h.b2.set i v⟩
theorem U2.put3 {w W : World} {l1 l2 : List Value} (h : U2 w W l1 l2) (hl : l2.length = 3) (a b c : Value) :
    U2 w (((W.setCell ⟨w.heap.size + 1, 0, none⟩ a).setCell ⟨w.heap.size + 1, 1, none⟩ b).setCell ⟨w.heap.size + 1, 2, none⟩ c) l1 [a, b, c] := by
  match l2, hl with
  | [x0, x1, x2], _ => exact ((h.put2 0 a).put2 1 b).put2 2 c
/-- Behind an append to a row of the call's own. -/
theorem U2.row {w W W' : World} {l1 l2 : List Value} (h : U2 w W l1 l2) {e : TypeId} {s n : Nat} {v : Value} {xs : List Value} {B : Nat} (hr : W.ownsRow B e s v n xs) (hB : w.heap.size ≤ B) (hne : e ≠ 53) (hs : Stay (fun k => v.ownBlock = some k) W W') : U2 w W' l1 l2 :=
  ⟨h.o.trans hs (fun k hk e => by have := (own_lt hr k e).1; omega), hs.blk h.b1 (fun e => own_ne_blk hr h.b1 hne _ e rfl), hs.blk h.b2 (fun e => own_ne_blk hr h.b2 hne _ e rfl)⟩
/-- A clock of the reference, as it comes in. -/
structure RcIn (w : World) (C : Ck) (A : Option Addr) (c : Nat) : Prop where
  ok : C.Ok
  sl : Sl w w.heap.size A C.ts.length c 2 (C.ts.flatMap Tm.cells)
abbrev Ck.val (C : Ck) (v : Value) : Value := .agg #[.int .i64 C.now, .int .i64 C.made, v]
/-- .. and behind a call. -/
def RcOut (w : World) (C : Ck) (A : Option Addr) (c : Nat) (C' : Ck) (v' : Value) (w' : World) : Prop :=
  (v' = .slice A C.ts.length c ∧ C'.ts = C.ts ∨ w'.ownsRow w.heap.size 39 2 v' C'.ts.length (C'.ts.flatMap Tm.cells)) ∧ Only w w'
set_option maxRecDepth 100000 in
set_option maxHeartbeats 4000000 in
theorem rarm_any (w : World) (C : Ck) (A : Option Addr) (c : Nat) (h : RcIn w C A c) (hm : C.made < maxT) (d : Int) :
    Calls Tryd.prog 45 #[C.val (.slice A C.ts.length c), .int .i64 d] w fun e w' => ∃ v', e = .returned (.tuple #[(C.arme d).1.val v', .int .i64 (C.arme d).2.1, .int .i64 (C.arme d).2.2]) ∧ RcOut w C A c (C.arme d).1 v' w' := by
  obtain ⟨it, hit0, hit1, hit2, hit3⟩ := info_parts infoTm
  obtain ⟨n, hn⟩ : ∃ n, n = C.ts.length := ⟨_, rfl⟩
  obtain ⟨nw, hnw⟩ : ∃ a : Int, a = C.now := ⟨_, rfl⟩
  obtain ⟨md, hmd⟩ : ∃ a : Int, a = C.made := ⟨_, rfl⟩
  have hnc := h.sl.2.1
  have hcm := h.sl.2.2.1
  have hn4 := h.ok.len
  unfold Ck.val
  rw [← hn] at hnc hn4
  rw [← hn, ← hnw, ← hmd]
  have HN := Lib.hid (And.intro h (And.intro hn (And.intro hnw (And.intro hmd hm))))
  unfold maxT at hm
  have hmd1 : 0 ≤ md ∧ md < 1000000000000 := by omega
  have hcase : (C.arme d = (C, 0, 2) ∧ (d < nw ∨ d > 1000000000000)) ∨ (C.arme d = (C, 0, 5) ∧ d ≥ nw ∧ d ≤ 1000000000000 ∧ 400 ≤ n) ∨ (C.arme d = (C.arm d.toNat, (C.made : Int) + 1, 0) ∧ d ≥ nw ∧ d ≤ 1000000000000 ∧ n < 400 ∧ (d.toNat : Int) = d) := by
    unfold Ck.arme maxT
    split
    · rename_i h1; exact .inl ⟨rfl, by omega⟩
    · rename_i h1
      split
      · exact .inr (.inl ⟨rfl, by omega, by omega, by omega⟩)
      · exact .inr (.inr ⟨rfl, by omega, by omega, by omega, by omega⟩)
  clear h hmd hm hn hnw
  go_enter Tryd.func45, Tryd.ntmps45
  go_upto_region 1 with fail
  obtain ⟨W0, hW0⟩ : ∃ W0 : World, W0 = (w.alloc (.cells #[.int .i64 nw, .int .i64 md, .slice A n c] 53)).alloc (.cells #[.int .i64 0, .int .i64 0, .slice none 0 0] 53) := ⟨_, rfl⟩
  have hT0 : U2 w W0 [.int .i64 nw, .int .i64 md, .slice A n c] [.int .i64 0, .int .i64 0, .slice none 0 0] := by rw [hW0]; exact U2.start w _ _ _
  rw [← hW0]
  have c1 := hT0.b1.cell
  have f1 := hT0.b1.free
  have l1 := hT0.b1.lt
  have c2 := hT0.b2.cell
  have f2 := hT0.b2.free
  have l2 := hT0.b2.lt
  have H0 := Lib.hid hT0
  clear hT0 hW0
  have same : ∀ er : Int, C.arme d = (C, 0, er) → ∃ v', Ending.returned (.tuple #[.agg #[.int .i64 nw, .int .i64 md, .slice A n c], .int .i64 0, .int .i64 er]) = .returned (.tuple #[(C.arme d).1.val v', .int .i64 (C.arme d).2.1, .int .i64 (C.arme d).2.2]) ∧ ∀ W', Only w W' → RcOut w C A c (C.arme d).1 v' W' := fun er he => by
    rw [he]
    refine ⟨_, by rw [HN.out.2.2.1, HN.out.2.2.2.1], fun W' ho => ⟨.inl ⟨by rw [← HN.out.2.1], rfl⟩, ho⟩⟩
  have HS := Lib.hid same
  clear same
  rcases hcase with ⟨he, h1⟩ | ⟨he, h1, h2, h4⟩ | ⟨he, h1, h2, h4, h5⟩
  · have HE := Lib.hid he
    have key : decide (d < nw) = true ∨ (decide (d < nw) = false ∧ decide (d > 1000000000000) = true) := by
      by_cases h2 : d < nw
      · exact .inl (decide_eq_true h2)
      · exact .inr ⟨decide_eq_false h2, decide_eq_true (by omega)⟩
    clear h1 he
    rcases key with b1 | ⟨b1, b2⟩
    all_goals
      go_wp2_with fail
      have hT5 := H0.out.put3 rfl (.int .i64 nw) (.int .i64 md) (.slice A n c)
      have r0 := hT5.b2.cell 0
      have r1 := hT5.b2.cell 1
      have r2 := hT5.b2.cell 2
      simp only [List.getElem?_cons_zero, List.getElem?_cons_succ] at r0 r1 r2
      obtain ⟨v', hv', hout⟩ := HS.out 2 HE.out
      refine bodyPost_ret (v := .tuple #[.agg #[.int .i64 nw, .int .i64 md, .slice A n c], .int .i64 0, .int .i64 2]) (by simp [results, Tryd.results45, go_sem, r0, r1, r2]) rfl ⟨v', hv', hout _ hT5.o⟩
  · have HE := Lib.hid he
    have b1 : decide (d < nw) = false := decide_eq_false (by omega)
    have b2 : decide (d > 1000000000000) = false := decide_eq_false (by omega)
    have b3 : decide ((n : Int) ≥ 400) = true := decide_eq_true (by omega)
    have b4 : (n : Int) ≥ 400 := by omega
    clear he h1 h2 h4
    go_wp2_with fail
    have hT5 := H0.out.put3 rfl (.int .i64 nw) (.int .i64 md) (.slice A n c)
    have r0 := hT5.b2.cell 0
    have r1 := hT5.b2.cell 1
    have r2 := hT5.b2.cell 2
    simp only [List.getElem?_cons_zero, List.getElem?_cons_succ] at r0 r1 r2
    obtain ⟨v', hv', hout⟩ := HS.out 5 HE.out
    refine bodyPost_ret (v := .tuple #[.agg #[.int .i64 nw, .int .i64 md, .slice A n c], .int .i64 0, .int .i64 5]) (by simp [results, Tryd.results45, go_sem, r0, r1, r2]) rfl ⟨v', hv', hout _ hT5.o⟩
  · have HE := Lib.hid (And.intro he h5)
    have b1 : decide (d < nw) = false := decide_eq_false (by omega)
    have b2 : decide (d > 1000000000000) = false := decide_eq_false (by omega)
    have b3 : decide ((n : Int) ≥ 400) = false := decide_eq_false (by omega)
    have b4 : ¬ (n : Int) ≥ 400 := by omega
    have e5 : wrap64 (md + 1) = md + 1 := IntWalk.wrap64_in _ ⟨by omega, by omega⟩
    clear he h1 h2 h5 hmd1
    go_upto_region 7 with fail
    have hT1 := H0.out.put1 1 (.int .i64 (md + 1))
    simp only [List.set_cons_zero, List.set_cons_succ] at hT1
    obtain ⟨W1, hW1⟩ : ∃ W1, W1 = W0.setCell ⟨w.heap.size, 1, none⟩ (.int .i64 (md + 1)) := ⟨_, rfl⟩
    rw [← hW1] at hT1 ⊢
    have hsl : Sl W1 w.heap.size A n c 2 (C.ts.flatMap Tm.cells) := by
      have := HN.out.1.sl.only hT1.o
      rw [← HN.out.2.1] at this
      exact this
    have hz1 := hT1.o.size
    have c1 := hT1.b1.cell
    have f1 := hT1.b1.free
    have l1 := hT1.b1.lt
    have c2 := hT1.b2.cell
    have f2 := hT1.b2.free
    have l2 := hT1.b2.lt
    have H1 := Lib.hid (And.intro hT1 hsl)
    clear hT1 hsl hW1 H0 b1 b2 b3 b4 e5
    go_upto_region 8 with (at_builtin; refine wpList_append_sl _ rfl _ _ _ rfl w.heap.size 39 it _ 2 16 Tryd.underlying29 hit0 hit1 hit2 hit3 rfl (by omega) (.slice none 0 0) 0 [] (by rfl) (World.ownsRow_nil _ _ _ _) _ A n c (C.ts.flatMap Tm.cells) (by rfl) H1.out.2 (tm_one _) (by simp only [maxLen]; omega) (by omega) hz1 ?_; intro A1 d1 w4 hown hst hnx; have hT4 := H1.out.1.row (World.ownsRow_nil W1 w.heap.size 39 2) (Nat.le_refl _) (by decide) hst; have HA := Lib.hid (And.intro hown hT4); have c1 := hT4.b1.cell; have f1 := hT4.b1.free; have l1 := hT4.b1.lt; have c2 := hT4.b2.cell; have f2 := hT4.b2.free; have l2 := hT4.b2.lt; have hz4 := hT4.o.size; clear hown hst hnx hT4)
    simp only [Nat.zero_add, List.nil_append] at HA
    go_upto_region 9 with (at_builtin; refine wpList_append_lies _ rfl _ _ _ rfl w.heap.size 39 it _ 2 16 Tryd.underlying29 hit0 hit1 hit2 hit3 rfl (by omega) _ n _ (by rfl) (own_alloc HA.out.1 _) ⟨w4.heap.size, 0, none⟩ 1 1 [.int .i64 (md + 1), .int .i64 d] (by rfl) (by rfl) (World.news_of_block (cs := [Value.int .i64 (md + 1), Value.int .i64 d].toArray) (t := 39) (fr := (0, 0)) (heap_alloc_at' _ _ _ (by simp))) (by simp [Value.oneCell']) (by omega) (by simp only [maxLen]; omega) (by omega) (by simp; omega) (w4.heap.size + 1) (by simp) ?_; intro g9 cap9 w9 hown9 hgrow9 hat9 hlt9; have hT9 := (HA.out.2.only ((Stay.refl _ w4).alloc _)).row (own_alloc HA.out.1 _) (Nat.le_refl _) (by decide) (grown_stay hgrow9); have H9 := Lib.hid (And.intro hown9 hT9); have c1 := hT9.b1.cell; have f1 := hT9.b1.free; have l1 := hT9.b1.lt; have c2 := hT9.b2.cell; have f2 := hT9.b2.free; have l2 := hT9.b2.lt; clear hown9 hgrow9 hat9 hlt9 hT9)
    go_upto_region 10 with fail
    have hr9 := own_set H9.out.1 (A := ⟨w.heap.size, 2, none⟩) (.slice (some ⟨g9, 0, none⟩) (n + 1) cap9) (own_ne_blk H9.out.1 H9.out.2.b1 (by decide))
    have hT9 := H9.out.2.put1 2 (.slice (some ⟨g9, 0, none⟩) (n + 1) cap9)
    simp only [List.set_cons_zero, List.set_cons_succ] at hT9
    obtain ⟨Wz, hWz⟩ : ∃ Wz, Wz = w9.setCell ⟨w.heap.size, 2, none⟩ (.slice (some ⟨g9, 0, none⟩) (n + 1) cap9) := ⟨_, rfl⟩
    rw [← hWz] at hr9 hT9 ⊢
    have c1 := hT9.b1.cell
    have l1 := hT9.b1.lt
    have c2 := hT9.b2.cell
    have f2 := hT9.b2.free
    have l2 := hT9.b2.lt
    have HB := Lib.hid (And.intro hr9 hT9)
    clear hr9 hT9 hWz f1
    go_region
    all_goals
      go_wp2_with fail
      have hT5 := (HB.out.2.put3 rfl (.int .i64 nw) (.int .i64 (md + 1)) (.slice (some ⟨g9, 0, none⟩) (n + 1) cap9)).only ((Stay.refl _ _).drew)
      have r0 := hT5.b2.cell 0
      have r1 := hT5.b2.cell 1
      have r2 := hT5.b2.cell 2
      simp only [List.getElem?_cons_zero, List.getElem?_cons_succ] at r0 r1 r2
      refine bodyPost_ret (v := .tuple #[.agg #[.int .i64 nw, .int .i64 (md + 1), .slice (some ⟨g9, 0, none⟩) (n + 1) cap9], .int .i64 (md + 1), .int .i64 0]) (by simp [results, Tryd.results45, go_sem, r0, r1, r2]) rfl ?_
      rw [HE.out.1]
      have e1 : ((C.arm d.toNat).now : Int) = nw := HN.out.2.2.1.symm
      have e2 : ((C.arm d.toNat).made : Int) = md + 1 := by rw [HN.out.2.2.2.1]; rfl
      have e3 : (C.arm d.toNat).ts = C.ts ++ [⟨C.made + 1, d.toNat⟩] := rfl
      have hoff := own_ne_blk HB.out.1 HB.out.2.b2 (by decide)
      refine ⟨.slice (some ⟨g9, 0, none⟩) (n + 1) cap9, ?_, .inr ?_, hT5.o⟩
      · simp only
        rw [e1, e2, HN.out.2.2.2.1]
      · rw [e3, List.length_append, ← HN.out.2.1, List.flatMap_append]
        have := own_set (own_set (own_set HB.out.1 (A := ⟨w.heap.size + 1, 0, none⟩) (.int .i64 nw) hoff) (A := ⟨w.heap.size + 1, 1, none⟩) (.int .i64 (md + 1)) hoff) (A := ⟨w.heap.size + 1, 2, none⟩) (.slice (some ⟨g9, 0, none⟩) (n + 1) cap9) hoff
        have e4 : [(⟨C.made + 1, d.toNat⟩ : Tm)].flatMap Tm.cells = [.int .i64 (md + 1), .int .i64 d] := by
          simp [Tm.cells, HN.out.2.2.2.1, HE.out.2]
        rw [e4]
        exact this
end Go.Proofs.YtbkbcpnpbfnmgaaDoor
