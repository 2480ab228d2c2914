/- The law's own 'agree': a clock beside that of the reference. -/
import Derived.Test.YtbkbcpnpbfnmgaaDoorRefCD
import Derived.Deep.RegionHeld3
set_option linter.unusedVariables false
set_option linter.unusedSimpArgs false
namespace Go.Proofs.YtbkbcpnpbfnmgaaDoor
open Go Go.RowKit

theorem RcOut.row {w w' : World} {C C' : Ck} {A : Option Addr} {c B : Nat} {v' : Value} {S : Nat → Prop} (h : RcOut w C A c C' v' w') (hr : w.ownsRow B 39 2 (.slice A C.ts.length c) C.ts.length (C.ts.flatMap Tm.cells)) (hB : B ≤ w.heap.size)
    (hoff : ∀ g, (Value.slice A C.ts.length c).ownBlock = some g → ¬ S g) (hS : ∀ k, S k → k < w.heap.size) : w'.ownsRow B 39 2 v' C'.ts.length (C'.ts.flatMap Tm.cells) ∧ ∀ g, v'.ownBlock = some g → ¬ S g := by
  rcases h.1 with ⟨rfl, e⟩ | h1
  · rw [e]
    exact ⟨own_only h.2 hr, hoff⟩
  · exact ⟨owns_base h1 hB, fun g hg hs => by have := (own_lt h1 g hg).1; have := hS g hs; omega⟩
set_option maxRecDepth 100000 in
set_option maxHeartbeats 4000000 in
theorem agree_any {w : World} {S : Nat → Prop} {b : Nat} {C : Ck} (h : CkAt w S b C) (hT : Tab w) (A : Option Addr) (c : Nat) (hr : Sl w w.heap.size A C.ts.length c 2 (C.ts.flatMap Tm.cells)) :
    Calls Tryd.prog 26 #[.pointer (some ⟨b, 0, none⟩), C.val (.slice A C.ts.length c)] w fun e w' => e = .returned (.bool true) ∧ Only w w' := by
  have hck : ∀ W, Only w W → CkAt W S b C := fun W ho => h.only ho
  have hTb : ∀ W, Only w W → Tab W := fun W ho => hT.only ho
  have hin : ∀ W, Only w W → RcIn W C A c := fun W ho => ⟨h.ok, hr.later ho ho.size⟩
  have hnx := fun (W : World) (ho : Only w W) => rnext_any W C A c (hin W ho)
  have hcx := fun (W : World) (ho : Only w W) => cnext_any (hck W ho) (hTb W ho)
  have hal := fun (W : World) (ho : Only w W) => lall_any (hck W ho)
  have hnw := fun (W : World) (ho : Only w W) => now_any (hck W ho)
  have hal2 := fun (W : World) (ho : Only w W) => rall_any W C.now C.made A c C.ts (hr.later ho ho.size) h.ok.len
  have hlen : C.all.length = C.ts.length := tsort_length _
  have hall : tsort C.ts = C.all := rfl
  have heq := fun (W : World) (v u : Value) (B B' : Nat) (h1 : W.ownsRow B 39 2 v C.all.length (C.all.flatMap Tm.cells)) (h2 : W.ownsRow B' 39 2 u C.all.length (C.all.flatMap Tm.cells)) => eqT_own (w := W) (xs := C.all) (ys := C.all) h1 h2
  rw [decide_eq_true (rfl : C.all = C.all)] at heq
  rw [hall] at hal2
  rw [hlen] at heq hal
  obtain ⟨n, hn⟩ : ∃ n, n = C.ts.length := ⟨_, rfl⟩
  obtain ⟨nw, hnw2⟩ : ∃ a : Int, a = C.now := ⟨_, rfl⟩
  obtain ⟨md, hmd⟩ : ∃ a : Int, a = C.made := ⟨_, rfl⟩
  obtain ⟨nx, hnx2⟩ : ∃ nx : Int, nx = (C.next.getD 0 : Nat) := ⟨_, rfl⟩
  obtain ⟨ok, hok⟩ : ∃ ok, ok = C.next.isSome := ⟨_, rfl⟩
  unfold Ck.val at hnx ⊢
  rw [← hn, ← hnw2, ← hmd, ← hnx2, ← hok] at hnx
  rw [← hnx2, ← hok] at hcx
  rw [← hn] at hal heq
  rw [← hn, ← hnw2, ← hmd] at hal2
  rw [← hnw2] at hnw
  rw [← hn, ← hnw2, ← hmd]
  obtain ⟨AL, hAL⟩ : ∃ AL, AL = C.all.flatMap Tm.cells := ⟨_, rfl⟩
  rw [← hAL] at hal heq hal2
  have b1 : (nw == nw) = true := by simp
  have b2 : (nx == nx) = true := by simp
  have b3 : (ok == ok) = true := by simp
  have HN := Lib.hid (And.intro hnx (And.intro hcx (And.intro hal (And.intro hnw (And.intro hal2 heq)))))
  clear h hT hr hck hTb hin hnx hcx hal hnw hal2 heq hlen hall hn hnw2 hmd hnx2 hok hAL
  go_enter Tryd.func26, Tryd.ntmps26
  go_upto_region 1 with fail
  obtain ⟨W0, hW0⟩ : ∃ W0 : World, W0 = w.alloc (.cells #[.int .i64 nw, .int .i64 md, .slice A n c] 53) := ⟨_, rfl⟩
  have hO0 : Only w W0 := by rw [hW0]; exact (Stay.refl _ w).alloc _
  have hB0 : Blk W0 w.heap.size 53 [.int .i64 nw, .int .i64 md, .slice A n c] := by rw [hW0]; exact Blk.new w [_, _, _] _
  rw [← hW0]
  have H0 := Lib.hid (And.intro hO0 hB0)
  clear hO0 hB0 hW0
  go_wp2_with fail
  refine (HN.out.2.1 W0 H0.out.1).mono ?_
  rintro e w1 ⟨rfl, hO1⟩
  have c1 := (hO1.blk H0.out.2).cell
  have l1 := (hO1.blk H0.out.2).lt
  have H1 := Lib.hid (And.intro (H0.out.1.trans' hO1) (hO1.blk H0.out.2))
  clear hO1
  go_wp2_with fail
  refine (HN.out.1 w1 H1.out.1).mono ?_
  rintro e w2 ⟨rfl, hO2⟩
  have hB2 := hO2.blk H1.out.2
  have k0 := hB2.cell 0
  have k1 := hB2.cell 1
  have k2 := hB2.cell 2
  simp only [List.getElem?_cons_zero, List.getElem?_cons_succ] at k0 k1 k2
  have l2 := hB2.lt
  have hOd : Only w w2.drew := (H1.out.1.trans' hO2).drew
  clear hO2 hB2 c1 l1
  go_upto_region 3 with fail
  go_region_held3 (fun w' => w'.cell? ⟨w.heap.size, 0, none⟩ = some (.int .i64 nw) ∧ w'.cell? ⟨w.heap.size, 1, none⟩ = some (.int .i64 md) ∧ w'.cell? ⟨w.heap.size, 2, none⟩ = some (.slice A n c))
    (first
      | go_keep
      | (go_split_ands; refine ⟨?_, ?_, ?_⟩ <;> (first | (apply Only.cell oE; assumption) | (apply Only.cell oA; assumption) | (apply Only.cell oB; assumption) | (apply Only.cell oN; assumption))))
    (first
      | (go_at_call 19; refine (HN.out.2.2.2.1 _ hOd).mono ?_; rintro e w3 ⟨rfl, oN⟩)
      | (go_at_call 14; have hz := oB; refine (HN.out.2.2.1 _ ((hOd.trans' oN).trans' oB)).mono ?_; rintro e w4 ⟨v4, rfl, hrA, oA⟩; obtain ⟨A4, c4, rfl⟩ := own_shape hrA)
      | (go_at_call 14; refine (HN.out.2.2.1 _ (hOd.trans' oN)).mono ?_; rintro e w4 ⟨v4, rfl, hrA, oA⟩; obtain ⟨A4, c4, rfl⟩ := own_shape hrA)
      | (go_at_call 50; have hz := oA; refine (HN.out.2.2.2.2.1 _ ((hOd.trans' oN).trans' oA)).mono ?_; rintro e w5 ⟨v5, rfl, hrB, oB⟩; obtain ⟨A5, c5, rfl⟩ := own_shape hrB)
      | (go_at_call 50; refine (HN.out.2.2.2.2.1 _ (hOd.trans' oN)).mono ?_; rintro e w5 ⟨v5, rfl, hrB, oB⟩; obtain ⟨A5, c5, rfl⟩ := own_shape hrB)
      | (go_at_call 18; refine (HN.out.2.2.2.2.2 _ _ _ _ _ (by first | exact hrA | exact own_only oB hrA) (by first | exact hrB | exact own_only oA hrB)).mono ?_; rintro e w6 ⟨rfl, oE⟩))
  all_goals
    go_wp2_with fail
    go_ret
    refine ⟨rfl, ?_⟩
    first
      | exact (((hOd.trans' oN).trans' oA).trans' oB).trans' oE
      | exact (((hOd.trans' oN).trans' oB).trans' oA).trans' oE
end Go.Proofs.YtbkbcpnpbfnmgaaDoor
