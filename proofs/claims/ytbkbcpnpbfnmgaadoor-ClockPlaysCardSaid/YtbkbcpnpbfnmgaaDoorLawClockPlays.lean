/- ClockPlays walked. -/
import Derived.Test.YtbkbcpnpbfnmgaaDoorClockPlay
set_option linter.unusedVariables false
set_option linter.unusedSimpArgs false
namespace Go.Proofs.YtbkbcpnpbfnmgaaDoor
open Go Go.RowKit

set_option maxRecDepth 100000 in
set_option maxHeartbeats 4000000 in
theorem clockPlays_any (w : World) (hT : Tab w) (A : Option Addr) (n ca : Nat) (ops : List KOp) (hl : Sl w w.heap.size A n ca 2 (ops.flatMap KOp.cells)) (hlen : ops.length = n) :
    Calls Tryd.prog 7 #[.slice A n ca] w fun e w' => e = .returned (.bool true) ∧ Only w w' := by
  have hnc := hl.2.1
  have hcm := hl.2.2.1
  have HL := Lib.hid (And.intro hl (And.intro hlen hT))
  clear hl hlen hT
  go_enter Tryd.func7, Tryd.ntmps7
  go_wp2_with fail
  refine (new_any w).mono ?_
  rintro e w1 ⟨rfl, hC1, hO1⟩
  have H1 : Hid (OC w w1 (From w.heap.size w1) (w.heap.size + 1) Ck.new) := Lib.hid ⟨hC1, fun k hk => hk.1, hO1, HL.out.2.2⟩
  clear hC1 hO1
  go_upto_region 2 with fail
  obtain ⟨W1, hW1⟩ : ∃ W1 : World, W1 = w1.alloc (.cells #[.int .i64 0, .int .i64 0, .slice none 0 0] 53) := ⟨_, rfl⟩
  have hO1 : Only w1 W1 := by rw [hW1]; exact (Stay.refl _ w1).alloc _
  have hB1 : Blk W1 w1.heap.size 53 [.int .i64 0, .int .i64 0, .slice none 0 0] := by rw [hW1]; exact Blk.new w1 [_, _, _] _
  rw [← hW1]
  have hK1 : KX w W1 (From w.heap.size w1) (w.heap.size + 1) Ck.new none 0 := ⟨H1.out.then hO1, World.ownsRow_nil _ _ _ _, fun g hg => by simp [Value.ownBlock] at hg⟩
  have HK1 := Lib.hid (And.intro hK1 (And.intro hB1 (show ¬ From w.heap.size w1 w1.heap.size from fun h => by have := h.2; omega)))
  have hz1 := H1.out.only.size
  clear hO1 hB1 hW1 hK1
  go_cut [16, 17, 18] from 12 to 15 (fun a b i wc => ∃ m : Nat, m = min n 80 ∧ a = .slice A m ca ∧ b = .int .i64 (m : Nat) ∧ i = .int .i64 0 ∧ W1 = wc)
  case first =>
    go_wp2_with fail
    go_meet
    case rel => exact ⟨min n 80, rfl, congrArg (fun x => Value.slice A x ca) (by omega), congrArg (Value.int .i64) (by omega), rfl, rfl⟩
  case rest =>
    obtain ⟨m, hm, rfl, rfl, rfl, rfl⟩ := hcut
    have hmn : m ≤ n := by omega
    have hm80 : m ≤ 80 := by omega
    have hmc : m ≤ ca := by omega
    clear hm
    go_wp2_with fail
    go_loopg [3, 18] m (fun kk vc vj wr => ∃ (j b c : Nat) (S : Nat → Prop) (A' : Option Addr), j ≤ m ∧ kk = m - j ∧ vj = .int .i64 (j : Nat) ∧ vc = .pointer (some ⟨b, 0, none⟩) ∧ KX w wr S b (Ck.new.runs (ops.take j)) A' c ∧
      Blk wr w1.heap.size 53 [.int .i64 (Ck.new.runs (ops.take j)).now, .int .i64 (Ck.new.runs (ops.take j)).made, .slice A' (Ck.new.runs (ops.take j)).ts.length c] ∧ ¬ S w1.heap.size)
    case atStart => exact ⟨0, _, 0, _, none, Nat.zero_le _, rfl, rfl, rfl, HK1.out.1, HK1.out.2.1, HK1.out.2.2⟩
    case round =>
      obtain ⟨j, b, c, S, A', hj, hk, rfl, rfl, hK, hB, hS⟩ := hrel
      obtain ⟨wt, hwt⟩ : ∃ wt, wt = wr := ⟨_, rfl⟩
      rw [← hwt] at hK hB ⊢
      clear hwt
      have hmade : (Ck.new.runs (ops.take j)).made < maxT := by
        have h1 := (Ck.runs_ok (ops.take j) Ck.new_ok (by have : (ops.take j).length ≤ 80 := (by rw [List.length_take]; omega); simp [Ck.new, maxT]; omega)).2
        have : (ops.take j).length ≤ 80 := by rw [List.length_take]; omega
        simp only [Ck.new, maxT] at h1 ⊢
        omega
      by_cases hjm : j < m
      · obtain ⟨o, ho⟩ : ∃ o, ops[j]? = some o := ⟨_, List.getElem?_eq_getElem (by have := HL.out.2.1; omega)⟩
        obtain ⟨ab, ao, rfl, hab, hcells⟩ := (HL.out.1.only hK.oc.only).elem KOp.cells_length ho (by omega)
        have g0 := hcells 0 _ rfl
        simp only [Nat.add_zero] at g0
        have g1 := hcells 1 _ rfl
        have hs := Ck.runs_succ (C := Ck.new) ho
        obtain ⟨C, hCC⟩ : ∃ C, C = Ck.new.runs (ops.take j) := ⟨_, rfl⟩
        rw [← hCC] at hK hB hmade hs
        obtain ⟨q, hq⟩ : ∃ q, q = C.ts.length := ⟨_, rfl⟩
        obtain ⟨nw, hnw⟩ : ∃ a : Int, a = C.now := ⟨_, rfl⟩
        obtain ⟨md, hmd⟩ : ∃ a : Int, a = C.made := ⟨_, rfl⟩
        have hval : C.val (.slice A' C.ts.length c) = .agg #[.int .i64 nw, .int .i64 md, .slice A' q c] := by unfold Ck.val; rw [hq, hnw, hmd]
        rw [← hq, ← hnw, ← hmd] at hB
        obtain ⟨kd, d⟩ := o
        simp only at g0 g1
        obtain ⟨wa, hwa⟩ : ∃ wa, wa = wt.alloc (.cells #[.int .i64 kd, .int .i64 d] 55) := ⟨_, rfl⟩
        have hoa : Only wt wa := by rw [hwa]; exact (Stay.refl _ wt).alloc _
        have hBa := hoa.blk hB
        have c4 := hBa.cell
        have l4 := hBa.lt
        have hB6 : Blk wa wt.heap.size 55 [.int .i64 kd, .int .i64 d] := by rw [hwa]; exact Blk.new wt [_, _] _
        have c6 := hB6.cell
        have l6 := hB6.lt
        clear hB6
        have hplay := play_any (hK.then hoa) hmade ⟨kd, d⟩
        rw [hval, ← hs] at hplay
        have HX := Lib.hid (And.intro (hK.then hoa) (And.intro hk (And.intro hBa (And.intro hS (And.intro hplay hwa)))))
        clear hK hk hs hmade hcells ho hCC hB hS hq hnw hmd hval hoa hBa hplay hwa
        go_upto_region 5 with fail
        rw [← HX.out.2.2.2.2.2]
        go_wp2_with fail
        refine HX.out.2.2.2.2.1.mono ?_
        rintro e w2 ⟨S', b', A2, c2, rfl, hK2, hsub2, hst2⟩
        have hB2 := hst2.blk HX.out.2.2.1 HX.out.2.2.2.1
        have hS2 : ¬ S' w1.heap.size := fun h => by
          rcases hsub2 _ h with e | e
          · exact HX.out.2.2.2.1 e
          · have := HX.out.2.2.1.lt; omega
        obtain ⟨D, hD⟩ : ∃ D, D = Ck.new.runs (ops.take (j + 1)) := ⟨_, rfl⟩
        rw [← hD] at hK2 ⊢
        obtain ⟨q2, hq2⟩ : ∃ q, q = D.ts.length := ⟨_, rfl⟩
        obtain ⟨n2, hn2⟩ : ∃ a : Int, a = D.now := ⟨_, rfl⟩
        obtain ⟨m2, hm2⟩ : ∃ a : Int, a = D.made := ⟨_, rfl⟩
        have hval : D.val (.slice A2 D.ts.length c2) = .agg #[.int .i64 n2, .int .i64 m2, .slice A2 q2 c2] := by unfold Ck.val; rw [hq2, hn2, hm2]
        rw [hval]
        have f2 := hB2.free
        have k2 := hB2.cell
        have l2 := hB2.lt
        have hne : w1.heap.size ≠ w2.heap.size := by omega
        have hne' : w2.heap.size ≠ w1.heap.size := by omega
        have H2 := Lib.hid (And.intro hK2 (And.intro hB2 (And.intro hS2 (And.intro hD (And.intro hq2 (And.intro hn2 hm2))))))
        clear hK2 hsub2 hst2 hB2 hS2 hval hD hq2 hn2 hm2 c4 l4 c6 l6
        go_wp2_with fail
        go_roundg (m - (j + 1))
        case measure => have := HX.out.2.1; omega
        case rel =>
          have hoz : Only w2 (w2.alloc (.cells #[.int .i64 n2, .int .i64 m2, .slice A2 q2 c2] 53)) := (Stay.refl _ w2).alloc _
          have hst := (((Stay.refl (fun i => i = w1.heap.size) w2).put rfl 0 (.int .i64 n2)).put rfl 1 (.int .i64 m2)).put rfl 2 (.slice A2 q2 c2)
          refine ⟨j + 1, b', c2, S', A2, by omega, rfl, by go_num, rfl, ?_, ?_, H2.out.2.2.1⟩
          · rw [← H2.out.2.2.2.1]
            exact (H2.out.1.at7 H2.out.2.1 H2.out.2.2.1 hz1 hst).then ((Stay.refl _ _).alloc _)
          · rw [← H2.out.2.2.2.1, ← H2.out.2.2.2.2.1, ← H2.out.2.2.2.2.2.1, ← H2.out.2.2.2.2.2.2]
            exact (((H2.out.2.1.set 0 _).set 1 _).set 2 _).alloc _
      · obtain rfl : j = m := by omega
        obtain ⟨C, hCC⟩ : ∃ C, C = Ck.new.runs (ops.take j) := ⟨_, rfl⟩
        rw [← hCC] at hK hB
        obtain ⟨q, hq⟩ : ∃ q, q = C.ts.length := ⟨_, rfl⟩
        obtain ⟨nw, hnw⟩ : ∃ a : Int, a = C.now := ⟨_, rfl⟩
        obtain ⟨md, hmd⟩ : ∃ a : Int, a = C.made := ⟨_, rfl⟩
        have hval : C.val (.slice A' C.ts.length c) = .agg #[.int .i64 nw, .int .i64 md, .slice A' q c] := by unfold Ck.val; rw [hq, hnw, hmd]
        rw [← hq, ← hnw, ← hmd] at hB
        have hag := agree_any hK.oc.ck hK.oc.tabw A' c (own_sl hK.row (Stay.refl _ _))
        rw [hval] at hag
        have c4 := hB.cell
        have l4 := hB.lt
        have HX := Lib.hid (And.intro hK hag)
        clear hK hB hS hag hval hq hnw hmd hCC hk hmade
        go_wp2_with fail
        refine HX.out.2.mono ?_
        rintro e w2 ⟨rfl, hO2⟩
        have H2 := Lib.hid (HX.out.1.then hO2)
        clear hO2
        go_wp2_with fail
        refine (awake_any _ H2.out.oc.tabw).mono ?_
        rintro e w3 ⟨rfl, hO3⟩
        have H3 := Lib.hid (H2.out.oc.only.trans' hO3)
        clear hO3
        go_wp2_with fail
        go_ret
        exact ⟨rfl, H3.out⟩
end Go.Proofs.YtbkbcpnpbfnmgaaDoor
