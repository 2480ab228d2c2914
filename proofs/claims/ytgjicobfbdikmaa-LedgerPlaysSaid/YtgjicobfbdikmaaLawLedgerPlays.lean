/- LedgerPlays: the walk. -/
import Derived.Test.YtgjicobfbdikmaaLedPlay
set_option linter.unusedVariables false
set_option linter.unusedSimpArgs false
namespace Go.Proofs.Ytgjicobfbdikmaa
open Go Go.RowKit

set_option maxRecDepth 100000 in
set_option maxHeartbeats 4000000 in
theorem ledgerPlays_any (w : World) (A : Option Addr) (n ca : Nat) (ops : List LOp) (hl : Sl w w.heap.size A n ca 3 (ops.flatMap LOp.cells)) (hlen : ops.length = n) :
    Calls Try.prog 8 #[.slice A n ca] w fun e w' => e = .returned (.bool true) ∧ Only w w' := by
  have HL := Lib.hid (And.intro hl hlen)
  have hnc := hl.2.1
  have hcm := hl.2.2.1
  clear hl hlen
  go_enter Try.func8, Try.ntmps8
  go_wp2_with fail
  refine (ol_new w).mono ?_
  rintro e w1 ⟨rfl, h1⟩
  have H1 := Lib.hid h1
  have hz1 : w.heap.size + 1 < w1.heap.size := by
    have := h1.at'
    obtain ⟨m, ev, cv, kv, hs, hT⟩ := this
    exact hT.blk.lt
  clear h1
  unfold ptr
  go_upto_region 2 with fail
  obtain ⟨W1, hW1⟩ : ∃ W1 : World, W1 = w1.alloc (.cells #[.slice none 0 0, .slice none 0 0, .int .i64 0] 49) := ⟨_, rfl⟩
  obtain ⟨n4, hn4⟩ : ∃ n4, n4 = w1.heap.size := ⟨_, rfl⟩
  have hO1 : Only w1 W1 := by rw [hW1]; exact (Stay.refl _ w1).alloc _
  have hB4 : Blk W1 n4 49 [.slice none 0 0, .slice none 0 0, .int .i64 0] := by rw [hW1, hn4]; exact Blk.new w1 [.slice none 0 0, .slice none 0 0, .int .i64 0] _
  have hS4 : ¬ From w.heap.size w1 n4 := fun h => by have := h.2; omega
  have hn4w : w.heap.size ≤ n4 := by omega
  rw [← hW1, ← hn4]
  have H4 := Lib.hid (And.intro (show LR w W1 (From w.heap.size w1) (w.heap.size + 1) Lg.new (.slice none 0 0) (.slice none 0 0) ⟨[], [], 0⟩ from ⟨H1.out.then hO1, Lg.new_inv, Ref.new, ⟨World.ownsRow_nil _ _ _ _, World.ownsRow_nil _ _ _ _⟩, fun g hg => (by cases hg), fun g hg => (by cases hg)⟩) (And.intro hB4 hS4))
  clear hW1 hO1 hB4 hS4 hn4
  go_cut [16, 17, 18] from 12 to 15 (fun a b i wc => ∃ m : Nat, m = min n 120 ∧ a = .slice A m ca ∧ b = .int .i64 (m : Nat) ∧ i = .int .i64 0 ∧ W1 = wc)
  case first =>
    go_wp2_with fail
    go_meet
    case rel => exact ⟨min n 120, rfl, congrArg (fun x => Value.slice A x ca) (by omega), congrArg (Value.int .i64) (by omega), rfl, rfl⟩
  case rest =>
    obtain ⟨m, hm, rfl, rfl, rfl, rfl⟩ := hcut
    have hmn : m ≤ n := by omega
    have hm120 : m ≤ 120 := by omega
    have hmc : m ≤ ca := by omega
    clear hm
    go_wp2_with fail
    go_loopg [3, 18] m (fun kk vl vj wr => ∃ (j b : Nat) (u v : Value) (L : Lg) (R : RL) (S : Nat → Prop), j ≤ m ∧ kk = m - j ∧ vj = .int .i64 (j : Nat) ∧ vl = .pointer (some ⟨b, 0, none⟩) ∧ LR w wr S b L u v R ∧ Blk wr n4 49 [u, v, .int .i64 R.time] ∧ ¬ S n4)
    case atStart => exact ⟨0, _, _, _, _, _, _, Nat.zero_le _, rfl, rfl, rfl, H4.out⟩
    case round =>
      obtain ⟨j, b, u, v, L, R, S, hj, hk, rfl, rfl, hLR, hB, hS⟩ := hrel
      obtain ⟨Aa, ea, rfl⟩ := own_shape hLR.at'.er
      obtain ⟨Ab, eb, rfl⟩ := own_shape hLR.at'.br
      have k4 := hB.cell
      have ll4 := hB.lt
      by_cases hlt : j < m
      · obtain ⟨o, ho⟩ : ∃ o, ops[j]? = some o := ⟨_, List.getElem?_eq_getElem (by have := HL.out.2; omega)⟩
        obtain ⟨ab, ao, rfl, hab, hcells⟩ := (HL.out.1.only hLR.ol.only).elem LOp.cells_length ho (by omega)
        have g0 := hcells 0 _ rfl
        simp only [Nat.add_zero] at g0
        have g1 := hcells 1 _ rfl
        have g2 := hcells 2 _ rfl
        have HX := Lib.hid (And.intro hLR (And.intro hB (And.intro hS hk)))
        clear hLR hcells ho hk hB hS
        go_wp2_with fail
        refine (play_any (HX.out.1.only ((Stay.refl (fun _ => False) _).alloc _)) o).mono ?_
        rintro e w2 ⟨b2, u2, v2, L2, R2, S2, rfl, hL2, hsub2, hx2⟩
        have hB2 := hx2.blk (HX.out.2.1.alloc _) HX.out.2.2.1
        have hS2 : ¬ S2 n4 := fun h => by
          rcases hsub2 _ h with h | h
          · exact HX.out.2.2.1 h
          · have := h.1
            simp at this
            omega
        obtain ⟨A2, d2, rfl⟩ := own_shape hL2.at'.er
        obtain ⟨B2, g2, rfl⟩ := own_shape hL2.at'.br
        have k4 := hB2.cell
        have ll4 := hB2.lt
        have ff4 := hB2.free
        have H2 := Lib.hid (And.intro hL2 (And.intro hB2 hS2))
        clear hL2 hsub2 hx2 hB2 hS2
        unfold ptr
        go_wp2_with fail
        go_roundg (m - (j + 1))
        case measure => have := HX.out.2.2.2; omega
        case rel =>
          have z0 := H2.out.2.1.set 0 (.slice A2 R2.es.length d2)
          have z1 := z0.set 1 (.slice B2 R2.lkd.length g2)
          have z2 := z1.set 2 (.int .i64 R2.time)
          exact ⟨j + 1, b2, _, _, L2, R2, S2, by omega, rfl, by go_num, rfl, (((H2.out.1.put H2.out.2.1 H2.out.2.2 hn4w 0 _).put z0 H2.out.2.2 hn4w 1 _).put z1 H2.out.2.2 hn4w 2 _).only ((Stay.refl (fun _ => False) _).alloc _), z2.alloc _, H2.out.2.2⟩
      · obtain rfl : j = m := by omega
        have HX := Lib.hid hLR
        clear hLR hB hS hk
        go_wp2_with fail
        refine (agree_any HX.out).mono ?_
        rintro e w2 ⟨rfl, S2, hL2, _, _⟩
        have H2 := Lib.hid hL2.ol.only
        clear hL2
        go_wp2_with fail
        refine (awake_any w2).mono ?_
        rintro e w3 ⟨rfl, o3⟩
        have H3 := Lib.hid (H2.out.trans' o3)
        clear o3
        go_wp2_with fail
        go_ret
        exact ⟨rfl, H3.out⟩

end Go.Proofs.Ytgjicobfbdikmaa
