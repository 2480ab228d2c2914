/- ChannelCopies: the walk. -/
import Derived.Test.YtfmkdkpgehkfaaaOwn
import Derived.Test.YtfmkdkpgehkfaaaLaw16Row
import Derived.Deep.DeepCutAuto
import Derived.Deep.CutBlock
import Derived.Deep.RegionHeld3
set_option linter.unusedVariables false
set_option linter.unusedSimpArgs false
namespace Go.Proofs.Ytfmkdkpgehkfaaa
open Go Go.RowKit

theorem fold_snoc {α β : Type} (f : β → α → β) (a : β) (l : List α) (j : Nat) (x : α) (hx : l[j]? = some x) : (l.take (j + 1)).foldl f a = f ((l.take j).foldl f a) x := by
  rw [List.take_add_one, hx]
  simp

set_option maxRecDepth 100000 in
set_option maxHeartbeats 8000000 in
theorem copies_any (w : World) (cap pol : Int) (A : Option Addr) (n ca : Nat) (ops : List Op1) (hl : Sl w w.heap.size A n ca 6 (ops.flatMap Op1.cells)) (hlen : ops.length = n) (hs : ∀ o ∈ ops, o.v.s.size ≤ 9223372036854775807)
    (A' : Option Addr) (n' ca' : Nat) (more : List Op1) (hl' : Sl w w.heap.size A' n' ca' 6 (more.flatMap Op1.cells)) (hlen' : more.length = n') (hs' : ∀ o ∈ more, o.v.s.size ≤ 9223372036854775807) :
    Calls Try.prog 8 #[.agg #[.int .i64 cap, .int .i64 pol], .slice A n ca, .slice A' n' ca'] w fun e w' => e = .returned (.bool true) ∧ Only w w' := by
  cases hnew : newOk cap pol with
  | false =>
    go_enter Try.func8, Try.ntmps8
    go_wp2_with fail
    refine (new_bad cap pol _ hnew).mono ?_
    rintro e w1 ⟨rfl, hO⟩
    have HO := Lib.hid hO.behind
    clear hO hl hl'
    go_wp2_with fail
    refine (awake_any _).mono ?_
    rintro e w2 ⟨rfl, hO2⟩
    have HO2 := Lib.hid hO2
    clear hO2
    go_wp2_with fail
    go_ret
    exact ⟨rfl, HO.out.trans' HO2.out⟩
  | true =>
    have HL := Lib.hid (And.intro hl (And.intro hlen hs))
    have HL' := Lib.hid (And.intro hl' (And.intro hlen' hs'))
    have hnc := hl.2.1
    have hcm := hl.2.2.1
    have hnc' := hl'.2.1
    have hcm' := hl'.2.2.1
    clear hl hlen hs hl' hlen' hs'
    go_enter Try.func8, Try.ntmps8
    go_wp2_with fail
    refine (own_new w _ ((Stay.refl _ w).alloc _) hnew).mono ?_
    rintro e w1 ⟨rfl, hch, hO⟩
    have e1 : (w.alloc (.cells #[.int .i64 cap, .int .i64 pol] 70)).heap.size = w.heap.size + 1 := by simp
    rw [e1] at hch ⊢
    have HO := Lib.hid hch
    clear hO hch e1
    go_upto_region 4 with fail
    go_cut [36, 37, 38] from 32 to 35 (fun a b i wc => ∃ m : Nat, m = min n 60 ∧ a = .slice A m ca ∧ b = .int .i64 (m : Nat) ∧ i = .int .i64 0 ∧ w1 = wc)
    case first =>
      go_wp2_with fail
      · have h60 : 60 < (n : Int) := by assumption
        go_meet
        case rel => exact ⟨60, by omega, rfl, rfl, rfl, rfl⟩
      · have h60 : (n : Int) ≤ 60 := by assumption
        go_meet
        case rel => exact ⟨n, by omega, rfl, rfl, rfl, rfl⟩
    case rest =>
    obtain ⟨m, hm, rfl, rfl, rfl, rfl⟩ := hcut
    have hmn : m ≤ n := by omega
    have hmc : m ≤ ca := by omega
    have hm60 : m ≤ 60 := by omega
    clear hm
    go_wp2_with fail
    go_loopg [38] m (fun k vj wr => ∃ (j : Nat) (c : Ch) (ns : List Nat), j ≤ m ∧ k = m - j ∧ vj = .int .i64 (j : Nat) ∧ Own w wr (w.heap.size + 1) ns c j)
    case atStart => exact ⟨0, Ch.new cap pol, [], Nat.zero_le _, rfl, rfl, HO.out⟩
    case round =>
    obtain ⟨j, c, ns, hj, hk, rfl, hown⟩ := hrel
    by_cases hlt : j < m
    · obtain ⟨o, ho⟩ : ∃ o, ops[j]? = some o := ⟨_, List.getElem?_eq_getElem (by have := HL.out.2.1; omega)⟩
      obtain ⟨ab, ao, rfl, hab, hcells⟩ := (HL.out.1.only hown.only).elem Op1.cells_length ho (by omega)
      have g0 := hcells 0 _ rfl
      simp only [Nat.add_zero] at g0
      have g1 := hcells 1 _ rfl
      have g2 := hcells 2 _ rfl
      have g3 := hcells 3 _ rfl
      have g4 := hcells 4 _ rfl
      have g5 := hcells 5 _ rfl
      have hos : o.v.s.size ≤ 9223372036854775807 := HL.out.2.2 o (List.mem_of_getElem? ho)
      have HX := Lib.hid (And.intro hown hk)
      clear hown hcells ho hk
      go_wp2_with fail
      have hof := fun ob => own_run (HX.out.1.alloc ob) o (by omega) hos
      refine (hof _).mono ?_
      rintro e w2 ⟨ns1, rfl, h1, h2, h3⟩
      have HY := Lib.hid h1
      clear h1 h2 h3 hof
      go_wp2_with fail
      go_roundg (m - (j + 1))
      case measure => have := HX.out.2; omega
      case rel => exact ⟨j + 1, _, ns1, hlt, rfl, rfl, by simpa using HY.out⟩
    · have HX := Lib.hid (hown.more (show (j : Int) ≤ 60 by omega))
      clear hown hk
      rename World => wa
      go_wp2_with fail
      refine (own_state HX.out).mono ?_
      rintro e w2 ⟨⟨A1, cp1, A2, cp2, rfl, s1, s2⟩, hO2⟩
      have HS := Lib.hid (And.intro (show Rd w2 (.agg #[.int .i64 c.cap, .int .i64 c.pol, .bool c.closed, .slice A1 c.buf.length cp1, .slice A2 c.ws.length cp2, .int .i64 c.drop]) c from ⟨A1, cp1, A2, cp2, rfl, s1, s2⟩) (HX.out.step hO2))
      clear s1 s2 hO2
      go_wp2_with fail
      refine (own_copy (HS.out.2.alloc _)).mono ?_
      rintro e w3 ⟨b2, ns2, rfl, d1, d2, d3⟩
      have hT := d3.blk (Blk.newAt w2 [.int .i64 c.cap, .int .i64 c.pol, .bool c.closed, .slice A1 c.buf.length cp1, .slice A2 c.ws.length cp2, .int .i64 c.drop] 36 _ rfl)
      obtain ⟨W2, hW2⟩ : ∃ W2, w2.alloc (.cells #[.int .i64 c.cap, .int .i64 c.pol, .bool c.closed, .slice A1 c.buf.length cp1, .slice A2 c.ws.length cp2, .int .i64 c.drop] 36) = W2 := ⟨_, rfl⟩
      have HE := Lib.hid (show Own W2 w3 b2 ns2 c 60 ∧ Own w W2 (w.heap.size + 1) ns c 60 ∧ Blk W2 w2.heap.size 36 [.int .i64 c.cap, .int .i64 c.pol, .bool c.closed, .slice A1 c.buf.length cp1, .slice A2 c.ws.length cp2, .int .i64 c.drop] ∧ Rd W2 (.agg #[.int .i64 c.cap, .int .i64 c.pol, .bool c.closed, .slice A1 c.buf.length cp1, .slice A2 c.ws.length cp2, .int .i64 c.drop]) c from by
        rw [← hW2]
        exact ⟨d2, HS.out.2.alloc _, Blk.newAt w2 [.int .i64 c.cap, .int .i64 c.pol, .bool c.closed, .slice A1 c.buf.length cp1, .slice A2 c.ws.length cp2, .int .i64 c.drop] 36 _ rfl, HS.out.1.only ((Stay.refl _ w2).alloc _)⟩)
      clear d1 d2 d3 hT hW2
      go_upto_region 13 with fail
      go_cut [56, 57, 58] from 52 to 55 (fun a b i wc => ∃ m : Nat, m = min n' 30 ∧ a = .slice A' m ca' ∧ b = .int .i64 (m : Nat) ∧ i = .int .i64 0 ∧ w3 = wc)
      case first =>
        go_wp2_with fail
        · have h60 : 30 < (n' : Int) := by assumption
          go_meet
          case rel => exact ⟨30, by omega, rfl, rfl, rfl, rfl⟩
        · have h60 : (n' : Int) ≤ 30 := by assumption
          go_meet
          case rel => exact ⟨n', by omega, rfl, rfl, rfl, rfl⟩
      case rest =>
      obtain ⟨m', hm, rfl, rfl, rfl, rfl⟩ := hcut
      have hm'n : m' ≤ n' := by omega
      have hm'c : m' ≤ ca' := by omega
      have hm'60 : m' ≤ 30 := by omega
      have HM := Lib.hid hm
      clear hm
      go_wp2_with fail
      go_loopg [58] m' (fun k vj wr => ∃ (j : Nat) (nsd : List Nat), j ≤ m' ∧ k = m' - j ∧ vj = .int .i64 (j : Nat) ∧ Own W2 wr b2 nsd ((more.take j).foldl Ch.run c) (60 + j))
      case atStart => exact ⟨0, ns2, Nat.zero_le _, rfl, rfl, HE.out.1⟩
      case round =>
      clear hlt hj
      obtain ⟨i, nsd, hi, hk, rfl, hown⟩ := hrel
      rename World => wr
      by_cases hlt : i < m'
      · obtain ⟨o, ho⟩ : ∃ o, more[i]? = some o := ⟨_, List.getElem?_eq_getElem (by have := HL'.out.2.1; omega)⟩
        obtain ⟨ab, ao, rfl, hab, hcells⟩ := (HL'.out.1.only (HE.out.2.1.only.trans' hown.only)).elem Op1.cells_length ho (by omega)
        have g0 := hcells 0 _ rfl
        simp only [Nat.add_zero] at g0
        have g1 := hcells 1 _ rfl
        have g2 := hcells 2 _ rfl
        have g3 := hcells 3 _ rfl
        have g4 := hcells 4 _ rfl
        have g5 := hcells 5 _ rfl
        have hos : o.v.s.size ≤ 9223372036854775807 := HL'.out.2.2 o (List.mem_of_getElem? ho)
        have HY := Lib.hid (And.intro hown (And.intro hk ho))
        clear hown hcells ho hk
        go_wp2_with fail
        have hof := fun ob => own_run (HY.out.1.alloc ob) o (by omega) hos
        refine (hof _).mono ?_
        rintro e w4 ⟨ns1, rfl, h1, h2, h3⟩
        have HZ := Lib.hid h1
        clear h1 h2 h3 hof
        go_wp2_with fail
        go_roundg (m' - (i + 1))
        case measure => have := HY.out.2.1; omega
        case rel => exact ⟨i + 1, ns1, hlt, rfl, rfl, by
          rw [fold_snoc Ch.run c more i o HY.out.2.2]
          have := HZ.out
          rw [Int.add_assoc] at this
          simpa using this⟩
      · obtain rfl : i = m' := by omega
        have hT := hown.only.blk HE.out.2.2.1
        have k0 := hT.cell
        have l0 := hT.lt
        have HB := Lib.hid hown
        clear hown hk hT
        go_wp2_with fail
        have z0 := k0 0
        have z1 := k0 1
        have z2 := k0 2
        have z3 := k0 3
        have z4 := k0 4
        have z5 := k0 5
        simp only [List.getElem?_cons_zero, List.getElem?_cons_succ] at z0 z1 z2 z3 z4 z5
        clear k0
        go_region_held3 (fun w' => w'.cell? ⟨w2.heap.size, 0, none⟩ = some (.int .i64 c.cap) ∧ w'.cell? ⟨w2.heap.size, 1, none⟩ = some (.int .i64 c.pol) ∧ w'.cell? ⟨w2.heap.size, 2, none⟩ = some (.bool c.closed) ∧
            w'.cell? ⟨w2.heap.size, 3, none⟩ = some (.slice A1 c.buf.length cp1) ∧ w'.cell? ⟨w2.heap.size, 4, none⟩ = some (.slice A2 c.ws.length cp2) ∧ w'.cell? ⟨w2.heap.size, 5, none⟩ = some (.int .i64 c.drop))
          (first
            | go_keep
            | (go_split_ands; refine ⟨?_, ?_, ?_, ?_, ?_, ?_⟩ <;> (first | (apply Only.cell hOy; assumption) | (apply Only.cell hOx; assumption))))
          (first
            | (go_at_call 13; refine (own_state ((HE.out.2.1.step HB.out.only).step (Stay.refl _ wr).drew)).mono ?_; rintro e w5 ⟨⟨B1, cq1, B2, cq2, rfl, t1, t2⟩, hOx⟩)
            | (go_at_call 15; refine (same_any _ _ _ c ⟨B1, cq1, B2, cq2, rfl, t1, t2⟩ (HE.out.2.2.2.only ((HB.out.only.trans' (Stay.refl _ wr).drew).trans' hOx))).mono ?_; rintro e w6 ⟨rfl, hOy⟩))
        have hO0 : Only wr wr.drew := (Stay.refl (fun _ => False) wr).drew
        have hO6 : Only wr w6 := (hO0.trans' hOx).trans' hOy
        have hOw : Only W2 w6 := HB.out.only.trans' hO6
        have HF := Lib.hid (show Own w w6 (w.heap.size + 1) ns c 60 ∧ Own w w6 b2 nsd ((more.take i).foldl Ch.run c) (60 + i) ∧ ∀ k ∈ (w.heap.size + 1) :: ns, k ∉ b2 :: nsd from by
          refine ⟨HE.out.2.1.step hOw, ⟨HB.out.lies.only hO6, fun k hk => Nat.le_trans HE.out.2.1.only.size (HB.out.new k hk), HB.out.ok, HE.out.2.1.only.trans' hOw⟩, fun k hk hk' => ?_⟩
          have h1 := HE.out.2.1.lies.lt k hk
          have h2 := HB.out.new k hk'
          omega)
        clear z0 z1 z2 z3 z4 z5 t1 t2 hOx hOy hO6 hOw l0 hlt hi
        go_upto_region 20 with fail
        go_cut [75, 76, 77] from 71 to 74 (fun a b x wc => ∃ m : Nat, m = min n' 30 ∧ a = .slice A' m ca' ∧ b = .int .i64 (m : Nat) ∧ x = .int .i64 0 ∧ w6 = wc)
        case first =>
          go_wp2_with fail
          · have h60 : 30 < (n' : Int) := by assumption
            go_meet
            case rel => exact ⟨30, by omega, rfl, rfl, rfl, rfl⟩
          · have h60 : (n' : Int) ≤ 30 := by assumption
            go_meet
            case rel => exact ⟨n', by omega, rfl, rfl, rfl, rfl⟩
        case rest =>
        obtain ⟨m3, hm3, rfl, rfl, rfl, rfl⟩ := hcut
        obtain rfl : m3 = i := by rw [hm3]; exact HM.out.symm
        clear hm3
        go_wp2_with fail
        go_loopg [77] m3 (fun k vj wr => ∃ (j : Nat) (nsc : List Nat), j ≤ m3 ∧ k = m3 - j ∧ vj = .int .i64 (j : Nat) ∧ Own w wr (w.heap.size + 1) nsc ((more.take j).foldl Ch.run c) (60 + j) ∧ Own w wr b2 nsd ((more.take m3).foldl Ch.run c) (60 + m3) ∧ ∀ k ∈ (w.heap.size + 1) :: nsc, k ∉ b2 :: nsd)
        case atStart => exact ⟨0, ns, Nat.zero_le _, rfl, rfl, HF.out.1, HF.out.2.1, HF.out.2.2⟩
        case round =>
        obtain ⟨j, nsc, hj, hk, rfl, hown, hown2, hdis⟩ := hrel
        rename World => wz
        by_cases hlt : j < m3
        · obtain ⟨o, ho⟩ : ∃ o, more[j]? = some o := ⟨_, List.getElem?_eq_getElem (by have := HL'.out.2.1; omega)⟩
          obtain ⟨ab, ao, rfl, hab, hcells⟩ := (HL'.out.1.only hown.only).elem Op1.cells_length ho (by omega)
          have g0 := hcells 0 _ rfl
          simp only [Nat.add_zero] at g0
          have g1 := hcells 1 _ rfl
          have g2 := hcells 2 _ rfl
          have g3 := hcells 3 _ rfl
          have g4 := hcells 4 _ rfl
          have g5 := hcells 5 _ rfl
          have hos : o.v.s.size ≤ 9223372036854775807 := HL'.out.2.2 o (List.mem_of_getElem? ho)
          have HY := Lib.hid (And.intro hown (And.intro hown2 (And.intro hdis (And.intro hk ho))))
          clear hown hown2 hdis hcells ho hk
          go_wp2_with fail
          have hof := fun ob => own_run (HY.out.1.alloc ob) o (by omega) hos
          refine (hof _).mono ?_
          rintro e w4 ⟨ns1, rfl, h1, h2, h3⟩
          have HZ := Lib.hid (And.intro h1 (And.intro (HY.out.2.1.alloc _ |>.aside h3 (fun k hk hk' => HY.out.2.2.1 k hk' hk) (fun k hk => HY.out.1.new k hk)) h2))
          clear h1 h2 h3 hof
          go_wp2_with fail
          go_roundg (m3 - (j + 1))
          case measure => have := HY.out.2.2.2.1; omega
          case rel => exact ⟨j + 1, ns1, hlt, rfl, rfl, by
            rw [fold_snoc Ch.run c more j o HY.out.2.2.2.2]
            have := HZ.out.1
            rw [Int.add_assoc] at this
            simpa using this, HZ.out.2.1, fun k hk hk' => by
              rcases List.mem_cons.1 hk with rfl | hk
              · exact HY.out.2.2.1 _ (by simp) hk'
              · rcases HZ.out.2.2 k hk with h | h
                · exact HY.out.2.2.1 k (by simp [h]) hk'
                · have := HY.out.2.1.lies.lt k hk'
                  simp at h
                  omega⟩
        · obtain rfl : j = m3 := by omega
          have HY := Lib.hid (And.intro hown hown2)
          clear hown hown2 hdis hk
          go_wp2_with fail
          refine (own_state HY.out.1).mono ?_
          rintro e w7 ⟨⟨B3, cq3, B4, cq4, rfl, t1, t2⟩, hO7⟩
          have HR := Lib.hid (And.intro (show Rd w7 _ _ from ⟨B3, cq3, B4, cq4, rfl, t1, t2⟩) hO7)
          clear t1 t2 hO7
          go_wp2_with fail
          refine (own_state (HY.out.2.step HR.out.2)).mono ?_
          rintro e w8 ⟨⟨B5, cq5, B6, cq6, rfl, t1, t2⟩, hO8⟩
          have HR2 := Lib.hid (And.intro (show Rd w8 _ _ from ⟨B5, cq5, B6, cq6, rfl, t1, t2⟩) hO8)
          clear t1 t2 hO8
          go_wp2_with fail
          refine (same_any _ _ _ _ (HR.out.1.only HR2.out.2) HR2.out.1).mono ?_
          rintro e w9 ⟨rfl, hO9⟩
          have H9 := Lib.hid hO9
          clear hO9
          go_wp2_with fail
          refine (awake_any _).mono ?_
          rintro e w10 ⟨rfl, hO10⟩
          have H10 := Lib.hid hO10
          clear hO10
          go_wp2_with fail
          go_ret
          exact ⟨rfl, (((HY.out.1.only.trans' HR.out.2).trans' HR2.out.2).trans' H9.out).trans' H10.out⟩

end Go.Proofs.Ytfmkdkpgehkfaaa
