/- ChannelPlays: the walk. -/
import Derived.Test.YtfmkdkpgehkfaaaRefPlay
import Derived.Test.YtfmkdkpgehkfaaaLaw16Row
import Derived.Deep.DeepCutAuto
import Derived.Deep.CutBlock
import Derived.Deep.RegionHeld3
set_option linter.unusedVariables false
set_option linter.unusedSimpArgs false
namespace Go.Proofs.Ytfmkdkpgehkfaaa
open Go Go.RowKit

set_option maxRecDepth 100000 in
set_option maxHeartbeats 8000000 in
theorem plays_any (w : World) (cap pol : Int) (A : Option Addr) (n ca : Nat) (ops : List Op1) (hl : Sl w w.heap.size A n ca 6 (ops.flatMap Op1.cells)) (hlen : ops.length = n) (hs : ∀ o ∈ ops, o.v.s.size ≤ 9223372036854775807) :
    Calls Try.prog 6 #[.int .i64 cap, .int .i64 pol, .slice A n ca] w fun e w' => e = .returned (.bool true) ∧ Only w w' := by
  cases hnew : newOk cap pol with
  | false =>
    go_enter Try.func6, Try.ntmps6
    go_wp2_with fail
    refine (new_bad cap pol _ hnew).mono ?_
    rintro e w1 ⟨rfl, hO⟩
    have HO := Lib.hid hO
    clear hO hl
    go_wp2_with fail
    refine (rnew_bad cap pol _ hnew).mono ?_
    rintro e w2 ⟨rfl, hO2⟩
    have HO2 := Lib.hid (HO.out.trans' hO2)
    clear hO2
    unfold stNew
    go_wp2_with fail
    refine (awake_any _).mono ?_
    rintro e w3 ⟨rfl, hO3⟩
    have HO3 := Lib.hid (HO2.out.trans' hO3.behind)
    clear hO3
    go_wp2_with fail
    go_ret
    exact ⟨rfl, HO3.out⟩
  | true =>
    have HL := Lib.hid (And.intro hl (And.intro hlen hs))
    have hnc := hl.2.1
    have hcm := hl.2.2.1
    clear hl hlen hs
    go_enter Try.func6, Try.ntmps6
    go_wp2_with fail
    refine (own_new w _ (Stay.refl _ w) hnew).mono ?_
    rintro e w1 ⟨rfl, hch, hO⟩
    have HO := Lib.hid (And.intro hch hO)
    clear hO hch
    go_wp2_with fail
    refine (rnew_good cap pol _ hnew).mono ?_
    rintro e w2 ⟨rfl, hO2⟩
    have hz : w.heap.size ≤ w2.heap.size := (HO.out.2.trans' hO2).size
    have hlt : ∀ k ∈ [w.heap.size], k < w2.heap.size := fun k hk => Nat.lt_of_lt_of_le (HO.out.1.lies.lt k hk) hO2.size
    have hOb : Only w2 (w2.alloc (.cells (stv (Ch.new cap pol) none 0 none 0).toArray 36)) := (Stay.refl _ w2).alloc _
    have H2 := Lib.hid (And.intro (show PL w (w2.alloc (.cells (stv (Ch.new cap pol) none 0 none 0).toArray 36)) (fun k => k = w2.heap.size) w.heap.size [] (Ch.new cap pol) 0 (.agg (stv (Ch.new cap pol) none 0 none 0).toArray) from
      ⟨(HO.out.1.step hO2).step hOb, rd_new _ cap pol, fun r hr h0 => by simp [rowsOf, stv, Ch.new] at hr; subst hr; simp at h0⟩) (And.intro (Blk.new w2 (stv (Ch.new cap pol) none 0 none 0) 36) (And.intro hlt hz)))
    have k0 := (Blk.new w2 (stv (Ch.new cap pol) none 0 none 0) 36).cell
    clear hO2 hz hlt hOb
    unfold stNew
    go_upto_region 5 with fail
    have hO0 : ∀ o, Only w2 ((w2.alloc o).drew) := fun o => ((Stay.refl (fun _ => False) w2).alloc o).drew
    have z0 := k0 0
    have z1 := k0 1
    have z2 := k0 2
    have z3 := k0 3
    have z4 := k0 4
    have z5 := k0 5
    simp only [stv, Ch.new, List.length_nil, List.getElem?_cons_zero, List.getElem?_cons_succ] at z0 z1 z2 z3 z4 z5
    clear k0
    go_region_held3 (fun w' => w'.cell? ⟨w2.heap.size, 0, none⟩ = some (.int .i64 cap) ∧ w'.cell? ⟨w2.heap.size, 1, none⟩ = some (.int .i64 pol) ∧ w'.cell? ⟨w2.heap.size, 2, none⟩ = some (.bool false) ∧
        w'.cell? ⟨w2.heap.size, 3, none⟩ = some (.slice none 0 0) ∧ w'.cell? ⟨w2.heap.size, 4, none⟩ = some (.slice none 0 0) ∧ w'.cell? ⟨w2.heap.size, 5, none⟩ = some (.int .i64 0))
      (first
        | go_keep
        | (go_split_ands; refine ⟨?_, ?_, ?_, ?_, ?_, ?_⟩ <;> (first | (apply Only.cell hOy; assumption) | (apply Only.cell hOx; assumption))))
      (first
        | (go_at_call 13; refine (own_state (H2.out.1.own.step ((Stay.refl _ _).drew))).mono ?_; rintro e w5 ⟨⟨B1, cq1, B2, cq2, rfl, t1, t2⟩, hOx⟩)
        | (go_at_call 15; refine (same_any _ _ _ (Ch.new cap pol) ⟨B1, cq1, B2, cq2, rfl, t1, t2⟩ (H2.out.1.rd.only (((Stay.refl (fun _ => False) _).drew).trans hOx (fun _ _ h => h)))).mono ?_; rintro e w6 ⟨rfl, hOy⟩))
    have hO26 : Only (w2.alloc (.cells (stv (Ch.new cap pol) none 0 none 0).toArray 36)) w6 := (((Stay.refl (fun _ => False) _).drew).trans hOx (fun _ _ h => h)).trans hOy (fun _ _ h => h)
    have H6 := Lib.hid (And.intro (H2.out.1.only hO26) (And.intro (hO26.blk H2.out.2.1) (And.intro H2.out.2.2.1 H2.out.2.2.2)))
    clear hO26 hOx hOy z0 z1 z2 z3 z4 z5 hO0
    go_upto_region 7 with fail
    go_cut [54, 58, 59, 60] (fun a a' b i wc => ∃ m : Nat, m = min n 100 ∧ a' = .slice A m ca ∧ b = .int .i64 (m : Nat) ∧ i = .int .i64 0 ∧ w6 = wc)
    case first =>
      go_wp2_with fail
      · have h60 : 100 < (n : Int) := by assumption
        go_meet
        case rel => exact ⟨100, by omega, rfl, rfl, rfl, rfl⟩
      · have h60 : (n : Int) ≤ 100 := by assumption
        go_meet
        case rel => exact ⟨n, by omega, rfl, rfl, rfl, rfl⟩
    case rest =>
    obtain ⟨m, hm, rfl, rfl, rfl, rfl⟩ := hcut
    have hmn : m ≤ n := by omega
    have hmc : m ≤ ca := by omega
    have hm60 : m ≤ 100 := by omega
    clear hm
    go_wp2_with fail
    go_loopg [7, 60] m (fun k vt vj wr => ∃ (j : Nat) (c : Ch) (b : Nat) (ns : List Nat) (A1 : Option Addr) (cp1 : Nat) (A2 : Option Addr) (cp2 : Nat), j ≤ m ∧ k = m - j ∧ vj = .int .i64 (j : Nat) ∧ vt = .pointer (some ⟨b, 0, none⟩) ∧ PL w wr (fun k => k = w2.heap.size) b ns c j (.agg (stv c A1 cp1 A2 cp2).toArray) ∧ Blk wr w2.heap.size 36 (stv c A1 cp1 A2 cp2) ∧ (∀ k ∈ b :: ns, k ≠ w2.heap.size))
    case atStart => exact ⟨0, _, _, _, none, 0, none, 0, Nat.zero_le _, rfl, rfl, rfl, H6.out.1, H6.out.2.1, fun k hk => by have := H6.out.2.2.1 k hk; omega⟩
    case round =>
    obtain ⟨j, c, b, ns, A1, cp1, A2, cp2, hj, hk, rfl, rfl, hP, hB, hn⟩ := hrel
    obtain ⟨w7, rfl⟩ : ∃ w7 : World, w7 = wr := ⟨_, rfl⟩
    by_cases hlt : j < m
    · obtain ⟨o, ho⟩ : ∃ o, ops[j]? = some o := ⟨_, List.getElem?_eq_getElem (by have := HL.out.2.1; omega)⟩
      obtain ⟨ab, ao, rfl, hab, hcells⟩ := (HL.out.1.only hP.own.only).elem Op1.cells_length ho (by omega)
      have g0 := hcells 0 _ rfl
      simp only [Nat.add_zero] at g0
      have g1 := hcells 1 _ rfl
      have g2 := hcells 2 _ rfl
      have g3 := hcells 3 _ rfl
      have g4 := hcells 4 _ rfl
      have g5 := hcells 5 _ rfl
      have k4 := hB.cell
      have l4 := hB.lt
      simp only [stv] at k4
      have hos : o.v.s.size ≤ 9223372036854775807 := HL.out.2.2 o (List.mem_of_getElem? ho)
      have HX := Lib.hid (And.intro hP (And.intro hB (And.intro hn hk)))
      clear hP hB hn hcells ho hk
      go_wp2_with fail
      have hOa : Only w7 (w7.alloc (.cells o.cells.toArray 31)) := (Stay.refl _ w7).alloc _
      refine (show Calls _ _ _ (w7.alloc (.cells o.cells.toArray 31)) _ from play_any (HX.out.1.only hOa) (fun k hk => by have := HX.out.2.1.lt; simp; omega) (by omega) o hos).mono ?_
      rintro e w8 ⟨b', ns', c', y, rfl, hP8, hs8, hn8⟩
      have hB8 := hs8.blk (hOa.blk HX.out.2.1) (fun h => HX.out.2.2.1 _ h rfl)
      have hn8' : ∀ k ∈ b' :: ns', k ≠ w2.heap.size := fun k hk e => by
        have := HX.out.2.1.lt
        rcases hn8 k hk with h | h
        · exact HX.out.2.2.1 _ h e
        · simp at h; omega
      obtain ⟨A3, cp3, A4, cp4, rfl, s3, s4⟩ := hP8.rd
      clear k4 l4 g0 g1 g2 g3 g4 g5 s3 s4
      have k4 := hB8.cell
      have l4 := hB8.lt
      have f4 := hB8.free
      simp only [stv] at k4
      have H8 := Lib.hid (And.intro hP8 (And.intro hB8 hn8'))
      clear hP8 hs8 hn8 hB8 hn8' hOa
      go_wp2_with fail
      go_roundg (m - (j + 1))
      case measure => have := HX.out.2.2.2; omega
      case rel =>
        have hst : Stay (fun k => k = w2.heap.size) w8 ((((((((w8.setCell ⟨w2.heap.size, 0, none⟩ (.int .i64 c'.cap)).setCell ⟨w2.heap.size, 1, none⟩ (.int .i64 c'.pol)).setCell ⟨w2.heap.size, 2, none⟩ (.bool c'.closed)).setCell ⟨w2.heap.size, 3, none⟩ (.slice A3 c'.buf.length cp3)).setCell ⟨w2.heap.size, 4, none⟩ (.slice A4 c'.ws.length cp4)).setCell ⟨w2.heap.size, 5, none⟩ (.int .i64 c'.drop))).alloc (.cells (stv c' A3 cp3 A4 cp4).toArray 36)) :=
          (((((((Stay.refl (fun k => k = w2.heap.size) w8).put rfl _ _).put rfl _ _).put rfl _ _).put rfl _ _).put rfl _ _).put rfl _ _).alloc _
        have hz := H6.out.2.2.2
        refine ⟨j + 1, c', b', ns', A3, cp3, A4, cp4, by omega, rfl, by go_num, rfl, ⟨?_, H8.out.1.rd.stay hst (H8.out.1.bes.sub (fun k hk => .inr hk)), H8.out.1.bes⟩, ?_, H8.out.2.2⟩
        · exact (H8.out.1.own.more (by omega)).aside hst (fun k hk e => H8.out.2.2 k hk e) (fun k hk => by omega)
        · have := ((((((H8.out.2.1.set 0 (.int .i64 c'.cap)).set 1 (.int .i64 c'.pol)).set 2 (.bool c'.closed)).set 3 (.slice A3 c'.buf.length cp3)).set 4 (.slice A4 c'.ws.length cp4)).set 5 (.int .i64 c'.drop)).alloc (.cells (stv c' A3 cp3 A4 cp4).toArray 36)
          exact this
    · have HX := Lib.hid hP.own.only
      clear hP hB hn hk
      go_wp2_with fail
      refine (awake_any _).mono ?_
      rintro e w8 ⟨rfl, hO8⟩
      have H8 := Lib.hid (HX.out.trans' hO8)
      clear hO8
      go_wp2_with fail
      go_ret
      exact ⟨rfl, H8.out⟩

end Go.Proofs.Ytfmkdkpgehkfaaa
