/- StealItems: the walk (under way). -/
import Derived.Test.YtfohaijdhgcneaaPoolCopy
import Derived.Test.YtfohaijdhgcneaaPoolPure
import Derived.Test.YtfohaijdhgcneaaPoolRow
import Derived.Test.YtfohaijdhgcneaaIntComp
import Derived.Test.YtfohaijdhgcneaaIntSort
import Derived.Test.YtfohaijdhgcneaaAppSl
import Derived.Test.YtfohaijdhgcneaaStealOwn
import Derived.Deep.CutRange
set_option linter.unusedVariables false
set_option linter.unusedSimpArgs false
namespace Go.Proofs.Ytfohaijdhgcneaa
open Go Go.RowKit

theorem PoolPost.only {w wa w2 : World} {b : Nat} {qs qs' : List (List Int)} {qv : Value} {vs : List Value} (h : PoolAt w wa b qs qv vs) (ho : Only w wa) (hp : PoolPost w wa b qv vs qs' w2) : ∃ vs2, PoolAt w w2 b qs' qv vs2 ∧ Only w w2 := by
  obtain ⟨vs2, h1, h2, h3⟩ := hp
  exact ⟨vs2, h1, ho.trans h2 (fun i hi hk => by have := (h.lt hk).1; omega)⟩
set_option maxRecDepth 100000 in
set_option maxHeartbeats 4000000 in
theorem stealItems_any (w : World) (workers : Int) (A : Option Addr) (n ca : Nat) (ops : List POp) (hl : Sl w w.heap.size A n ca 3 (ops.flatMap POp.cells)) (hlen : ops.length = n) :
    Calls Try.prog 11 #[.int .i64 workers, .slice A n ca] w fun e w' => e = .returned (.bool true) ∧ Only w w' := by
  have HL := Lib.hid (And.intro hl hlen)
  have hnc := hl.2.1
  have hcm := hl.2.2.1
  clear hl hlen
  go_enter Try.func11, Try.ntmps11
  go_wp2_with fail
  by_cases hv : 1 ≤ workers ∧ workers ≤ 8
  · obtain ⟨nw, rfl⟩ : ∃ nw : Nat, workers = (nw : Int) := ⟨workers.toNat, by omega⟩
    refine (newpool_any w nw (by omega) (by omega)).mono ?_
    rintro e w1 ⟨b, qv, vs, rfl, hP, hO⟩
    have H1 := Lib.hid (And.intro hP hO)
    clear hP hO
    go_upto_region 5 with fail
    go_cut [33, 34, 35] from 29 to 32 (fun a b i wc => ∃ m : Nat, m = min n 120 ∧ a = .slice A m ca ∧ b = .int .i64 (m : Nat) ∧ i = .int .i64 0 ∧ w1 = wc)
    case first =>
      go_wp2_with fail
      go_meet
      case rel => exact ⟨min n 120, rfl, congrArg (fun x => Value.slice A x ca) (by omega), congrArg (Value.int .i64) (by omega), rfl, rfl⟩
    case rest =>
      obtain ⟨m, hm, rfl, rfl, rfl, rfl⟩ := hcut
      have hmn : m ≤ n := by omega
      have hm120 : m ≤ 120 := by omega
      have hmc : m ≤ ca := by omega
      clear hm
      go_wp2_with fail
      go_loopg [7, 8, 35] m (fun kk vp vg vj wr => ∃ (j put got : Nat) (qs : List (List Int)) (vs' : List Value), j ≤ m ∧ kk = m - j ∧ vp = .int .i64 (put : Nat) ∧ vg = .int .i64 (got : Nat) ∧ vj = .int .i64 (j : Nat) ∧ put ≤ j ∧ qs.length = nw ∧ Items qs put got ∧ PoolAt w wr b qs qv vs' ∧ Only w wr)
      case atStart => exact ⟨0, 0, 0, _, vs, by omega, rfl, rfl, rfl, rfl, by omega, by simp, Items.start nw, H1.out.1, H1.out.2⟩
      case round =>
        obtain ⟨j, put, got, qs, vs', hj, hk, rfl, rfl, rfl, hpj, hqn, hI, hP, hO⟩ := hrel
        obtain ⟨wt, hwt⟩ : ∃ wt, wt = wr := ⟨_, rfl⟩
        rw [← hwt] at hP hO ⊢
        clear hwt
        by_cases hjm : j < m
        · obtain ⟨o, ho⟩ : ∃ o, ops[j]? = some o := ⟨_, List.getElem?_eq_getElem (by have := HL.out.2; omega)⟩
          obtain ⟨ab, ao, rfl, hab, hcells⟩ := (HL.out.1.only hO).elem POp.cells_length ho (by omega)
          have g0 := hcells 0 _ rfl
          simp only [Nat.add_zero] at g0
          have g1 := hcells 1 _ rfl
          have g2 := hcells 2 _ rfl
          obtain ⟨kd, ow, ox⟩ := o
          simp only at g0 g1 g2
          have hq120 : ∀ i, (qs.getD i []).length ≤ 100000 := fun i => by have := hI.le i; omega
          have HX := Lib.hid (And.intro hI (And.intro hP (And.intro hO (And.intro hk (And.intro hpj (And.intro hqn hq120))))))
          clear hI hP hO hk hpj hqn hcells ho hq120
          obtain ⟨wa, hwa⟩ : ∃ wa, wa = wt.alloc (.cells #[.int .i64 kd, .int .i64 ow, .int .i64 ox] 64) := ⟨_, rfl⟩
          have hoa : Only wt wa := by rw [hwa]; exact (Stay.refl _ wt).alloc _
          have hPa := HX.out.2.1.only hoa
          have hba : Blk wa wt.heap.size 64 [.int .i64 kd, .int .i64 ow, .int .i64 ox] := by rw [hwa]; exact Blk.new wt [_, _, _] _
          have HA := Lib.hid (And.intro hoa (And.intro hPa (And.intro hba hwa)))
          clear hoa hPa hba hwa
          have hw8 : ¬ (qs.length > 8) := by have := HX.out.2.2.2.2.2.1; omega
          by_cases hk0 : kd = 0
          · have t0 : (kd == 0) = true := by simp [hk0]
            clear hk0
            have hp120 : put ≤ 120 := by have := HX.out.2.2.2.2.1; omega
            have wp : IntKind.i64.wrap ((put : Int) + 1) = (put : Int) + 1 := IntWalk.i64_in _ (by omega)
            have wm : IntKind.i64.wrap ((put : Int) + 1 - 1) = (put : Int) := by rw [show (put : Int) + 1 - 1 = (put : Int) by omega]; exact IntWalk.i64_in _ (by omega)
            by_cases hin : 1 ≤ ow ∧ ow ≤ (qs.length : Int)
            · obtain ⟨i, rfl⟩ : ∃ i : Nat, ow = (i : Int) + 1 := ⟨ow.toNat - 1, by omega⟩
              have hil : i < qs.length := by omega
              clear hin
              have HI := Lib.hid (And.intro (show True from trivial) hil)
              go_wp2_with fail
              rw [← HA.out.2.2.2]
              refine (put_in HA.out.2.1 HI.out.2 (by omega) (HX.out.2.2.2.2.2.2 i) (by have := (HX.out.2.2.1.trans' HA.out.1).size; omega) ((put : Int) + 1)).mono ?_
              rintro e w2 ⟨rfl, hpost⟩
              have H2 := Lib.hid (PoolPost.only HA.out.2.1 (HX.out.2.2.1.trans' HA.out.1) hpost)
              clear hpost
              go_wp2_with fail
              go_roundg (m - (j + 1))
              case measure => have := HX.out.2.2.2.1; omega
              case rel =>
                obtain ⟨vs2, hP2, hO2⟩ := H2.out
                have hI2 := HX.out.1.put HI.out.2
                rw [show (((put + 1 : Nat) : Int)) = (put : Int) + 1 by omega] at hI2
                exact ⟨j + 1, put + 1, got, _, vs2, by omega, rfl, by go_num, rfl, by go_num, by have := HX.out.2.2.2.2.1; omega, by rw [List.length_set]; exact HX.out.2.2.2.2.2.1, hI2, hP2, hO2⟩
            · have HI := Lib.hid hin
              clear hin
              go_wp2_with fail
              rw [← HA.out.2.2.2]
              refine (put_out HA.out.2.1 ow ((put : Int) + 1) HI.out).mono ?_
              rintro e w2 ⟨rfl, ho2⟩
              have H2 := Lib.hid ho2
              clear ho2
              go_wp2_with fail
              go_roundg (m - (j + 1))
              case measure => have := HX.out.2.2.2.1; omega
              case rel =>
                refine ⟨j + 1, put, got, qs, vs', by omega, rfl, ?_, rfl, by go_num, by have := HX.out.2.2.2.2.1; omega, HX.out.2.2.2.2.2.1, HX.out.1, HA.out.2.1.only H2.out, (HX.out.2.2.1.trans' HA.out.1).trans' H2.out⟩
                exact congrArg (Value.int .i64) (by omega)
          · have t0 : (kd == 0) = false := by simp [hk0]
            clear hk0
            by_cases hin : 1 ≤ ow ∧ ow ≤ (qs.length : Int)
            · obtain ⟨i, rfl⟩ : ∃ i : Nat, ow = (i : Int) + 1 := ⟨ow.toNat - 1, by omega⟩
              have hil : i < qs.length := by omega
              have hi9 : i < 9 := by omega
              have HI := Lib.hid (And.intro (show True from trivial) hil)
              clear hin
              have hba := HA.out.2.2.1
              have c0 := hba.cell 0
              have c1 := hba.cell 1
              have c2 := hba.cell 2
              simp only [List.getElem?_cons_zero, List.getElem?_cons_succ] at c0 c1 c2
              have lba := hba.lt
              have HB := Lib.hid hba
              clear hba
              obtain ⟨q, hq⟩ : ∃ q, q = (qs.getD i []).length := ⟨_, rfl⟩
              go_wp2_with fail
              rw [← HA.out.2.2.2]
              refine (queue_in HA.out.2.1 hil (by omega) (HX.out.2.2.2.2.2.2 i)).mono ?_
              rintro e w2 ⟨v2, rfl, hr2, ho2⟩
              rw [← hq] at hr2
              obtain ⟨A2, d2, rfl⟩ := own_shape hr2
              have cb := (ho2.blk HB.out).cell
              have lbb := (ho2.blk HB.out).lt
              have e0 := cb 0
              have e1 := cb 1
              have e2 := cb 2
              simp only [List.getElem?_cons_zero, List.getElem?_cons_succ] at e0 e1 e2
              have H2 := Lib.hid (And.intro (HA.out.2.1.only ho2) (And.intro ((HX.out.2.2.1.trans' HA.out.1).trans' ho2) (ho2.blk HB.out)))
              clear hr2 ho2 cb c0 c1 c2 lba
              have hw2 : w.heap.size ≤ w2.heap.size := H2.out.2.1.size
              cases hqi : qs.getD i [] with
              | cons x l =>
                have hI := HX.out.1.next hil hqi
                have hx1 : 1 ≤ x := hI.2.1
                have hx2 : x ≤ (put : Int) := hI.2.2
                have hput : put ≤ 120 := by have := HX.out.2.2.2.2.1; omega
                have hgot : got ≤ put := by have := HX.out.1.ln; omega
                have hq1 : (q : Int) > 0 := by rw [hq, hqi]; simp
                have hq2 : decide ((q : Int) > 0) = true := decide_eq_true hq1
                have b1 : decide (x < 1) = false := decide_eq_false (by omega)
                have b2 : decide (x > (put : Int)) = false := decide_eq_false (by omega)
                have wg : IntKind.i64.wrap ((got : Int) + 1) = (got : Int) + 1 := IntWalk.i64_in _ (by omega)
                have HQ := Lib.hid (And.intro hq (And.intro hqi hI.1))
                clear hq hqi hI
                go_wp2_with fail
                refine (next_own H2.out.1 HI.out.2 (by omega) HQ.out.2.1 (by have := HX.out.2.2.2.2.2.2 i; rw [HQ.out.2.1] at this; simp at this; omega) hw2 ox).mono ?_
                rintro e w3 ⟨rfl, hpost⟩
                have hb3 : Blk w3 wt.heap.size 64 [.int .i64 kd, .int .i64 ((i : Int) + 1), .int .i64 ox] := by
                  obtain ⟨_, _, hs, _⟩ := hpost
                  exact hs.blk H2.out.2.2 (fun hk => by have := (HX.out.2.1.lt hk).2; omega)
                have m0 := hb3.cell 0
                have m1 := hb3.cell 1
                have m2 := hb3.cell 2
                simp only [List.getElem?_cons_zero, List.getElem?_cons_succ] at m0 m1 m2
                have lm := hb3.lt
                have H3 := Lib.hid (PoolPost.only H2.out.1 H2.out.2.1 hpost)
                clear hpost hb3 e0 e1 e2 lbb
                go_wp2_with fail
                go_roundg (m - (j + 1))
                case measure => have := HX.out.2.2.2.1; omega
                case rel =>
                  obtain ⟨vs3, hP3, hO3⟩ := H3.out
                  exact ⟨j + 1, put, got + 1, _, vs3, by omega, rfl, rfl, by go_num, by go_num, by have := HX.out.2.2.2.2.1; omega, by rw [List.length_set]; exact HX.out.2.2.2.2.2.1, HQ.out.2.2, hP3, hO3⟩
              | nil =>
                have hq0 : q = 0 := by rw [hq, hqi]; rfl
                subst hq0
                have hput : put ≤ 120 := by have := HX.out.2.2.2.2.1; omega
                have hgot : got ≤ put := by have := HX.out.1.ln; omega
                clear hq
                cases hpf : pFind qs (i + 1) ox with
                | none =>
                  have hall := pfind_none hil hqi hpf
                  have hpg : put = got := by have := HX.out.1.ln; rw [hall] at this; simp at this; omega
                  subst hpg
                  have HQ := Lib.hid (And.intro hqi hpf)
                  clear hqi hpf hall
                  go_wp2_with fail
                  refine (next_none H2.out.1 HI.out.2 (by omega) (HX.out.2.2.2.2.2.2) HQ.out.1 hw2 ox HQ.out.2).mono ?_
                  rintro e w3 ⟨rfl, ho3⟩
                  have hb3 := ho3.blk H2.out.2.2
                  have m0 := hb3.cell 0
                  have m1 := hb3.cell 1
                  have m2 := hb3.cell 2
                  simp only [List.getElem?_cons_zero, List.getElem?_cons_succ] at m0 m1 m2
                  have lm := hb3.lt
                  have H3 := Lib.hid ho3
                  clear ho3 hb3 e0 e1 e2 lbb
                  have u1 : (i : Int) + 1 ≥ 1 := by omega
                  have u2 : (i : Int) + 1 ≤ (nw : Int) := by have := HX.out.2.2.2.2.2.1; omega
                  have b1 : decide ((i : Int) + 1 ≥ 1) = true := decide_eq_true u1
                  have b2 : decide ((i : Int) + 1 ≤ (nw : Int)) = true := decide_eq_true u2
                  go_wp2_with fail
                  go_roundg (m - (j + 1))
                  case measure => have := HX.out.2.2.2.1; omega
                  case rel => exact ⟨j + 1, put, put, qs, vs', by omega, rfl, rfl, rfl, by go_num, by have := HX.out.2.2.2.2.1; omega, HX.out.2.2.2.2.2.1, HX.out.1, H2.out.1.only H3.out, H2.out.2.1.trans' H3.out⟩
                | some v =>
                  obtain ⟨hvl, hvi, hvq⟩ := pfind_some hil hpf
                  obtain ⟨x, l, hxl⟩ := half_head (qs := qs) hil hvi hvq
                  have hI0 := HX.out.1.perm (flat_half hil hvl (fun e => hvi e.symm) hqi)
                  have hI := hI0.next (by rw [half_len]; exact hil) hxl
                  have hx1 : 1 ≤ x := hI.2.1
                  have hx2 : x ≤ (put : Int) := hI.2.2
                  have b1 : decide (x < 1) = false := decide_eq_false (by omega)
                  have b2 : decide (x > (put : Int)) = false := decide_eq_false (by omega)
                  have b3 : ((v : Int) + 1 == (i : Int) + 1) = false := by simp; omega
                  have wg : IntKind.i64.wrap ((got : Int) + 1) = (got : Int) + 1 := IntWalk.i64_in _ (by omega)
                  have hll : l.length ≤ 100000 := by
                    have := hI0.le i
                    rw [hxl] at this
                    simp at this
                    omega
                  have HQ := Lib.hid (And.intro hqi (And.intro hpf (And.intro hxl (And.intro hI.1 hll))))
                  clear hqi hpf hvl hvi hvq hxl hI0 hI hll
                  go_wp2_with fail
                  refine (next_some H2.out.1 HI.out.2 (by omega) (HX.out.2.2.2.2.2.2) HQ.out.1 HQ.out.2.2.1 HQ.out.2.2.2.2 hw2 ox HQ.out.2.1).mono ?_
                  rintro e w3 ⟨rfl, hpost⟩
                  have hb3 : Blk w3 wt.heap.size 64 [.int .i64 kd, .int .i64 ((i : Int) + 1), .int .i64 ox] := by
                    obtain ⟨_, _, hs, _⟩ := hpost
                    exact hs.blk H2.out.2.2 (fun hk => by have := (HX.out.2.1.lt hk).2; omega)
                  have m0 := hb3.cell 0
                  have m1 := hb3.cell 1
                  have m2 := hb3.cell 2
                  simp only [List.getElem?_cons_zero, List.getElem?_cons_succ] at m0 m1 m2
                  have lm := hb3.lt
                  have H3 := Lib.hid (PoolPost.only H2.out.1 H2.out.2.1 hpost)
                  clear hpost hb3 e0 e1 e2 lbb
                  go_wp2_with fail
                  go_roundg (m - (j + 1))
                  case measure => have := HX.out.2.2.2.1; omega
                  case rel =>
                    obtain ⟨vs3, hP3, hO3⟩ := H3.out
                    exact ⟨j + 1, put, got + 1, _, vs3, by omega, rfl, rfl, by go_num, by go_num, by have := HX.out.2.2.2.2.1; omega, by rw [List.length_set, half_len]; exact HX.out.2.2.2.2.2.1, HQ.out.2.2.2.1, hP3, hO3⟩
            · have HI := Lib.hid hin
              have hba := HA.out.2.2.1
              have hnq := HX.out.2.2.2.2.2.1
              clear hba
              by_cases h1 : 1 ≤ ow
              · have b1 : decide (ow ≥ 1) = true := decide_eq_true h1
                have b2 : decide (ow ≤ (nw : Int)) = false := decide_eq_false (by omega)
                have b3 : ¬ ow ≤ (nw : Int) := by omega
                have b4 : ow ≥ 1 := h1
                clear hin h1 hnq
                go_wp2_with fail
                rw [← HA.out.2.2.2]
                refine (queue_out HA.out.2.1 ow HI.out).mono ?_
                rintro e w2 ⟨rfl, ho2⟩
                have hb2 := ho2.blk HA.out.2.2.1
                have e0 := hb2.cell 0
                have e1 := hb2.cell 1
                have e2 := hb2.cell 2
                simp only [List.getElem?_cons_zero, List.getElem?_cons_succ] at e0 e1 e2
                have lbb := hb2.lt
                have H2 := Lib.hid (And.intro ho2 hb2)
                clear ho2 hb2
                go_wp2_with fail
                refine (next_out (HA.out.2.1.only H2.out.1) ow ox HI.out).mono ?_
                rintro e w3 ⟨rfl, ho3⟩
                have hb3 := ho3.blk H2.out.2
                have m0 := hb3.cell 0
                have m1 := hb3.cell 1
                have m2 := hb3.cell 2
                simp only [List.getElem?_cons_zero, List.getElem?_cons_succ] at m0 m1 m2
                have lm := hb3.lt
                have H3 := Lib.hid (Only.trans' H2.out.1 ho3)
                clear ho3 hb3 e0 e1 e2 lbb
                go_wp2_with fail
                go_roundg (m - (j + 1))
                case measure => have := HX.out.2.2.2.1; omega
                case rel => exact ⟨j + 1, put, got, qs, vs', by omega, rfl, rfl, rfl, by go_num, by have := HX.out.2.2.2.2.1; omega, HX.out.2.2.2.2.2.1, HX.out.1, HA.out.2.1.only H3.out, (HX.out.2.2.1.trans' HA.out.1).trans' H3.out⟩
              · have b1 : decide (ow ≥ 1) = false := decide_eq_false (by omega)
                have b4 : ¬ ow ≥ 1 := by omega
                clear hin h1 hnq
                go_wp2_with fail
                rw [← HA.out.2.2.2]
                refine (queue_out HA.out.2.1 ow HI.out).mono ?_
                rintro e w2 ⟨rfl, ho2⟩
                have hb2 := ho2.blk HA.out.2.2.1
                have e0 := hb2.cell 0
                have e1 := hb2.cell 1
                have e2 := hb2.cell 2
                simp only [List.getElem?_cons_zero, List.getElem?_cons_succ] at e0 e1 e2
                have lbb := hb2.lt
                have H2 := Lib.hid (And.intro ho2 hb2)
                clear ho2 hb2
                go_wp2_with fail
                refine (next_out (HA.out.2.1.only H2.out.1) ow ox HI.out).mono ?_
                rintro e w3 ⟨rfl, ho3⟩
                have hb3 := ho3.blk H2.out.2
                have m0 := hb3.cell 0
                have m1 := hb3.cell 1
                have m2 := hb3.cell 2
                simp only [List.getElem?_cons_zero, List.getElem?_cons_succ] at m0 m1 m2
                have lm := hb3.lt
                have H3 := Lib.hid (Only.trans' H2.out.1 ho3)
                clear ho3 hb3 e0 e1 e2 lbb
                go_wp2_with fail
                go_roundg (m - (j + 1))
                case measure => have := HX.out.2.2.2.1; omega
                case rel => exact ⟨j + 1, put, got, qs, vs', by omega, rfl, rfl, rfl, by go_num, by have := HX.out.2.2.2.2.1; omega, HX.out.2.2.2.2.2.1, HX.out.1, HA.out.2.1.only H3.out, (HX.out.2.2.1.trans' HA.out.1).trans' H3.out⟩
        · obtain rfl : j = m := by omega
          have hput : put ≤ 120 := by omega
          have hgot : got ≤ put := by have := hI.ln; omega
          have HX := Lib.hid (And.intro hI (And.intro hP (And.intro hO hqn)))
          clear hI hP hO hk hpj hqn
          go_wp2_with fail
          obtain ⟨ii, hii0, hii1, hii2, hii3⟩ := info_parts infoI
          go_loopg [15, 16] nw (fun kk vr vn wr => ∃ i : Nat, i ≤ nw ∧ kk = nw - i ∧ vn = .int .i64 ((i : Int) + 1) ∧ wr.ownsRow wt.heap.size 3 1 vr (qs.take i).flatten.length (ints (qs.take i).flatten) ∧ Only wt wr)
          case atStart => exact ⟨0, Nat.zero_le _, rfl, rfl, World.ownsRow_nil _ _ _ _, Stay.refl _ _⟩
          case round =>
            obtain ⟨i, hi, hki, rfl, hr, hO6⟩ := hrel
            obtain ⟨w6, hw6⟩ : ∃ w6, w6 = wr := ⟨_, rfl⟩
            rw [← hw6] at hr hO6 ⊢
            clear hw6
            obtain ⟨Rl, hRl⟩ : ∃ Rl, Rl = (qs.take i).flatten := ⟨_, rfl⟩
            rw [← hRl] at hr
            have hR120 : Rl.length ≤ 120 := by
              have h1 : qs.flatten = (qs.take i).flatten ++ (qs.drop i).flatten := by rw [← List.flatten_append, List.take_append_drop]
              have h1 := congrArg List.length h1
              rw [List.length_append] at h1
              have := HX.out.1.ln
              rw [hRl]
              omega
            by_cases hin : i < nw
            · have hil : i < qs.length := by rw [HX.out.2.2.2]; exact hin
              obtain ⟨ql, hql⟩ : ∃ ql, ql = qs.getD i [] := ⟨_, rfl⟩
              have hq120 : ql.length ≤ 120 := by rw [hql]; have := HX.out.1.le i; omega
              obtain ⟨rn, hrn⟩ : ∃ rn, rn = Rl.length := ⟨_, rfl⟩
              obtain ⟨qn, hqn⟩ : ∃ qn, qn = ql.length := ⟨_, rfl⟩
              have hflat : Rl ++ ql = (qs.take (i + 1)).flatten := by rw [flat_take_succ hil, hRl, hql]
              rw [← hrn] at hr hR120
              obtain ⟨Ar, cr, rfl⟩ := own_shape hr
              have u1 : (i : Int) + 1 ≤ (nw : Int) := by omega
              have wi : IntKind.i64.wrap ((i : Int) + 1 + 1) = (i : Int) + 1 + 1 := IntWalk.i64_in _ (by omega)
              have HK := Lib.hid (And.intro hr (And.intro hO6 (And.intro hki (And.intro hflat (And.intro hql (And.intro hrn hqn))))))
              clear hr hO6 hki hflat hrn
              go_wp2_with fail
              refine (queue_in (HX.out.2.1.only HK.out.2.1) hil (by have := HX.out.2.2.2; omega) (by rw [← HK.out.2.2.2.2.1]; omega)).mono ?_
              rintro e w7 ⟨v7, rfl, hr7, ho7⟩
              rw [← HK.out.2.2.2.2.1, ← hqn] at hr7
              obtain ⟨A7, c7, rfl⟩ := own_shape hr7
              have hz7 := Nat.le_trans HK.out.2.1.size ho7.size
              have hq120' : qn ≤ 120 := by omega
              have H7 := Lib.hid (And.intro hr7 ho7)
              clear hr7 ho7 hql hqn
              go_wp2_with (at_builtin; refine wpList_append_sl _ rfl _ _ _ rfl wt.heap.size 3 ii _ 1 8 Try.underlying22 hii0 hii1 hii2 hii3 rfl (by omega) _ rn _ (by rfl) (own_only H7.out.2 HK.out.1) _ A7 qn c7 (ints ql) (by rfl) (own_sl H7.out.1 (Stay.refl _ _)) (fun u hu => by obtain ⟨y, _, rfl⟩ := List.mem_map.1 hu; rfl) (by simp only [maxLen]; omega) (by omega) (by omega) ?_; intro A9 c9 w9 hown9 hst9 hnx9; have H9 := Lib.hid (And.intro hown9 (And.intro hst9 hnx9)); clear hown9 hst9 hnx9)
              go_roundg (nw - (i + 1))
              case measure => have := HK.out.2.2.1; omega
              case rel =>
                refine ⟨i + 1, by omega, rfl, by go_num, ?_, ?_⟩
                · rw [← HK.out.2.2.2.1, List.length_append, ← HK.out.2.2.2.2.2.1, ← HK.out.2.2.2.2.2.2]
                  have := H9.out.1
                  unfold ints at this ⊢
                  rw [List.map_append]
                  exact this
                · exact (HK.out.2.1.trans' H7.out.2).trans H9.out.2.1 (fun k hk e => by have := (own_lt HK.out.1 k e).1; omega)
            · obtain rfl : i = nw := by omega
              have htk : qs.take i = qs := List.take_of_length_le (by have := HX.out.2.2.2; omega)
              rw [htk] at hRl
              have hnd : Rl.Nodup := by rw [hRl]; exact HX.out.1.nd
              have hln : Rl.length + got = put := by rw [hRl]; exact HX.out.1.ln
              obtain ⟨rn, hrn⟩ : ∃ rn, rn = Rl.length := ⟨_, rfl⟩
              obtain ⟨Ar, cr, rfl⟩ := own_shape hr
              have HK := Lib.hid (And.intro hr (And.intro hO6 (And.intro hnd hrn)))
              have u1 : ¬ (i : Int) + 1 ≤ (i : Int) := by omega
              have hrg : (put : Int) - (got : Int) = (rn : Int) := by omega
              have wpg : IntKind.i64.wrap ((put : Int) - (got : Int)) = (rn : Int) := by rw [hrg]; exact IntWalk.i64_in _ (by omega)
              rw [← hrn]
              clear hr hO6 hki hnd hRl htk hln hrg hrn
              go_wp2_with fail
              have hrn120 : rn ≤ 120 := by rw [HK.out.2.2.2]; exact hR120
              have hsr := sortI_any w6 wt.heap.size (.slice Ar Rl.length cr) Rl HK.out.1 (by omega)
              clear hR120
              rw [← HK.out.2.2.2] at hsr
              refine hsr.mono ?_
              clear hsr
              rintro e w7 ⟨rfl, hr7, hs7⟩
              have hnd7 : (srt Rl).Nodup := (List.mergeSort_perm Rl _).nodup_iff.2 HK.out.2.2.1
              obtain ⟨sl, hsl⟩ : ∃ sl, sl = srt Rl := ⟨_, rfl⟩
              rw [← hsl] at hr7 hnd7
              have hll : sl.length = rn := by rw [hsl, srt_length, HK.out.2.2.2]
              have hcl := comp_nodup hnd7
              rw [hll] at hcl
              have H7 := Lib.hid (And.intro hr7 (And.intro hs7 (And.intro hll hcl)))
              clear hr7 hs7 hnd7 hsl hll hcl
              go_wp2_with fail
              have hcomp := compI_any w7 wt.heap.size (.slice Ar rn cr) sl (by rw [H7.out.2.2.1]; exact H7.out.1) (by rw [H7.out.2.2.1]; omega) (comp_len _)
              rw [H7.out.2.2.2] at hcomp
              refine hcomp.mono ?_
              clear hcomp
              rintro e w8 ⟨A8, c8, rfl, hs8⟩
              have hO8 : Only w w8 := ((HX.out.2.2.1.trans' HK.out.2.1).trans H7.out.2.1 (fun k hk e => by have := (own_lt HK.out.1 k (by rw [← HK.out.2.2.2]; exact e)).1; have := HX.out.2.2.1.size; omega)).trans hs8 (fun k hk e => by have := (own_lt H7.out.1 k e).1; have := HX.out.2.2.1.size; omega)
              have H8 := Lib.hid hO8
              clear hs8 hO8
              go_wp2_with fail
              refine (awake_any w8).mono ?_
              rintro e w9 ⟨rfl, h9⟩
              have H9 := Lib.hid (H8.out.trans' h9)
              clear h9
              go_wp2_with fail
              go_ret
              exact ⟨rfl, H9.out⟩
  · refine (newpool_bad w workers hv).mono ?_
    rintro e w1 ⟨rfl, h1⟩
    have H1 := Lib.hid h1
    clear h1
    go_wp2_with fail
    refine (awake_any w1).mono ?_
    rintro e w8 ⟨rfl, h8⟩
    have H8 := Lib.hid (H1.out.trans' h8)
    clear h8
    go_wp2_with fail
    go_ret
    exact ⟨rfl, H8.out⟩
end Go.Proofs.Ytfohaijdhgcneaa
