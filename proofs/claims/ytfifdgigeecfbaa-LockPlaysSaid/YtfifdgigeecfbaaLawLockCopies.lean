/- LockCopies: the walk. -/
import Derived.Test.YtfifdgigeecfbaaLockAlike
import Derived.Test.YtfifdgigeecfbaaLockMade
import Derived.Test.YtfifdgigeecfbaaLockCopy2
import Derived.Test.YtfifdgigeecfbaaIntEq
import Derived.Test.YtfifdgigeecfbaaInts
set_option linter.unusedVariables false
set_option linter.unusedSimpArgs false
namespace Go.Proofs.Ytfifdgigeecfbaa
open Go Go.RowKit

def Tb.runs (t : Tb) (l : List Op3) : Tb := l.foldl (fun t o => (t.run o).1) t
theorem runs_snoc (t : Tb) (l : List Op3) (o : Op3) : t.runs (l ++ [o]) = ((t.runs l).run o).1 := by simp [Tb.runs]
theorem runs_take (t : Tb) {l : List Op3} {j : Nat} {o : Op3} (h : l[j]? = some o) : t.runs (l.take (j + 1)) = ((t.runs (l.take j)).run o).1 := by
  obtain ⟨hj, rfl⟩ := List.getElem?_eq_some_iff.1 h
  rw [List.take_succ_eq_append_getElem hj, runs_snoc]
theorem runs_same : ∀ (l : List Op3) {t u : Tb} {d d' : Int}, t.ls = u.ls → t.Cons → u.Cons → t.Ok d → u.Ok d' → (t.runs l).ls = (u.runs l).ls
  | [], _, _, _, _, h, _, _, _, _ => h
  | o :: l, t, u, d, d', h, ht, hu, ot, ou => runs_same l (run_same h ht hu o) (ht.run ot o) (hu.run ou o) (ot.run o) (ou.run o)

set_option maxRecDepth 100000 in
set_option maxHeartbeats 8000000 in
theorem lockCopies_any (w : World) (A : Option Addr) (n ca : Nat) (ops : List Op3) (hl : Sl w w.heap.size A n ca 3 (ops.flatMap Op3.cells)) (hlen : ops.length = n)
    (A' : Option Addr) (n' ca' : Nat) (more : List Op3) (hl' : Sl w w.heap.size A' n' ca' 3 (more.flatMap Op3.cells)) (hlen' : more.length = n') :
    Calls Try.prog 8 #[.slice A n ca, .slice A' n' ca'] w fun e w' => e = .returned (.bool true) ∧ Only w w' := by
  have HL := Lib.hid (And.intro hl' hlen')
  have HL0 := Lib.hid (And.intro hl hlen)
  have hnc := hl'.2.1
  have hcm := hl'.2.2.1
  clear hl hlen hl' hlen'
  go_enter Try.func8, Try.ntmps8
  go_wp2_with fail
  refine (made_any w A n ca ops HL0.out.1 HL0.out.2).mono ?_
  rintro e w1 ⟨b, t0, S0, rfl, hT0, hC0⟩
  have H0 := Lib.hid (And.intro hT0 hC0)
  clear hT0 hC0
  go_wp2_with fail
  refine (states_any w1 S0 b t0 60 H0.out.1.lies H0.out.1.ok (by omega)).mono ?_
  rintro e w2 ⟨v2, rfl, hS2, hO2⟩
  obtain ⟨As, cs, rfl, hR2⟩ := hS2.rd
  have H2 := Lib.hid (And.intro hR2 (H0.out.1.step hO2))
  clear hR2 hO2 hS2
  go_wp2_with fail
  refine (copy_any w2 S0 b t0 60 H2.out.2.lies H2.out.2.ok (by omega)).mono ?_
  rintro e w3 ⟨b', rfl, hT3, hO3⟩
  have H3 := Lib.hid (And.intro (show OT w2 w3 (From w2.heap.size w3) b' t0.copy 60 from ⟨hT3, fun k hk => hk.1, copy_ok H2.out.2.ok H0.out.2, hO3⟩) hO3)
  clear hT3 hO3
  go_upto_region 6 with fail
  go_cut [24, 25, 26] from 20 to 23 (fun a b i wc => ∃ m : Nat, m = min n' 30 ∧ a = .slice A' m ca' ∧ b = .int .i64 (m : Nat) ∧ i = .int .i64 0 ∧ w3 = wc)
  case first =>
    go_wp2_with fail
    go_meet
    case rel => exact ⟨min n' 30, rfl, congrArg (fun x => Value.slice A' x ca') (by omega), congrArg (Value.int .i64) (by omega), rfl, rfl⟩
  case rest =>
    obtain ⟨m, hm, rfl, rfl, rfl, rfl⟩ := hcut
    have hmn : m ≤ n' := by omega
    have hm80 : m ≤ 30 := by omega
    have hmc : m ≤ ca' := by omega
    have HM := Lib.hid hm
    clear hm
    go_wp2_with fail
    go_loopg [26] m (fun kk vj wr => ∃ (j : Nat) (S : Nat → Prop), j ≤ m ∧ kk = m - j ∧ vj = .int .i64 (j : Nat) ∧ OT w2 wr S b' (t0.copy.runs (more.take j)) (60 + j) ∧ (t0.copy.runs (more.take j)).Cons)
    case atStart => exact ⟨0, _, Nat.zero_le _, rfl, rfl, H3.out.1, copy_cons H0.out.2⟩
    case round =>
      obtain ⟨j, S, hj, hk, rfl, hOT, hC⟩ := hrel
      obtain ⟨w4, rfl⟩ : ∃ w4 : World, w4 = wr := ⟨_, rfl⟩
      by_cases hlt : j < m
      · obtain ⟨o, ho⟩ : ∃ o, more[j]? = some o := ⟨_, List.getElem?_eq_getElem (by have := HL.out.2; omega)⟩
        obtain ⟨ab, ao, rfl, hab, hcells⟩ := (HL.out.1.only (H2.out.2.only.trans' hOT.only)).elem Op3.cells_length ho (by omega)
        have g0 := hcells 0 _ rfl
        simp only [Nat.add_zero] at g0
        have g1 := hcells 1 _ rfl
        have g2 := hcells 2 _ rfl
        have HX := Lib.hid (And.intro hOT (And.intro hC (And.intro hk ho)))
        clear hOT hC hcells ho hk
        go_wp2_with fail
        refine (run_any (HX.out.1.alloc _) HX.out.2.1 (by omega) o).mono ?_
        rintro e w5 ⟨rfl, hT5, hs5⟩
        have HY := Lib.hid (And.intro hT5 (HX.out.2.1.run HX.out.1.ok o))
        clear hT5 hs5
        go_wp2_with fail
        go_roundg (m - (j + 1))
        case measure => have := HX.out.2.2.1; omega
        case rel => exact ⟨j + 1, _, by omega, rfl, by go_num, by rw [runs_take _ HX.out.2.2.2]; exact HY.out.1.more (by omega), by rw [runs_take _ HX.out.2.2.2]; exact HY.out.2⟩
      · have hje : j = m := by omega
        subst hje
        have HX := Lib.hid (And.intro hOT (And.intro hC (H2.out.2.step hOT.only)))
        clear hOT hC hk
        go_wp2_with fail
        refine (states_any w4 S0 b t0 60 HX.out.2.2.lies HX.out.2.2.ok (by omega)).mono ?_
        rintro e w5 ⟨v5, rfl, hS5, hO5⟩
        obtain ⟨A5, c5, rfl, hR5⟩ := hS5.rd
        have H5 := Lib.hid (And.intro hR5 hO5)
        clear hR5 hO5 hS5
        go_wp2_with fail
        refine (alike_any w5 A5 As c5 cs t0.ls H5.out.1 (H2.out.1.only (HX.out.1.only.trans' H5.out.2)) (by have := H0.out.1.ok.n; omega)).mono ?_
        rintro e w6 ⟨rfl, hO6⟩
        have hO46 := H5.out.2.trans' hO6
        have HU := Lib.hid (show OT w w6 S b' (t0.copy.runs (more.take j)) 100 from ⟨HX.out.1.lies.only hO46, fun k hk => Nat.le_trans H2.out.2.only.size (HX.out.1.new k hk), HX.out.1.ok.mono (by omega), H2.out.2.only.trans' (HX.out.1.only.trans' hO46)⟩)
        have HT := Lib.hid (And.intro (HX.out.2.2.step hO46) (show ∀ k, S0 k → ¬ S k from fun k hk hS => by
          have := H2.out.2.lies.lt k hk
          have := HX.out.1.new k hS
          omega))
        clear hO6 hO46
        go_upto_region 13 with fail
        go_cut [43, 44, 45] from 39 to 42 (fun a b i wc => ∃ m : Nat, m = min n' 30 ∧ a = .slice A' m ca' ∧ b = .int .i64 (m : Nat) ∧ i = .int .i64 0 ∧ w6 = wc)
        case first =>
          go_wp2_with fail
          go_meet
          case rel => exact ⟨min n' 30, rfl, congrArg (fun x => Value.slice A' x ca') (by omega), congrArg (Value.int .i64) (by omega), rfl, rfl⟩
        case rest =>
          obtain ⟨m', hm', rfl, rfl, rfl, rfl⟩ := hcut
          have hmm : m' = j := by rw [hm', HM.out]
          subst hmm
          clear hm'
          go_wp2_with fail
          go_loopg [45] m' (fun kk vj wr => ∃ (q : Nat) (S' : Nat → Prop), q ≤ m' ∧ kk = m' - q ∧ vj = .int .i64 (q : Nat) ∧ OT w wr S' b (t0.runs (more.take q)) (60 + q) ∧ (t0.runs (more.take q)).Cons ∧ OT w wr S b' (t0.copy.runs (more.take m')) 100 ∧ ∀ k, S' k → ¬ S k)
          case atStart => exact ⟨0, S0, Nat.zero_le _, rfl, rfl, HT.out.1, H0.out.2, HU.out, HT.out.2⟩
          case round =>
            obtain ⟨q, S', hq, hk, rfl, hOT, hC, hOU, hap⟩ := hrel
            obtain ⟨w7, rfl⟩ : ∃ w7 : World, w7 = wr := ⟨_, rfl⟩
            by_cases hlt : q < m'
            · obtain ⟨o, ho⟩ : ∃ o, more[q]? = some o := ⟨_, List.getElem?_eq_getElem (by have := HL.out.2; omega)⟩
              obtain ⟨ab, ao, rfl, hab, hcells⟩ := (HL.out.1.only hOT.only).elem Op3.cells_length ho (by omega)
              have g0 := hcells 0 _ rfl
              simp only [Nat.add_zero] at g0
              have g1 := hcells 1 _ rfl
              have g2 := hcells 2 _ rfl
              have HY := Lib.hid (And.intro hOT (And.intro hC (And.intro hk (And.intro ho (And.intro hOU hap)))))
              clear hOT hC hcells ho hk hOU hap
              go_wp2_with fail
              refine (run_any (HY.out.1.alloc _) HY.out.2.1 (by omega) o).mono ?_
              rintro e w8 ⟨rfl, hT8, hs8⟩
              have HZ := Lib.hid (And.intro hT8 (And.intro (HY.out.2.1.run HY.out.1.ok o) ((HY.out.2.2.2.2.1.alloc _).aside hs8 HY.out.1.new (fun k hk hk' => HY.out.2.2.2.2.2 k hk' hk))))
              have hap8 : Hid _ := Lib.hid (show ∀ k, grow S' (w7.alloc (.cells #[.int .i64 o.kind, .int .i64 o.lock, .int .i64 o.party] 31)) w8 k → ¬ S k from fun k hk hS => by
                rcases hk with hk | hk
                · exact HY.out.2.2.2.2.2 k hk hS
                · have := HY.out.2.2.2.2.1.lies.lt k hS
                  have := hk.1
                  simp at this
                  omega)
              clear hT8 hs8
              go_wp2_with fail
              go_roundg (m' - (q + 1))
              case measure => have := HY.out.2.2.1; omega
              case rel => exact ⟨q + 1, _, by omega, rfl, by go_num, by rw [runs_take _ HY.out.2.2.2.1]; exact HZ.out.1.more (by omega), by rw [runs_take _ HY.out.2.2.2.1]; exact HZ.out.2.1, HZ.out.2.2, hap8.out⟩
            · have hqe : q = m' := by omega
              subst hqe
              obtain ⟨t1, ht1⟩ : ∃ t1, t0.runs (more.take q) = t1 := ⟨_, rfl⟩
              obtain ⟨u1, hu1⟩ : ∃ u1, t0.copy.runs (more.take q) = u1 := ⟨_, rfl⟩
              have hCu := HX.out.2.1
              have hls : t1.ls = u1.ls := by rw [← ht1, ← hu1]; exact runs_same _ (show t0.ls = t0.copy.ls from rfl) H0.out.2 (copy_cons H0.out.2) H0.out.1.ok (copy_ok H0.out.1.ok H0.out.2)
              rw [ht1] at hOT hC
              rw [hu1] at hOU hCu
              have HY := Lib.hid (And.intro hOT (And.intro hC (And.intro hOU (And.intro hCu hls))))
              clear hOT hC hOU hCu hls hk hap
              go_wp2_with fail
              refine (states_any w7 S' b t1 _ HY.out.1.lies HY.out.1.ok (by omega)).mono ?_
              rintro e w8 ⟨v8, rfl, hS8, hO8⟩
              obtain ⟨A8, c8, rfl, hR8⟩ := hS8.rd
              have H8 := Lib.hid (And.intro hR8 (And.intro (HY.out.1.step hO8) (HY.out.2.2.1.step hO8)))
              clear hR8 hO8 hS8
              go_wp2_with fail
              refine (states_any w8 S b' u1 _ H8.out.2.2.lies H8.out.2.2.ok (by omega)).mono ?_
              rintro e w9 ⟨v9, rfl, hS9, hO9⟩
              rw [← HY.out.2.2.2.2] at hS9
              obtain ⟨A9, c9, rfl, hR9⟩ := hS9.rd
              have H9 := Lib.hid (And.intro hR9 (And.intro (H8.out.2.1.step hO9) (And.intro (H8.out.2.2.step hO9) (H8.out.1.only hO9))))
              clear hR9 hO9 hS9
              go_wp2_with fail
              refine (alike_any w9 A8 A9 c8 c9 t1.ls H9.out.2.2.2 H9.out.1 (by have := HY.out.1.ok.n; omega)).mono ?_
              rintro e w10 ⟨rfl, hO10⟩
              have H10 := Lib.hid (And.intro (H9.out.2.1.step hO10) (H9.out.2.2.1.step hO10))
              clear hO10
              go_wp2_with fail
              refine (ot_stuck H10.out.1 HY.out.2.1 (by omega)).mono ?_
              rintro e w11 ⟨An, cn, rfl, hRn, hO11⟩
              have H11 := Lib.hid (And.intro hRn (And.intro (H10.out.1.step hO11) (H10.out.2.step hO11)))
              clear hRn hO11
              go_wp2_with fail
              refine (ot_stuck H11.out.2.2 HY.out.2.2.2.1 (by omega)).mono ?_
              rintro e w12 ⟨Am, cm, rfl, hRm, hO12⟩
              have hst : t1.stuck = u1.stuck := stuck_same HY.out.2.2.2.2 HY.out.2.1 HY.out.2.2.2.1 HY.out.1.ok HY.out.2.2.1.ok
              have H12 := Lib.hid (And.intro hRm (And.intro (H11.out.1.only hO12) (And.intro (H11.out.2.1.step hO12) hst)))
              clear hRm hO12 hst
              go_wp2_with fail
              refine (eqI_any _ An Am cn cm t1.stuck u1.stuck (own_sl' H12.out.2.1.row) (own_sl' H12.out.1.row)).mono ?_
              rintro e w13 ⟨rfl, hO13⟩
              have hbt : (t1.stuck == u1.stuck) = true := by rw [H12.out.2.2.2]; simp
              rw [hbt]
              have H13 := Lib.hid (H12.out.2.2.1.step hO13)
              clear hO13 hbt
              go_wp2_with fail
              refine (awake_any _).mono ?_
              rintro e w14 ⟨rfl, hO14⟩
              have HO14 := Lib.hid hO14
              clear hO14
              go_wp2_with fail
              go_ret
              exact ⟨rfl, H13.out.only.trans' HO14.out⟩

end Go.Proofs.Ytfifdgigeecfbaa
