/- LockStuck: the walk. -/
import Derived.Test.YtfifdgigeecfbaaLockMade
import Derived.Test.YtfifdgigeecfbaaIntHas
import Derived.Test.YtfifdgigeecfbaaInts
set_option linter.unusedVariables false
set_option linter.unusedSimpArgs false
namespace Go.Proofs.Ytfifdgigeecfbaa
open Go Go.RowKit

theorem icell_ints (xs : List Int) : xs.flatMap icell = ints xs := by
  induction xs with
  | nil => rfl
  | cons x l ih => simp only [List.flatMap_cons, icell, ih]; rfl

set_option maxRecDepth 100000 in
set_option maxHeartbeats 8000000 in
theorem lockStuck_any (w : World) (A : Option Addr) (n ca : Nat) (ops : List Op3) (hl : Sl w w.heap.size A n ca 3 (ops.flatMap Op3.cells)) (hlen : ops.length = n)
    (A' : Option Addr) (n' ca' : Nat) (more : List Op3) (hl' : Sl w w.heap.size A' n' ca' 3 (more.flatMap Op3.cells)) (hlen' : more.length = n') :
    Calls Try.prog 6 #[.slice A n ca, .slice A' n' ca'] w fun e w' => e = .returned (.bool true) ∧ Only w w' := by
  have HL := Lib.hid (And.intro hl' hlen')
  have HL0 := Lib.hid (And.intro hl hlen)
  have hnc := hl'.2.1
  have hcm := hl'.2.2.1
  clear hl hlen hl' hlen'
  go_enter Try.func6, Try.ntmps6
  go_wp2_with fail
  refine (made_any w A n ca ops HL0.out.1 HL0.out.2).mono ?_
  rintro e w1 ⟨b, t0, S0, rfl, hT0, hC0⟩
  have H0 := Lib.hid (And.intro hT0 hC0)
  clear hT0 hC0
  go_wp2_with fail
  refine (ot_stuck H0.out.1 H0.out.2 (by omega)).mono ?_
  rintro e w2 ⟨As, cs, rfl, hR, hO2⟩
  obtain ⟨L, hL⟩ : ∃ L, t0.stuck = L := ⟨_, rfl⟩
  have hsort : L.Pairwise (· ≤ ·) := by rw [← hL]; exact srt_sorted _
  have hcl : t0.Closed (fun x => x ∈ L) := by rw [← hL]; exact stuck_closed H0.out.1.ok H0.out.2
  rw [hL] at hR ⊢
  have H2 := Lib.hid (And.intro hR (And.intro (H0.out.1.step hO2) (And.intro hsort hcl)))
  clear hR hO2 hL hsort hcl
  go_wp2_with fail
  refine (sorted_any _ As cs L (by rw [icell_ints]; exact own_sl' H2.out.1.row) H2.out.2.2.1).mono ?_
  rintro e w3 ⟨rfl, hO3⟩
  have H3 := Lib.hid (And.intro (H2.out.1.only hO3) (H2.out.2.1.step hO3))
  have hsl := own_sl' H3.out.1.row
  have b1 := hsl.2.1
  have b2 := hsl.2.2.1
  clear hO3 hsl
  go_upto_region 5 with fail
  go_cut [25, 26, 27] from 21 to 24 (fun a b i wc => ∃ m : Nat, m = min n' 40 ∧ a = .slice A' m ca' ∧ b = .int .i64 (m : Nat) ∧ i = .int .i64 0 ∧ w3 = wc)
  case first =>
    go_wp2_with fail
    go_meet
    case rel => exact ⟨min n' 40, rfl, congrArg (fun x => Value.slice A' x ca') (by omega), congrArg (Value.int .i64) (by omega), rfl, rfl⟩
  case rest =>
    obtain ⟨m, hm, rfl, rfl, rfl, rfl⟩ := hcut
    have hmn : m ≤ n' := by omega
    have hm80 : m ≤ 40 := by omega
    have hmc : m ≤ ca' := by omega
    have HM := Lib.hid hm
    clear hm
    go_wp2_with fail
    go_loopg [27] m (fun kk vj wr => ∃ (j : Nat) (t : Tb) (S : Nat → Prop), j ≤ m ∧ kk = m - j ∧ vj = .int .i64 (j : Nat) ∧ OT w wr S b t (60 + j) ∧ t.Cons ∧ t.Closed (fun x => x ∈ L) ∧ Rw w1.heap.size wr S (.slice As L.length cs) L)
    case atStart => exact ⟨0, t0, S0, Nat.zero_le _, rfl, rfl, H3.out.2, H0.out.2, H2.out.2.2.2, H3.out.1⟩
    case round =>
      obtain ⟨j, t, S, hj, hk, rfl, hOT, hC, hcl, hRw⟩ := hrel
      by_cases hlt : j < m
      · obtain ⟨o, ho⟩ : ∃ o, more[j]? = some o := ⟨_, List.getElem?_eq_getElem (by have := HL.out.2; omega)⟩
        obtain ⟨ab, ao, rfl, hab, hcells⟩ := (HL.out.1.only hOT.only).elem Op3.cells_length ho (by omega)
        have g0 := hcells 0 _ rfl
        simp only [Nat.add_zero] at g0
        have g1 := hcells 1 _ rfl
        have g2 := hcells 2 _ rfl
        obtain ⟨w4, rfl⟩ : ∃ w4 : World, w4 = wr := ⟨_, rfl⟩
        have hO0 : Only w4 (w4.alloc (.cells #[.int .i64 o.kind, .int .i64 o.lock, .int .i64 o.party] 31)) := (Stay.refl _ w4).alloc _
        have HX := Lib.hid (And.intro (hOT.step hO0) (And.intro hC (And.intro hcl (And.intro (hRw.only hO0) hk))))
        clear hOT hC hcells ho hk hcl hRw
        go_wp2_with fail
        refine (hasI_any _ As cs L o.party (own_sl' HX.out.2.2.2.1.row)).mono ?_
        rintro e w5 ⟨rfl, hO5⟩
        have hbx := hO5.blk (Blk.new w4 [.int .i64 o.kind, .int .i64 o.lock, .int .i64 o.party] 31)
        have c5 := hbx.cell
        have l5 := hbx.lt
        have HY := Lib.hid (And.intro (HX.out.1.step hO5) (HX.out.2.2.2.1.only hO5))
        clear hO5 hbx hO0
        have hcase : (L.contains o.party = true ∧ (o.kind != 0) = true) ∨ ((L.contains o.party = false ∨ (L.contains o.party = true ∧ (o.kind != 0) = false)) ∧ (o.kind = 0 ∨ ¬ o.party ∈ L)) := by
          by_cases h1 : o.party ∈ L
          · by_cases h2 : o.kind = 0
            · exact .inr ⟨.inr ⟨by simpa using h1, by simp [h2]⟩, .inl h2⟩
            · exact .inl ⟨by simpa using h1, by simp [h2]⟩
          · exact .inr ⟨.inl (by simpa using h1), .inr h1⟩
        rcases hcase with ⟨h1, h2⟩ | ⟨hor, hgo⟩
        · rw [h1]
          go_wp2_with fail
          go_roundg (m - (j + 1))
          case measure => have := HX.out.2.2.2.2; omega
          case rel => exact ⟨j + 1, t, S, by omega, rfl, by go_num, HY.out.1.more (by omega), HX.out.2.1, HX.out.2.2.1, HY.out.2⟩
        · have HGO := Lib.hid hgo
          clear hgo
          rcases hor with h1 | ⟨h1, h2⟩
          all_goals
            rw [h1]
            go_wp2_with fail
            refine (run_any HY.out.1 HX.out.2.1 (by omega) o).mono ?_
            rintro e w6 ⟨rfl, hT6, hs6⟩
            obtain ⟨t', hr⟩ : ∃ t', (t.run o).1 = t' := ⟨_, rfl⟩
            have hC6 := HX.out.2.1.run HX.out.1.ok o
            have hcl6 := HX.out.2.2.1.run HX.out.1.ok HX.out.2.1 o HGO.out
            rw [hr] at hT6 hC6 hcl6
            have HZ := Lib.hid (And.intro hT6 (And.intro hC6 (And.intro hcl6 (HY.out.2.post hs6))))
            clear hT6 hs6 hC6 hcl6 hr c5 l5 h1
            try clear h2
            go_wp2_with fail
            refine (ot_stuck HZ.out.1 HZ.out.2.1 (by omega)).mono ?_
            rintro e w7 ⟨An, cn, rfl, hRn, hO7⟩
            obtain ⟨L', hL'⟩ : ∃ L', t'.stuck = L' := ⟨_, rfl⟩
            have hsub : ∀ x ∈ L, x ∈ L' := fun x hx => by rw [← hL']; exact stuck_max HZ.out.1.ok HZ.out.2.1 HZ.out.2.2.1 hx
            rw [hL'] at hRn ⊢
            have HN := Lib.hid (And.intro hRn (And.intro hO7 hsub))
            have hsl := own_sl' hRn.row
            have b3 := hsl.2.1
            have b4 := hsl.2.2.1
            clear hRn hO7 hsub hsl hL'
            go_wp2_with fail
            go_loopg [47] (L.length) (fun kk vq wr => ∃ (q : Nat), q ≤ L.length ∧ kk = L.length - q ∧ vq = .int .i64 (q : Nat) ∧ Only w7 wr)
            case atStart => exact ⟨0, Nat.zero_le _, rfl, rfl, Stay.refl _ _⟩
            case round =>
              obtain ⟨q, hq, hk3, rfl, hO8⟩ := hrel
              by_cases hlt3 : q < L.length
              · obtain ⟨p, hp⟩ : ∃ p, L[q]? = some p := ⟨_, List.getElem?_eq_getElem hlt3⟩
                have hsr := own_only (HN.out.2.1.trans' hO8) HZ.out.2.2.2.row
                obtain ⟨gs, cs', e, _, hgs⟩ := hsr.form (by omega)
                cases e
                have y0 := hsr.cellAt q (by omega)
                rw [show (ints L)[q]? = some (.int .i64 p) by simp only [ints, List.getElem?_map, hp]; rfl] at y0
                have HQ := Lib.hid (And.intro hk3 (And.intro hO8 (List.mem_of_getElem? hp)))
                clear hk3 hO8 hsr hp
                go_wp2_with fail
                refine (hasI_any _ An cn L' p (own_sl' (own_only HQ.out.2.1 HN.out.1.row))).mono ?_
                rintro e w9 ⟨rfl, hO9⟩
                have hct : L'.contains p = true := by
                  have := HN.out.2.2 p HQ.out.2.2
                  simpa using this
                rw [hct]
                have HO9 := Lib.hid hO9
                clear hO9 hct y0
                go_wp2_with fail
                go_roundg (L.length - (q + 1))
                case measure => have := HQ.out.1; omega
                case rel => exact ⟨q + 1, by omega, rfl, by go_num, HQ.out.2.1.trans' HO9.out⟩
              · have HQ := Lib.hid hO8
                clear hk3 hO8
                go_wp2_with fail
                go_roundg (m - (j + 1))
                case measure => have := HX.out.2.2.2.2; omega
                case rel => exact ⟨j + 1, t', _, by omega, rfl, by go_num, (HZ.out.1.step (HN.out.2.1.trans' HQ.out)).more (by omega), HZ.out.2.1, HZ.out.2.2.1, HZ.out.2.2.2.only (HN.out.2.1.trans' HQ.out)⟩
      · have HX := Lib.hid (And.intro hOT hC)
        clear hOT hC hk hcl hRw
        obtain ⟨w4, rfl⟩ : ∃ w4 : World, w4 = wr := ⟨_, rfl⟩
        go_wp2_with fail
        refine (ot_stuck HX.out.1 HX.out.2 (by omega)).mono ?_
        rintro e w5 ⟨An, cn, rfl, hRn, hO5⟩
        obtain ⟨L', hL'⟩ : ∃ L', t.stuck = L' := ⟨_, rfl⟩
        rw [hL'] at hRn ⊢
        have HN := Lib.hid (And.intro hRn (And.intro (HX.out.1.step hO5) hL'))
        have hsl := own_sl' hRn.row
        have b3 := hsl.2.1
        have b4 := hsl.2.2.1
        clear hRn hO5 hsl hL'
        go_wp2_with fail
        go_loopg [60] (L'.length) (fun kk vq wr => ∃ (q : Nat) (S' : Nat → Prop), q ≤ L'.length ∧ kk = L'.length - q ∧ vq = .int .i64 (q : Nat) ∧ OT w wr S' b (t.withdraws (L'.take q)) 100 ∧ Rw w4.heap.size wr S' (.slice An L'.length cn) L')
        case atStart => exact ⟨0, S, Nat.zero_le _, rfl, rfl, HN.out.2.1.more (by omega), HN.out.1⟩
        case round =>
          obtain ⟨q, S', hq, hk3, rfl, hT6, hR6⟩ := hrel
          have hall := withdraws_all (L'.take q) t HX.out.1.ok HX.out.2
          by_cases hlt3 : q < L'.length
          · obtain ⟨p, hp⟩ : ∃ p, L'[q]? = some p := ⟨_, List.getElem?_eq_getElem hlt3⟩
            obtain ⟨gs, cs', e, _, hgs⟩ := hR6.row.form (by omega)
            cases e
            have y0 := hR6.row.cellAt q (by omega)
            rw [show (ints L')[q]? = some (.int .i64 p) by simp only [ints, List.getElem?_map, hp]; rfl] at y0
            have hpt : ((t.withdraws (L'.take q)).withdraw p).2 = true := by
              have hpL : p ∈ t.stuck := by rw [HN.out.2.2]; exact List.mem_of_getElem? hp
              obtain ⟨i, k, g1, _⟩ := stuck_closed HX.out.1.ok HX.out.2 p hpL
              have hpn : p ∉ L'.take q := by
                intro hm
                obtain ⟨j', hj'⟩ := List.getElem?_of_mem hm
                have hjq : j' < q := by have := (List.getElem?_eq_some_iff.1 hj').1; simp at this; omega
                rw [List.getElem?_take_of_lt hjq] at hj'
                have hnd := stuck_nodup HX.out.1.ok HX.out.2
                rw [HN.out.2.2] at hnd
                have := (List.getElem?_inj (i := j') (j := q) (List.getElem?_eq_some_iff.1 hj').1 hnd).1 (hj'.trans hp.symm)
                omega
              have g2 := hall.2.2.1 p
              rw [if_neg hpn, g1] at g2
              obtain ⟨k2, hk2, _⟩ := hall.2.1.c1 p i g2
              rw [Tb.withdraw_some g2 hk2]
            have HQ := Lib.hid (And.intro hk3 (And.intro hT6 (And.intro hR6 (And.intro hp (And.intro hall.2.1 hpt)))))
            clear hk3 hT6 hR6 hp hall hpt
            go_wp2_with fail
            refine (ot_withdraw HQ.out.2.1 HQ.out.2.2.2.2.1 p).mono ?_
            rintro e w7 ⟨rfl, hT7, hs7⟩
            rw [HQ.out.2.2.2.2.2]
            have HZ := Lib.hid (And.intro hT7 (HQ.out.2.2.1.post hs7))
            clear hT7 hs7 y0
            go_wp2_with fail
            go_roundg (L'.length - (q + 1))
            case measure => have := HQ.out.1; omega
            case rel =>
              refine ⟨q + 1, _, by omega, rfl, by go_num, ?_, HZ.out.2⟩
              rw [List.take_succ_eq_append_getElem hlt3, (List.getElem?_eq_some_iff.1 HQ.out.2.2.2.1).2, withdraws_snoc]
              exact HZ.out.1
          · have hqe : q = L'.length := by omega
            subst hqe
            rw [List.take_length] at hT6 hall
            have hst : (t.withdraws L').stuck = [] := by rw [← HN.out.2.2]; exact stuck_withdrawn HX.out.1.ok HX.out.2
            have HQ := Lib.hid (And.intro hT6 (And.intro hall.2.1 hst))
            clear hk3 hT6 hR6 hall hst
            go_wp2_with fail
            refine (ot_stuck HQ.out.1 HQ.out.2.1 (by omega)).mono ?_
            rintro e w8 ⟨Az, cz, rfl, hRz, hO8⟩
            rw [HQ.out.2.2]
            have HO8 := Lib.hid hO8
            clear hRz hO8
            go_wp2_with fail
            refine (awake_any _).mono ?_
            rintro e w9 ⟨rfl, hO9⟩
            have HO9 := Lib.hid hO9
            clear hO9
            go_wp2_with fail
            go_ret
            exact ⟨rfl, HQ.out.1.only.trans' (HO8.out.trans' HO9.out)⟩

end Go.Proofs.Ytfifdgigeecfbaa
