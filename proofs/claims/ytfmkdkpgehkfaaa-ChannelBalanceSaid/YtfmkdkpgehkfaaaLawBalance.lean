/- ChannelBalance: the walk. -/
import Derived.Test.YtfmkdkpgehkfaaaLaw16b
import Derived.Test.YtfmkdkpgehkfaaaLaw16Row
import Derived.Deep.DeepCutAuto
import Derived.Deep.CutBlock
set_option linter.unusedVariables false
set_option linter.unusedSimpArgs false
namespace Go.Proofs.Ytfmkdkpgehkfaaa
open Go Go.RowKit


def Bal (c : Ch) (ii oo : Int) : Prop := ii = oo + c.drop + c.buf.length

theorem bal_offer {c : Ch} {d ii oo : Int} (h : Bal c ii oo) (hok : c.Ok d) (v : V) :
    (((c.offer v).2.2.2 = true ∧ (c.offer v).2.2.1.k = 0) → Bal (c.offer v).1 (ii + 1) (oo + (c.offer v).2.1.length)) ∧ (¬ ((c.offer v).2.2.2 = true ∧ (c.offer v).2.2.1.k = 0) → Bal (c.offer v).1 ii oo) := by
  unfold Bal at *
  have hb := hok.buf
  unfold Ch.offer
  split
  · simp; exact h
  split
  · simp [F.closed]; exact h
  split
  · simp [F.nil]; omega
  split
  · simp [F.nil]; omega
  split
  · simp; exact h
  split
  · rename_i h1 h2 h3
    have : c.buf.length ≠ 0 := by omega
    simp [F.nil]
    omega
  · simp [F.nil]; omega

theorem bal_take {c : Ch} {d ii oo : Int} (h : Bal c ii oo) (hok : c.Ok d) :
    ((c.take.2.2.2.2 = true ∧ c.take.2.2.2.1.k = 0) → Bal c.take.1 (ii + c.take.2.2.1.length) (oo + 1)) ∧ (¬ (c.take.2.2.2.2 = true ∧ c.take.2.2.2.1.k = 0) → Bal c.take.1 ii oo) := by
  unfold Bal at *
  unfold Ch.take
  split
  · rename_i v l e
    rw [e] at h
    simp at h
    split
    · simp [F.nil]; omega
    · simp [F.nil]; omega
  · rename_i e
    split
    · simp [F.nil]; omega
    · split
      · simp [F.closed]; exact h
      · simp; exact h

theorem bal_run {c : Ch} {ii oo : Int} (h : Bal c ii oo) (o : Op1) (h0 : o.kind ≠ 0) (h1 : o.kind ≠ 1) : Bal (c.run o) ii oo := by
  unfold Bal at *
  unfold Ch.run
  rw [if_neg h0, if_neg h1]
  split
  · unfold Ch.park; split <;> (try exact h); split <;> (try exact h); split <;> exact h
  split
  · unfold Ch.withdraw; split <;> exact h
  split
  · unfold Ch.close; split <;> exact h
  · exact h

theorem run_cap (c : Ch) (o : Op1) : (c.run o).cap = c.cap ∧ (c.run o).pol = c.pol := by
  unfold Ch.run
  split
  · unfold Ch.offer; repeat' split
    all_goals exact ⟨rfl, rfl⟩
  split
  · unfold Ch.take; repeat' split
    all_goals exact ⟨rfl, rfl⟩
  split
  · unfold Ch.park; repeat' split
    all_goals exact ⟨rfl, rfl⟩
  split
  · unfold Ch.withdraw; repeat' split
    all_goals exact ⟨rfl, rfl⟩
  split
  · unfold Ch.close; repeat' split
    all_goals exact ⟨rfl, rfl⟩
  · exact ⟨rfl, rfl⟩

theorem offer_len (c : Ch) (v : V) : (c.offer v).2.1.length ≤ 1 := by
  unfold Ch.offer
  repeat' split
  all_goals simp
theorem take_len (c : Ch) : c.take.2.2.1.length ≤ 1 := by
  unfold Ch.take
  repeat' split
  all_goals simp

set_option maxRecDepth 100000 in
set_option maxHeartbeats 8000000 in
theorem balance_any (w : World) (cap pol : Int) (A : Option Addr) (n ca : Nat) (ops : List Op1) (hl : Sl w w.heap.size A n ca 6 (ops.flatMap Op1.cells)) (hlen : ops.length = n) (hs : ∀ o ∈ ops, o.v.s.size ≤ 9223372036854775807) :
    Calls Try.prog 4 #[.int .i64 cap, .int .i64 pol, .slice A n ca] w fun e w' => e = .returned (.bool true) ∧ Only w w' := by
  cases hnew : newOk cap pol with
  | false =>
    go_enter Try.func4, Try.ntmps4
    go_wp2_with fail
    refine (new_bad cap pol w hnew).mono ?_
    rintro e w1 ⟨rfl, hO⟩
    have HO := Lib.hid hO
    clear hO hl
    go_wp2_with fail
    refine (awake_any _).mono ?_
    rintro e w2 ⟨rfl, hO2⟩
    have HO2 := Lib.hid hO2
    clear hO2
    go_wp2_with fail
    go_ret
    exact ⟨rfl, HO.out.trans' HO2.out⟩
  | true =>
    have HL := Lib.hid (And.intro hl (And.intro hlen hs))
    have hnc := hl.2.1
    have hcm := hl.2.2.1
    clear hl hlen hs
    go_enter Try.func4, Try.ntmps4
    go_wp2_with fail
    refine (new_any cap pol w hnew).mono ?_
    rintro e w1 ⟨rfl, hch, hO⟩
    have HO := Lib.hid (And.intro hch hO)
    clear hO hch
    go_upto_region 5 with fail
    go_cut [38, 39, 40] from 34 to 37 (fun a b i wc => ∃ m : Nat, m = min n 80 ∧ a = .slice A m ca ∧ b = .int .i64 (m : Nat) ∧ i = .int .i64 0 ∧ w1 = wc)
    case first =>
      go_wp2_with fail
      · have h80 : 80 < (n : Int) := by assumption
        go_meet
        case rel => exact ⟨80, by omega, rfl, rfl, rfl, rfl⟩
      · have h80 : (n : Int) ≤ 80 := by assumption
        go_meet
        case rel => exact ⟨n, by omega, rfl, rfl, rfl, rfl⟩
    case rest =>
      obtain ⟨m, hm, rfl, rfl, rfl, rfl⟩ := hcut
      have hmn : m ≤ n := by omega
      have hm80 : m ≤ 80 := by omega
      have hmc : m ≤ ca := by omega
      have HM := Lib.hid hm
      clear hm
      go_wp2_with fail
      go_loopg [9, 10, 40] m (fun k vi vo vj wr => ∃ (j : Nat) (c : Ch) (ns : List Nat) (ii oo : Int), j ≤ m ∧ k = m - j ∧ vj = .int .i64 (j : Nat) ∧ vi = .int .i64 ii ∧ vo = .int .i64 oo ∧ 0 ≤ oo ∧ oo ≤ j ∧ Bal c ii oo ∧ c.Ok j ∧ c.cap = cap ∧ c.pol = pol ∧
        ChAt wr w.heap.size ns c ∧ (∀ k ∈ ns, w.heap.size ≤ k) ∧ Only w wr)
      case atStart => exact ⟨0, Ch.new cap pol, [], 0, 0, Nat.zero_le _, rfl, rfl, rfl, rfl, by omega, by omega, by simp [Bal, Ch.new], Ch.new_ok hnew, rfl, rfl, HO.out.1, by simp, HO.out.2⟩
      case round =>
        obtain ⟨j, c, ns, ii, oo, hj, hk, rfl, rfl, rfl, ho0, ho1, hbal, hok, hcap, hpol, hch, hns, hO⟩ := hrel
        by_cases hlt : j < m
        · obtain ⟨o, ho⟩ : ∃ o, ops[j]? = some o := ⟨_, List.getElem?_eq_getElem (by have := HL.out.2.1; omega)⟩
          obtain ⟨ab, ao, rfl, hab, hcells⟩ := (HL.out.1.only hO).elem Op1.cells_length ho (by omega)
          have g0 := hcells 0 _ rfl
          simp only [Nat.add_zero] at g0
          have g1 := hcells 1 _ rfl
          have g2 := hcells 2 _ rfl
          have g3 := hcells 3 _ rfl
          have g4 := hcells 4 _ rfl
          have g5 := hcells 5 _ rfl
          have hos : o.v.s.size ≤ 9223372036854775807 := HL.out.2.2 o (List.mem_of_getElem? ho)
          have HX := Lib.hid (And.intro hbal (And.intro hok (And.intro hch (And.intro hns (And.intro hO (And.intro hk (And.intro hcap hpol)))))))
          clear hbal hok hch hns hO hcells ho hk hcap hpol
          go_upto_block 2 with fail
          go_cut [9, 10] (fun vi vo wc => ∃ (c' : Ch) (ns' : List Nat) (ii' oo' : Int), vi = .int .i64 ii' ∧ vo = .int .i64 oo' ∧ 0 ≤ oo' ∧ oo' ≤ j + 1 ∧ Bal c' ii' oo' ∧ c'.Ok (j + 1) ∧ c'.cap = cap ∧ c'.pol = pol ∧
            ChAt wc w.heap.size ns' c' ∧ (∀ k ∈ ns', w.heap.size ≤ k) ∧ Only w wc)
          case first =>
            by_cases h0 : o.kind = 0
            · have h0' : (o.kind == 0) = true := by simp [h0]
              have H0 := Lib.hid h0
              clear h0
              go_wp2_with fail
              have hof := fun ob => offer_any (wr.alloc ob) w.heap.size ns c o.v j (HX.out.2.2.1.only ((Stay.refl _ wr).alloc ob)) HX.out.2.1 (by omega) hos
              refine (hof _).mono ?_
              rintro e w2 ⟨dv, ns', rfl, h1, h2, h3, h4⟩
              obtain ⟨A1, c1, rfl⟩ := own_shape h2
              have hb := bal_offer HX.out.1 HX.out.2.1 o.v
              have hok' := HX.out.2.1.offer o.v
              have hcp := run_cap c ⟨0, 0, false, o.v⟩
              have hdl := offer_len c o.v
              simp only [Ch.run, if_true] at hcp
              have hm2 : Mine w.heap.size w w2 := Stay.trans ((Mine.only HX.out.2.2.2.2.1).alloc _) h4 (fun i _ h => by
                rcases List.mem_cons.1 h with h | h
                · exact Nat.le_of_eq h.symm
                · exact HX.out.2.2.2.1 i h)
              obtain ⟨c', dl, f, okk, hr⟩ : ∃ c' dl f okk, c.offer o.v = (c', dl, f, okk) := ⟨_, _, _, _, rfl⟩
              rw [hr] at h1 h2 hb hok' hcp hdl ⊢
              simp only at h1 h2 hb hok' hcp hdl ⊢
              clear hof hr
              have HY := Lib.hid (And.intro h1 (And.intro h3 (And.intro hm2 (And.intro hb (And.intro hok' hcp)))))
              have hii : -1000 ≤ ii ∧ ii ≤ 1000 := by
                have h1 := HX.out.1
                have h2 := HX.out.2.1
                unfold Bal at h1
                have := h2.drop0
                have := h2.drop1
                have := h2.buf
                have := h2.cap1
                omega
              obtain ⟨hi1, hi2⟩ := hii
              clear h1 h2 h3 h4 hm2 hb hok' hcp
              unfold F.val
              have fin : Hid (∀ W, Only w2 W → c'.Ok (j + 1) ∧ c'.cap = cap ∧ c'.pol = pol ∧ ChAt W w.heap.size ns' c' ∧ (∀ k ∈ ns', w.heap.size ≤ k) ∧ Only w W) := by
                intro W hW
                obtain ⟨k1, k2, k3, k4, k5, k6⟩ := HY.out
                refine ⟨k5, by rw [k6.1]; exact HX.out.2.2.2.2.2.2.1, by rw [k6.2]; exact HX.out.2.2.2.2.2.2.2, k1.only hW, fun i hi => HX.out.2.2.2.1 i (k2 i hi), ?_⟩
                exact Mine.stay (k3.trans (Mine.only hW))
              cases okk with
              | false =>
                go_wp2_with fail
                go_meet
                case rel =>
                  exact ⟨c', ns', _, _, rfl, rfl, ho0, by omega, HY.out.2.2.2.1.2 (by simp), fin.out _ ((Stay.refl (fun _ => False) w2).alloc _)⟩
              | true =>
                by_cases hf : f.k = 0
                · have hf' : (f.k == 0) = true := by simp [hf]
                  have HF := Lib.hid hf
                  clear hf
                  go_wp2_with fail
                  go_meet
                  case rel =>
                    exact ⟨c', ns', _, _, rfl, rfl, by omega, by omega, HY.out.2.2.2.1.1 ⟨trivial, HF.out⟩, fin.out _ ((Stay.refl (fun _ => False) w2).alloc _)⟩
                · have hf' : (f.k == 0) = false := by simp [hf]
                  have HF := Lib.hid hf
                  clear hf
                  go_wp2_with fail
                  go_meet
                  case rel =>
                    exact ⟨c', ns', _, _, rfl, rfl, ho0, by omega, HY.out.2.2.2.1.2 (fun h => HF.out h.2), fin.out _ ((Stay.refl (fun _ => False) w2).alloc _)⟩
            · by_cases h1 : o.kind = 1
              · have h0' : (o.kind == 0) = false := by simp [h0]
                have h1' : (o.kind == 1) = true := by simp [h1]
                have H0 := Lib.hid h0
                have H1 := Lib.hid h1
                clear h0 h1
                go_wp2_with fail
                have hof := fun ob => take_any (wr.alloc ob) w.heap.size ns c j (HX.out.2.2.1.only ((Stay.refl _ wr).alloc ob)) HX.out.2.1
                refine (hof _).mono ?_
                rintro e w2 ⟨dv, ns', rfl, h1, h2, h3, h4⟩
                obtain ⟨A1, c1, rfl⟩ := own_shape h2
                have hb := bal_take HX.out.1 HX.out.2.1
                have hok' := HX.out.2.1.take.mono (d' := (j : Int) + 1) (by omega)
                have hcp := run_cap c ⟨1, 0, false, o.v⟩
                have hdl := take_len c
                simp only [Ch.run, if_true, if_neg (show ¬ ((1 : Int) = 0) by decide)] at hcp
                have hm2 : Mine w.heap.size w w2 := Stay.trans ((Mine.only HX.out.2.2.2.2.1).alloc _) h4 (fun i _ h => by
                  rcases List.mem_cons.1 h with h | h
                  · exact Nat.le_of_eq h.symm
                  · exact HX.out.2.2.2.1 i h)
                obtain ⟨c', v, dl, f, okk, hr⟩ : ∃ c' v dl f okk, c.take = (c', v, dl, f, okk) := ⟨_, _, _, _, _, rfl⟩
                rw [hr] at h1 h2 hb hok' hcp hdl ⊢
                simp only at h1 h2 hb hok' hcp hdl ⊢
                clear hof hr
                have HY := Lib.hid (And.intro h1 (And.intro h3 (And.intro hm2 (And.intro hb (And.intro hok' hcp)))))
                have hii : -1000 ≤ ii ∧ ii ≤ 1000 := by
                  have h1 := HX.out.1
                  have h2 := HX.out.2.1
                  unfold Bal at h1
                  have := h2.drop0
                  have := h2.drop1
                  have := h2.buf
                  have := h2.cap1
                  omega
                obtain ⟨hi1, hi2⟩ := hii
                clear h1 h2 h3 h4 hm2 hb hok' hcp
                unfold F.val V.val
                have fin : Hid (∀ W, Only w2 W → c'.Ok (j + 1) ∧ c'.cap = cap ∧ c'.pol = pol ∧ ChAt W w.heap.size ns' c' ∧ (∀ k ∈ ns', w.heap.size ≤ k) ∧ Only w W) := by
                  intro W hW
                  obtain ⟨k1, k2, k3, k4, k5, k6⟩ := HY.out
                  refine ⟨k5, by rw [k6.1]; exact HX.out.2.2.2.2.2.2.1, by rw [k6.2]; exact HX.out.2.2.2.2.2.2.2, k1.only hW, fun i hi => HX.out.2.2.2.1 i (k2 i hi), ?_⟩
                  exact Mine.stay (k3.trans (Mine.only hW))
                cases okk with
                | false =>
                  go_wp2_with fail
                  go_meet
                  case rel =>
                    exact ⟨c', ns', _, _, rfl, rfl, ho0, by omega, HY.out.2.2.2.1.2 (by simp), fin.out _ (((Stay.refl (fun _ => False) w2).alloc _).alloc _)⟩
                | true =>
                  by_cases hf : f.k = 0
                  · have hf' : (f.k == 0) = true := by simp [hf]
                    have HF := Lib.hid hf
                    clear hf
                    go_wp2_with fail
                    go_meet
                    case rel =>
                      exact ⟨c', ns', _, _, rfl, rfl, by omega, by omega, HY.out.2.2.2.1.1 ⟨trivial, HF.out⟩, fin.out _ (((Stay.refl (fun _ => False) w2).alloc _).alloc _)⟩
                  · have hf' : (f.k == 0) = false := by simp [hf]
                    have HF := Lib.hid hf
                    clear hf
                    go_wp2_with fail
                    go_meet
                    case rel =>
                      exact ⟨c', ns', _, _, rfl, rfl, ho0, by omega, HY.out.2.2.2.1.2 (fun h => HF.out h.2), fin.out _ (((Stay.refl (fun _ => False) w2).alloc _).alloc _)⟩
              · have h0' : (o.kind == 0) = false := by simp [h0]
                have h1' : (o.kind == 1) = false := by simp [h1]
                have H0 := Lib.hid h0
                have H1 := Lib.hid h1
                clear h0 h1
                go_wp2_with fail
                have hof := fun ob => run_any (wr.alloc ob) w.heap.size ns c o j (HX.out.2.2.1.only ((Stay.refl _ wr).alloc ob)) HX.out.2.1 (by omega) hos
                refine (hof _).mono ?_
                rintro e w2 ⟨rfl, ns', h1, h2, h3⟩
                have HY := Lib.hid (And.intro h1 (And.intro h2 h3))
                clear h1 h2 h3 hof
                go_wp2_with fail
                go_meet
                case rel =>
                  obtain ⟨k1, k2, k3⟩ := HY.out
                  have hcp := run_cap c o
                  refine ⟨c.run o, ns', _, _, rfl, rfl, ho0, by omega, bal_run HX.out.1 o H0.out H1.out, HX.out.2.1.run o, by rw [hcp.1]; exact HX.out.2.2.2.2.2.2.1, by rw [hcp.2]; exact HX.out.2.2.2.2.2.2.2, k1, fun i hi => ?_, ?_⟩
                  · rcases k2 i hi with h | h
                    · exact HX.out.2.2.2.1 i h
                    · have := HX.out.2.2.2.2.1.size
                      simp at h
                      omega
                  · refine Mine.stay (Stay.trans ((Mine.only HX.out.2.2.2.2.1).alloc _) k3 (fun i _ h => ?_))
                    rcases List.mem_cons.1 h with h | h
                    · exact Nat.le_of_eq h.symm
                    · exact HX.out.2.2.2.1 i h
          case rest =>
            obtain ⟨c', ns', ii', oo', rfl, rfl, p0, p1, pbal, pok, pcap, ppol, pch, pns, pO⟩ := hcut
            have hbuf := pok.buf
            have hdr0 := pok.drop0
            have hdr1 := pok.drop1
            have hc16 := pok.cap1
            have HP := Lib.hid (And.intro pbal (And.intro pok (And.intro pcap (And.intro ppol (And.intro pch (And.intro pns pO))))))
            unfold Bal at pbal
            have t1 : (ii' != oo' + c'.drop + (c'.buf.length : Int)) = false := by simp [pbal]
            have t2 : (c'.cap != cap) = false := by simp [pcap]
            have t3 : (c'.pol != pol) = false := by simp [ppol]
            have t4 : ¬ cap < (c'.buf.length : Int) := by omega
            clear pbal pok pcap ppol pch pns pO
            go_wp2_with fail
            refine (state_any _ w.heap.size ns' c' (j + 1) HP.out.2.2.2.2.1 HP.out.2.1).mono ?_
            rintro e w2 ⟨⟨v, rfl, bv, wv, rfl, hv1, hv2⟩, hO2⟩
            obtain ⟨A1, c1, rfl⟩ := own_shape hv1
            obtain ⟨A2, c2, rfl⟩ := own_shape hv2
            have HO2 := Lib.hid hO2
            clear hO2 hv1 hv2
            go_wp2_with fail
            go_roundg (m - (j + 1))
            case measure =>
              have := HX.out.2.2.2.2.2.1
              omega
            case rel =>
              exact ⟨j + 1, c', ns', ii', oo', by omega, rfl, rfl, rfl, rfl, p0, by omega, HP.out.1, by simpa using HP.out.2.1, HP.out.2.2.1, HP.out.2.2.2.1, HP.out.2.2.2.2.1.only (HO2.out.trans ((Stay.refl (fun _ => False) w2).alloc _) (fun _ _ h => h)), HP.out.2.2.2.2.2.1, HP.out.2.2.2.2.2.2.trans' (HO2.out.trans ((Stay.refl (fun _ => False) w2).alloc _) (fun _ _ h => h))⟩
        · have hje : j = m := by omega
          subst hje
          have HX := Lib.hid hO
          clear hO hbal hok hch hns hk hcap hpol
          go_wp2_with fail
          refine (awake_any _).mono ?_
          rintro e w2 ⟨rfl, hO2⟩
          have HO2 := Lib.hid hO2
          clear hO2
          go_wp2_with fail
          go_ret
          exact ⟨rfl, HX.out.trans' HO2.out⟩

end Go.Proofs.Ytfmkdkpgehkfaaa
