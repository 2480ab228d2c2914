/- ChannelWakes: the walk. -/
import Derived.Test.YtfmkdkpgehkfaaaOwn
import Derived.Test.YtfmkdkpgehkfaaaWakesPure
import Derived.Test.YtfmkdkpgehkfaaaLaw16Row
import Derived.Deep.DeepCutAuto
import Derived.Deep.CutBlock
set_option linter.unusedVariables false
set_option linter.unusedSimpArgs false
namespace Go.Proofs.Ytfmkdkpgehkfaaa
open Go Go.RowKit

theorem Ch.Ok.wake {c : Ch} {d : Int} (h : c.Ok d) (i kind t : Int) (v : V) : (c.wake i kind t v).Ok (d + 1) := by
  unfold Ch.wake
  split
  · split
    · exact h.offer v
    · exact (h.offer v).park _ _ _
  split
  · split
    · exact h.take.mono (by omega)
    · exact (h.take.park _ _ _).mono (by omega)
  split
  · exact (h.withdraw t).mono (by omega)
  split
  · exact h.close.mono (by omega)
  · exact h.mono (by omega)

theorem valid_small {v : V} (h : valid v = true) : v.s.size ≤ 60 := by
  have key : v.s.toList.isEmpty = true → v.s.size = 0 := fun e => by
    rw [ByteArray.toList_eq] at e
    have h1 : v.s.size = v.s.data.toList.length := rfl
    rw [h1, List.isEmpty_iff.1 e]
    rfl
  unfold valid at h
  split at h
  · simp only [Bool.and_eq_true] at h
    have := key h.2
    omega
  split at h
  · simp only [Bool.and_eq_true] at h
    have := key h.1.1
    omega
  split at h
  · simp only [Bool.and_eq_true] at h
    have := key h.1
    omega
  split at h
  · simp only [Bool.and_eq_true, textOk, decide_eq_true_eq] at h
    exact h.2.1
  split at h
  · simp only [Bool.and_eq_true] at h
    have := key h.1.1
    omega
  · simp at h
theorem Ch.Stuck.small {c : Ch} (h : c.Stuck) {x : Wt} (hx : x ∈ c.ws) (hs : x.send = true) : x.v.s.size ≤ 60 := by
  rcases h.2 with k | k
  · exact valid_small (k x hx).2.1
  · rw [(k x hx).1] at hs
    simp at hs

set_option maxRecDepth 100000 in
theorem field_ws (a b : Int) (cl : Bool) (A A' : Option Addr) (n cp n' cp' : Nat) (dr : Int) (W : World) :
    (Instr.field 36 (.agg #[.int .i64 a, .int .i64 b, .bool cl, .slice A n cp, .slice A' n' cp', .int .i64 dr]) 4).run Try.prog W = .ok (.slice A' n' cp') W := by
  have h1 := Try.underlying36
  have h2 := Try.underlying34
  simp [Instr.field, go_sem, asAgg, h1, h2]

set_option maxRecDepth 100000 in
set_option maxHeartbeats 8000000 in
theorem wakes_any (w : World) (cap pol : Int) (A : Option Addr) (n ca : Nat) (ops : List Op1) (hl : Sl w w.heap.size A n ca 6 (ops.flatMap Op1.cells)) (hlen : ops.length = n) (hs : ∀ o ∈ ops, o.v.s.size ≤ 9223372036854775807) :
    Calls Try.prog 9 #[.int .i64 cap, .int .i64 pol, .slice A n ca] w fun e w' => e = .returned (.bool true) ∧ Only w w' := by
  cases hnew : newOk cap pol with
  | false =>
    go_enter Try.func9, Try.ntmps9
    go_wp2_with fail
    refine (new_bad cap pol w hnew).mono ?_
    rintro e w1 ⟨rfl, hO⟩
    have HO := Lib.hid hO
    clear hO hl
    go_wp2_with fail
    refine (awake_any _).mono ?_
    rintro e w2 ⟨rfl, hO2⟩
    have HO2 := Lib.hid hO2
    clear hO2
    go_wp2_with fail
    go_ret
    exact ⟨rfl, HO.out.trans' HO2.out⟩
  | true =>
    have HL := Lib.hid (And.intro hl (And.intro hlen hs))
    have hnc := hl.2.1
    have hcm := hl.2.2.1
    clear hl hlen hs
    go_enter Try.func9, Try.ntmps9
    go_wp2_with fail
    refine (own_new w w (Stay.refl _ w) hnew).mono ?_
    rintro e w1 ⟨rfl, hch, hO⟩
    have HO := Lib.hid hch
    clear hO hch
    go_upto_region 4 with fail
    go_cut [39, 40, 41] from 35 to 38 (fun a b i wc => ∃ m : Nat, m = min n 80 ∧ a = .slice A m ca ∧ b = .int .i64 (m : Nat) ∧ i = .int .i64 0 ∧ w1 = wc)
    case first =>
      go_wp2_with fail
      · have h80 : 80 < (n : Int) := by assumption
        go_meet
        case rel => exact ⟨80, by omega, rfl, rfl, rfl, rfl⟩
      · have h80 : (n : Int) ≤ 80 := by assumption
        go_meet
        case rel => exact ⟨n, by omega, rfl, rfl, rfl, rfl⟩
    case rest =>
      obtain ⟨m, hm, rfl, rfl, rfl, rfl⟩ := hcut
      have hmn : m ≤ n := by omega
      have hm80 : m ≤ 80 := by omega
      have hmc : m ≤ ca := by omega
      have HM := Lib.hid hm
      clear hm
      go_wp2_with fail
      go_loopg [41] m (fun k vj wr => ∃ (j : Nat) (c : Ch) (ns : List Nat), j ≤ m ∧ k = m - j ∧ vj = .int .i64 (j : Nat) ∧ Own w wr w.heap.size ns c j ∧ c.Stuck)
      case atStart => exact ⟨0, Ch.new cap pol, [], Nat.zero_le _, rfl, rfl, HO.out, Ch.Stuck.empty rfl⟩
      case round =>
        obtain ⟨j, c, ns, hj, hk, rfl, hown, hst⟩ := hrel
        by_cases hlt : j < m
        · obtain ⟨o, ho⟩ : ∃ o, ops[j]? = some o := ⟨_, List.getElem?_eq_getElem (by have := HL.out.2.1; omega)⟩
          obtain ⟨ab, ao, rfl, hab, hcells⟩ := (HL.out.1.only hown.only).elem Op1.cells_length ho (by omega)
          have g0 := hcells 0 _ rfl
          simp only [Nat.add_zero] at g0
          have g1 := hcells 1 _ rfl
          have g2 := hcells 2 _ rfl
          have g3 := hcells 3 _ rfl
          have g4 := hcells 4 _ rfl
          have g5 := hcells 5 _ rfl
          have hos : o.v.s.size ≤ 9223372036854775807 := HL.out.2.2 o (List.mem_of_getElem? ho)
          have HX := Lib.hid (And.intro hown (And.intro hst hk))
          clear hown hst hcells ho hk
          go_upto_block 2 with fail
          go_cut [41] (fun vj wc => ∃ (c' : Ch) (ns' : List Nat), vj = .int .i64 (j : Nat) ∧ Own w wc w.heap.size ns' c' (j + 1) ∧ c'.Stuck)
          case first =>
            have hst' : Hid ((c.wake j o.kind o.t o.v).Stuck) := HX.out.2.1.wake HX.out.1.ok.buf HX.out.1.ok.cap0 j o.kind o.t o.v
            have hbx : Hid (∀ k ∈ w.heap.size :: ns, ¬ k = wr.heap.size ∧ k < wr.heap.size) := fun k hk => ⟨Nat.ne_of_lt (HX.out.1.lies.lt k hk), HX.out.1.lies.lt k hk⟩
            by_cases h0 : o.kind = 0
            · have h0' : (o.kind == 0) = true := by simp [h0]
              have H0 := Lib.hid h0
              clear h0
              go_wp2_with fail
              have hof := fun ob => own_offer (HX.out.1.alloc ob) (by omega) o.v hos
              refine (hof _).mono ?_
              rintro e w2 ⟨A1, cp1, ns1, rfl, h1, h2, h3, h4⟩
              have hT := h4.blk (Blk.newAt wr o.cells 31 _ rfl) (fun hm => (hbx.out _ hm).1 rfl)
              obtain ⟨c1, dl, f, okk, hr⟩ : ∃ c1 dl f okk, c.offer o.v = (c1, dl, f, okk) := ⟨_, _, _, _, rfl⟩
              have hwk : c.wake j o.kind o.t o.v = if okk = true then c1 else (c1.park (j + 1) true o.v).1 := by
                unfold Ch.wake
                rw [if_pos H0.out, hr]
              rw [hr] at h1 h2 ⊢
              simp only at h1 h2 ⊢
              have k1 := hT.cell
              simp only [Op1.cells] at k1
              have l1 := hT.lt
              have HY := Lib.hid (And.intro h1 hwk)
              clear h1 h2 h3 h4 hT hwk hr hof
              unfold F.val
              cases okk with
              | true =>
                go_wp2_with fail
                go_meet
                case rel => exact ⟨_, ns1, rfl, by rw [HY.out.2]; exact HY.out.1.alloc _, hst'.out⟩
              | false =>
                go_wp2_with fail
                refine (own_park (HY.out.1.alloc _) (j + 1) true o.v hos).mono ?_
                rintro e w3 ⟨ns2, rfl, h1, h2, h3⟩
                have HZ := Lib.hid h1
                clear h1 h2 h3 k1 l1
                go_wp2_with fail
                go_meet
                case rel => exact ⟨_, ns2, rfl, by rw [HY.out.2]; exact HZ.out, hst'.out⟩
            · by_cases h1 : o.kind = 1
              · have h0' : (o.kind == 0) = false := by simp [h0]
                have h1' : (o.kind == 1) = true := by simp [h1]
                have H0 := Lib.hid (And.intro h0 h1)
                clear h0 h1
                go_wp2_with fail
                have hof := fun ob => own_take (HX.out.1.alloc ob)
                refine (hof _).mono ?_
                rintro e w2 ⟨A1, cp1, ns1, rfl, h1, h2, h3, h4⟩
                have hT := h4.blk (Blk.newAt wr o.cells 31 _ rfl) (fun hm => (hbx.out _ hm).1 rfl)
                obtain ⟨c1, v, dl, f, okk, hr⟩ : ∃ c1 v dl f okk, c.take = (c1, v, dl, f, okk) := ⟨_, _, _, _, _, rfl⟩
                have hwk : c.wake j o.kind o.t o.v = if okk = true then c1 else (c1.park (j + 1) false o.v).1 := by
                  unfold Ch.wake
                  rw [if_neg H0.out.1, if_pos H0.out.2, hr]
                rw [hr] at h1 h2 ⊢
                simp only at h1 h2 ⊢
                have k1 := hT.cell
                simp only [Op1.cells] at k1
                have l1 := hT.lt
                have HY := Lib.hid (And.intro h1 hwk)
                clear h1 h2 h3 h4 hT hwk hr hof
                unfold F.val V.val
                cases okk with
                | true =>
                  go_wp2_with fail
                  go_meet
                  case rel => exact ⟨_, ns1, rfl, by rw [HY.out.2]; exact (HY.out.1.alloc _).alloc _, hst'.out⟩
                | false =>
                  go_wp2_with fail
                  refine (own_park ((HY.out.1.alloc _).alloc _) (j + 1) false o.v hos).mono ?_
                  rintro e w3 ⟨ns2, rfl, h1, h2, h3⟩
                  have HZ := Lib.hid h1
                  clear h1 h2 h3 k1 l1
                  go_wp2_with fail
                  go_meet
                  case rel => exact ⟨_, ns2, rfl, by rw [HY.out.2]; exact HZ.out, hst'.out⟩
              · have h0' : (o.kind == 0) = false := by simp [h0]
                have h1' : (o.kind == 1) = false := by simp [h1]
                by_cases h3 : o.kind = 3
                · have h3' : (o.kind == 3) = true := by simp [h3]
                  have H0 := Lib.hid (And.intro h0 (And.intro h1 h3))
                  clear h0 h1 h3
                  go_wp2_with fail
                  have hof := fun ob => own_withdraw (HX.out.1.alloc ob) o.t
                  refine (hof _).mono ?_
                  rintro e w2 ⟨ns1, rfl, h1, h2, h3⟩
                  have HY := Lib.hid h1
                  clear h1 h2 h3 hof
                  go_wp2_with fail
                  go_meet
                  case rel => exact ⟨_, ns1, rfl, by
                    unfold Ch.wake
                    rw [if_neg H0.out.1, if_neg H0.out.2.1, if_pos H0.out.2.2]
                    exact HY.out.more (by omega), hst'.out⟩
                · have h3' : (o.kind == 3) = false := by simp [h3]
                  by_cases h4 : o.kind = 4
                  · have h4' : (o.kind == 4) = true := by simp [h4]
                    have H0 := Lib.hid (And.intro h0 (And.intro h1 (And.intro h3 h4)))
                    clear h0 h1 h3 h4
                    go_wp2_with fail
                    have hof := fun ob => own_close (HX.out.1.alloc ob)
                    refine (hof _).mono ?_
                    rintro e w2 ⟨A1, cp1, ns1, rfl, h1, h2, h3, h4⟩
                    have HY := Lib.hid h1
                    clear h1 h2 h3 h4 hof
                    go_wp2_with fail
                    go_meet
                    case rel => exact ⟨_, ns1, rfl, by
                      unfold Ch.wake
                      rw [if_neg H0.out.1, if_neg H0.out.2.1, if_neg H0.out.2.2.1, if_pos H0.out.2.2.2]
                      exact HY.out.more (by omega), hst'.out⟩
                  · have h4' : (o.kind == 4) = false := by simp [h4]
                    have H0 := Lib.hid (And.intro h0 (And.intro h1 (And.intro h3 h4)))
                    clear h0 h1 h3 h4
                    go_wp2_with fail
                    go_meet
                    case rel => exact ⟨_, ns, rfl, by
                      unfold Ch.wake
                      rw [if_neg H0.out.1, if_neg H0.out.2.1, if_neg H0.out.2.2.1, if_neg H0.out.2.2.2]
                      exact (HX.out.1.alloc _).more (by omega), hst'.out⟩
          case rest =>
            obtain ⟨c', ns', rfl, hown, hst⟩ := hcut
            rename World => wc
            have HC := Lib.hid (And.intro hown hst)
            clear hown hst
            go_wp2_with fail
            refine (own_state HC.out.1).mono ?_
            rintro e w2 ⟨⟨A1, cp1, A2, cp2, rfl, s1, s2⟩, hO2⟩
            have HS := Lib.hid (And.intro s2 (HC.out.1.step hO2))
            have hb2 := s2.2.1
            have hb3 := s2.2.2.1
            clear s1 s2 hO2
            have hfield := field_ws
            go_wp2_with fail
            clear hfield
            go_loopg [97] (c'.ws.length) (fun k vi wz => ∃ i : Nat, i ≤ c'.ws.length ∧ k = c'.ws.length - i ∧ vi = .int .i64 (i : Nat) ∧ Only w2 wz)
            case atStart => exact ⟨0, Nat.zero_le _, rfl, rfl, Stay.refl _ _⟩
            case round =>
              obtain ⟨i, hi, hk2, rfl, hOz⟩ := hrel
              rename World => wz
              by_cases hil : i < c'.ws.length
              · obtain ⟨x, hx⟩ : ∃ x, c'.ws[i]? = some x := ⟨_, List.getElem?_eq_getElem hil⟩
                obtain ⟨xb, xo, rfl, hxb, hxc⟩ := (HS.out.1.only hOz).elem Wt.cells_length hx (by omega)
                have e0 := hxc 0 _ rfl
                simp only [Nat.add_zero] at e0
                have e1 := hxc 1 _ rfl
                have e2 := hxc 2 _ rfl
                have e3 := hxc 3 _ rfl
                have e4 := hxc 4 _ rfl
                have hxb' : xb < wz.heap.size := Nat.lt_of_lt_of_le hxb hOz.size
                have HE := Lib.hid (And.intro hk2 (And.intro hOz (List.mem_of_getElem? hx)))
                clear hk2 hOz hx hxc
                go_wp2_with fail
                refine (own_copy ((HS.out.2.step HE.out.2.1).alloc _)).mono ?_
                rintro e w3 ⟨b2, nsd, rfl, d1, d2, d3⟩
                have hT := d3.blk (Blk.newAt wz x.cells 46 _ rfl)
                have k1 := hT.cell
                simp only [Wt.cells] at k1
                have l1 := hT.lt
                have HD := Lib.hid (And.intro d1 d2)
                clear d1 d2 d3 hT e0 e1 e2 e3 e4
                cases hsd : x.send with
                | true =>
                  rw [hsd] at k1
                  have hf := HC.out.2.sender HE.out.2.2 hsd
                  have HF := Lib.hid hsd
                  clear hsd
                  go_wp2_with fail
                  refine (own_offer HD.out.2 (by omega) x.v (Nat.le_trans (HC.out.2.small HE.out.2.2 HF.out) (by omega))).mono ?_
                  rintro e w4 ⟨A3, cp3, ns3, rfl, h1, h2, h3, h4⟩
                  rw [hf]
                  have HG := Lib.hid h1.only
                  clear h1 h2 h3 h4 hf
                  go_wp2_with fail
                  go_roundg (c'.ws.length - (i + 1))
                  case measure => have := HE.out.1; omega
                  case rel => exact ⟨i + 1, hil, rfl, rfl, HE.out.2.1.trans' HG.out.behind⟩
                | false =>
                  rw [hsd] at k1
                  have hf := HC.out.2.receiver HE.out.2.2 hsd
                  clear hsd
                  go_wp2_with fail
                  refine (own_take HD.out.2).mono ?_
                  rintro e w4 ⟨A3, cp3, ns3, rfl, h1, h2, h3, h4⟩
                  rw [hf]
                  have HG := Lib.hid h1.only
                  clear h1 h2 h3 h4 hf
                  go_wp2_with fail
                  go_roundg (c'.ws.length - (i + 1))
                  case measure => have := HE.out.1; omega
                  case rel => exact ⟨i + 1, hil, rfl, rfl, HE.out.2.1.trans' HG.out.behind⟩
              · have HE := Lib.hid hOz
                clear hOz hk2
                have hie : i = c'.ws.length := by omega
                subst hie
                go_wp2_with fail
                go_roundg (m - (j + 1))
                case measure => have := HX.out.2.2; omega
                case rel => exact ⟨j + 1, c', ns', hlt, rfl, rfl, by simpa using HS.out.2.step HE.out, HC.out.2⟩
        · have hje : j = m := by omega
          subst hje
          have HX := Lib.hid hown
          clear hown hst hk
          go_wp2_with fail
          refine (awake_any _).mono ?_
          rintro e w2 ⟨rfl, hO2⟩
          have HO2 := Lib.hid hO2
          clear hO2
          go_wp2_with fail
          go_ret
          exact ⟨rfl, HX.out.only.trans' HO2.out⟩

end Go.Proofs.Ytfmkdkpgehkfaaa
