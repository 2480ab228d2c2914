/- ChannelCloses: the walk. -/
import Derived.Test.YtfmkdkpgehkfaaaOwn
import Derived.Test.YtfmkdkpgehkfaaaLaw16Row
import Derived.Deep.DeepCutAuto
import Derived.Deep.CutBlock
import Derived.Deep.RegionHeld3
set_option linter.unusedVariables false
set_option linter.unusedSimpArgs false
namespace Go.Proofs.Ytfmkdkpgehkfaaa
open Go Go.RowKit

set_option maxRecDepth 100000 in
theorem field_ws' (a b : Int) (cl : Bool) (A A' : Option Addr) (n cp n' cp' : Nat) (dr : Int) (W : World) :
    (Instr.field 36 (.agg #[.int .i64 a, .int .i64 b, .bool cl, .slice A n cp, .slice A' n' cp', .int .i64 dr]) 4).run Try.prog W = .ok (.slice A' n' cp') W := by
  have h1 := Try.underlying36
  have h2 := Try.underlying34
  simp [Instr.field, go_sem, asAgg, h1, h2]

/-- What remains of a closed channel behind i receptions. -/
def Ch.shut (c : Ch) (i : Nat) : Ch := { c with closed := true, ws := [], buf := c.buf.drop i }
theorem shut_take {c : Ch} {i : Nat} {v : V} (h : c.buf[i]? = some v) : (c.shut i).take = (c.shut (i + 1), v, [], F.nil, true) := by
  have e : c.buf.drop i = v :: c.buf.drop (i + 1) := by
    obtain ⟨hl, rfl⟩ := List.getElem?_eq_some_iff.1 h
    exact List.drop_eq_getElem_cons hl
  simp [Ch.take, Ch.shut, e, takeW]
theorem shut_end (c : Ch) : (c.shut c.buf.length).take = (c.shut c.buf.length, V.nil, [], F.closed, true) := by
  simp [Ch.take, Ch.shut, takeW]
theorem shut_offer (c : Ch) : (c.shut 0).offer (num 1) = (c.shut 0, [], F.closed, true) := by
  have := valid_num 1 (by omega) (by omega)
  simp [Ch.offer, Ch.shut, this]
theorem shut_close (c : Ch) (i : Nat) : (c.shut i).close = (c.shut i, []) := by simp [Ch.close, Ch.shut]

theorem Sl.stay {w w' : World} {S : Nat → Prop} {B : Nat} {A : Option Addr} {n cap size : Nat} {xs : List Value} (h : Sl w B A n cap size xs) (hs : Stay S w w') (hn : ∀ a, A = some a → ¬ S a.block) : Sl w' B A n cap size xs := by
  refine ⟨h.1, h.2.1, h.2.2.1, h.2.2.2.1, fun h0 => ?_⟩
  obtain ⟨b, off, e, hb', hc⟩ := h.2.2.2.2 h0
  exact ⟨b, off, e, hb', fun j u hu => hs.cell (hc j u hu) (show ¬ S b from hn _ e)⟩

set_option maxRecDepth 100000 in
set_option maxHeartbeats 8000000 in
theorem closes_any (w : World) (cap pol : Int) (A : Option Addr) (n ca : Nat) (ops : List Op1) (hl : Sl w w.heap.size A n ca 6 (ops.flatMap Op1.cells)) (hlen : ops.length = n) (hs : ∀ o ∈ ops, o.v.s.size ≤ 9223372036854775807) :
    Calls Try.prog 3 #[.int .i64 cap, .int .i64 pol, .slice A n ca] w fun e w' => e = .returned (.bool true) ∧ Only w w' := by
  cases hnew : newOk cap pol with
  | false =>
    go_enter Try.func3, Try.ntmps3
    go_wp2_with fail
    refine (new_bad cap pol w hnew).mono ?_
    rintro e w1 ⟨rfl, hO⟩
    have HO := Lib.hid hO
    clear hO hl
    go_wp2_with fail
    refine (awake_any _).mono ?_
    rintro e w2 ⟨rfl, hO2⟩
    have HO2 := Lib.hid hO2
    clear hO2
    go_wp2_with fail
    go_ret
    exact ⟨rfl, HO.out.trans' HO2.out⟩
  | true =>
    have HL := Lib.hid (And.intro hl (And.intro hlen hs))
    have hnc := hl.2.1
    have hcm := hl.2.2.1
    clear hl hlen hs
    go_enter Try.func3, Try.ntmps3
    go_wp2_with fail
    refine (own_new w w (Stay.refl _ w) hnew).mono ?_
    rintro e w1 ⟨rfl, hch, hO⟩
    have HO := Lib.hid hch
    clear hO hch
    go_upto_region 4 with fail
    go_cut [45, 46, 47] from 41 to 44 (fun a b i wc => ∃ m : Nat, m = min n 60 ∧ a = .slice A m ca ∧ b = .int .i64 (m : Nat) ∧ i = .int .i64 0 ∧ w1 = wc)
    case first =>
      go_wp2_with fail
      · have h80 : 60 < (n : Int) := by assumption
        go_meet
        case rel => exact ⟨60, by omega, rfl, rfl, rfl, rfl⟩
      · have h80 : (n : Int) ≤ 60 := by assumption
        go_meet
        case rel => exact ⟨n, by omega, rfl, rfl, rfl, rfl⟩
    case rest =>
    obtain ⟨m, hm, rfl, rfl, rfl, rfl⟩ := hcut
    have hmn : m ≤ n := by omega
    have hm80 : m ≤ 60 := by omega
    have hmc : m ≤ ca := by omega
    clear hm
    go_wp2_with fail
    go_loopg [47] m (fun k vj wr => ∃ (j : Nat) (c : Ch) (ns : List Nat), j ≤ m ∧ k = m - j ∧ vj = .int .i64 (j : Nat) ∧ Own w wr w.heap.size ns c j)
    case atStart => exact ⟨0, Ch.new cap pol, [], Nat.zero_le _, rfl, rfl, HO.out⟩
    case round =>
    obtain ⟨j, c, ns, hj, hk, rfl, hown⟩ := hrel
    by_cases hlt : j < m
    · obtain ⟨o, ho⟩ : ∃ o, ops[j]? = some o := ⟨_, List.getElem?_eq_getElem (by have := HL.out.2.1; omega)⟩
      obtain ⟨ab, ao, rfl, hab, hcells⟩ := (HL.out.1.only hown.only).elem Op1.cells_length ho (by omega)
      have g0 := hcells 0 _ rfl
      simp only [Nat.add_zero] at g0
      have g1 := hcells 1 _ rfl
      have g2 := hcells 2 _ rfl
      have g3 := hcells 3 _ rfl
      have g4 := hcells 4 _ rfl
      have g5 := hcells 5 _ rfl
      have hos : o.v.s.size ≤ 9223372036854775807 := HL.out.2.2 o (List.mem_of_getElem? ho)
      have HX := Lib.hid (And.intro hown hk)
      clear hown hcells ho hk
      go_wp2_with fail
      have hof := fun ob => own_run (HX.out.1.alloc ob) o (by omega) hos
      refine (hof _).mono ?_
      rintro e w2 ⟨ns1, rfl, h1, h2, h3⟩
      have HY := Lib.hid h1
      clear h1 h2 h3 hof
      go_wp2_with fail
      go_roundg (m - (j + 1))
      case measure => have := HX.out.2; omega
      case rel => exact ⟨j + 1, _, ns1, hlt, rfl, rfl, by simpa using HY.out⟩
    · obtain rfl : j = m := by omega
      have HX := Lib.hid (hown.more (show (j : Int) ≤ 60 by omega))
      clear hown hk
      rename World => wa
      go_wp2_with fail
      refine (state_any wa _ ns c 60 HX.out.lies HX.out.ok).mono ?_
      rintro e w2 ⟨⟨v, rfl, bv, wv, rfl, o1, o2⟩, hO2⟩
      obtain ⟨A1, cp1, rfl⟩ := own_shape o1
      obtain ⟨A2, cp2, rfl⟩ := own_shape o2
      have hb1 := (own_sl o1 (flat_len _ _ V.cells_length _)).2.1
      have hb2 := (own_sl o1 (flat_len _ _ V.cells_length _)).2.2.1
      have hb3 := (own_sl o2 (flat_len _ _ Wt.cells_length _)).2.1
      have hb4 := (own_sl o2 (flat_len _ _ Wt.cells_length _)).2.2.1
      have HS := Lib.hid (And.intro o1 (And.intro o2 (And.intro (HX.out.step hO2) hO2)))
      clear o1 o2 hO2
      go_wp2_with fail
      refine (own_close (HS.out.2.2.1.alloc _)).mono ?_
      rintro e w3 ⟨A3, cp3, ns3, rfl, h1, h2, h3, h4⟩
      have hbx : ∀ k ∈ w.heap.size :: ns, k < wa.heap.size := fun k hk => HX.out.lies.lt k hk
      have hsz := HS.out.2.2.2.size
      have HN := Lib.hid (And.intro h3 (And.intro hbx (show ∀ a, A1 = some a → wa.heap.size ≤ a.block from fun a ha => by subst ha; exact (HS.out.1.lt _ rfl).1)))
      have hT := h4.blk (Blk.newAt w2 [.int .i64 c.cap, .int .i64 c.pol, .bool c.closed, .slice A1 c.buf.length cp1, .slice A2 c.ws.length cp2, .int .i64 c.drop] 36 _ rfl) (fun hm => by have := hbx _ hm; omega)
      have s1 := own_sl (owns_stay h4 (own_only ((Stay.refl _ w2).alloc _) HS.out.1) (fun k hk _ hm => by have := hbx k hm; omega)) (flat_len _ _ V.cells_length _)
      have s2 := own_sl (owns_stay h4 (own_only ((Stay.refl _ w2).alloc _) HS.out.2.1) (fun k hk _ hm => by have := hbx k hm; omega)) (flat_len _ _ Wt.cells_length _)
      have k0 := hT.cell
      have l0 := hT.lt
      have HC := Lib.hid (And.intro h1 (And.intro h2 (And.intro hT (And.intro s1 s2))))
      have hb5 := h2.2.1
      have hb6 := h2.2.2.1
      clear h1 h2 h3 h4 hT s1 s2 hbx
      cases hcl : c.closed with
      | true =>
        have hce : c.close = (c, []) := by simp [Ch.close, hcl]
        rw [hce] at hb5 ⊢
        simp only [List.length_nil] at hb5 ⊢
        have HCE := Lib.hid (And.intro hce hcl)
        rw [hcl] at k0
        clear hce hcl
        go_wp2_with fail
        have hown : Own w w3 w.heap.size ns3 c 60 := by
          have := HC.out.1
          rw [HCE.out.1] at this
          exact this
        have hrd : Rd w3 (.agg #[.int .i64 c.cap, .int .i64 c.pol, .bool true, .slice A1 c.buf.length cp1, .slice A2 c.ws.length cp2, .int .i64 c.drop]) c := ⟨A1, cp1, A2, cp2, by rw [HCE.out.2], HC.out.2.2.2.1, HC.out.2.2.2.2⟩
        have HR := Lib.hid (And.intro hown hrd)
        clear hown hrd
        have hO0 : Only w3 w3.drew := (Stay.refl (fun _ => False) w3).drew
        have z0 := k0 0
        have z1 := k0 1
        have z2 := k0 2
        have z3 := k0 3
        have z4 := k0 4
        have z5 := k0 5
        simp only [List.getElem?_cons_zero, List.getElem?_cons_succ] at z0 z1 z2 z3 z4 z5
        clear k0
        go_region_held3 (fun w' => w'.cell? ⟨w2.heap.size, 0, none⟩ = some (.int .i64 c.cap) ∧ w'.cell? ⟨w2.heap.size, 1, none⟩ = some (.int .i64 c.pol) ∧ w'.cell? ⟨w2.heap.size, 2, none⟩ = some (.bool true) ∧
            w'.cell? ⟨w2.heap.size, 3, none⟩ = some (.slice A1 c.buf.length cp1) ∧ w'.cell? ⟨w2.heap.size, 4, none⟩ = some (.slice A2 c.ws.length cp2) ∧ w'.cell? ⟨w2.heap.size, 5, none⟩ = some (.int .i64 c.drop))
          (first
            | go_keep
            | (go_split_ands; refine ⟨?_, ?_, ?_, ?_, ?_, ?_⟩ <;> (first | (apply Only.cell hOz; assumption) | (apply Only.cell hOy; assumption) | (apply Only.cell hOx; assumption))))
          (first
            | (go_at_call 13; refine (own_state (HR.out.1.step hO0)).mono ?_; rintro e w5 ⟨⟨B1, cq1, B2, cq2, rfl, t1, t2⟩, hOx⟩)
            | (go_at_call 15; refine (same_any _ _ _ c ⟨B1, cq1, B2, cq2, rfl, t1, t2⟩ (HR.out.2.only (hO0.trans' hOx))).mono ?_; rintro e w6 ⟨rfl, hOy⟩)
            | (go_at_call 11; refine (awake_any _).mono ?_; rintro e w7 ⟨rfl, hOz⟩))
        go_wp2_with fail
        go_ret
        exact ⟨rfl, (((HR.out.1.only.trans' hO0).trans' hOx).trans' hOy).trans' hOz⟩
      | false =>
        have hce : c.close = (c.shut 0, c.ws.map cdeal) := by simp [Ch.close, hcl, Ch.shut, cdeal]
        rw [hce] at hb5 ⊢
        simp only [List.length_map] at hb5 ⊢
        have HCE := Lib.hid (And.intro hce hcl)
        rw [hcl] at k0
        clear hce hcl
        have hfield := field_ws'
        go_wp2_with fail
        refine (own_state HC.out.1).mono ?_
        rintro e w4 ⟨⟨B1, cq1, B2, cq2, rfl, t1, t2⟩, hO4⟩
        have hws : c.close.1.ws.length = 0 := by rw [HCE.out.1]; rfl
        rw [hws]
        have HO4 := Lib.hid hO4
        clear t1 t2 hO4 hws
        go_wp2_with fail
        clear hfield k0
        have HQ := Lib.hid (show Own w w4 w.heap.size ns3 (c.shut 0) 60 ∧ Sl w4 w4.heap.size A3 c.ws.length cp3 7 ((c.ws.map cdeal).flatMap D.cells) ∧ Blk w4 w2.heap.size 36 [.int .i64 c.cap, .int .i64 c.pol, .bool false, .slice A1 c.buf.length cp1, .slice A2 c.ws.length cp2, .int .i64 c.drop] ∧
            Sl w4 w4.heap.size A1 c.buf.length cp1 3 (c.buf.flatMap V.cells) ∧ Sl w4 w4.heap.size A2 c.ws.length cp2 5 (c.ws.flatMap Wt.cells) from by
          obtain ⟨q1, q2, q3, q4, q5⟩ := HC.out
          rw [HCE.out.1] at q1 q2
          rw [HCE.out.2] at q3
          simp only [List.length_map] at q2
          exact ⟨q1.step HO4.out, (q2.only HO4.out).up HO4.out.size, HO4.out.blk q3, (q4.only HO4.out).up HO4.out.size, (q5.only HO4.out).up HO4.out.size⟩)
        go_loopg [88] (c.ws.length) (fun k vi wz => ∃ i : Nat, i ≤ c.ws.length ∧ k = c.ws.length - i ∧ vi = .int .i64 (i : Nat) ∧ Only w4 wz)
        case atStart => exact ⟨0, Nat.zero_le _, rfl, rfl, Stay.refl _ _⟩
        case round =>
        clear hlt hj
        obtain ⟨i, hi, hk2, rfl, hOz⟩ := hrel
        rename World => wz
        by_cases hil : i < c.ws.length
        · obtain ⟨x, hx⟩ : ∃ x, c.ws[i]? = some x := ⟨_, List.getElem?_eq_getElem hil⟩
          have hxd : (c.ws.map cdeal)[i]? = some (cdeal x) := by rw [List.getElem?_map, hx]; rfl
          obtain ⟨xb, xo, rfl, hxb, hxc⟩ := (HQ.out.2.2.2.2.only hOz).elem Wt.cells_length hx (by omega)
          obtain ⟨yb, yo, rfl, hyb, hyc⟩ := (HQ.out.2.1.only hOz).elem D.cells_length hxd (by omega)
          simp only [D.cells, cdeal, V.nil, F.closed, closedText] at hyc
          have e0 := hxc 0 _ rfl
          simp only [Nat.add_zero] at e0
          have f0 := hyc 0 _ rfl
          simp only [Nat.add_zero] at f0
          have f1 := hyc 1 _ rfl
          have f2 := hyc 2 _ rfl
          have f3 := hyc 3 _ rfl
          have f4 := hyc 4 _ rfl
          have f5 := hyc 5 _ rfl
          have f6 := hyc 6 _ rfl
          have hxb' : xb < wz.heap.size := Nat.lt_of_lt_of_le hxb hOz.size
          have hyb' : yb < wz.heap.size := Nat.lt_of_lt_of_le hyb hOz.size
          have hTz := hOz.blk HQ.out.2.2.1
          have z4 : wz.cell? ⟨w2.heap.size, 4, none⟩ = some (.slice (some ⟨xb, xo, none⟩) c.ws.length cp2) := hTz.at (i := 4) rfl
          have lz := hTz.lt
          have HE := Lib.hid (And.intro hk2 hOz)
          clear hk2 hOz hx hxd hxc hyc hTz
          have p4 : ∀ o, ((wz.alloc o).drew).cell? ⟨w2.heap.size, 4, none⟩ = some (.slice (some ⟨xb, xo, none⟩) c.ws.length cp2) := fun o => (World.cell?_alloc_past o _ _ lz).trans z4
          have p0 : ∀ o, ((wz.alloc o).drew).cell? ⟨xb, xo + i * 5, none⟩ = some (.int .i64 x.t) := fun o => (World.cell?_alloc_past o _ _ hxb').trans e0
          go_wp2_with fail
          go_region_held3 (fun w' => w'.cell? ⟨wz.heap.size, 0, none⟩ = some (.int .i64 x.t) ∧ w'.cell? ⟨wz.heap.size, 1, none⟩ = some (.int .i64 0) ∧ w'.cell? ⟨wz.heap.size, 2, none⟩ = some (.int .i64 0) ∧ w'.cell? ⟨wz.heap.size, 3, none⟩ = some (.int .i64 0) ∧ w'.cell? ⟨wz.heap.size, 4, none⟩ = some (.string ⟨#[]⟩) ∧
              w'.cell? ⟨wz.heap.size, 5, none⟩ = some (.int .i64 1) ∧ w'.cell? ⟨wz.heap.size, 6, none⟩ = some (.string ⟨#[99, 108, 111, 115, 101, 100]⟩) ∧ w'.cell? ⟨w2.heap.size, 4, none⟩ = some (.slice (some ⟨xb, xo, none⟩) c.ws.length cp2) ∧ w'.cell? ⟨xb, xo + i * 5, none⟩ = some (.int .i64 x.t))
            (first
              | go_keep
              | (go_split_ands; refine ⟨?_, ?_, ?_, ?_, ?_, ?_, ?_, ?_, ?_⟩ <;> (apply Only.cell hOx; assumption)))
            ((go_at_call 16; refine (closed_any _).mono ?_; rintro e w5 ⟨rfl, hOx⟩; simp only [F.val, F.closed, closedText]))
          clear p4 p0 z4 e0 f0 f1 f2 f3 f4 f5 f6
          go_wp2_with fail
          go_roundg (c.ws.length - (i + 1))
          case measure => have := HE.out.1; omega
          case rel => exact ⟨i + 1, hil, rfl, rfl, Only.trans' (Only.trans' HE.out.2 (((Stay.refl (fun _ => False) wz).alloc _).drew)) hOx⟩
        · obtain rfl : i = c.ws.length := by omega
          have HE := Lib.hid (And.intro (HQ.out.1.step hOz) (And.intro ((HQ.out.2.2.2.1.only hOz).up hOz.size) (hOz.blk HQ.out.2.2.1)))
          clear hOz hk2
          go_wp2_with fail
          refine (number_any 1 _).mono ?_
          rintro e w5 ⟨rfl, hO5⟩
          have H5 := Lib.hid hO5
          clear hO5
          simp only [num, V.val]
          go_wp2_with fail
          refine (own_offer (HE.out.1.step H5.out) (by omega) (num 1) (by simp [num, nil_size])).mono ?_
          rintro e w6 ⟨A4, cp4, ns4, rfl, h1, h2, h3, h4⟩
          rw [shut_offer] at h1 ⊢
          have hA1 : ∀ a, A1 = some a → ¬ a.block ∈ w.heap.size :: ns3 := fun a ha hm => by
            have k1 := HN.out.2.2 a ha
            have k2 : a.block ∈ w.heap.size :: ns := by
              rcases List.mem_cons.1 hm with h | h
              · rw [h]; simp
              · exact List.mem_cons_of_mem _ (HN.out.1 _ h)
            have := HN.out.2.1 _ k2
            omega
          have h5 := (((HE.out.2.1.only H5.out).up H5.out.size).stay h4 hA1).up h4.size
          have h6 := h4.blk (H5.out.blk HE.out.2.2) (fun hm => by
            have k2 : w2.heap.size ∈ w.heap.size :: ns := by
              rcases List.mem_cons.1 hm with h | h
              · rw [h]; simp
              · exact List.mem_cons_of_mem _ (HN.out.1 _ h)
            have := HN.out.2.1 _ k2
            omega)
          have z3 : w6.cell? ⟨w2.heap.size, 3, none⟩ = some (.slice A1 c.buf.length cp1) := h6.at (i := 3) rfl
          have l6 := h6.lt
          have H6 := Lib.hid (And.intro h1 (And.intro (fun k hk => HN.out.1 k (h3 k hk)) h5))
          clear h1 h2 h3 h4 h5 h6 hA1
          simp only [List.length_nil, F.val, F.closed, closedText]
          have p3 : ∀ o, ((w6.alloc o).drew).cell? ⟨w2.heap.size, 3, none⟩ = some (.slice A1 c.buf.length cp1) := fun o => (World.cell?_alloc_past o _ _ l6).trans z3
          go_wp2_with fail
          go_region_held3 (fun w' => w'.cell? ⟨w6.heap.size, 0, none⟩ = some (.int .i64 1) ∧ w'.cell? ⟨w6.heap.size, 1, none⟩ = some (.string ⟨#[99, 108, 111, 115, 101, 100]⟩) ∧ w'.cell? ⟨w2.heap.size, 3, none⟩ = some (.slice A1 c.buf.length cp1))
            (first
              | go_keep
              | (go_split_ands; refine ⟨?_, ?_, ?_⟩ <;> (apply Only.cell hOx; assumption)))
            ((go_at_call 16; refine (closed_any _).mono ?_; rintro e w7 ⟨rfl, hOx⟩; simp only [F.val, F.closed, closedText]))
          have hz3 : w7.cell? ⟨w2.heap.size, 3, none⟩ = some (.slice A1 c.buf.length cp1) := hOx.cell (p3 _)
          have hO7 : Only w6 w7 := (((Stay.refl (fun _ => False) w6).alloc _).drew).trans hOx (fun _ _ h => h)
          have H7 := Lib.hid (And.intro (H6.out.1.step hO7) (And.intro H6.out.2.1 ((H6.out.2.2.only hO7).up hO7.size)))
          clear p3 z3 hOx hO7
          go_wp2_with fail
          clear hz3
          go_loopg [137] (c.buf.length) (fun k vi wz => ∃ (i : Nat) (nsx : List Nat), i ≤ c.buf.length ∧ k = c.buf.length - i ∧ vi = .int .i64 (i : Nat) ∧ Own w wz w.heap.size nsx (c.shut i) (61 + i) ∧ (∀ k ∈ nsx, k ∈ ns) ∧ Sl wz wz.heap.size A1 c.buf.length cp1 3 (c.buf.flatMap V.cells))
          case atStart => exact ⟨0, _, Nat.zero_le _, rfl, rfl, H7.out.1, H7.out.2.1, H7.out.2.2⟩
          case round =>
          obtain ⟨i, nsx, hi, hk, rfl, hown, hnx, hsl⟩ := hrel
          rename World => wx
          by_cases hil : i < c.buf.length
          · obtain ⟨v, hv⟩ : ∃ v, c.buf[i]? = some v := ⟨_, List.getElem?_eq_getElem hil⟩
            obtain ⟨xb, xo, rfl, hxb, hxc⟩ := hsl.elem V.cells_length hv (by omega)
            have e0 := hxc 0 _ rfl
            simp only [Nat.add_zero] at e0
            have e1 := hxc 1 _ rfl
            have e2 := hxc 2 _ rfl
            have HE := Lib.hid (And.intro hk (And.intro hown (And.intro hnx (And.intro hsl (shut_take hv)))))
            clear hk hown hnx hsl hxc hv
            go_wp2_with fail
            refine (own_take (HE.out.2.1.alloc _)).mono ?_
            rintro e w8 ⟨A5, cp5, ns5, rfl, h1, h2, h3, h4⟩
            rw [HE.out.2.2.2.2] at h1 ⊢
            have hnm : ∀ k ∈ w.heap.size :: nsx, k < wa.heap.size := fun k hk => by
              refine HN.out.2.1 k ?_
              rcases List.mem_cons.1 hk with h | h
              · rw [h]; simp
              · exact List.mem_cons_of_mem _ (HE.out.2.2.1 _ h)
            have hT := h4.blk (Blk.newAt wx v.cells 29 _ rfl) (fun hm => absurd (HE.out.2.1.lies.lt _ hm) (Nat.lt_irrefl _))
            have k1 := hT.cell
            simp only [V.cells] at k1
            have l1 := hT.lt
            have h5 := (((HE.out.2.2.2.1.only ((Stay.refl _ wx).alloc _)).up (by simp)).stay h4 (fun a ha hm => by
              have := HN.out.2.2 a ha
              have := hnm _ hm
              omega)).up h4.size
            have H8 := Lib.hid (And.intro h1 (And.intro (fun k hk => HE.out.2.2.1 k (h3 k hk)) h5))
            clear h1 h2 h3 h4 h5 hT hnm e0 e1 e2
            simp only [List.length_nil, F.val, F.nil, V.val]
            go_wp2_with fail
            go_roundg (c.buf.length - (i + 1))
            case measure => have := HE.out.1; omega
            case rel => exact ⟨i + 1, ns5, hil, rfl, rfl, by
              have := (H8.out.1.alloc (.cells #[.int .i64 v.k, .int .i64 v.n, .string v.s] 29)).alloc (.cells #[.int .i64 0, .string ⟨#[]⟩] 42)
              rw [Int.add_assoc] at this
              exact this, H8.out.2.1, ((H8.out.2.2.only (((Stay.refl _ w8).alloc _).alloc _)).up (by simp; omega))⟩
          · obtain rfl : i = c.buf.length := by omega
            have HE := Lib.hid hown
            clear hk hown hnx hsl
            go_wp2_with fail
            refine (own_take HE.out).mono ?_
            rintro e w8 ⟨A5, cp5, ns5, rfl, h1, h2, h3, h4⟩
            rw [shut_end] at h1 ⊢
            have H8 := Lib.hid h1
            clear h1 h2 h3 h4
            simp only [List.length_nil, F.val, F.closed, closedText, V.nil, V.val]
            go_wp2_with fail
            have hnb : ¬ (w8.heap.size + 1) ∈ w.heap.size :: ns5 := fun hm => by
              have := H8.out.lies.lt _ hm
              omega
            have hO0 : ∀ o o', Only w8 (((w8.alloc o).alloc o').drew) := fun o o' => (((Stay.refl (fun _ => False) w8).alloc o).alloc o').drew
            go_region_held3 (fun w' => w'.cell? ⟨w8.heap.size + 1, 0, none⟩ = some (.int .i64 1) ∧ w'.cell? ⟨w8.heap.size + 1, 1, none⟩ = some (.string ⟨#[99, 108, 111, 115, 101, 100]⟩))
              (first
                | go_keep
                | (go_split_ands; refine ⟨?_, ?_⟩ <;> (first | (apply Only.cell hOz; assumption) | (refine Stay.cell hSy ?_ hnb; assumption) | (apply Only.cell hOx; assumption))))
              (first
                | (go_at_call 16; refine (closed_any _).mono ?_; rintro e w9 ⟨rfl, hOx⟩; simp only [F.val, F.closed, closedText])
                | (go_at_call 14; refine (own_close ((H8.out.step (hO0 _ _)).step hOx)).mono ?_; rintro e w10 ⟨A6, cp6, ns6, rfl, c1, c2, c3, hSy⟩; rw [shut_close] at c1 ⊢; simp only [List.length_nil])
                | (go_at_call 11; refine (awake_any _).mono ?_; rintro e w11 ⟨rfl, hOz⟩))
            go_wp2_with fail
            go_ret
            exact ⟨rfl, Only.trans' c1.only hOz⟩

end Go.Proofs.Ytfmkdkpgehkfaaa
