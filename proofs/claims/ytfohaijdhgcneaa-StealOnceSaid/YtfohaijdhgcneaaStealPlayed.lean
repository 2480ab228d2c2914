/- A race is played by a law: one step. -/
import Derived.Test.YtfohaijdhgcneaaStealOwn
set_option linter.unusedVariables false
set_option linter.unusedSimpArgs false
namespace Go.Proofs.Ytfohaijdhgcneaa
open Go Go.RowKit

def two (p : Int × Int) : List Value := [.int .i64 p.1, .int .i64 p.2]
theorem two_len (p : Int × Int) : (two p).length = 2 := rfl
theorem info2 : (Try.prog.info? 34).map (fun i => (i.zero, i.size, i.bytes)) = some (some (.agg #[.int .i64 0, .int .i64 0]), 2, 16) := by kernel_rfl
theorem op_got (R : Rc) (i : Nat) (a : Act) : (opS R i a).2.got = a.got ∨ ∃ r, (opS R i a).2.got = a.got ++ [r] := by
  unfold opS takeS pushS stealS
  repeat' split
  all_goals simp [Act.done]
theorem got_step (R : Rc) (i : Int) : (R.step i).1.got i = R.got i ∨ ∃ r, (R.step i).1.got i = R.got i ++ [r] := by
  cases hb : (R.step i).2 with
  | false => rw [step_none hb]; exact .inl rfl
  | true =>
    obtain ⟨a, hi, ha, hn, e⟩ := step_some hb
    obtain ⟨k, hk⟩ : ∃ k, k = i.toNat := ⟨_, rfl⟩
    rw [← hk] at hi ha e
    subst hi
    rw [e, go_got ha, got_at ha]
    exact op_got R k a
theorem got_other (R : Rc) (i j : Int) (h : i ≠ j) : (R.step i).1.got j = R.got j := by
  cases hb : (R.step i).2 with
  | false => rw [step_none hb]
  | true =>
    obtain ⟨a, hi, ha, hn, e⟩ := step_some hb
    rw [e]
    unfold Rc.got
    split
    · rfl
    · rename_i hj
      show (match (R.acts.set i.toNat _)[j.toNat]? with | none => [] | some a => a.got) = _
      rw [List.getElem?_set, if_neg (by omega)]
      cases R.acts[j.toNat]? <;> rfl
theorem got_out {R : Rc} (h : R.Ok) {i : Int} (hi : i < 0 ∨ 8 < i) : R.step i = (R, false) ∧ R.got i = [] := by
  unfold Rc.step Rc.got
  by_cases h0 : i < 0
  · rw [if_pos h0, if_pos h0]
    exact ⟨rfl, rfl⟩
  · have := h.al
    rw [if_neg h0, if_neg h0, List.getElem?_eq_none (by omega)]
    exact ⟨rfl, rfl⟩
theorem got_le {R : Rc} (h : R.Ok) (i : Int) : (R.got i).length ≤ 60 := by
  unfold Rc.got
  split
  · simp
  · split
    · simp
    · rename_i a ha
      have := h.an _ a ha
      omega
/-- How many results each has had. -/
def hads (R : Rc) : List Int := (List.range 9).map fun (k : Nat) => ((R.got (k : Int)).length : Int)
theorem hads_len (R : Rc) : (hads R).length = 9 := by simp [hads]
theorem hads_at (R : Rc) {k : Nat} (h : k < 9) : (hads R)[k]? = some ((R.got (k : Int)).length : Int) := by
  unfold hads
  rw [List.getElem?_map, List.getElem?_range h]
  rfl
theorem hads_same {R R' : Rc} (h : ∀ i : Int, (R'.got i).length = (R.got i).length) : hads R' = hads R := by
  unfold hads
  exact List.map_congr_left (fun k _ => by rw [h k])
theorem hads_set (R : Rc) {i : Nat} (hi : i < 9) : hads (R.step (i : Int)).1 = (hads R).set i (((R.step (i : Int)).1.got (i : Int)).length : Int) := by
  refine List.ext_getElem? fun k => ?_
  rw [List.getElem?_set]
  by_cases hk : k < 9
  · rw [hads_at _ hk]
    by_cases he : i = k
    · subst he
      rw [if_pos rfl, if_pos (by rw [hads_len]; exact hi)]
    · rw [if_neg he, hads_at _ hk, got_other R (i : Int) (k : Int) (by omega)]
  · rw [List.getElem?_eq_none (by rw [hads_len]; omega), if_neg (by omega), List.getElem?_eq_none (by rw [hads_len]; omega)]
/-- A race that is played: its variables. -/
structure PB (w0 w : World) (L : Nat → Nat) (b : Nat) (R : Rc) (out : List (Int × Int)) (rx hx ox gh : Nat) (ov : Value) : Prop where
  sr : SR w0 w L b R
  rb : Blk w rx 26 [pt b]
  hb : Blk w hx 22 [.slice (some ⟨gh, 0, none⟩) 9 9]
  hr : Blk w gh 3 (ints (hads R))
  ob : Blk w ox 31 [ov]
  orow : w.ownsRow w0.heap.size 34 2 ov out.length (out.flatMap two)
  lr : L rx = 0
  lh : L hx = 0
  lg : L gh = 0
  lo : L ox = 0
  lv : ∀ g, ov.ownBlock = some g → L g = 0
  br : w0.heap.size ≤ rx
  bh : w0.heap.size ≤ hx
  bg : w0.heap.size ≤ gh
  bo : w0.heap.size ≤ ox
section
variable {w0 w w' : World} {L L' : Nat → Nat} {b rx hx ox gh : Nat} {R R' : Rc} {out : List (Int × Int)} {ov : Value}
theorem PB.then (h : PB w0 w L b R out rx hx ox gh ov) (ho : Only w w') : PB w0 w' L b R out rx hx ox gh ov :=
  ⟨h.sr.then ho, ho.blk h.rb, ho.blk h.hb, ho.blk h.hr, ho.blk h.ob, own_only ho h.orow, h.lr, h.lh, h.lg, h.lo, h.lv, h.br, h.bh, h.bg, h.bo⟩
/-- Behind a step, but for the list of lengths. -/
theorem PB.step (h : PB w0 w L b R out rx hx ox gh ov) (hs : SR w0 w' L' b R') (hl : ∀ k, k < w.heap.size → L' k = L k) (hx2 : Stay (fun k => L k ≠ 0) w w') (hh : hads R' = hads R) : PB w0 w' L' b R' out rx hx ox gh ov :=
  ⟨hs, hx2.blk h.rb (fun e => e h.lr), hx2.blk h.hb (fun e => e h.lh), by rw [hh]; exact hx2.blk h.hr (fun e => e h.lg), hx2.blk h.ob (fun e => e h.lo), own_stay hx2 h.orow (fun g hg e => e (h.lv g hg)), by rw [hl _ h.rb.lt]; exact h.lr, by rw [hl _ h.hb.lt]; exact h.lh, by rw [hl _ h.hr.lt]; exact h.lg, by rw [hl _ h.ob.lt]; exact h.lo, fun g hg => by rw [hl _ (own_lt h.orow g hg).2]; exact h.lv g hg, h.br, h.bh, h.bg, h.bo⟩
end
set_option maxRecDepth 100000 in
set_option maxHeartbeats 4000000 in
theorem play1_any {w0 w : World} {L : Nat → Nat} {b rx hx ox gh : Nat} {R : Rc} {out : List (Int × Int)} {ov : Value} (h : PB w0 w L b R out rx hx ox gh ov) (hol : out.length ≤ 10000) (a : Int) :
    Calls Try.prog 39 #[.int .i64 a, .pointer (some ⟨rx, 0, none⟩), .pointer (some ⟨hx, 0, none⟩), .pointer (some ⟨ox, 0, none⟩)] w fun e w' => e = .returned (.tuple #[]) ∧ ∃ L' ov', PB w0 w' L' b (R.step a).1 (out ++ R.say a) rx hx ox gh ov' := by
  obtain ⟨i2, h20, h21, h22, h23⟩ := info_parts info2
  have c := h.rb.cell
  have l := h.rb.lt
  have H := Lib.hid h
  clear h
  go_enter Try.func39, Try.ntmps39
  go_wp2_with fail
  refine (sr_step H.out.sr a).mono ?_
  rintro e w1 ⟨rfl, L1, h1, h2, h3⟩
  by_cases hb : a < 0 ∨ 8 < a
  · obtain ⟨e1, e2⟩ := got_out H.out.sr.ok hb
    rw [e1] at h1
    have hsay : R.say a = [] := say_same (by rw [e1])
    have H1 := Lib.hid (And.intro (show PB w0 w1 L1 b R out rx hx ox gh ov from H.out.step h1 h2 h3 rfl) (And.intro e1 hsay))
    clear h1 h2 h3 e1 e2 hsay c l
    rcases hb with hb | hb
    · go_wp2_with fail
      (first | go_end0 | refine bodyPost_ret (results_none rfl _ _ _) rfl ?_)
      refine ⟨rfl, L1, ov, ?_⟩
      rw [H1.out.2.1, H1.out.2.2, List.append_nil]
      exact H1.out.1
    · go_wp2_with fail
      (first | go_end0 | refine bodyPost_ret (results_none rfl _ _ _) rfl ?_)
      refine ⟨rfl, L1, ov, ?_⟩
      rw [H1.out.2.1, H1.out.2.2, List.append_nil]
      exact H1.out.1
  · obtain ⟨k, rfl⟩ : ∃ k : Nat, a = (k : Int) := ⟨a.toNat, by omega⟩
    have hk9 : k < 9 := by omega
    have hk8 : ¬ (8 : Int) < (k : Int) := by omega
    clear hb
    have hrb := h3.blk H.out.rb (fun e => e H.out.lr)
    have c1 := hrb.cell
    have l1 := hrb.lt
    have hhb := h3.blk H.out.hb (fun e => e H.out.lh)
    have hhr := h3.blk H.out.hr (fun e => e H.out.lg)
    have hob := h3.blk H.out.ob (fun e => e H.out.lo)
    have H1 := Lib.hid (And.intro h1 (And.intro h2 (And.intro h3 (And.intro hhb (And.intro hhr hob)))))
    clear h1 h2 h3 c l hrb hhb hhr hob
    go_wp2_with fail
    refine (got_any H1.out.1.race k).mono ?_
    rintro e w2 ⟨v2, rfl, hr2, ho2⟩
    obtain ⟨A2, c2, rfl⟩ := own_shape hr2
    have hgl := got_le H1.out.1.ok (k : Int)
    obtain ⟨n, hn⟩ : ∃ n, n = ((R.step (k : Int)).1.got (k : Int)).length := ⟨_, rfl⟩
    obtain ⟨m, hm⟩ : ∃ m, m = (R.got (k : Int)).length := ⟨_, rfl⟩
    have hnm : n = m ∨ n = m + 1 := by
      rcases got_step R (k : Int) with e | ⟨r, e⟩
      · rw [hn, e, hm]; exact .inl rfl
      · rw [hn, e, hm, List.length_append]; exact .inr rfl
    rw [← hn] at hr2 hgl ⊢
    have c3 := (ho2.blk H1.out.2.2.2.1).cell
    have l3 := (ho2.blk H1.out.2.2.2.1).lt
    have hc4 := (ho2.blk H1.out.2.2.2.2.1).cell k
    have l4 := (ho2.blk H1.out.2.2.2.2.1).lt
    have hz : (ints (hads R))[k]? = some (.int .i64 (m : Int)) := by
      unfold ints
      rw [List.getElem?_map, hads_at R hk9, hm]
      rfl
    rw [hz] at hc4
    have H2 := Lib.hid (And.intro hr2 (And.intro ho2 (And.intro hn (And.intro hm hz))))
    clear hr2 ho2 hn hm hz c1 l1
    by_cases hg : n = m
    · have u1 : ¬ (n : Int) > (m : Int) := by omega
      go_wp2_with fail
      (first | go_end0 | refine bodyPost_ret (results_none rfl _ _ _) rfl ?_)
      refine ⟨rfl, L1, ov, ?_⟩
      have e1 := H2.out.2.2.1
      have e2 := H2.out.2.2.2.1
      rw [say_same (by rw [← e1, ← e2]; exact hg), List.append_nil]
      exact (H.out.step H1.out.1 H1.out.2.1 H1.out.2.2.1 (hads_same (fun j => by
        by_cases hj : (k : Int) = j
        · subst hj
          rw [← e1, ← e2]; exact hg
        · rw [got_other R k j hj]))).then H2.out.2.1
    · have u1 : (n : Int) > (m : Int) := by omega
      obtain ⟨Ao, co, rfl⟩ := own_shape H.out.orow
      obtain ⟨g2, c2', e1, _, _⟩ := H2.out.1.form (by omega)
      obtain ⟨rfl, rfl⟩ : A2 = some ⟨g2, 0, none⟩ ∧ c2 = c2' := by simpa using e1
      obtain ⟨p, hp⟩ : ∃ p, p = n - 1 := ⟨_, rfl⟩
      have hzn := H2.out.1.cellAt p (by omega)
      obtain ⟨x, hx2⟩ : ∃ x, x = ((R.step (k : Int)).1.got (k : Int)).getD p 0 := ⟨_, rfl⟩
      have hzx : (ints ((R.step (k : Int)).1.got (k : Int)))[p]? = some (.int .i64 x) := by
        have hpl : p < ((R.step (k : Int)).1.got (k : Int)).length := by have := H2.out.2.2.1; omega
        unfold ints
        rw [List.getElem?_map, hx2, List.getD_eq_getElem?_getD, List.getElem?_eq_getElem hpl]
        rfl
      rw [hzx] at hzn
      have hsay : R.say (k : Int) = [((k : Int), x)] := by
        have e1 := H2.out.2.2.1
        have e2 := H2.out.2.2.2.1
        unfold Rc.say
        rw [← e1, ← e2, if_pos (by omega), hx2, hp]
      have lg2 := (own_lt H2.out.1 g2 rfl).2
      have hw : wrap64 ((n : Int) - 1) = (p : Int) := by unfold wrap64; omega
      have hw3 : IntKind.i64.wrap ((n : Int) - 1) = (p : Int) := by rw [IntKind.wrap_i64]; omega
      have u2 : (0 : Int) ≤ (p : Int) := by omega
      have u3 : (p : Int) < (n : Int) := by omega
      have BO2 := H2.out.2.1.blk H1.out.2.2.2.2.2
      have c6 := BO2.cell
      have l6 := BO2.lt
      have H3 := Lib.hid (And.intro hsay (And.intro BO2 (And.intro hp hx2)))
      clear hsay BO2 hp hx2 e1 hzx
      go_upto_region 4 with fail
      go_cut [] from 25 to 35 (fun wd => ∃ (g cap : Nat), Blk wd ox 31 [.slice (some ⟨g, 0, none⟩) (out.length + 1) cap] ∧ wd.ownsRow w0.heap.size 34 2 (.slice (some ⟨g, 0, none⟩) (out.length + 1) cap) (out.length + 1) (out.flatMap two ++ two ((k : Int), x)) ∧ ((Value.slice Ao out.length co).ownBlock = some g ∨ w2.heap.size ≤ g) ∧ Stay (fun j => j = ox ∨ (Value.slice Ao out.length co).ownBlock = some j) w2 wd)
      case first =>
        have hrow2 := own_only H2.out.2.1 (own_stay H1.out.2.2.1 H.out.orow (fun g hg e => e (H.out.lv g hg)))
        have HR := Lib.hid hrow2
        clear hrow2 c3 l3 hc4 l4
        go_region_law (refine step_append_lies _ (by rfl) _ _ _ (by rfl) w0.heap.size 34 i2 _ 2 16 Try.underlying31 h20 h21 h22 h23 rfl (by omega) _ out.length _ (by rfl) ((own_only ((Stay.refl _ w2).drew) HR.out).alloc _) ⟨w2.heap.size, 0, none⟩ 1 1 (two ((k : Int), x)) (by rfl) (by rfl) (World.news_of_block (cs := (two ((k : Int), x)).toArray) (t := 34) (fr := (0, 0)) (heap_alloc_new w2.drew _)) (by simp [two, Value.oneCell']) (by omega) (by simp only [maxLen]; omega) (by omega) (by have := H.out.sr.only.size; have := H1.out.2.2.1.size; have := H2.out.2.1.size; simp; omega) (w2.heap.size + 1) (by simp) ?_; intro g cap w5 hown hgrow hat hlt5; have st := grown_stay hgrow; have BT := st.blk (H3.out.2.1.drew.alloc _) (fun e => own_ne_blk HR.out H3.out.2.1 (by decide) _ e rfl); have c5 := BT.cell; have f5 := BT.free; have l5 := BT.lt; have HG := Lib.hid (And.intro hown (And.intro st (And.intro hat BT))); clear hown hgrow hat hlt5 st BT)
        all_goals
          go_wp2_with fail
          go_meet
          case rel =>
            have n1 : ∀ g', (Value.slice (some ⟨g, 0, none⟩) (out.length + 1) cap).ownBlock = some g' → g' ≠ ox := own_ne_blk HG.out.1 HG.out.2.2.2 (by decide)
            refine ⟨g, cap, HG.out.2.2.2.set 0 _, own_set HG.out.1 _ n1, ?_, ?_⟩
            · rcases HG.out.2.2.1 with h | h
              · exact .inl h
              · exact .inr (by omega)
            · exact ((((Stay.refl (fun j => j = ox ∨ (Value.slice Ao out.length co).ownBlock = some j) w2).drew).alloc _).trans HG.out.2.1 (fun _ _ h => .inr h)).put (.inl rfl) _ _
      case rest =>
        obtain ⟨g, cap, hB, hr, hnx, hxx⟩ := hcut
        have hlab := H1.out.2.1
        have hlz : ∀ j, w1.heap.size ≤ j → L1 j = 0 := fun j hj => by
          by_cases h0 : L1 j = 0
          · exact h0
          · have := H1.out.1.race.lab j h0; omega
        have row2 := own_only H2.out.2.1 (own_stay H1.out.2.2.1 H.out.orow (fun g hg e => e (H.out.lv g hg)))
        have vlt : ∀ j, (Value.slice Ao out.length co).ownBlock = some j → j < w.heap.size ∧ w0.heap.size ≤ j := fun j hj => ⟨(own_lt H.out.orow j hj).2, (own_lt H.out.orow j hj).1⟩
        have hoz : L1 ox = 0 := by rw [hlab _ H.out.ob.lt]; exact H.out.lo
        have hvz : ∀ j, (Value.slice Ao out.length co).ownBlock = some j → L1 j = 0 := fun j hj => by rw [hlab _ (vlt j hj).1]; exact H.out.lv j hj
        have hgz : L1 gh = 0 := by rw [hlab _ H.out.hr.lt]; exact H.out.lg
        have BR2 := H2.out.2.1.blk (H1.out.2.2.1.blk H.out.rb (fun e => e H.out.lr))
        have BH2 := H2.out.2.1.blk H1.out.2.2.2.1
        have BG2 := H2.out.2.1.blk H1.out.2.2.2.2.1
        have nH : ¬ (hx = ox ∨ (Value.slice Ao out.length co).ownBlock = some hx) := fun e => by
          rcases e with e | e
          · subst e; exact absurd (BH2.inj H3.out.2.1).1 (by decide)
          · exact own_ne_blk row2 BH2 (by decide) _ e rfl
        have nG : ¬ (gh = ox ∨ (Value.slice Ao out.length co).ownBlock = some gh) := fun e => by
          rcases e with e | e
          · subst e; exact absurd (BG2.inj H3.out.2.1).1 (by decide)
          · exact own_ne_blk row2 BG2 (by decide) _ e rfl
        have BHc := hxx.blk BH2 nH
        have BGc := hxx.blk BG2 nG
        have c7 := BHc.cell
        have l7 := BHc.lt
        have c8 := BGc.cell k
        rw [H2.out.2.2.2.2] at c8
        have f8 := BGc.free k
        have l8 := BGc.lt
        have nR : ¬ (rx = ox ∨ (Value.slice Ao out.length co).ownBlock = some rx) := fun e => by
          rcases e with e | e
          · subst e; exact absurd (BR2.inj H3.out.2.1).1 (by decide)
          · exact own_ne_blk row2 BR2 (by decide) _ e rfl
        have hgx : gh ≠ rx := fun e => by subst e; exact absurd (BG2.inj BR2).1 (by decide)
        have hgh : gh ≠ hx := fun e => by subst e; exact absurd (BG2.inj BH2).1 (by decide)
        have hgo : gh ≠ ox := fun e => nG (.inl e)
        have hgg : ∀ g', (Value.slice (some ⟨g, 0, none⟩) (out.length + 1) cap).ownBlock = some g' → g' ≠ gh := own_ne_blk hr BGc (by decide)
        have hS : Stay (fun j => j = gh ∨ j = ox ∨ (Value.slice Ao out.length co).ownBlock = some j) w2 (wc.setCell ⟨gh, k, none⟩ (.int .i64 (n : Int))) := (hxx.mono (fun _ _ h => .inr h)).put (.inl rfl) _ _
        have hpb : PB w0 (wc.setCell ⟨gh, k, none⟩ (.int .i64 (n : Int))) L1 b (R.step (k : Int)).1 (out ++ R.say (k : Int)) rx hx ox gh (.slice (some ⟨g, 0, none⟩) (out.length + 1) cap) := by
          refine ⟨(H1.out.1.then H2.out.2.1).stay hS (fun j hj => ?_), (hxx.blk BR2 nR).set_other hgx _, BHc.set_other hgh _, ?_, hB.set_other hgo _, ?_, by rw [hlab _ H.out.rb.lt]; exact H.out.lr, by rw [hlab _ H.out.hb.lt]; exact H.out.lh, hgz, hoz, fun g' hg' => ?_, H.out.br, H.out.bh, H.out.bg, H.out.bo⟩
          · rcases hj with e | e | e
            · subst e; exact ⟨hgz, H.out.bg⟩
            · subst e; exact ⟨hoz, H.out.bo⟩
            · exact ⟨hvz j e, (vlt j e).2⟩
          · have := BGc.set k (.int .i64 (n : Int))
            rw [hads_set R hk9, ← H2.out.2.2.1]
            unfold ints at this ⊢
            rw [List.map_set]
            exact this
          · rw [H3.out.1, List.length_append, List.flatMap_append]
            simpa using own_set hr _ hgg
          · have e : g = g' := by simpa [Value.ownBlock] using hg'
            subst e
            rcases hnx with h | h
            · exact hvz g h
            · exact hlz g (by have := H2.out.2.1.size; omega)
        have HP := Lib.hid hpb
        clear hpb hS hgg hgo hgh hgx nR BGc BHc nG nH BG2 BH2 BR2 hgz hvz hoz vlt row2 hlz hlab hB hr hnx hxx c3 l3 hc4 l4 c6 l6 hzn lg2
        go_wp2_with fail
        (first | go_end0 | refine bodyPost_ret (results_none rfl _ _ _) rfl ?_)
        exact ⟨rfl, L1, _, HP.out⟩
end Go.Proofs.Ytfohaijdhgcneaa
