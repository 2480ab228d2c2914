/- ClockFires walked. -/
import Derived.Test.YtbkbcpnpbfnmgaaDoorLawOuts
import Derived.Test.YtbkbcpnpbfnmgaaDoorFiresPure
import Derived.BigQuiet
import Derived.Deep.RegionWith
import Derived.Deep.QuietTactic
set_option linter.unusedVariables false
set_option linter.unusedSimpArgs false
namespace Go.Proofs.YtbkbcpnpbfnmgaaDoor
open Go Go.RowKit

/-- Rows of different types lie apart. -/
theorem own_apart {w : World} {b b' : Nat} {e e' : TypeId} {s s' n n' : Nat} {v v' : Value} {xs ys : List Value} (h : w.ownsRow b e s v n xs) (h' : w.ownsRow b' e' s' v' n' ys) (hne : e ≠ e') : ∀ g, v.ownBlock = some g → v'.ownBlock ≠ some g := by
  rcases h'.2 with ⟨rfl, _⟩ | ⟨g, cap, cur, rfl, _, hh, _⟩
  · intro g hg e; simp [Value.ownBlock] at e
  · intro g' hg e
    have e2 : g = g' := by simpa [Value.ownBlock] using e
    subst e2
    exact own_ne_blk (k := g) (T := e') (vs := cur.toList) h (by unfold Blk; rw [Array.toArray_toList]; exact hh) hne g hg rfl
set_option maxRecDepth 100000 in
set_option maxHeartbeats 4000000 in
theorem now_eq {w : World} {S : Nat → Prop} {b : Nat} {C : Ck} (h : CkAt w S b C) :
    Calls Tryd.prog 19 #[.pointer (some ⟨b, 0, none⟩)] w fun e w' => e = .returned (.int .i64 C.now) ∧ w' = w := by
  have c0 := h.now
  have lb := h.lt h.inb
  clear h
  go_enter Tryd.func19, Tryd.ntmps19
  go_wp2_with fail
  go_ret
  exact ⟨rfl, rfl⟩
set_option maxRecDepth 100000 in
set_option maxHeartbeats 4000000 in
theorem clockFires_any (w : World) (hT : Tab w) (A : Option Addr) (n ca : Nat) (ops : List KOp) (hl : Sl w w.heap.size A n ca 2 (ops.flatMap KOp.cells)) (hlen : ops.length = n) (x : Int) :
    Calls Tryd.prog 5 #[.slice A n ca, .int .i64 x] w fun e w' => e = .returned (.bool true) ∧ Only w w' := by
  have hma := made_any w hT A n ca ops hl hlen
  obtain ⟨C, hC⟩ : ∃ C, C = Ck.new.runs (ops.take 60) := ⟨_, rfl⟩
  rw [← hC] at hma
  clear hl hlen hC
  have HM := Lib.hid hma
  clear hma
  obtain ⟨ii, hii0, hii1, hii2, hii3⟩ := info_parts infoI
  obtain ⟨it, hit0, hit1, hit2, hit3⟩ := info_parts infoTm
  go_enter Tryd.func5, Tryd.ntmps5
  go_wp2_with fail
  refine HM.out.mono ?_
  clear HM
  rintro e w1 ⟨b, S1, rfl, hOC1⟩
  have H1 := Lib.hid hOC1
  clear hOC1
  go_wp2_with fail
  refine (lall_any H1.out.ck).mono ?_
  rintro e w2 ⟨v2, rfl, hr2, hO2⟩
  obtain ⟨Aw, cw, rfl⟩ := own_shape hr2
  obtain ⟨n, hn⟩ : ∃ n, n = C.all.length := ⟨_, rfl⟩
  rw [← hn] at hr2 ⊢
  have hcw : n ≤ cw ∧ cw ≤ 9223372036854775807 := by
    have := own_sl hr2 (Stay.refl _ _)
    exact ⟨this.2.1, this.2.2.1⟩
  have hn4 : n ≤ 400 := by rw [hn]; show (tsort C.ts).length ≤ 400; rw [tsort_length]; exact H1.out.ck.ok.len
  have hO2s := hO2.size
  have H2 := Lib.hid (And.intro hr2 (And.intro (H1.out.then hO2) hn))
  clear hr2 hO2 hn
  go_wp2_with fail
  go_loopg [7, 8, 21] n (fun kk vd vr vi wr => ∃ (i : Nat) (Ad Ar : Option Addr) (cd cr qd qr : Nat), i ≤ n ∧ kk = n - i ∧ vi = .int .i64 (i : Nat) ∧ vd = .slice Ad qd cd ∧ vr = .slice Ar qr cr ∧ qd = (C.dueTo x i).length ∧ qr = (C.restTo x i).length ∧
    wr.ownsRow w2.heap.size 3 1 (.slice Ad qd cd) qd (ints (C.dueTo x i)) ∧ wr.ownsRow w2.heap.size 39 2 (.slice Ar qr cr) qr ((C.restTo x i).flatMap Tm.cells) ∧ Only w2 wr)
  case atStart => exact ⟨0, none, none, 0, 0, 0, 0, Nat.zero_le _, rfl, rfl, rfl, rfl, rfl, rfl, World.ownsRow_nil _ _ _ _, World.ownsRow_nil _ _ _ _, Stay.refl _ _⟩
  case round =>
    obtain ⟨i, Ad, Ar, cd, cr, qd, qr, hi, hk, rfl, rfl, rfl, hqd, hqr, hrd, hrr, hO⟩ := hrel
    obtain ⟨wt, hwt⟩ : ∃ wt, wt = wr := ⟨_, rfl⟩
    rw [← hwt] at hrd hrr hO ⊢
    clear hwt
    by_cases hin : i < n
    · obtain ⟨t, ht⟩ : ∃ t, C.all[i]? = some t := ⟨_, List.getElem?_eq_getElem (by have := H2.out.2.2; omega)⟩
      obtain ⟨g, c2, e1, _, hg⟩ := H2.out.1.form (by omega)
      have e1' : Aw = some ⟨g, 0, none⟩ ∧ cw = c2 := by simpa using e1
      obtain ⟨rfl, rfl⟩ := e1'
      obtain ⟨z0, z1⟩ := row_cells (owns_base (own_only hO H2.out.1) (Nat.zero_le _)) (by have := H2.out.2.2; omega) ht
      have hat := all_at H1.out.ck.ok ht
      have hqd4 : qd ≤ i := by rw [hqd]; exact dueTo_len C x i
      have hqr4 : qr ≤ i := by rw [hqr]; exact restTo_len C x i
      have hgt : g < wt.heap.size := Nat.lt_of_lt_of_le hg hO.size
      obtain ⟨ti, td⟩ := t
      simp only at z0 z1 hat
      have HX := Lib.hid (And.intro hrd (And.intro hrr (And.intro hO (And.intro hk (And.intro hqd (And.intro hqr ht))))))
      obtain ⟨wa, hwa⟩ : ∃ wa, wa = wt.alloc (.cells #[.int .i64 ti, .int .i64 td] 39) := ⟨_, rfl⟩
      have hoa : Only wt wa := by rw [hwa]; exact (Stay.refl _ wt).alloc _
      have hba : Blk wa wt.heap.size 39 [.int .i64 ti, .int .i64 td] := by rw [hwa]; exact Blk.new wt [_, _] _
      have x0 := hba.cell 0
      have x1 := hba.cell 1
      simp only [List.getElem?_cons_zero, List.getElem?_cons_succ] at x0 x1
      have lx := hba.lt
      have hga : g < wa.heap.size := Nat.lt_of_lt_of_le hgt hoa.size
      have HA := Lib.hid (And.intro hoa (And.intro hba hwa))
      have hpos : (i = 0 ∧ decide ((i : Int) > 0) = false) ∨ ∃ (j si sd : Nat), i = j + 1 ∧ wt.cell? ⟨g, j * 2, none⟩ = some (.int .i64 si) ∧ wt.cell? ⟨g, j * 2 + 1, none⟩ = some (.int .i64 sd) ∧ (sd < td ∨ (sd = td ∧ si < ti)) ∧ j < n := by
        by_cases h0 : i = 0
        · exact .inl ⟨h0, decide_eq_false (by omega)⟩
        · obtain ⟨j, rfl⟩ : ∃ j, i = j + 1 := ⟨i - 1, by omega⟩
          obtain ⟨s, hs⟩ : ∃ s, C.all[j]? = some s := ⟨_, List.getElem?_eq_getElem (by have := H2.out.2.2; omega)⟩
          obtain ⟨y0, y1⟩ := row_cells (owns_base (own_only hO H2.out.1) (Nat.zero_le _)) (by have := H2.out.2.2; omega) hs
          have := all_two H1.out.ck.ok hs ht
          exact .inr ⟨j, s.id, s.due, rfl, y0, y1, this, by omega⟩
      clear hrd hrr hO hk hqd hqr ht e1 hoa hba hwa
      go_upto_region 2 with fail
      rw [← HA.out.2.2]
      go_cut [21, 72] from 21 to 86 (fun vi v wc => vi = .int .i64 (i : Nat) ∧ v = .bool false ∧ Only wa wc)
      case first =>
        have hOd : Only w2 wa.drew := (HX.out.2.2.1.trans' HA.out.1).drew
        have hck : CkAt wa S1 b C := H2.out.2.1.ck.only (HX.out.2.2.1.trans' HA.out.1)
        have hcall : ∀ k, Calls Tryd.prog 19 #[.pointer (some ⟨b, 0, none⟩)] (wa.drewN k) fun e w' => e = .returned (.int .i64 C.now) ∧ w' = wa.drewN k := fun k => now_eq (hck.only ((Stay.refl _ wa).drewN k))
        obtain ⟨an, han⟩ : ∃ a : Int, a = C.now := ⟨_, rfl⟩
        obtain ⟨ai, hai⟩ : ∃ a : Int, a = ti := ⟨_, rfl⟩
        obtain ⟨ad, had⟩ : ∃ a : Int, a = td := ⟨_, rfl⟩
        rw [← han] at hcall
        rw [← hai] at x0
        rw [← had] at x1
        have p1 : decide (ad < an) = false := decide_eq_false (by omega)
        have p2 : decide (ai < 1) = false := decide_eq_false (by omega)
        have p3 : ¬ ad < an := by omega
        have p4 : ¬ ai < 1 := by omega
        rcases hpos with ⟨rfl, q1⟩ | ⟨j, si, sd, rfl, y0, y1, hlt, hjn⟩
        · clear hai had han hat
          go_quiet (first | (go_at_call 19; exact Calls.quiet_of_same (hcall _)))
          go_wp2_with fail
          go_meet
          case rel => exact ⟨rfl, rfl, (Stay.refl _ wa).drewN _⟩
        · obtain ⟨bi, hbi⟩ : ∃ a : Int, a = si := ⟨_, rfl⟩
          obtain ⟨bd, hbd⟩ : ∃ a : Int, a = sd := ⟨_, rfl⟩
          rw [← hbi] at y0
          rw [← hbd] at y1
          have q1 : (j : Int) + 1 > 0 := by omega
          have q2 : decide ((j : Int) + 1 > 0) = true := decide_eq_true q1
          have q3 : IntKind.i64.wrap ((j : Int) + 1 - 1) = (j : Int) := by rw [show (j : Int) + 1 - 1 = (j : Int) by omega]; exact IntWalk.i64_in _ (by omega)
          have q4 : ¬ bd > ad := by omega
          have q5 : decide (bd > ad) = false := decide_eq_false q4
          have u1 : (0 : Int) ≤ (j : Int) := by omega
          have u2 : (j : Int) < (n : Int) := by omega
          have y0a := HA.out.1.cell y0
          have y1a := HA.out.1.cell y1
          have hlt2 : bd < ad ∨ (bd = ad ∧ bi < ai) := by omega
          clear hai had han hat hbi hbd hlt hjn y0 y1
          rcases hlt2 with hlt | ⟨rfl, hlt⟩
          · have q6 : (bd == ad) = false := by simp; omega
            have q7 : ¬ bd = ad := by omega
            clear hlt
            go_quiet (first | (go_at_call 19; exact Calls.quiet_of_same (hcall _)))
            go_wp2_with fail
            go_meet
            case rel => exact ⟨rfl, rfl, (Stay.refl _ wa).drewN _⟩
          · have q6 : (bd == bd) = true := by simp
            have q7 : ¬ bi ≥ ai := by omega
            have q8 : decide (bi ≥ ai) = false := decide_eq_false q7
            clear hlt
            go_quiet (first | (go_at_call 19; exact Calls.quiet_of_same (hcall _)))
            go_wp2_with fail
            go_meet
            case rel => exact ⟨rfl, rfl, (Stay.refl _ wa).drewN _⟩
      case rest =>
        obtain ⟨rfl, rfl, h3⟩ := hcut
        have hbx := h3.blk HA.out.2.1
        have x0 := hbx.cell 0
        have x1 := hbx.cell 1
        simp only [List.getElem?_cons_zero, List.getElem?_cons_succ] at x0 x1
        have lx := hbx.lt
        have hOt : Only wt wc := HA.out.1.trans' h3
        have HC := Lib.hid (And.intro hOt (And.intro hbx (own_apart HX.out.1 HX.out.2.1 (by decide))))
        have hzt := hOt.size
        have hz2 := HX.out.2.2.1.size
        clear h3 hbx hOt hpos
        by_cases hdx : (td : Int) ≤ x
        · have hy := dueTo_yes HX.out.2.2.2.2.2.2 hdx
          have b1 : decide ((td : Int) ≤ x) = true := decide_eq_true hdx
          have HY := Lib.hid hy
          clear hy
          go_wp2_with (at_builtin; refine wpList_append_lies _ rfl _ _ _ rfl w2.heap.size 3 ii _ 1 8 Tryd.underlying42 hii0 hii1 hii2 hii3 rfl (by omega) _ qd _ (by rfl) (own_alloc (own_only HC.out.1 HX.out.1) _) ⟨wc.heap.size, 0, none⟩ 1 1 [.int .i64 (ti : Int)] (by rfl) (by rfl) (World.news_of_block (cs := [Value.int .i64 (ti : Int)].toArray) (t := 3) (fr := (0, 0)) (heap_alloc_at' _ _ _ (by simp))) (by simp [Value.oneCell']) (by omega) (by simp only [maxLen]; omega) (by omega) (by simp; omega) (wc.heap.size + 1) (by simp) ?_; intro g9 cap9 w9 hown9 hgrow9 hat9 hlt9; have H9 := Lib.hid (And.intro hown9 (And.intro (grown_stay hgrow9) hat9)); clear hown9 hgrow9 hat9 hlt9)
          go_roundg (n - (i + 1))
          case measure => have := HX.out.2.2.2.1; omega
          case rel =>
            refine ⟨i + 1, some ⟨g9, 0, none⟩, Ar, cap9, cr, qd + 1, qr, by omega, rfl, by go_num, rfl, rfl, by rw [HY.out.1, List.length_append, ← HX.out.2.2.2.2.1]; rfl, by rw [HY.out.2]; exact HX.out.2.2.2.2.2.1, ?_, ?_, ?_⟩
            · rw [HY.out.1]
              simpa [ints, Tm.z] using H9.out.1
            · rw [HY.out.2]
              exact own_stay H9.out.2.1 (own_alloc (own_only HC.out.1 HX.out.2.1) _) (fun g hg e => HC.out.2.2 g e hg)
            · exact ((HX.out.2.2.1.trans' HC.out.1).alloc _).trans H9.out.2.1 (fun k hk e => by have := (own_lt HX.out.1 k e).1; omega)
        · have hy := dueTo_no HX.out.2.2.2.2.2.2 hdx
          have b1 : decide ((td : Int) ≤ x) = false := decide_eq_false hdx
          have HY := Lib.hid hy
          clear hy
          go_wp2_with (at_builtin; refine wpList_append_lies _ rfl _ _ _ rfl w2.heap.size 39 it _ 2 16 Tryd.underlying29 hit0 hit1 hit2 hit3 rfl (by omega) _ qr _ (by rfl) (own_alloc (own_only HC.out.1 HX.out.2.1) _) ⟨wc.heap.size, 0, none⟩ 1 1 [.int .i64 (ti : Int), .int .i64 (td : Int)] (by rfl) (by rfl) (World.news_of_block (cs := [Value.int .i64 (ti : Int), .int .i64 (td : Int)].toArray) (t := 39) (fr := (0, 0)) (heap_alloc_at' _ _ _ (by simp))) (by simp [Value.oneCell']) (by omega) (by simp only [maxLen]; omega) (by omega) (by simp; omega) (wc.heap.size + 1) (by simp) ?_; intro g9 cap9 w9 hown9 hgrow9 hat9 hlt9; have H9 := Lib.hid (And.intro hown9 (And.intro (grown_stay hgrow9) hat9)); clear hown9 hgrow9 hat9 hlt9)
          go_roundg (n - (i + 1))
          case measure => have := HX.out.2.2.2.1; omega
          case rel =>
            refine ⟨i + 1, Ad, some ⟨g9, 0, none⟩, cd, cap9, qd, qr + 1, by omega, rfl, by go_num, rfl, rfl, by rw [HY.out.1]; exact HX.out.2.2.2.2.1, by rw [HY.out.2, List.length_append, ← HX.out.2.2.2.2.2.1]; rfl, ?_, ?_, ?_⟩
            · rw [HY.out.1]
              exact own_stay H9.out.2.1 (own_alloc (own_only HC.out.1 HX.out.1) _) (fun g hg e => HC.out.2.2 g hg e)
            · rw [HY.out.2, List.flatMap_append]
              simpa [Tm.cells] using H9.out.1
            · exact ((HX.out.2.2.1.trans' HC.out.1).alloc _).trans H9.out.2.1 (fun k hk e => by have := (own_lt HX.out.2.1 k e).1; omega)
    · have HX := Lib.hid (And.intro hrd (And.intro hrr (And.intro hO (And.intro hqd hqr))))
      clear hrd hrr hO hk hqd hqr
      obtain rfl : i = n := by omega
      have hck := (H2.out.2.1.then HX.out.2.2.1)
      have hcn := cnext_any hck.ck hck.tabw
      by_cases h0 : i = 0
      · have hne : C.next = none := all_nil (by have := H2.out.2.2; omega)
        rw [hne] at hcn
        subst h0
        clear hne
        go_wp2_with fail
        refine (show Calls Tryd.prog 21 #[.pointer (some ⟨b, 0, none⟩)] wt fun e w' => e = .returned (.tuple #[.int .i64 0, .bool false]) ∧ Only wt w' from hcn).mono ?_
        clear hcn
        rintro e w5 ⟨rfl, hO5⟩
        have H5 := Lib.hid (And.intro hO5 (hck.then hO5))
        clear hO5 hck
        go_wp2_with fail
        have hrd5 := own_only H5.out.1 HX.out.1
        have hrr5 := own_only H5.out.1 HX.out.2.1
        have hw5 := own_only (HX.out.2.2.1.trans' H5.out.1) H2.out.1
        have hoff : ∀ g, w1.heap.size ≤ g → ¬ S1 g := fun g hg hs => by have := H1.out.ck.lt hs; omega
        have hz2 := hO2s
        have hcn := H1.out.ck.ok.now
        by_cases hx : x < C.now ∨ x > maxT
        · have ha := adve_any H5.out.2.ck H5.out.2.tabw H5.out.2.g x
          have e : C.adve x = (C, [], 2) := by unfold Ck.adve; rw [if_pos hx]
          rw [e] at ha
          clear e
          refine ha.mono ?_
          clear ha
          rintro e w6 ⟨v6, rfl, S6, hr6, hC6, hS6, hst6, _⟩
          obtain ⟨A6, c6, rfl⟩ := own_shape hr6
          have hw6 := own_stay hst6 hw5 (fun g hg => hoff g (own_lt hw5 g hg).1)
          have H6 := Lib.hid (And.intro (H5.out.2.next hC6 hS6 hst6) hw6)
          clear hr6 hC6 hS6 hst6 hw6 hrd5 hrr5 hw5 hoff hx hcn
          go_wp2_with fail
          refine (lall_any H6.out.1.ck).mono ?_
          rintro e w7 ⟨v7, rfl, hr7, hO7⟩
          obtain ⟨A7, c7, rfl⟩ := own_shape hr7
          have hw7 := own_only hO7 H6.out.2
          have hq : 0 = C.all.length := H2.out.2.2
          rw [← hq] at hr7 ⊢
          have H7 := Lib.hid (And.intro (H6.out.1.then hO7) (And.intro hr7 hw7))
          clear hr7 hO7 hw7 hq
          go_wp2_with fail
          have heq := eqT_own (xs := C.all) (ys := C.all) (v := .slice A7 0 c7) (u := .slice Aw 0 cw) (base := w6.heap.size) (base' := w1.heap.size) (by rw [← H2.out.2.2]; exact H7.out.2.1) (by rw [← H2.out.2.2]; exact H7.out.2.2)
          rw [decide_eq_true (rfl : C.all = C.all)] at heq
          refine heq.mono ?_
          clear heq
          rintro e w8 ⟨rfl, hO8⟩
          have H8 := Lib.hid (H7.out.1.then hO8)
          clear hO8
          go_wp2_with fail
          refine (awake_any _ H8.out.tabw).mono ?_
          rintro e w9 ⟨rfl, hO9⟩
          have H9 := Lib.hid (H8.out.only.trans' hO9)
          clear hO9
          go_wp2_with fail
          go_ret
          exact ⟨rfl, H9.out⟩
        · have e : C.adve x = (C.adv x.toNat, C.dues x.toNat, 0) := by unfold Ck.adve; rw [if_neg hx]
          have ha := adve_any H5.out.2.ck H5.out.2.tabw H5.out.2.g x
          rw [e] at ha
          clear e
          have hx0 : 0 ≤ x := by omega
          have hdt := dueTo_all C hx0
          rw [← H2.out.2.2] at hdt
          refine ha.mono ?_
          clear ha
          rintro e w6 ⟨v6, rfl, S6, hr6, hC6, hS6, hst6, hn6⟩
          obtain ⟨A6, c6, rfl⟩ := own_shape hr6
          have hq1 := HX.out.2.2.2.1
          have hq2 := HX.out.2.2.2.2
          rw [hdt.1] at hq1 hrd5
          rw [hdt.2] at hq2 hrr5
          have hrd6 := own_stay hst6 hrd5 (fun g hg => hoff g (Nat.le_trans hz2 (own_lt hrd5 g hg).1))
          have hrr6 := own_stay hst6 hrr5 (fun g hg => hoff g (Nat.le_trans hz2 (own_lt hrr5 g hg).1))
          rw [← hq1] at hr6 ⊢
          have hnow : (C.adv x.toNat).now = x.toNat := rfl
          obtain ⟨X, hX⟩ : ∃ X, X = C.dues x.toNat := ⟨_, rfl⟩
          obtain ⟨D, hD⟩ : ∃ D, D = C.adv x.toNat := ⟨_, rfl⟩
          rw [← hX] at hr6 hrd6 hq1
          rw [← hD] at hC6 hrr6 hq2 hnow
          have H6 := Lib.hid (And.intro (H5.out.2.next hC6 hS6 hst6) (And.intro hr6 (And.intro hrd6 (And.intro hrr6 (And.intro hq1 (And.intro hq2 hnow))))))
          clear hr6 hC6 hS6 hst6 hn6 hrd6 hrr6 hq1 hq2 hrd5 hrr5 hw5 hoff hdt hX hD hnow
          go_wp2_with fail
          have heq : Calls Tryd.prog 22 #[.slice A6 qd c6, .slice Ad qd cd] w6 fun e w' => e = .returned (.bool true) ∧ Only w6 w' := by
            have h1 := H6.out.2.1
            have h2 := H6.out.2.2.1
            rw [H6.out.2.2.2.2.1] at h1 h2 ⊢
            have := eqI_any w6 A6 Ad c6 cd X X (own_sl h1 (Stay.refl _ _)) (own_sl h2 (Stay.refl _ _))
            rw [beq_self_eq_true] at this
            exact this
          refine heq.mono ?_
          clear heq
          rintro e w7 ⟨rfl, hO7⟩
          have H7 := Lib.hid (And.intro (H6.out.1.then hO7) hO7)
          clear hO7
          go_wp2_with fail
          refine (lall_any H7.out.1.ck).mono ?_
          rintro e w8 ⟨v8, rfl, hr8, hO8⟩
          obtain ⟨A8, c8, rfl⟩ := own_shape hr8
          have hrr8 := own_only (H7.out.2.trans' hO8) H6.out.2.2.2.1
          have hq2 := H6.out.2.2.2.2.2.1
          rw [← hq2] at hr8 ⊢
          have H8 := Lib.hid (And.intro (H7.out.1.then hO8) (And.intro hr8 hrr8))
          clear hr8 hO8 hrr8 hq2
          go_wp2_with fail
          have heq := eqT_own (xs := D.all) (ys := D.all) (v := .slice A8 qr c8) (u := .slice Ar qr cr) (base := w7.heap.size) (base' := w2.heap.size) (by rw [← H6.out.2.2.2.2.2.1]; exact H8.out.2.1) (by rw [← H6.out.2.2.2.2.2.1]; exact H8.out.2.2)
          rw [decide_eq_true (rfl : D.all = D.all)] at heq
          refine heq.mono ?_
          clear heq
          rintro e w9 ⟨rfl, hO9⟩
          have H9 := Lib.hid (H8.out.1.then hO9)
          clear hO9
          go_wp2_with fail
          have hnw := now_any H9.out.ck
          rw [H6.out.2.2.2.2.2.2, Int.toNat_of_nonneg hx0] at hnw
          refine hnw.mono ?_
          clear hnw
          rintro e w10 ⟨rfl, hO10⟩
          have bx : (x == x) = true := by simp
          have H10 := Lib.hid (H9.out.then hO10)
          clear hO10
          go_wp2_with fail
          refine (awake_any _ H10.out.tabw).mono ?_
          rintro e w11 ⟨rfl, hO11⟩
          have H11 := Lib.hid (H10.out.only.trans' hO11)
          clear hO11
          go_wp2_with fail
          go_ret
          exact ⟨rfl, H11.out⟩
      · obtain ⟨t0, ht0⟩ : ∃ t, C.all[0]? = some t := ⟨_, List.getElem?_eq_getElem (by have := H2.out.2.2; omega)⟩
        have hne := all_next ht0
        rw [hne] at hcn
        obtain ⟨g, c2, e1, _, hg⟩ := H2.out.1.form (by omega)
        have e1' : Aw = some ⟨g, 0, none⟩ ∧ cw = c2 := by simpa using e1
        obtain ⟨rfl, rfl⟩ := e1'
        obtain ⟨z0, z1⟩ := row_cells (owns_base (own_only HX.out.2.2.1 H2.out.1) (Nat.zero_le _)) (by have := H2.out.2.2; omega) ht0
        obtain ⟨d0, hd0⟩ : ∃ d : Int, d = t0.due := ⟨_, rfl⟩
        rw [← hd0] at z1
        have hcn2 : Calls Tryd.prog 21 #[.pointer (some ⟨b, 0, none⟩)] wt fun e w' => e = .returned (.tuple #[.int .i64 d0, .bool true]) ∧ Only wt w' := by rw [hd0]; exact hcn
        have hgt : g < wt.heap.size := Nat.lt_of_lt_of_le hg HX.out.2.2.1.size
        have u1 : (0 : Int) < (i : Int) := by omega
        have u2 : (i : Int) > 0 := by omega
        have u3 : decide ((i : Int) > 0) = true := decide_eq_true u2
        have u4 : (d0 != d0) = false := by simp
        simp only [Nat.zero_mul, Nat.zero_add] at z0 z1
        clear hne hcn ht0 hd0 e1 z0
        go_wp2_with fail
        refine hcn2.mono ?_
        clear hcn2
        rintro e w5 ⟨rfl, hO5⟩
        have z15 := hO5.cell z1
        have hg5 : g < w5.heap.size := Nat.lt_of_lt_of_le hgt hO5.size
        have H5 := Lib.hid (And.intro hO5 (hck.then hO5))
        clear hO5 hck z1
        go_wp2_with fail
        have hrd5 := own_only H5.out.1 HX.out.1
        have hrr5 := own_only H5.out.1 HX.out.2.1
        have hw5 := own_only (HX.out.2.2.1.trans' H5.out.1) H2.out.1
        have hoff : ∀ g, w1.heap.size ≤ g → ¬ S1 g := fun g hg hs => by have := H1.out.ck.lt hs; omega
        have hz2 := hO2s
        have hcn := H1.out.ck.ok.now
        by_cases hx : x < C.now ∨ x > maxT
        · have ha := adve_any H5.out.2.ck H5.out.2.tabw H5.out.2.g x
          have e : C.adve x = (C, [], 2) := by unfold Ck.adve; rw [if_pos hx]
          rw [e] at ha
          clear e
          refine ha.mono ?_
          clear ha
          rintro e w6 ⟨v6, rfl, S6, hr6, hC6, hS6, hst6, _⟩
          obtain ⟨A6, c6, rfl⟩ := own_shape hr6
          have hw6 := own_stay hst6 hw5 (fun g hg => hoff g (own_lt hw5 g hg).1)
          have H6 := Lib.hid (And.intro (H5.out.2.next hC6 hS6 hst6) hw6)
          clear hr6 hC6 hS6 hst6 hw6 hrd5 hrr5 hw5 hoff hx hcn
          go_wp2_with fail
          refine (lall_any H6.out.1.ck).mono ?_
          rintro e w7 ⟨v7, rfl, hr7, hO7⟩
          obtain ⟨A7, c7, rfl⟩ := own_shape hr7
          have hw7 := own_only hO7 H6.out.2
          have hq : i = C.all.length := H2.out.2.2
          rw [← hq] at hr7 ⊢
          have H7 := Lib.hid (And.intro (H6.out.1.then hO7) (And.intro hr7 hw7))
          clear hr7 hO7 hw7 hq
          go_wp2_with fail
          have heq := eqT_own (xs := C.all) (ys := C.all) (v := .slice A7 i c7) (u := .slice (some ⟨g, 0, none⟩) i cw) (base := w6.heap.size) (base' := w1.heap.size) (by rw [← H2.out.2.2]; exact H7.out.2.1) (by rw [← H2.out.2.2]; exact H7.out.2.2)
          rw [decide_eq_true (rfl : C.all = C.all)] at heq
          refine heq.mono ?_
          clear heq
          rintro e w8 ⟨rfl, hO8⟩
          have H8 := Lib.hid (H7.out.1.then hO8)
          clear hO8
          go_wp2_with fail
          refine (awake_any _ H8.out.tabw).mono ?_
          rintro e w9 ⟨rfl, hO9⟩
          have H9 := Lib.hid (H8.out.only.trans' hO9)
          clear hO9
          go_wp2_with fail
          go_ret
          exact ⟨rfl, H9.out⟩
        · have e : C.adve x = (C.adv x.toNat, C.dues x.toNat, 0) := by unfold Ck.adve; rw [if_neg hx]
          have ha := adve_any H5.out.2.ck H5.out.2.tabw H5.out.2.g x
          rw [e] at ha
          clear e
          have hx0 : 0 ≤ x := by omega
          have hdt := dueTo_all C hx0
          rw [← H2.out.2.2] at hdt
          refine ha.mono ?_
          clear ha
          rintro e w6 ⟨v6, rfl, S6, hr6, hC6, hS6, hst6, hn6⟩
          obtain ⟨A6, c6, rfl⟩ := own_shape hr6
          have hq1 := HX.out.2.2.2.1
          have hq2 := HX.out.2.2.2.2
          rw [hdt.1] at hq1 hrd5
          rw [hdt.2] at hq2 hrr5
          have hrd6 := own_stay hst6 hrd5 (fun g hg => hoff g (Nat.le_trans hz2 (own_lt hrd5 g hg).1))
          have hrr6 := own_stay hst6 hrr5 (fun g hg => hoff g (Nat.le_trans hz2 (own_lt hrr5 g hg).1))
          rw [← hq1] at hr6 ⊢
          have hnow : (C.adv x.toNat).now = x.toNat := rfl
          obtain ⟨X, hX⟩ : ∃ X, X = C.dues x.toNat := ⟨_, rfl⟩
          obtain ⟨D, hD⟩ : ∃ D, D = C.adv x.toNat := ⟨_, rfl⟩
          rw [← hX] at hr6 hrd6 hq1
          rw [← hD] at hC6 hrr6 hq2 hnow
          have H6 := Lib.hid (And.intro (H5.out.2.next hC6 hS6 hst6) (And.intro hr6 (And.intro hrd6 (And.intro hrr6 (And.intro hq1 (And.intro hq2 hnow))))))
          clear hr6 hC6 hS6 hst6 hn6 hrd6 hrr6 hq1 hq2 hrd5 hrr5 hw5 hoff hdt hX hD hnow
          go_wp2_with fail
          have heq : Calls Tryd.prog 22 #[.slice A6 qd c6, .slice Ad qd cd] w6 fun e w' => e = .returned (.bool true) ∧ Only w6 w' := by
            have h1 := H6.out.2.1
            have h2 := H6.out.2.2.1
            rw [H6.out.2.2.2.2.1] at h1 h2 ⊢
            have := eqI_any w6 A6 Ad c6 cd X X (own_sl h1 (Stay.refl _ _)) (own_sl h2 (Stay.refl _ _))
            rw [beq_self_eq_true] at this
            exact this
          refine heq.mono ?_
          clear heq
          rintro e w7 ⟨rfl, hO7⟩
          have H7 := Lib.hid (And.intro (H6.out.1.then hO7) hO7)
          clear hO7
          go_wp2_with fail
          refine (lall_any H7.out.1.ck).mono ?_
          rintro e w8 ⟨v8, rfl, hr8, hO8⟩
          obtain ⟨A8, c8, rfl⟩ := own_shape hr8
          have hrr8 := own_only (H7.out.2.trans' hO8) H6.out.2.2.2.1
          have hq2 := H6.out.2.2.2.2.2.1
          rw [← hq2] at hr8 ⊢
          have H8 := Lib.hid (And.intro (H7.out.1.then hO8) (And.intro hr8 hrr8))
          clear hr8 hO8 hrr8 hq2
          go_wp2_with fail
          have heq := eqT_own (xs := D.all) (ys := D.all) (v := .slice A8 qr c8) (u := .slice Ar qr cr) (base := w7.heap.size) (base' := w2.heap.size) (by rw [← H6.out.2.2.2.2.2.1]; exact H8.out.2.1) (by rw [← H6.out.2.2.2.2.2.1]; exact H8.out.2.2)
          rw [decide_eq_true (rfl : D.all = D.all)] at heq
          refine heq.mono ?_
          clear heq
          rintro e w9 ⟨rfl, hO9⟩
          have H9 := Lib.hid (H8.out.1.then hO9)
          clear hO9
          go_wp2_with fail
          have hnw := now_any H9.out.ck
          rw [H6.out.2.2.2.2.2.2, Int.toNat_of_nonneg hx0] at hnw
          refine hnw.mono ?_
          clear hnw
          rintro e w10 ⟨rfl, hO10⟩
          have bx : (x == x) = true := by simp
          have H10 := Lib.hid (H9.out.then hO10)
          clear hO10
          go_wp2_with fail
          refine (awake_any _ H10.out.tabw).mono ?_
          rintro e w11 ⟨rfl, hO11⟩
          have H11 := Lib.hid (H10.out.only.trans' hO11)
          clear hO11
          go_wp2_with fail
          go_ret
          exact ⟨rfl, H11.out⟩
end Go.Proofs.YtbkbcpnpbfnmgaaDoor
