/- ClockUndone walked. -/
import Derived.Test.YtbkbcpnpbfnmgaaDoorLawOuts
set_option linter.unusedVariables false
set_option linter.unusedSimpArgs false
namespace Go.Proofs.YtbkbcpnpbfnmgaaDoor
open Go Go.RowKit

set_option maxRecDepth 100000 in
set_option maxHeartbeats 4000000 in
theorem clockUndone_any (w : World) (hT : Tab w) (A : Option Addr) (n ca : Nat) (ops : List KOp) (hl : Sl w w.heap.size A n ca 2 (ops.flatMap KOp.cells)) (hlen : ops.length = n)
    (A' : Option Addr) (n' ca' : Nat) (xs : List Int) (hl' : Sl w w.heap.size A' n' ca' 1 (ints xs)) (hlen' : xs.length = n') :
    Calls Tryd.prog 8 #[.slice A n ca, .slice A' n' ca'] w fun e w' => e = .returned (.bool true) ∧ Only w w' := by
  have hnc := hl'.2.1
  have hcm := hl'.2.2.1
  have hma := made_any w hT A n ca ops hl hlen
  obtain ⟨C, hC⟩ : ∃ C, C = Ck.new.runs (ops.take 60) := ⟨_, rfl⟩
  have hm60 : C.made ≤ 60 := by
    have h1 := (Ck.runs_ok (ops.take 60) Ck.new_ok (by have : (ops.take 60).length ≤ 60 := (by rw [List.length_take]; omega); simp [Ck.new, maxT]; omega)).2
    have : (ops.take 60).length ≤ 60 := by rw [List.length_take]; omega
    rw [hC]
    simp only [Ck.new] at h1 ⊢
    omega
  rw [← hC] at hma
  have HL := Lib.hid (And.intro hl' (And.intro hlen' hm60))
  clear hl hlen hl' hlen' hm60 hC
  have HM := Lib.hid hma
  clear hma
  obtain ⟨ii, hii0, hii1, hii2, hii3⟩ := info_parts infoI
  go_enter Tryd.func8, Tryd.ntmps8
  go_wp2_with fail
  refine HM.out.mono ?_
  clear HM
  rintro e w1 ⟨b, S1, rfl, hOC1⟩
  have H1 := Lib.hid hOC1
  clear hOC1
  go_wp2_with fail
  refine (copy_any H1.out.ck).mono ?_
  rintro e w2 ⟨d, rfl, hD2, hO2⟩
  have H2 : Hid (OC w1 w2 (From w1.heap.size w2) d C ∧ Only w1 w2) := Lib.hid ⟨⟨hD2, fun k hk => hk.1, hO2, H1.out.tabw⟩, hO2⟩
  clear hD2 hO2
  go_upto_region 2 with fail
  obtain ⟨m, hm⟩ : ∃ m, m = min n' 20 := ⟨_, rfl⟩
  have e0 : min (n' : Int) 20 = (m : Int) := by omega
  have e1 : max (m : Int) 0 = (m : Int) := by omega
  rw [e0, Int.toNat_natCast, e1]
  have hmn : m ≤ n' := by omega
  have hm30 : m ≤ 20 := by omega
  have hmc : m ≤ ca' := by omega
  clear hm e0 e1
  go_loopg [7, 28] m (fun kk vo vj wr => ∃ (j : Nat) (S : Nat → Prop) (l : List Tm) (q : Nat) (Ao : Option Addr) (co : Nat), j ≤ m ∧ kk = m - j ∧ vj = .int .i64 (j : Nat) ∧ vo = .slice Ao q co ∧ q = l.length ∧ q ≤ j ∧ Nums C.made l ∧
    Outs w wr S b (C.armed l) w2.heap.size (.slice Ao q co) (l.map Tm.z) ∧ (∀ k, S k → S1 k ∨ w2.heap.size ≤ k) ∧ CkAt wr (From w1.heap.size w2) d C ∧ w2.heap.size ≤ wr.heap.size)
  case atStart => exact ⟨0, _, [], 0, none, 0, Nat.zero_le _, rfl, rfl, rfl, rfl, Nat.le_refl _, fun i t h => by simp at h, ⟨by rw [Ck.armed_nil]; exact H1.out.then H2.out.2, World.ownsRow_nil _ _ _ _, fun g hg => by simp [Value.ownBlock] at hg⟩, fun k hk => .inl hk, H2.out.1.ck, Nat.le_refl _⟩
  case round =>
    obtain ⟨j, S, l, q, Ao, co, hj, hk, rfl, rfl, hq, hqj, hnum, hO, hSk, hD, hz2⟩ := hrel
    obtain ⟨wt, hwt⟩ : ∃ wt, wt = wr := ⟨_, rfl⟩
    rw [← hwt] at hO hD hz2 ⊢
    clear hwt
    by_cases hjm : j < m
    · have hn0 := HL.out.2.1
      have hsl := HL.out.1.only hO.oc.only
      rw [← hn0] at hsl
      obtain ⟨ab, ao, rfl, hab, hcells⟩ := hsl.ints_at (by omega)
      have g0 := hcells j (by omega)
      obtain ⟨x, hx⟩ : ∃ x, x = xs.getD j 0 := ⟨_, rfl⟩
      rw [← hx] at g0
      have hmade : (C.armed l).made < maxT := by
        have := HL.out.2.2
        simp only [Ck.armed, maxT]
        omega
      have hHX := hO
      have HX := Lib.hid (And.intro hO (And.intro hk (And.intro hq (And.intro hqj (And.intro hnum (And.intro hSk (And.intro hD (And.intro hz2 hmade))))))))
      clear hO hk hq hnum hSk hD hcells hx hsl hn0 hmade hHX
      go_wp2_with fail
      have ha := arme_any HX.out.1.oc.ck HX.out.2.2.2.2.2.2.2.2 x
      have hsep : ∀ g, w1.heap.size ≤ g → g < w2.heap.size → ¬ S g := fun g hg hg7 e => by
        rcases HX.out.2.2.2.2.2.1 g e with e | e
        · have := H1.out.ck.lt e; omega
        · omega
      by_cases hc : (C.armed l).arme x = (C.armed l, 0, 2) ∨ (C.armed l).arme x = (C.armed l, 0, 5)
      · obtain ⟨er, her, he⟩ : ∃ er : Int, (er == 0) = false ∧ (C.armed l).arme x = (C.armed l, 0, er) := by
          rcases hc with he | he
          · exact ⟨2, rfl, he⟩
          · exact ⟨5, rfl, he⟩
        rw [he] at ha
        clear hc he
        refine ha.mono ?_
        clear ha
        rintro e w3 ⟨rfl, hthen⟩
        obtain ⟨S3, hO3, hS3, hst3⟩ := HX.out.1.turn hthen
        simp only
        have H3 := Lib.hid (And.intro hO3 (And.intro hS3 hst3))
        have HS := Lib.hid hsep
        clear hthen hO3 hS3 hst3 hsep
        go_wp2_with fail
        go_roundg (m - (j + 1))
        case measure => have := HX.out.2.1; omega
        case rel =>
          refine ⟨j + 1, S3, l, q, Ao, co, by omega, rfl, by go_num, rfl, HX.out.2.2.1, by omega, HX.out.2.2.2.2.1, H3.out.1, fun k hk => ?_, HX.out.2.2.2.2.2.2.1.stay H3.out.2.2 (fun k hk => HS.out k hk.1 hk.2), ?_⟩
          · rcases H3.out.2.1 k hk with e | e
            · exact HX.out.2.2.2.2.2.1 k e
            · have := HX.out.2.2.2.2.2.2.2.1; exact .inr (by omega)
          · have := HX.out.2.2.2.2.2.2.2.1; have := H3.out.2.2.size; omega
      · have he : (C.armed l).arme x = ((C.armed l).arm x.toNat, ((C.armed l).made : Int) + 1, 0) := by
          unfold Ck.arme at hc ⊢
          split
          · rename_i h; rw [if_pos h] at hc; exact absurd (.inl rfl) hc
          · rename_i h
            rw [if_neg h] at hc
            split
            · rename_i h'; rw [if_pos h'] at hc; exact absurd (.inr rfl) hc
            · rfl
        rw [he] at ha
        have hmd : (C.armed l).made = C.made + q := by rw [HX.out.2.2.1]; rfl
        have hlq : (C.made : Int) + l.length + 1 = (C.made : Int) + q + 1 := by rw [HX.out.2.2.1]
        rw [hmd, Ck.arm_armed] at ha
        obtain ⟨y, hy⟩ : ∃ y : Int, y = ((C.made + q : Nat) : Int) + 1 := ⟨_, rfl⟩
        rw [← hy] at ha
        have HY := Lib.hid hy
        clear hc he hmd hlq hy
        refine ha.mono ?_
        clear ha
        rintro e w3 ⟨rfl, hthen⟩
        obtain ⟨S3, hO3, hS3, hst3⟩ := HX.out.1.turn hthen
        simp only
        have H3 := Lib.hid (And.intro hO3 (And.intro hS3 hst3))
        have HS := Lib.hid hsep
        have hrow := hO3.row
        rw [List.length_map, ← HX.out.2.2.1] at hrow
        have HR := Lib.hid hrow
        have hz3 := hst3.size
        have hz23 : w2.heap.size ≤ w3.heap.size := Nat.le_trans HX.out.2.2.2.2.2.2.2.1 hz3
        clear hthen hO3 hS3 hst3 hrow hz3 hsep
        go_wp2_with (at_builtin; refine wpList_append_lies _ rfl _ _ _ rfl w2.heap.size 3 ii _ 1 8 Tryd.underlying42 hii0 hii1 hii2 hii3 rfl (by omega) _ q _ (by rfl) (own_alloc HR.out _) ⟨w3.heap.size, 0, none⟩ 1 1 [.int .i64 y] (by rfl) (by rfl) (World.news_of_block (cs := [Value.int .i64 y].toArray) (t := 3) (fr := (0, 0)) (heap_alloc_at' _ _ _ (by simp))) (by simp [Value.oneCell']) (by omega) (by simp only [maxLen]; omega) (by omega) (by simp; omega) (w3.heap.size + 1) (by simp) ?_; intro g9 cap9 w9 hown9 hgrow9 hat9 hlt9; have H9 := Lib.hid (And.intro hown9 (And.intro (grown_stay hgrow9) hat9)); clear hown9 hgrow9 hat9 hlt9)
        obtain ⟨hO9, hst9⟩ := H3.out.1.app (k := [y]) (v' := .slice (some ⟨g9, 0, none⟩) (q + 1) cap9) ((Stay.refl _ w3).alloc _) (Nat.le_trans H1.out.only.size H2.out.2.size) (by rw [List.length_map, ← HX.out.2.2.1]; exact H9.out.1) H9.out.2.1 (fun g hg => by
          have e : g9 = g := by simpa [Value.ownBlock] using hg
          subst e
          rcases H9.out.2.2 with h | h
          · exact .inl h
          · exact .inr (by simp; omega))
        go_roundg (m - (j + 1))
        case measure => have := HX.out.2.1; omega
        case rel =>
          refine ⟨j + 1, S3, l ++ [⟨C.made + l.length + 1, x.toNat⟩], q + 1, _, cap9, by omega, rfl, by go_num, rfl, by rw [List.length_append, ← HX.out.2.2.1]; rfl, by omega, HX.out.2.2.2.2.1.snoc _, ?_, fun k hk => ?_, (HX.out.2.2.2.2.2.2.1.stay H3.out.2.2 (fun k hk => HS.out k hk.1 hk.2)).stay hst9 (fun k hk e => ?_), ?_⟩
          · have e : (l ++ [(⟨C.made + l.length + 1, x.toNat⟩ : Tm)]).map Tm.z = l.map Tm.z ++ [y] := by
              rw [List.map_append, HY.out, HX.out.2.2.1]
              simp [Tm.z]
            rw [e]
            exact hO9
          · rcases H3.out.2.1 k hk with e | e
            · exact HX.out.2.2.2.2.2.1 k e
            · have := HX.out.2.2.2.2.2.2.2.1; exact .inr (by omega)
          · have := (own_lt HR.out k e).1; have := hk.2; omega
          · have := hst9.size; omega
    · obtain rfl : j = m := by omega
      have HX := Lib.hid (And.intro hO (And.intro hq (And.intro hqj (And.intro hnum (And.intro hSk (And.intro hD hz2))))))
      clear hO hk hq hnum hSk hD hz2
      go_upto_region 2 with fail
      go_loopg [47] q (fun kk vi wr => ∃ (i : Nat) (S : Nat → Prop), i ≤ q ∧ kk = q - i ∧ vi = .int .i64 (i : Nat) ∧ Outs w wr S b ⟨C.now, C.made + q, C.ts ++ l.drop i⟩ w2.heap.size (.slice Ao q co) (l.map Tm.z) ∧ (∀ k, S k → S1 k ∨ w2.heap.size ≤ k) ∧ CkAt wr (From w1.heap.size w2) d C ∧ w2.heap.size ≤ wr.heap.size)
      case atStart => exact ⟨0, S, Nat.zero_le _, rfl, rfl, by have e : (⟨C.now, C.made + q, C.ts ++ l.drop 0⟩ : Ck) = C.armed l := (by rw [HX.out.2.1]; rfl); rw [e]; exact HX.out.1, HX.out.2.2.2.2.1, HX.out.2.2.2.2.2.1, HX.out.2.2.2.2.2.2⟩
      case round =>
        obtain ⟨i, Si, hi, hki, rfl, hO, hSk, hD, hz2⟩ := hrel
        obtain ⟨wq, hwq⟩ : ∃ wq, wq = wr := ⟨_, rfl⟩
        rw [← hwq] at hO hD hz2 ⊢
        clear hwq
        have hsep : ∀ (S : Nat → Prop), (∀ k, S k → S1 k ∨ w2.heap.size ≤ k) → ∀ g, w1.heap.size ≤ g → g < w2.heap.size → ¬ S g := fun S hS g hg hg7 e => by
          rcases hS g e with e | e
          · have := H1.out.ck.lt e; omega
          · omega
        have hmx : C.made + q < maxT := by
          have := HL.out.2.2
          simp only [maxT]
          omega
        by_cases hiq : i < q
        · obtain ⟨t, ht⟩ : ∃ t, l[i]? = some t := ⟨_, List.getElem?_eq_getElem (by have := HX.out.2.1; omega)⟩
          have hrw : wq.ownsRow w2.heap.size 3 1 (.slice Ao q co) q (ints (l.map Tm.z)) := by have := hO.row; rw [List.length_map, ← HX.out.2.1] at this; exact this
          obtain ⟨g, c2, e1, _, hg⟩ := hrw.form (by omega)
          have e1' : Ao = some ⟨g, 0, none⟩ ∧ co = c2 := by simpa using e1
          obtain ⟨rfl, rfl⟩ := e1'
          have hc0 := hrw.cellAt i (by omega)
          have z0 : wq.cell? ⟨g, i, none⟩ = some (.int .i64 t.id) := by
            rw [hc0]
            simp [ints, ht, Tm.z]
          obtain ⟨k, hk⟩ : ∃ k : Int, k = t.id := ⟨_, rfl⟩
          rw [← hk] at z0
          have h0 := dise_any hO.oc.ck k
          rw [hk, dise_drop H1.out.ck.ok HX.out.2.2.2.1 _ ht, ← hk] at h0
          have hgone := dise_gone H1.out.ck.ok HX.out.2.2.2.1 (C.made + q) ht
          rw [← hk] at hgone
          have HY := Lib.hid (And.intro hO (And.intro hSk (And.intro hD (And.intro hz2 (And.intro hki (And.intro h0 (And.intro hgone hsep)))))))
          clear hO hSk hD hz2 hki h0 hgone ht hk e1 hc0 hrw hsep
          go_wp2_with fail
          refine HY.out.2.2.2.2.2.1.mono ?_
          rintro e w3 ⟨rfl, hthen⟩
          obtain ⟨S3, hO3, hS3, hst3⟩ := HY.out.1.turn hthen
          have H3 := Lib.hid (And.intro hO3 (And.intro hS3 hst3))
          clear hthen hO3 hS3 hst3
          go_wp2_with fail
          have h1 := dise_any H3.out.1.oc.ck k
          rw [HY.out.2.2.2.2.2.2.1] at h1
          refine h1.mono ?_
          clear h1
          rintro e w4 ⟨rfl, hthen⟩
          obtain ⟨S4, hO4, hS4, hst4⟩ := H3.out.1.turn hthen
          have H4 := Lib.hid (And.intro hO4 (And.intro hS4 hst4))
          clear hthen hO4 hS4 hst4
          have hk3 : ∀ k, S3 k → S1 k ∨ w2.heap.size ≤ k := fun k hk => by
            rcases H3.out.2.1 k hk with e | e
            · exact HY.out.2.1 k e
            · have := HY.out.2.2.2.1; exact .inr (by omega)
          have HK := Lib.hid hk3
          clear hk3
          go_wp2_with fail
          go_roundg (q - (i + 1))
          case measure => have := HY.out.2.2.2.2.1; omega
          case rel =>
            refine ⟨i + 1, S4, by omega, rfl, by go_num, H4.out.1, fun k hk => ?_, (HY.out.2.2.1.stay H3.out.2.2 (fun k hk => HY.out.2.2.2.2.2.2.2 _ HY.out.2.1 k hk.1 hk.2)).stay H4.out.2.2 (fun k hk => HY.out.2.2.2.2.2.2.2 _ HK.out k hk.1 hk.2), ?_⟩
            · rcases H4.out.2.1 k hk with e | e
              · exact HK.out k e
              · have := HY.out.2.2.2.1; have := H3.out.2.2.size; exact .inr (by omega)
            · have := HY.out.2.2.2.1; have := H3.out.2.2.size; have := H4.out.2.2.size; omega
        · obtain rfl : i = q := by omega
          have hdr : l.drop i = [] := List.drop_of_length_le (by rw [HX.out.2.1]; exact Nat.le_refl _)
          rw [hdr, List.append_nil] at hO
          obtain ⟨E, hE⟩ : ∃ E, E = (⟨C.now, C.made + i, C.ts⟩ : Ck) := ⟨_, rfl⟩
          rw [← hE] at hO
          have hlike : E.like C = true := by rw [hE]; simp [Ck.like, Ck.all]
          have hEall : E.all.length = C.ts.length := by rw [hE]; exact tsort_length _
          have HY := Lib.hid (And.intro hO (And.intro hSk (And.intro hD (And.intro hz2 (And.intro hE (And.intro hlike (And.intro hEall (And.intro hsep hmx))))))))
          clear hO hSk hD hz2 hE hlike hEall hki hsep hdr hmx
          go_wp2_with fail
          refine (alike_any HY.out.1.oc.ck HY.out.2.2.1).mono ?_
          rw [HY.out.2.2.2.2.2.1]
          rintro e w3 ⟨rfl, hO3⟩
          have H3 := Lib.hid hO3
          clear hO3
          go_wp2_with fail
          refine (lall_any (HY.out.1.oc.ck.only H3.out)).mono ?_
          rintro e w4 ⟨v4, rfl, hr4, hO4⟩
          obtain ⟨A4, c4, rfl⟩ := own_shape hr4
          rw [HY.out.2.2.2.2.2.2.1]
          obtain ⟨nC, hnC⟩ : ∃ nC, nC = C.ts.length := ⟨_, rfl⟩
          rw [← hnC]
          have H4 := Lib.hid (And.intro (H3.out.trans' hO4) hnC)
          clear hr4 hO4 hnC
          by_cases h400 : nC = 400
          · have b0 : ((nC : Int) == 400) = true := by subst h400; rfl
            go_wp2_with fail
            refine (alike_any (HY.out.1.oc.ck.only H4.out.1) (HY.out.2.2.1.only H4.out.1)).mono ?_
            rw [HY.out.2.2.2.2.2.1]
            rintro e w5 ⟨rfl, hO5⟩
            have H5 := Lib.hid (H4.out.1.trans' hO5)
            clear hO5
            go_wp2_with fail
            refine (awake_any _ (HY.out.1.oc.then H5.out).tabw).mono ?_
            rintro e w10 ⟨rfl, hO10⟩
            have H10 := Lib.hid ((HY.out.1.oc.then H5.out).only.trans' hO10)
            clear hO10
            go_wp2_with fail
            go_ret
            exact ⟨rfl, H10.out⟩
          · have b0 : ((nC : Int) == 400) = false := by simp; omega
            go_wp2_with fail
            refine (now_any (HY.out.1.oc.ck.only H4.out.1)).mono ?_
            rintro e w5 ⟨rfl, hO5⟩
            have H5 := Lib.hid (H4.out.1.trans' hO5)
            clear hO5
            go_wp2_with fail
            have hcnow : C.now ≤ maxT := H1.out.ck.ok.now
            have ht4 : C.ts.length < 400 := by have := H1.out.ck.ok.len; have := H4.out.2; omega
            have hen : E.now = C.now := by rw [HY.out.2.2.2.2.1]
            have hem : E.made = C.made + i := by rw [HY.out.2.2.2.2.1]
            have ha := arme_any (HY.out.1.oc.ck.only H5.out) (by rw [hem]; exact HY.out.2.2.2.2.2.2.2.2) (E.now : Int)
            rw [Ck.arme_ok (Nat.le_refl _) (by rw [hen]; exact hcnow) (by rw [HY.out.2.2.2.2.1]; exact ht4), hem] at ha
            refine ha.mono ?_
            clear ha
            rintro e w6 ⟨rfl, S6, h6, hs6, hst6⟩
            have hOC6 := (HY.out.1.oc.then H5.out).next h6 hs6 hst6
            have hD6 := (HY.out.2.2.1.only H5.out).stay hst6 (fun k hk => HY.out.2.2.2.2.2.2.2.1 _ HY.out.2.1 k hk.1 hk.2)
            have hOD : OC w w6 (From w1.heap.size w2) d C := ⟨hD6, fun k hk => Nat.le_trans H1.out.only.size hk.1, hOC6.only, hOC6.tab⟩
            have H6 := Lib.hid hOD
            clear h6 hs6 hst6 hOC6 hD6 hOD
            go_wp2_with fail
            refine (now_any H6.out.ck).mono ?_
            rintro e w7 ⟨rfl, hO7⟩
            have H7 := Lib.hid (H6.out.then hO7)
            clear hO7
            go_wp2_with fail
            have ha := arme_any H7.out.ck (by have := HY.out.2.2.2.2.2.2.2.2; omega) (C.now : Int)
            rw [Ck.arme_ok (Nat.le_refl _) hcnow ht4] at ha
            refine ha.mono ?_
            clear ha
            rintro e w8 ⟨rfl, S8, h8, hs8, hst8⟩
            have H8 := Lib.hid (H7.out.next h8 hs8 hst8)
            clear h8 hs8 hst8
            have e9 : wrap64 ((C.made : Int) + 1 + (i : Int)) = ((C.made + i : Nat) : Int) + 1 := by
              have := HL.out.2.2
              unfold wrap64
              omega
            have b9 : ((((C.made + i : Nat) : Int) + 1) == (((C.made + i : Nat) : Int) + 1)) = true := by simp
            have HA : Hid (C.now ≤ maxT) := Lib.hid hcnow
            clear hcnow ht4 hen hem
            go_wp2_with fail
            refine (awake_any _ H8.out.tabw).mono ?_
            rintro e w10 ⟨rfl, hO10⟩
            have H10 := Lib.hid (H8.out.only.trans' hO10)
            clear hO10
            go_wp2_with fail
            go_ret
            exact ⟨rfl, H10.out⟩
end Go.Proofs.YtbkbcpnpbfnmgaaDoor
