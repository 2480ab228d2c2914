/- LedgerOnce: the walk. -/
import Derived.Test.YtgjicobfbdikmaaLedRun
import Derived.Test.YtgjicobfbdikmaaLedLaws
set_option linter.unusedVariables false
set_option linter.unusedSimpArgs false
namespace Go.Proofs.Ytgjicobfbdikmaa
open Go Go.RowKit

theorem tms_len (l : List Ent) : (tms l).length ≤ 2 * l.length := by
  induction l with
  | nil => simp [tms]
  | cons a l ih =>
    have e : tms (a :: l) = (a.fr :: (if a.to = 0 then [] else [a.to])) ++ tms l := rfl
    rw [e, List.length_append, List.length_cons, List.length_cons]
    split
    · simp only [List.length_nil]; omega
    · simp only [List.length_cons, List.length_nil]; omega
theorem tms_take {l : List Ent} {i : Nat} {e : Ent} (h : l[i]? = some e) : tms (l.take (i + 1)) = tms (l.take i) ++ (e.fr :: (if e.to = 0 then [] else [e.to])) := by
  rw [List.take_add_one, h, tms_append]
  simp [tms]

set_option maxRecDepth 100000 in
set_option maxHeartbeats 4000000 in
theorem ledgerOnce_any (w : World) (A : Option Addr) (n ca : Nat) (ops : List LOp) (hl : Sl w w.heap.size A n ca 3 (ops.flatMap LOp.cells)) (hlen : ops.length = n) :
    Calls Try.prog 4 #[.slice A n ca] w fun e w' => e = .returned (.bool true) ∧ Only w w' := by
  obtain ⟨ii, hii0, hii1, hii2, hii3⟩ := info_parts infoI
  have HL := Lib.hid (And.intro hl hlen)
  have hnc := hl.2.1
  have hcm := hl.2.2.1
  clear hl hlen
  go_enter Try.func4, Try.ntmps4
  go_wp2_with fail
  refine (ol_new w).mono ?_
  rintro e w1 ⟨rfl, h1⟩
  have H1 := Lib.hid h1
  clear h1
  unfold ptr
  go_upto_region 3 with fail
  go_cut [21, 22, 23] from 17 to 20 (fun a b i wc => ∃ m : Nat, m = min n 100 ∧ a = .slice A m ca ∧ b = .int .i64 (m : Nat) ∧ i = .int .i64 0 ∧ w1 = wc)
  case first =>
    go_wp2_with fail
    go_meet
    case rel => exact ⟨min n 100, rfl, congrArg (fun x => Value.slice A x ca) (by omega), congrArg (Value.int .i64) (by omega), rfl, rfl⟩
  case rest =>
    obtain ⟨m, hm, rfl, rfl, rfl, rfl⟩ := hcut
    have hmn : m ≤ n := by omega
    have hm100 : m ≤ 100 := by omega
    have hmc : m ≤ ca := by omega
    have HM := Lib.hid hm
    clear hm
    go_wp2_with fail
    go_loopg [4, 23] m (fun kk vs vj wr => ∃ (j : Nat) (S : Nat → Prop) (L : Lg), j ≤ m ∧ kk = m - j ∧ vj = .int .i64 (j : Nat) ∧ OL w S (w.heap.size + 1) L wr ∧ L.Inv ∧ wr.ownsRow w.heap.size 36 4 vs L.es.length (L.es.flatMap Ent.cells) ∧ ∀ g, vs.ownBlock = some g → ¬ S g)
    case atStart => exact ⟨0, _, _, Nat.zero_le _, rfl, rfl, H1.out, Lg.new_inv, World.ownsRow_nil _ _ _ _, fun g hg => by cases hg⟩
    case round =>
      obtain ⟨j, S, L, hj, hk, rfl, hOT, hI, hr, hsep⟩ := hrel
      obtain ⟨Aw, cw, rfl⟩ := own_shape hr
      obtain ⟨wq, rfl⟩ : ∃ wq : World, wq = wr := ⟨_, rfl⟩
      by_cases hlt : j < m
      · obtain ⟨o, ho⟩ : ∃ o, ops[j]? = some o := ⟨_, List.getElem?_eq_getElem (by have := HL.out.2; omega)⟩
        obtain ⟨ab, ao, rfl, hab, hcells⟩ := (HL.out.1.only hOT.only).elem LOp.cells_length ho (by omega)
        have g0 := hcells 0 _ rfl
        simp only [Nat.add_zero] at g0
        have g1 := hcells 1 _ rfl
        have g2 := hcells 2 _ rfl
        have HX := Lib.hid (And.intro hOT (And.intro hI (And.intro hk (And.intro hr hsep))))
        clear hOT hcells ho hk hI hr hsep
        go_wp2_with fail
        refine (run_any (HX.out.1.then ((Stay.refl (fun _ => False) _).alloc _)) o).mono ?_
        rintro e w2 ⟨rfl, hT2, hs2⟩
        have hI2 := HX.out.2.1.step o
        have hK := kept_step HX.out.2.1 o
        obtain ⟨L', hL'⟩ : ∃ L', L.step o = L' := ⟨_, rfl⟩
        rw [hL'] at hT2 hI2 hK
        have hwz : wq.heap.size + 1 ≤ w2.heap.size := by have := hs2.size; simpa using this
        have hr2 := own_stay hs2 (own_alloc HX.out.2.2.2.1 _) (fun g hg => HX.out.2.2.2.2 g hg)
        have HY := Lib.hid (And.intro hT2 (And.intro hI2 (And.intro hK hr2)))
        clear hT2 hs2 hI2 hK hL' hr2
        go_wp2_with fail
        refine (log_any w2 _ _ L' HY.out.1.at' HY.out.1.ok).mono ?_
        rintro e w3 ⟨vn, rfl, hr3, hO3⟩
        obtain ⟨An, cn, rfl⟩ := own_shape hr3
        have hs3 := own_sl' hr3
        have hs4 := own_sl HY.out.2.2.2 hO3
        have b1 : ¬ (L'.es.length : Int) < (L.es.length : Int) := by have := HY.out.2.2.1.len; omega
        have b2 : L.es.length ≤ 400 := by have := HY.out.2.2.1.len; have := HY.out.1.ok.n; omega
        have HZ := Lib.hid (And.intro hs3 (And.intro hs4 (And.intro hr3 hO3)))
        clear hs3 hs4 hr3 hO3
        go_wp2_with fail
        go_loopg [39] (L.es.length) (fun kk vi wr => ∃ (i : Nat), i ≤ L.es.length ∧ kk = L.es.length - i ∧ vi = .int .i64 (i : Nat) ∧ Only w3 wr)
        case atStart => exact ⟨0, Nat.zero_le _, rfl, rfl, Stay.refl _ _⟩
        case round =>
          obtain ⟨i, hi, hk2, rfl, hO4⟩ := hrel
          by_cases hlt2 : i < L.es.length
          · obtain ⟨x, hx⟩ : ∃ x, L.es[i]? = some x := ⟨_, List.getElem?_eq_getElem hlt2⟩
            obtain ⟨y, hy⟩ : ∃ y, L'.es[i]? = some y := ⟨_, List.getElem?_eq_getElem (by omega)⟩
            obtain ⟨xb, xo, rfl, hxb, hxc⟩ := (HZ.out.2.1.only hO4).elem Ent.cells_length hx (by omega)
            obtain ⟨yb, yo, rfl, hyb, hyc⟩ := (HZ.out.1.only hO4).elem Ent.cells_length hy (by omega)
            obtain ⟨k1, k2, k3, k4⟩ := HY.out.2.2.1.at' i x y hx hy
            obtain ⟨xw, xt, xf, xe⟩ := x
            obtain ⟨yw, yt, yf, ye⟩ := y
            simp only at k2 k3 k4
            subst k2 k3 k4
            have e0 := hxc 0 _ rfl
            have e1 := hxc 1 _ rfl
            have e2 := hxc 2 _ rfl
            have e3 := hxc 3 _ rfl
            have f0 := hyc 0 _ rfl
            have f1 := hyc 1 _ rfl
            have f2 := hyc 2 _ rfl
            have f3 := hyc 3 _ rfl
            simp only [Nat.add_zero] at e0 f0 e1 e2 e3 f1 f2 f3
            have u1 : (0 : Int) ≤ (i : Int) := by omega
            have u2 : (i : Int) < (L.es.length : Int) := by omega
            have u3 : (i : Int) < (L'.es.length : Int) := by omega
            have lxb : xb < wr.heap.size := Nat.lt_of_lt_of_le hxb hO4.size
            have lyb : yb < wr.heap.size := Nat.lt_of_lt_of_le hyb hO4.size
            have HI := Lib.hid (And.intro hk2 hO4)
            clear hxc hyc hx hy hk2 hO4 g0 g1 g2
            by_cases h0 : xe = 0
            · have b0 : (xe != 0) = false := by simp [h0]
              clear k1 h0
              go_wp2_with fail
              go_roundg (L.es.length - (i + 1))
              case measure => have := HI.out.1; omega
              case rel => exact ⟨i + 1, by omega, rfl, by go_num, (HI.out.2.alloc _).alloc _⟩
            · have hye : ye = xe := congrArg Ent.to (k1 h0)
              subst hye
              have b0 : (ye != 0) = true := by simp [h0]
              clear k1 h0
              go_wp2_with fail
              go_roundg (L.es.length - (i + 1))
              case measure => have := HI.out.1; omega
              case rel => exact ⟨i + 1, by omega, rfl, by go_num, (HI.out.2.alloc _).alloc _⟩
          · obtain rfl : i = L.es.length := by omega
            have HI := Lib.hid hO4
            clear hk2 hO4
            go_wp2_with fail
            go_roundg (m - (j + 1))
            case measure => have := HX.out.2.2.1; omega
            case rel =>
              have hz1 := HX.out.1.only.size
              refine ⟨j + 1, _, L', by omega, rfl, by go_num, HY.out.1.then (HZ.out.2.2.2.trans' HI.out), HY.out.2.1, own_only HI.out (owns_base HZ.out.2.2.1 (by omega)), fun g hg hk => ?_⟩
              have h1 := (own_lt HZ.out.2.2.1 g hg).1
              have h2 := HY.out.1.at'.lt g hk
              omega
      · obtain rfl : j = m := by omega
        have hs := own_sl' hr
        have b2 : L.es.length ≤ 400 := hI.ok.n
        have HX := Lib.hid (And.intro hOT (And.intro hI hs))
        have hzq := hOT.only.size
        clear hOT hI hs hk hr hsep
        go_wp2_with fail
        go_loopg [11, 82] (L.es.length) (fun kk vt vi wr => ∃ (i : Nat), i ≤ L.es.length ∧ kk = L.es.length - i ∧ vi = .int .i64 (i : Nat) ∧ wr.ownsRow wq.heap.size 3 1 vt (tms (L.es.take i)).length (ints (tms (L.es.take i))) ∧ Only wq wr)
        case atStart => exact ⟨0, Nat.zero_le _, rfl, rfl, World.ownsRow_nil _ _ _ _, Stay.refl _ _⟩
        case round =>
          obtain ⟨i, hi, hk2, rfl, hr4, hO4⟩ := hrel
          obtain ⟨At, ct, rfl⟩ := own_shape hr4
          obtain ⟨wz, rfl⟩ : ∃ wz : World, wz = wr := ⟨_, rfl⟩
          by_cases hlt2 : i < L.es.length
          · obtain ⟨x, hx⟩ : ∃ x, L.es[i]? = some x := ⟨_, List.getElem?_eq_getElem hlt2⟩
            obtain ⟨xb, xo, rfl, hxb, hxc⟩ := (HX.out.2.2.only hO4).elem Ent.cells_length hx (by omega)
            have e0 := hxc 0 _ rfl
            have e1 := hxc 1 _ rfl
            have e2 := hxc 2 _ rfl
            have e3 := hxc 3 _ rfl
            have hfl := HX.out.2.1.fl i x hx
            have htk := tms_take hx
            obtain ⟨xw, xt, xf, xe⟩ := x
            simp only [Nat.add_zero] at e0 e1 e2 e3
            simp only at hfl htk
            have u1 : (0 : Int) ≤ (i : Int) := by omega
            have u2 : (i : Int) < (L.es.length : Int) := by omega
            have lxb : xb < wz.heap.size := Nat.lt_of_lt_of_le hxb hO4.size
            have hz4 := hO4.size
            have ht8 : (tms (L.es.take i)).length ≤ 800 := by have := tms_len (L.es.take i); have : (L.es.take i).length ≤ 400 := by rw [List.length_take]; omega
                                                              omega
            obtain ⟨tl, htl⟩ : ∃ tl, tl = tms (L.es.take i) := ⟨_, rfl⟩
            rw [← htl] at hr4 htk ht8
            obtain ⟨q, hq⟩ : ∃ q, q = tl.length := ⟨_, rfl⟩
            rw [← htl, ← hq]
            rw [← hq] at hr4 ht8
            have HI := Lib.hid (And.intro hk2 (And.intro hO4 (And.intro hr4 (And.intro htk hq))))
            clear hxc hx hk2 hO4 hr4 htk htl hq
            by_cases h0 : xe = 0
            · have b0 : (xe != 0) = false := by simp [h0]
              have H0 := Lib.hid h0
              clear h0
              go_wp2_with (at_builtin; refine wpList_append_lies _ rfl _ _ _ rfl wq.heap.size 3 ii _ 1 8 Try.underlying37 hii0 hii1 hii2 hii3 rfl (by omega) _ q _ (by rfl) (own_alloc (own_alloc HI.out.2.2.1 _) _) ⟨wz.heap.size + 1, 0, none⟩ 1 1 [.int .i64 xf] (by rfl) (by rfl) (World.news_of_block (cs := [Value.int .i64 xf].toArray) (t := 3) (fr := (0, 0)) (heap_alloc_at' _ _ _ (by simp))) (by simp [Value.oneCell']) (by omega) (by simp only [maxLen]; omega) (by omega) (by simp; omega) (wz.heap.size + 2) (by simp) ?_; intro g8 cap8 w8 hown hgrow hat hlt2; have BX := (grown_stay hgrow).blk ((Blk.new wz [.int .i64 xw, .int .i64 xt, .int .i64 xf, .int .i64 xe] 36).alloc _) (fun e => by have := (own_lt HI.out.2.2.1 _ e).2; omega); have x8 := BX.cell; have lx8 := BX.lt; have HG8 := Lib.hid (And.intro hown (And.intro hgrow (And.intro hat BX))); clear hown hgrow hat hlt2 BX)
              have hx8 : Stay (fun j => (Value.slice At q ct).ownBlock = some j) wz w8 := (((Stay.refl _ wz).alloc _).alloc _).trans (grown_stay HG8.out.2.1) (fun _ _ h => h)
              go_roundg (L.es.length - (i + 1))
              case measure => have := HI.out.1; omega
              case rel =>
                refine ⟨i + 1, by omega, rfl, by go_num, ?_, HI.out.2.1.trans hx8 (fun k hk e => ?_)⟩
                · rw [HI.out.2.2.2.1, H0.out, if_pos rfl, List.length_append, ← HI.out.2.2.2.2]
                  have := HG8.out.1
                  simpa [ints] using this
                · have := (own_lt HI.out.2.2.1 k e).1
                  omega
            · have b0 : (xe != 0) = true := by simp [h0]
              have b9 : ¬ xe ≤ xf := by omega
              have H0 := Lib.hid h0
              clear h0
              go_upto_region 25 with (at_builtin; refine wpList_append_lies _ rfl _ _ _ rfl wq.heap.size 3 ii _ 1 8 Try.underlying37 hii0 hii1 hii2 hii3 rfl (by omega) _ q _ (by rfl) (own_alloc (own_alloc HI.out.2.2.1 _) _) ⟨wz.heap.size + 1, 0, none⟩ 1 1 [.int .i64 xf] (by rfl) (by rfl) (World.news_of_block (cs := [Value.int .i64 xf].toArray) (t := 3) (fr := (0, 0)) (heap_alloc_at' _ _ _ (by simp))) (by simp [Value.oneCell']) (by omega) (by simp only [maxLen]; omega) (by omega) (by simp; omega) (wz.heap.size + 2) (by simp) ?_; intro g8 cap8 w8 hown hgrow hat hlt2; have BX := (grown_stay hgrow).blk ((Blk.new wz [.int .i64 xw, .int .i64 xt, .int .i64 xf, .int .i64 xe] 36).alloc _) (fun e => by have := (own_lt HI.out.2.2.1 _ e).2; omega); have x8 := BX.cell; have lx8 := BX.lt; have HG8 := Lib.hid (And.intro hown (And.intro hgrow (And.intro hat BX))); clear hown hgrow hat hlt2 BX)
              go_wp2_with (at_builtin; refine wpList_append_lies _ rfl _ _ _ rfl wq.heap.size 3 ii _ 1 8 Try.underlying37 hii0 hii1 hii2 hii3 rfl (by omega) _ (q + 1) _ (by rfl) (own_alloc HG8.out.1 _) ⟨w8.heap.size, 0, none⟩ 1 1 [.int .i64 xe] (by rfl) (by rfl) (World.news_of_block (cs := [Value.int .i64 xe].toArray) (t := 3) (fr := (0, 0)) (heap_alloc_at' _ _ _ (by simp))) (by simp [Value.oneCell']) (by omega) (by simp only [maxLen]; omega) (by omega) (by simp; omega) (w8.heap.size + 1) (by simp) ?_; intro g9 cap9 w9 hown hgrow hat hlt2; have BX := (grown_stay hgrow).blk (HG8.out.2.2.2.alloc _) (fun e => own_ne_blk HG8.out.1 HG8.out.2.2.2 (by decide) _ e rfl); have x9 := BX.cell; have lx9 := BX.lt; have HG9 := Lib.hid (And.intro hown (And.intro hgrow (And.intro hat BX))); clear hown hgrow hat hlt2 BX x8 lx8)
              have hx8 : Stay (fun j => (Value.slice At q ct).ownBlock = some j) wz w8 := (((Stay.refl _ wz).alloc _).alloc _).trans (grown_stay HG8.out.2.1) (fun _ _ h => h)
              have hx9 : Stay (fun j => (Value.slice (some ⟨g8, 0, none⟩) (q + 1) cap8).ownBlock = some j) w8 w9 := ((Stay.refl _ w8).alloc _).trans (grown_stay HG9.out.2.1) (fun _ _ h => h)
              go_roundg (L.es.length - (i + 1))
              case measure => have := HI.out.1; omega
              case rel =>
                refine ⟨i + 1, by omega, rfl, by go_num, ?_, (HI.out.2.1.trans hx8 (fun k hk e => ?_)).trans hx9 (fun k hk e => ?_)⟩
                · rw [HI.out.2.2.2.1, if_neg H0.out, List.length_append, ← HI.out.2.2.2.2]
                  have := HG9.out.1
                  simpa [ints] using this
                · have := (own_lt HI.out.2.2.1 k e).1
                  omega
                · have := (own_lt HG8.out.1 k e).1
                  omega
          · obtain rfl : i = L.es.length := by omega
            rw [List.take_length] at hr4
            have ht8 : (tms L.es).length ≤ 800 := by have := tms_len L.es; omega
            have HI := Lib.hid (And.intro hO4 hr4)
            clear hk2 hO4 hr4
            rw [List.take_length]
            go_upto_region 29 with fail
            go_wp2_with fail
            refine (sortI_any wz wq.heap.size (.slice At (tms L.es).length ct) (tms L.es) HI.out.2 (by omega)).mono ?_
            rintro e w5 ⟨rfl, hr5, hx5⟩
            rw [tms_srt HX.out.2.1.toCore] at hr5
            have hO5 : Only wq w5 := HI.out.1.trans hx5 (fun k hk e => by have := (own_lt HI.out.2 k e).1; omega)
            obtain ⟨q, hq⟩ : ∃ q, q = (tms L.es).length := ⟨_, rfl⟩
            rw [← hq] at hr5 ht8 ⊢
            have hs5 := own_sl' hr5
            have H5 := Lib.hid (And.intro hO5 hs5)
            have hq1 : (ticks L.time).length = q := by simpa [ints] using hs5.1
            clear hr5 hx5 hO5 hs5 hq
            go_wp2_with fail
            go_loopg [114] q (fun kk vi wr => ∃ (i : Nat), i ≤ q ∧ kk = q - i ∧ vi = .int .i64 (i : Nat) ∧ Only w5 wr)
            case atStart => exact ⟨0, Nat.zero_le _, rfl, rfl, Stay.refl _ _⟩
            case round =>
              obtain ⟨i, hi, hk2, rfl, hO6⟩ := hrel
              by_cases hlt2 : i < q
              · obtain ⟨x, hx⟩ : ∃ x, (ticks L.time)[i]? = some x := ⟨_, List.getElem?_eq_getElem (by omega)⟩
                obtain rfl := ticks_get _ _ _ hx
                obtain ⟨tb, tof, rfl, htb, htc⟩ := (H5.out.2.only hO6).2.2.2.2 (by omega)
                have e0 := htc i (.int .i64 ((i : Int) + 1)) (by unfold ints; rw [List.getElem?_map, hx]; rfl)
                have u1 : (0 : Int) ≤ (i : Int) := by omega
                have u2 : (i : Int) < (q : Int) := by omega
                have HZ := Lib.hid (And.intro hk2 hO6)
                clear hk2 hO6 hx htc
                go_wp2_with fail
                go_roundg (q - (i + 1))
                case measure => have := HZ.out.1; omega
                case rel => exact ⟨i + 1, by omega, rfl, by go_num, HZ.out.2⟩
              · obtain rfl : i = q := by omega
                have HZ := Lib.hid ((HX.out.1.only.trans' H5.out.1).trans' hO6)
                clear hk2 hO6
                go_wp2_with fail
                refine (awake_any wr).mono ?_
                rintro e w7 ⟨rfl, o7⟩
                have H7 := Lib.hid (HZ.out.trans' o7)
                clear o7
                go_wp2_with fail
                go_ret
                exact ⟨rfl, H7.out⟩

end Go.Proofs.Ytgjicobfbdikmaa
