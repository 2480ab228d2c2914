/- LedgerEnds: the walk. -/
import Derived.Test.YtgjicobfbdikmaaLedRun
import Derived.Test.YtgjicobfbdikmaaLedLaws
import Derived.Test.YtgjicobfbdikmaaIntRev
import Derived.Test.YtgjicobfbdikmaaIntEq
import Derived.Test.YtgjicobfbdikmaaIntHas
set_option linter.unusedVariables false
set_option linter.unusedSimpArgs false
namespace Go.Proofs.Ytgjicobfbdikmaa
open Go Go.RowKit

theorem infoS : (Try.prog.info? 37).map (fun i => (i.zero, i.size, i.bytes)) = some (some (.slice none 0 0), 1, 24) := by kernel_rfl
/-- A row of ints beside a ledger. -/
def Rw (B : Nat) (w : World) (S : Nat → Prop) (v : Value) (l : List Int) : Prop := w.ownsRow B 3 1 v l.length (ints l) ∧ ∀ g, v.ownBlock = some g → ¬ S g
theorem Rw.next {B : Nat} {w w' : World} {S S' : Nat → Prop} {v : Value} {l : List Int} (h : Rw B w S v l) (hx : Stay S w w') (hS : ∀ k, S' k → grow S w w' k) : Rw B w' S' v l :=
  ⟨own_stay hx h.1 h.2, fun g hg hk => by
    rcases hS g hk with h1 | h1
    · exact h.2 g hg h1
    · have := (own_lt h.1 g hg).2
      omega⟩
theorem Rw.only {B : Nat} {w w' : World} {S : Nat → Prop} {v : Value} {l : List Int} (h : Rw B w S v l) (ho : Only w w') : Rw B w' S v l := ⟨own_only ho h.1, h.2⟩
theorem Rw.beside {B : Nat} {w w' : World} {S X : Nat → Prop} {v : Value} {l : List Int} (h : Rw B w S v l) (hx : Stay X w w') (hn : ∀ g, v.ownBlock = some g → ¬ X g) : Rw B w' S v l := ⟨own_stay hx h.1 hn, h.2⟩
theorem Rw.base {B B' : Nat} {w : World} {S : Nat → Prop} {v : Value} {l : List Int} (h : Rw B w S v l) (hB : B' ≤ B) : Rw B' w S v l := ⟨owns_base h.1 hB, h.2⟩

theorem leaks_other (n : Nat) : ∀ (L : Lg) {t q : Int}, q ≠ t → (Lg.leaks n L t).stk q = L.stk q := by
  induction n with
  | zero => intros; rfl
  | succ n ih =>
    intro L t q h
    rw [Lg.leaks, ih (L.leak t) h]
    exact cut_stk_other L _ h
theorem leaks_lk : ∀ (n : Nat) (L : Lg) (t : Int), (Lg.leaks n L t).lk.length = L.lk.length + n
  | 0, _, _ => rfl
  | n + 1, L, t => by
    rw [Lg.leaks, leaks_lk n (L.leak t) t]
    simp [Lg.leak]
    omega
theorem fin_held {L : Lg} {t : Int} (hb : ¬ Bad t 0) : ((L.fin t).1.held t = [] ∧ (∀ q, q ≠ t → (L.fin t).1.held q = L.held q) ∧ (L.fin t).1.lk.length = L.lk.length + (L.held t).length) ∧ (L.fin t).2 = ((L.held t).reverse, 0) := by
  have e : L.fin t = (Lg.leaks (L.stk t).length L t, (L.held t).reverse, 0) := by unfold Lg.fin; rw [if_neg hb]
  rw [e]
  refine ⟨⟨?_, fun q hq => ?_, ?_⟩, rfl⟩
  · unfold Lg.held
    rw [leaks_stk L t _ (Nat.le_refl _)]
    simp
  · unfold Lg.held
    simp only
    rw [leaks_other _ L hq]
    apply List.map_congr_left
    intro k _
    exact (leaks_what L t _).1 k
  · simp only
    rw [leaks_lk]
    simp [Lg.held]

set_option maxRecDepth 100000 in
set_option maxHeartbeats 4000000 in
theorem ledgerEnds_any (w : World) (A : Option Addr) (n ca : Nat) (ops : List LOp) (hl : Sl w w.heap.size A n ca 3 (ops.flatMap LOp.cells)) (hlen : ops.length = n) (task : Int) :
    Calls Try.prog 10 #[.slice A n ca, .int .i64 task] w fun e w' => e = .returned (.bool true) ∧ Only w w' := by
  obtain ⟨is, his0, his1, his2, his3⟩ := info_parts infoS
  have HL := Lib.hid (And.intro hl hlen)
  clear hl hlen
  go_enter Try.func10, Try.ntmps10
  go_wp2_with fail
  refine (made_any w A n ca ops HL.out.1 HL.out.2).mono ?_
  rintro e w1 ⟨rfl, S1, h1⟩
  obtain ⟨L, hL⟩ : ∃ L, L = Lg.new.runs (ops.take 100) := ⟨_, rfl⟩
  have hI : L.Inv := by rw [hL]; exact Lg.new_inv.runs _
  rw [← hL] at h1
  have H1 := Lib.hid (And.intro h1 hI)
  clear h1 hI hL
  unfold ptr
  go_wp2_with fail
  refine (ol_held H1.out.1 task).mono ?_
  rintro e w2 ⟨v2, S2, rfl, h2, hr2, hsep2, hsub2, hx2⟩
  by_cases hb : Bad task 0
  · rw [if_pos hb] at hr2 ⊢
    have hO2 := h2.only
    have H2 := Lib.hid hO2
    clear h2 hr2 hsep2 hsub2 hx2 hO2
    have hb' : task < 1 ∨ 64 < task := by unfold Bad at hb; omega
    clear hb
    by_cases hb1 : task < 1
    · have t1 : decide (task < 1) = true := decide_eq_true hb1
      clear hb'
      go_wp2_with fail
      refine (awake_any w2).mono ?_
      rintro e w8 ⟨rfl, o8⟩
      have H8 := Lib.hid (H2.out.trans' o8)
      clear o8
      go_wp2_with fail
      go_ret
      exact ⟨rfl, H8.out⟩
    · have t1 : 64 < task := by omega
      clear hb'
      go_wp2_with fail
      refine (awake_any w2).mono ?_
      rintro e w8 ⟨rfl, o8⟩
      have H8 := Lib.hid (H2.out.trans' o8)
      clear o8
      go_wp2_with fail
      go_ret
      exact ⟨rfl, H8.out⟩
  · rw [if_neg hb] at hr2 ⊢
    obtain ⟨A2, c2, rfl⟩ := own_shape hr2
    obtain ⟨hd, hhd⟩ : ∃ hd, hd = L.held task := ⟨_, rfl⟩
    rw [← hhd] at hr2 hsep2 ⊢
    have hz1 := h2.only.size
    have R2 : Rw w.heap.size w2 S2 (.slice A2 hd.length c2) hd := ⟨owns_base hr2 H1.out.1.only.size, hsep2⟩
    have H2 := Lib.hid (And.intro h2 (And.intro R2 hhd))
    have hd40 : hd.length ≤ 40 := by rw [hhd]; unfold Lg.held; rw [List.length_map]; exact H1.out.1.ok.hl _
    clear h2 hr2 hsep2 hsub2 hx2 hhd R2
    go_wp2_with fail
    go_loopg [8, 9] 64 (fun kk vo vn wr => ∃ (t : Nat) (S : Nat → Prop) (vs : List Value), 1 ≤ t ∧ t ≤ 65 ∧ kk = 65 - t ∧ vn = .int .i64 (t : Nat) ∧ OL w S (w.heap.size + 1) L wr ∧ Rw w.heap.size wr S (.slice A2 hd.length c2) hd ∧ wr.ownsRow w.heap.size 37 1 vo (t - 1) vs ∧ (∀ g, vo.ownBlock = some g → ¬ S g) ∧ ∀ (i : Nat) v, vs[i]? = some v → Rw w.heap.size wr S v (L.held ((i : Int) + 1)))
    case atStart => exact ⟨1, S2, [], by omega, by omega, by omega, rfl, H2.out.1, H2.out.2.1, World.ownsRow_nil _ _ _ _, fun g hg => (by cases hg), by simp⟩
    case round =>
      obtain ⟨t, S3, vs, ht1, ht2, hk, rfl, hO3, hR3, hr3, hsep3, hvs3⟩ := hrel
      obtain ⟨wt, rfl⟩ : ∃ wt : World, wt = wr := ⟨_, rfl⟩
      obtain ⟨A3, c3, rfl⟩ := own_shape hr3
      by_cases htl : t ≤ 64
      · have u0 : (t : Int) ≤ 64 := by omega
        have hnb : ¬ Bad (t : Int) 0 := by unfold Bad; omega
        obtain ⟨q, hq⟩ : ∃ q, q = t - 1 := ⟨_, rfl⟩
        rw [← hq] at hr3 hsep3 ⊢
        have HT := Lib.hid (And.intro hO3 (And.intro hR3 (And.intro hr3 (And.intro hsep3 (And.intro hvs3 (And.intro hk hq))))))
        have hq64 : q ≤ 63 := by omega
        clear hO3 hR3 hr3 hsep3 hvs3 hk hq
        go_wp2_with fail
        refine (ol_held HT.out.1 t).mono ?_
        rintro e w8 ⟨v8, S8, rfl, h8, hr8, hsep8, hsub8, hx8⟩
        rw [if_neg hnb] at hr8 ⊢
        have hz8 : w.heap.size ≤ w8.heap.size := h8.only.size
        obtain ⟨hd8, hhd8⟩ : ∃ hd8, hd8 = L.held (t : Int) := ⟨_, rfl⟩
        rw [← hhd8] at hr8
        obtain ⟨A8, c8, rfl⟩ := own_shape hr8
        have r8 := own_stay hx8 HT.out.2.2.1 HT.out.2.2.2.1
        have s8 : ∀ g, (Value.slice A3 q c3).ownBlock = some g → ¬ S8 g := fun g hg hk => by
          rcases hsub8 g hk with h | h
          · exact HT.out.2.2.2.1 g hg h
          · have := (own_lt HT.out.2.2.1 g hg).2
            omega
        have a8 : Rw w.heap.size w8 S8 (.slice A8 hd8.length c8) hd8 := ⟨owns_base hr8 HT.out.1.only.size, hsep8⟩
        have b8 : ∀ (i : Nat) v, vs[i]? = some v → Rw w.heap.size w8 S8 v (L.held ((i : Int) + 1)) := fun i v hv => (HT.out.2.2.2.2.1 i v hv).next hx8 hsub8
        have H8 := Lib.hid (And.intro h8 (And.intro (HT.out.2.1.next hx8 hsub8) (And.intro r8 (And.intro s8 (And.intro b8 (And.intro a8 hhd8))))))
        clear a8 b8 hhd8 h8 hr8 hsep8 hsub8 hx8 r8 s8
        go_wp2_with (at_builtin; refine wpList_append_lies _ rfl _ _ _ rfl w.heap.size 37 is _ 1 24 Try.underlying53 his0 his1 his2 his3 rfl (by omega) _ q _ (by rfl) (own_alloc H8.out.2.2.1 _) ⟨w8.heap.size, 0, none⟩ 1 1 [.slice A8 hd8.length c8] (by rfl) (by rfl) (World.news_of_block (cs := [Value.slice A8 hd8.length c8].toArray) (t := 37) (fr := (0, 0)) (heap_alloc_at' _ _ _ (by simp))) (by simp [Value.oneCell']) (by omega) (by simp only [maxLen]; omega) (by omega) (by simp; omega) (w8.heap.size + 1) (by simp) ?_; intro g9 cap9 w9 hown hgrow hat hlt2; have HG9 := Lib.hid (And.intro hown (And.intro hgrow hat)); clear hown hgrow hat hlt2)
        have hx9 : Stay (fun j => (Value.slice A3 q c3).ownBlock = some j) w8 w9 := ((Stay.refl _ w8).alloc _).trans (grown_stay HG9.out.2.1) (fun _ _ h => h)
        have off : ∀ {v : Value} {l : List Int}, Rw w.heap.size w8 S8 v l → Rw w.heap.size w9 S8 v l := fun {v l} hv => hv.beside hx9 (own_off hv.1 H8.out.2.2.1 (by decide))
        go_roundg (65 - (t + 1))
        case measure => have := HT.out.2.2.2.2.2.1; omega
        case rel =>
          have hvl : vs.length = q := by have := HT.out.2.2.1.1; omega
          refine ⟨t + 1, S8, vs ++ [.slice A8 hd8.length c8], by omega, by omega, rfl, by go_num, H8.out.1.side hx9 (fun k hk e => H8.out.2.2.2.1 k e hk) (fun k e => (own_lt H8.out.2.2.1 k e).1), off H8.out.2.1, ?_, fun g hg hk => ?_, fun i v hv => ?_⟩
          · rw [show t + 1 - 1 = q + 1 by have := HT.out.2.2.2.2.2.2; omega]
            exact HG9.out.1
          · have e : g9 = g := by simpa [Value.ownBlock] using hg
            subst e
            rcases HG9.out.2.2 with h | h
            · exact H8.out.2.2.2.1 _ h hk
            · have := H8.out.1.at'.lt _ hk
              omega
          · by_cases hi : i < vs.length
            · rw [List.getElem?_append_left hi] at hv
              exact off (H8.out.2.2.2.2.1 i v hv)
            · have hi2 : i = vs.length := by have := (List.getElem?_eq_some_iff.1 hv).1; simp at this; omega
              subst hi2
              rw [List.getElem?_append_right (Nat.le_refl _), Nat.sub_self] at hv
              simp only [List.getElem?_cons_zero, Option.some.injEq] at hv
              subst hv
              have e2 : ((vs.length : Int) + 1) = (t : Int) := by have := HT.out.2.2.2.2.2.2; omega
              rw [e2, ← H8.out.2.2.2.2.2.2]
              exact off H8.out.2.2.2.2.2.1
      · obtain rfl : t = 65 := by omega
        have hvl : vs.length = 64 := by have := hr3.1; omega
        have HT := Lib.hid (And.intro hO3 (And.intro hR3 (And.intro (show wt.ownsRow w.heap.size 37 1 (.slice A3 64 c3) 64 vs from hr3) (And.intro (show ∀ g, (Value.slice A3 64 c3).ownBlock = some g → ¬ S3 g from hsep3) (And.intro hvs3 hvl)))))
        show Code.wp _ _ _ { tmps := _, defers := _ } _
        clear hO3 hR3 hr3 hsep3 hvs3 hk hvl
        go_wp2_with fail
        refine (leaks_any wt _ _ L HT.out.1.at' HT.out.1.ok).mono ?_
        rintro e w4 ⟨v4, rfl, hr4, hO4⟩
        obtain ⟨A4, c4, rfl⟩ := own_shape hr4
        have lk8 : L.lk.length ≤ 800 := by have := H1.out.1.ok.ll; have := H1.out.1.ok.time_le; omega
        have H4 := Lib.hid hO4
        clear hr4 hO4
        go_wp2_with fail
        have hfh := fin_held (L := L) hb
        have hIf := H1.out.2.fin task
        refine (ol_end (HT.out.1.then H4.out) task).mono ?_
        rintro e w5 ⟨v5, S5, rfl, h5, hr5, hsep5, hsub5, hx5⟩
        rw [hfh.2] at hr5 ⊢
        obtain ⟨L5, hL5⟩ : ∃ L5, L5 = (L.fin task).1 := ⟨_, rfl⟩
        rw [← hL5] at h5 hIf hfh
        rw [← H2.out.2.2] at hr5 hfh ⊢
        obtain ⟨A5, c5, rfl⟩ := own_shape hr5
        have lr : hd.reverse.length = hd.length := List.length_reverse
        rw [lr] at hr5 hsep5 ⊢
        have hzz := H4.out.size
        have hz45 : w.heap.size ≤ wt.heap.size := HT.out.1.only.size
        have R5 : Rw w.heap.size w5 S5 (.slice A5 hd.length c5) hd.reverse := ⟨by rw [lr]; exact owns_base hr5 (by omega), hsep5⟩
        have r3 := own_stay hx5 (own_only H4.out HT.out.2.2.1) (HT.out.2.2.2.1)
        have s3 : ∀ g, (Value.slice A3 64 c3).ownBlock = some g → ¬ S5 g := fun g hg hk => by
          rcases hsub5 g hk with h | h
          · exact HT.out.2.2.2.1 g hg h
          · have := (own_lt HT.out.2.2.1 g hg).2
            omega
        have b3 : ∀ (i : Nat) v, vs[i]? = some v → Rw w.heap.size w5 S5 v (L.held ((i : Int) + 1)) := fun i v hv => ((HT.out.2.2.2.2.1 i v hv).only H4.out).next hx5 hsub5
        have a2 := (HT.out.2.1.only H4.out).next hx5 hsub5
        have hne : ∀ g, (Value.slice A5 hd.length c5).ownBlock = some g → wt.heap.size ≤ g := fun g hg => by have := (own_lt hr5 g hg).1; omega
        have H5 := Lib.hid (And.intro h5 (And.intro hIf (And.intro hfh.1 (And.intro R5 (And.intro a2 (And.intro r3 (And.intro s3 (And.intro b3 hne))))))))
        clear h5 hIf hfh R5 a2 r3 s3 b3 hne hL5 hr5 hsep5 hsub5 hx5 lr
        go_wp2_with fail
        have R5 := H5.out.2.2.2.1
        refine (revI_any w5 w.heap.size (.slice A5 hd.length c5) hd.reverse R5.1 (by rw [List.length_reverse]; omega)).mono ?_
        rintro e w6 ⟨rfl, hr6, hx6⟩
        rw [List.reverse_reverse, List.length_reverse] at hr6
        have o6 := H5.out.1.side hx6 (fun k hk e => R5.2 k e hk) (fun k e => (own_lt R5.1 k e).1)
        have hlow : ∀ {v : Value} {l : List Int}, Rw w.heap.size wt S3 v l → Rw w.heap.size w5 S5 v l → Rw w.heap.size w6 S5 v l := fun {v l} h h' => h'.beside hx6 (fun g hg e => by have h1 := (own_lt h.1 g hg).2; have h2 := H5.out.2.2.2.2.2.2.2.2 g e; omega)
        have a6 := hlow HT.out.2.1 H5.out.2.2.2.2.1
        have r6 := own_stay hx6 H5.out.2.2.2.2.2.1 (own_off H5.out.2.2.2.2.2.1 R5.1 (by decide))
        have b6 : ∀ (i : Nat) v, vs[i]? = some v → Rw w.heap.size w6 S5 v (L.held ((i : Int) + 1)) := fun i v hv => hlow (HT.out.2.2.2.2.1 i v hv) (H5.out.2.2.2.2.2.2.2.1 i v hv)
        have H6 := Lib.hid (And.intro o6 (And.intro hr6 (And.intro a6 (And.intro r6 b6))))
        clear o6 hr6 a6 r6 b6 hlow hx6 R5
        go_wp2_with fail
        refine (leaks_any w6 _ _ L5 H6.out.1.at' H6.out.1.ok).mono ?_
        rintro e w7 ⟨v7, rfl, hr7, hO7⟩
        obtain ⟨A7, c7, rfl⟩ := own_shape hr7
        have l5 : L5.lk.length = L.lk.length + hd.length := H5.out.2.2.1.2.2
        obtain ⟨q, hq⟩ : ∃ q, q = L5.lk.length := ⟨_, rfl⟩
        rw [← hq] at hr7 l5 ⊢
        have hq8 : q ≤ 800 := by rw [hq]; have := H5.out.1.ok.ll; have := H5.out.1.ok.time_le; omega
        obtain ⟨p, hp⟩ : ∃ p, p = L.lk.length := ⟨_, rfl⟩
        rw [← hp] at l5 lk8 ⊢
        have H7 := Lib.hid (And.intro hr7 (And.intro hO7 (And.intro l5 hq)))
        have b7 : ((q : Int) != (p : Int) + (hd.length : Int)) = false := by simp; omega
        clear hr7 hO7 l5 hq hp
        go_upto_region 15 with fail
        go_cut [96] from 70 to 96 (fun v wc => v = .bool false ∧ Only w7 wc)
        case first =>
          go_wp2_with fail
          refine (eqI_any w7 A5 A2 c5 c2 hd hd (own_sl H6.out.2.1 H7.out.2.1) (own_sl H6.out.2.2.1.1 H7.out.2.1)).mono ?_
          rintro e w8 ⟨rfl, hO8⟩
          have h8 : (hd == hd) = true := by simp
          rw [h8]
          have H8 := Lib.hid hO8
          clear hO8 h8
          by_cases hd0 : hd.length = 0
          · have b8 : ¬ 0 < hd.length := by omega
            clear hd0
            go_wp2_with fail
            go_meet
            case rel => exact ⟨rfl, H8.out⟩
          · have b8 : 0 < hd.length := by omega
            clear hd0
            go_wp2_with fail
            refine (sound_any w8 _ _ L5 ((H6.out.1.then H7.out.2.1).then H8.out).at' H6.out.1.ok).mono ?_
            rintro e w9 ⟨r, rfl, hr, o9⟩
            obtain rfl : r = false := by
              cases r with
              | false => rfl
              | true =>
                have h1 := (hr.1 rfl).2.1
                have h2 := H7.out.2.2.1
                rw [H7.out.2.2.2, h1] at h2
                simp at h2
                omega
            have H9 := Lib.hid o9
            clear hr o9
            go_wp2_with fail
            go_meet
            case rel => exact ⟨rfl, H8.out.trans' H9.out⟩
        case rest =>
          obtain ⟨rfl, hOc⟩ := hcut
          have HC := Lib.hid (H7.out.2.1.trans' hOc)
          have rC := own_sl H7.out.1 hOc
          have HR := Lib.hid rC
          clear hOc rC b7
          go_wp2_with fail
          go_loopg [99] q (fun kk vi wr => ∃ (i : Nat), i ≤ q ∧ kk = q - i ∧ vi = .int .i64 (i : Nat) ∧ Only wc wr)
          case atStart => exact ⟨0, Nat.zero_le _, rfl, rfl, Stay.refl _ _⟩
          case round =>
            obtain ⟨i, hi, hk2, rfl, hO9⟩ := hrel
            by_cases hlt : i < q
            · obtain ⟨x, hx⟩ : ∃ x, (srt L5.lk)[i]? = some x := ⟨_, List.getElem?_eq_getElem (by rw [srt_length, ← H7.out.2.2.2]; exact hlt)⟩
              obtain ⟨xb, xo, rfl, hxb, hxc⟩ := (HR.out.only hO9).2.2.2.2 (by omega)
              have e0 := hxc i (.int .i64 x) (by unfold ints; rw [List.getElem?_map, hx]; rfl)
              have u1 : (0 : Int) ≤ (i : Int) := by omega
              have u2 : (i : Int) < (q : Int) := by omega
              have hcf : (srt L5.cr).contains x = false := by
                have hxm : x ∈ L5.lk := (srt_perm_self _).mem_iff.1 (List.mem_of_getElem? hx)
                have hxn := (H5.out.2.1.lke x hxm).1
                rw [← Bool.not_eq_true, List.contains_iff_mem, (srt_perm_self _).mem_iff]
                exact hxn
              have HI := Lib.hid (And.intro hk2 (And.intro hO9 hcf))
              clear hk2 hO9 hxc hx hcf
              go_wp2_with fail
              refine (crossed_any wr _ _ L5 ((H6.out.1.then HC.out).then HI.out.2.1).at' H6.out.1.ok).mono ?_
              rintro e w8 ⟨v8, rfl, hr8, hO8⟩
              obtain ⟨A8, c8, rfl⟩ := own_shape hr8
              have s8 := own_sl' hr8
              obtain ⟨z, hz⟩ : ∃ z, z = (srt L5.cr).length := ⟨_, rfl⟩
              rw [← srt_length L5.cr, ← hz] at s8 ⊢
              have H8 := Lib.hid (And.intro s8 (And.intro hO8 hz))
              clear hr8 s8 hO8 hz
              go_wp2_with fail
              have hz := H8.out.2.2
              have s8 := H8.out.1
              subst hz
              refine (hasI_any w8 A8 c8 (srt L5.cr) x s8).mono ?_
              rintro e w9 ⟨rfl, hO9⟩
              rw [HI.out.2.2]
              have H9 := Lib.hid hO9
              clear hO9 s8
              go_wp2_with fail
              go_roundg (q - (i + 1))
              case measure => have := HI.out.1; omega
              case rel => exact ⟨i + 1, by omega, rfl, by go_num, (HI.out.2.1.trans' H8.out.2.1).trans' H9.out⟩
            · obtain rfl : i = q := by omega
              have HI := Lib.hid (HC.out.trans' hO9)
              clear hk2 hO9
              go_wp2_with fail
              go_loopg [17] 64 (fun kk vn wr => ∃ (t : Nat) (S : Nat → Prop), 1 ≤ t ∧ t ≤ 65 ∧ kk = 65 - t ∧ vn = .int .i64 (t : Nat) ∧ OL w S (w.heap.size + 1) L5 wr ∧ wr.ownsRow w.heap.size 37 1 (.slice A3 64 c3) 64 vs ∧ (∀ g, (Value.slice A3 64 c3).ownBlock = some g → ¬ S g) ∧ ∀ (i : Nat) v, vs[i]? = some v → Rw w.heap.size wr S v (L.held ((i : Int) + 1)))
              case atStart => exact ⟨1, S5, by omega, by omega, by omega, rfl, H6.out.1.then HI.out, own_only HI.out H6.out.2.2.2.1, H5.out.2.2.2.2.2.2.1, fun i v hv => (H6.out.2.2.2.2 i v hv).only HI.out⟩
              case round =>
                obtain ⟨t, S7, ht1, ht2, hk3, rfl, hO3, hr3, hsep3, hvs3⟩ := hrel
                obtain ⟨wz, rfl⟩ : ∃ wz : World, wz = wr := ⟨_, rfl⟩
                by_cases htl : t ≤ 64
                · have u0 : (t : Int) ≤ 64 := by omega
                  have hnb : ¬ Bad (t : Int) 0 := by unfold Bad; omega
                  obtain ⟨g3, cg3, e1, _, _⟩ := hr3.form (by omega)
                  obtain ⟨rfl, rfl⟩ : A3 = some ⟨g3, 0, none⟩ ∧ c3 = cg3 := by simpa using e1
                  have HZ := Lib.hid (And.intro hO3 (And.intro hr3 (And.intro hsep3 (And.intro hvs3 hk3))))
                  clear hO3 hr3 hsep3 hvs3 hk3 e1
                  go_wp2_with fail
                  refine (ol_held HZ.out.1 t).mono ?_
                  rintro e w8 ⟨v8, S8, rfl, h8, hr8, hsep8, hsub8, hx8⟩
                  rw [if_neg hnb] at hr8 ⊢
                  have r8 := own_stay hx8 HZ.out.2.1 HZ.out.2.2.1
                  have s8 : ∀ g, (Value.slice (some ⟨g3, 0, none⟩) 64 c3).ownBlock = some g → ¬ S8 g := fun g hg hk => by
                    rcases hsub8 g hk with h | h
                    · exact HZ.out.2.2.1 g hg h
                    · have := (own_lt HZ.out.2.1 g hg).2
                      omega
                  have b8 : ∀ (i : Nat) v, vs[i]? = some v → Rw w.heap.size w8 S8 v (L.held ((i : Int) + 1)) := fun i v hv => (HZ.out.2.2.2.1 i v hv).next hx8 hsub8
                  by_cases htk : (t : Int) = task
                  · have t1 : ((t : Int) == task) = true := by simp [htk]
                    have t2 : ((t : Int) != task) = false := by simp [htk]
                    have hnil : L5.held (t : Int) = [] := by rw [htk]; exact H5.out.2.2.1.1
                    rw [hnil] at hr8
                    obtain ⟨A8, c8, rfl⟩ := own_shape hr8
                    have H8 := Lib.hid (And.intro h8 (And.intro r8 (And.intro s8 b8)))
                    clear h8 hr8 hsep8 hsub8 hx8 r8 s8 b8 hnil htk
                    go_wp2_with fail
                    go_roundg (65 - (t + 1))
                    case measure => have := HZ.out.2.2.2.2; omega
                    case rel => exact ⟨t + 1, S8, by omega, by omega, rfl, by go_num, H8.out⟩
                  · have t1 : ((t : Int) == task) = false := by simp [htk]
                    have t2 : ((t : Int) != task) = true := by simp [htk]
                    have hsame : L5.held (t : Int) = L.held (t : Int) := H5.out.2.2.1.2.1 _ htk
                    rw [hsame] at hr8
                    obtain ⟨y, hy⟩ : ∃ y, y = t - 1 := ⟨_, rfl⟩
                    obtain ⟨v, hv⟩ : ∃ v, vs[y]? = some v := ⟨_, List.getElem?_eq_getElem (by have := HT.out.2.2.2.2.2; omega)⟩
                    have hvr := b8 y v hv
                    rw [show ((y : Int) + 1) = (t : Int) by omega] at hvr
                    obtain ⟨lh, hlh⟩ : ∃ lh, lh = L.held (t : Int) := ⟨_, rfl⟩
                    rw [← hlh] at hvr hr8
                    obtain ⟨A8, c8, rfl⟩ := own_shape hr8
                    obtain ⟨A9, c9, rfl⟩ := own_shape hvr.1
                    have z1 := r8.cellAt y (by omega)
                    rw [hv, hy] at z1
                    have lg3 := (own_lt r8 g3 rfl).2
                    have hsub : wrap64 ((t : Int) - 1) = (y : Int) := by unfold wrap64; omega
                    have u1 : (0 : Int) ≤ (y : Int) := by omega
                    have u2 : (y : Int) < 64 := by omega
                    have H8 := Lib.hid (And.intro (And.intro h8 (And.intro r8 (And.intro s8 b8))) (And.intro (own_sl' hr8) (own_sl' hvr.1)))
                    clear h8 hr8 hsep8 hsub8 hx8 r8 s8 b8 hsame hvr hy hv hlh htk
                    go_wp2_with fail
                    refine (eqI_any w8 A8 A9 c8 c9 lh lh H8.out.2.1 H8.out.2.2).mono ?_
                    rintro e w9 ⟨rfl, hO9⟩
                    have h9 : (lh == lh) = true := by simp
                    rw [h9]
                    have H9 := Lib.hid hO9
                    clear hO9 h9
                    go_wp2_with fail
                    go_roundg (65 - (t + 1))
                    case measure => have := HZ.out.2.2.2.2; omega
                    case rel => exact ⟨t + 1, S8, by omega, by omega, rfl, by go_num, H8.out.1.1.then H9.out, own_only H9.out H8.out.1.2.1, H8.out.1.2.2.1, fun i v hv => (H8.out.1.2.2.2 i v hv).only H9.out⟩
                · obtain rfl : t = 65 := by omega
                  have HZ := Lib.hid hO3
                  clear hO3 hr3 hsep3 hvs3 hk3
                  go_wp2_with fail
                  have hff := fin_held (L := L5) hb
                  refine (ol_end HZ.out task).mono ?_
                  rintro e w8 ⟨v8, S8, rfl, h8, hr8, hsep8, hsub8, hx8⟩
                  rw [hff.2, H5.out.2.2.1.1] at hr8 ⊢
                  obtain ⟨A8, c8, rfl⟩ := own_shape hr8
                  have H8 := Lib.hid h8.only
                  clear h8 hr8 hsep8 hsub8 hx8 hff
                  go_wp2_with fail
                  refine (awake_any w8).mono ?_
                  rintro e w9 ⟨rfl, o9⟩
                  have H9 := Lib.hid (H8.out.trans' o9)
                  clear o9
                  go_wp2_with fail
                  go_ret
                  exact ⟨rfl, H9.out⟩

end Go.Proofs.Ytgjicobfbdikmaa
