/- The reference's Park. -/
import Derived.Test.YtfmkdkpgehkfaaaRefTake2
import Derived.Test.YtfmkdkpgehkfaaaAppZero
set_option linter.unusedVariables false
set_option linter.unusedSimpArgs false
namespace Go.Proofs.Ytfmkdkpgehkfaaa
open Go Go.RowKit

def RPark (w : World) (c : Ch) (t : Int) (send : Bool) (v : V) (e : Ending) (w' : World) : Prop :=
  ∃ y, e = .returned (.tuple #[y, .int .i64 (c.park t send v).2]) ∧ Rd w' y (c.park t send v).1 ∧ Only w w'
theorem RPark.mk {w w' : World} {c c' : Ch} {t er : Int} {send : Bool} {v : V} {y : Value} (h : c.park t send v = (c', er)) (hy : Rd w' y c') (hO : Only w w') : RPark w c t send v (.returned (.tuple #[y, .int .i64 er])) w' := by
  unfold RPark
  rw [h]
  exact ⟨y, rfl, hy, hO⟩

def NoArg (t : Int) (send : Bool) (v : V) : Prop := ¬ (t < 1 ∨ (send = true ∧ valid v = false))
theorem park_twice {c : Ch} {t : Int} {send : Bool} {v : V} (h : NoArg t send v) (hw : c.ws.any (fun y => y.t == t) = true) : c.park t send v = (c, 21) := by unfold Ch.park; rw [if_neg h, if_pos hw]
theorem park_full {c : Ch} {t : Int} {send : Bool} {v : V} (h : NoArg t send v) (hw : c.ws.any (fun y => y.t == t) = false) (h2 : 200 ≤ c.ws.length) : c.park t send v = (c, 5) := by unfold Ch.park; rw [if_neg h, if_neg (by simp [hw]), if_pos h2]
theorem park_good {c : Ch} {t : Int} {send : Bool} {v : V} (h : NoArg t send v) (hw : c.ws.any (fun y => y.t == t) = false) (h2 : ¬ 200 ≤ c.ws.length) : c.park t send v = ({ c with ws := c.ws ++ [⟨t, send, if send then v else V.nil⟩] }, 0) := by unfold Ch.park; rw [if_neg h, if_neg (by simp [hw]), if_neg h2]

set_option maxRecDepth 100000 in
set_option maxHeartbeats 8000000 in
theorem rpark_any (w : World) (x : Value) (c : Ch) (t : Int) (send : Bool) (v : V) (hx : Rd w x c) (hv : v.s.size ≤ 9223372036854775807) (hws : c.ws.length ≤ 200) :
    Calls Try.prog 39 #[x, .int .i64 t, .bool send, v.val] w (WithFr w x (RPark w c t send v)) := by
  have HX := Lib.hid hx
  obtain ⟨A, cp, A', cp', rfl, s1, s2⟩ := hx
  have b1 := s1.2.1
  have b2 := s1.2.2.1
  have b3 := s2.2.1
  have b4 := s2.2.2.1
  have HS := Lib.hid (And.intro s1 s2)
  clear s1 s2
  obtain ⟨W0, hW0⟩ : ∃ W0 : World, W0 = ((w.alloc (.cells (stv c A cp A' cp').toArray 36)).alloc (.cells v.cells.toArray 29)).alloc (.cells zst.toArray 36) := ⟨_, rfl⟩
  have hO0 : Only w W0 := by rw [hW0]; exact (((Stay.refl _ w).alloc _).alloc _).alloc _
  have hT0 : Blk W0 w.heap.size 36 (stv c A cp A' cp') := by rw [hW0]; exact ((Blk.newAt w (stv c A cp A' cp') 36 _ rfl).alloc _).alloc _
  have hT1 : Blk W0 (w.heap.size + 1) 29 v.cells := by rw [hW0]; exact (Blk.newAt (w.alloc (.cells (stv c A cp A' cp').toArray 36)) v.cells 29 (w.heap.size + 1) (by simp)).alloc _
  have hT2 : Blk W0 (w.heap.size + 2) 36 zst := by rw [hW0]; exact Blk.newAt ((w.alloc (.cells (stv c A cp A' cp').toArray 36)).alloc (.cells v.cells.toArray 29)) zst 36 (w.heap.size + 2) (by simp)
  have H0 := Lib.hid (And.intro hO0 (And.intro hT0 (And.intro hT1 hT2)))
  have hW := Lib.hid (fun (W : World) (c' : Ch) (er : Int) (hF : c.park t send v = (c, er)) (h : Only w W) => RPark.mk hF (HX.out.only h) h)
  clear hO0 hT0 hT1 hT2
  unfold stv V.cells zst at hW0
  unfold V.val
  have hcase : t < 1 ∨ (1 ≤ t ∧ send = true ∧ valid v = false) ∨ (1 ≤ t ∧ send = true ∧ valid v = true) ∨ (1 ≤ t ∧ send = false) := by
    by_cases h : t < 1
    · exact .inl h
    · cases send <;> cases valid v <;> simp <;> omega
  rcases hcase with ht | ⟨ht, rfl, hval⟩ | ⟨ht, rfl, hval⟩ | ⟨ht, rfl⟩
  · have HF := Lib.hid (show c.park t send v = (c, 2) by unfold Ch.park; rw [if_pos (.inl ht)])
    clear hW0
    go_enter Try.func39, Try.ntmps39
    go_wp2_with fail
    refine bodyPost_ret (v := .tuple #[.agg #[.int .i64 c.cap, .int .i64 c.pol, .bool c.closed, .slice A c.buf.length cp, .slice A' c.ws.length cp', .int .i64 c.drop], .int .i64 2]) (by simp [results, Try.results39, go_sem]) rfl ?_
    refine WithFr.mk' (fr_mk (.inl fun h => ⟨rfl, by first | exact h | omega | (simp at h)⟩) (.inl fun h => ⟨rfl, by first | exact h | omega | (simp at h)⟩)) ?_
    exact hW.out _ c _ HF.out ((((Stay.refl _ w).alloc _).alloc _).alloc _)
  · have HF := Lib.hid (show c.park t true v = (c, 2) by unfold Ch.park; rw [if_pos (.inr ⟨rfl, hval⟩)])
    go_enter Try.func39, Try.ntmps39
    go_wp2_with fail
    rw [← hW0]
    refine (rvalue_any v _ hv).mono ?_
    rintro e w1 ⟨rfl, hO1⟩
    have k0 := (hO1.blk H0.out.2.1).cell
    have l0 := (hO1.blk H0.out.2.1).lt
    have k2 := (hO1.blk H0.out.2.2.2).cell
    have f2 := (hO1.blk H0.out.2.2.2).free
    have l2 := (hO1.blk H0.out.2.2.2).lt
    simp only [stv] at k0
    simp only [zst] at k2
    have HO := Lib.hid (H0.out.1.trans' hO1)
    rw [hval]
    clear hW0 hO1 hval
    go_wp2_with fail
    refine bodyPost_ret (v := .tuple #[.agg #[.int .i64 c.cap, .int .i64 c.pol, .bool c.closed, .slice A c.buf.length cp, .slice A' c.ws.length cp', .int .i64 c.drop], .int .i64 2]) (by simp [results, Try.results39, go_sem, k2]) rfl ?_
    refine WithFr.mk' (fr_mk (.inl fun h => ⟨rfl, by first | exact h | omega | (simp at h)⟩) (.inl fun h => ⟨rfl, by first | exact h | omega | (simp at h)⟩)) ?_
    refine hW.out _ c _ HF.out ?_
    iterate 6 refine Stay.new ?_ (by omega) _ _
    exact HO.out
  · have HN := Lib.hid (show NoArg t true v by unfold NoArg; simp [hval]; omega)
    go_enter Try.func39, Try.ntmps39
    go_wp2_with fail
    rw [← hW0]
    refine (rvalue_any v _ hv).mono ?_
    rintro e w1 ⟨rfl, hO1⟩
    rw [hval]
    have H1 := Lib.hid (And.intro (H0.out.1.trans' hO1) (And.intro (hO1.blk H0.out.2.1) (And.intro (hO1.blk H0.out.2.2.1) (hO1.blk H0.out.2.2.2))))
    clear hW0 hO1 hval
    have k0 := H1.out.2.1.cell
    have l0 := H1.out.2.1.lt
    simp only [stv] at k0
    go_wp2_with fail
    refine (waits_any _ _ c t (HX.out.only H1.out.1)).mono ?_
    rintro e w2 ⟨rfl, hO2⟩
    clear k0 l0
    have k0 := (hO2.blk H1.out.2.1).cell
    have f0 := (hO2.blk H1.out.2.1).free
    have l0 := (hO2.blk H1.out.2.1).lt
    have k1 := (hO2.blk H1.out.2.2.1).cell
    have l1 := (hO2.blk H1.out.2.2.1).lt
    have k2 := (hO2.blk H1.out.2.2.2).cell
    have f2 := (hO2.blk H1.out.2.2.2).free
    have l2 := (hO2.blk H1.out.2.2.2).lt
    simp only [stv] at k0
    simp only [V.cells] at k1
    simp only [zst] at k2
    have H2 := Lib.hid (And.intro (H1.out.1.trans' hO2) (And.intro (hO2.blk H1.out.2.1) (And.intro (hO2.blk H1.out.2.2.1) (hO2.blk H1.out.2.2.2))))
    clear hO2
    cases hw : c.ws.any (fun y => y.t == t) with
    | true =>
      have HF := Lib.hid (show c.park t true v = (c, 21) from park_twice HN.out hw)
      clear hw
      go_wp2_with fail
      refine bodyPost_ret (v := .tuple #[.agg #[.int .i64 c.cap, .int .i64 c.pol, .bool c.closed, .slice A c.buf.length cp, .slice A' c.ws.length cp', .int .i64 c.drop], .int .i64 21]) (by simp [results, Try.results39, go_sem, k2]) rfl ?_
      refine WithFr.mk' (fr_mk (.inl fun h => ⟨rfl, by first | exact h | omega | (simp at h)⟩) (.inl fun h => ⟨rfl, by first | exact h | omega | (simp at h)⟩)) ?_
      refine hW.out _ c _ HF.out ?_
      iterate 6 refine Stay.new ?_ (by omega) _ _
      exact H2.out.1
    | false =>
      by_cases h2 : 200 ≤ c.ws.length
      · have HF := Lib.hid (show c.park t true v = (c, 5) from park_full HN.out hw h2)
        clear hw
        go_wp2_with fail
        refine bodyPost_ret (v := .tuple #[.agg #[.int .i64 c.cap, .int .i64 c.pol, .bool c.closed, .slice A c.buf.length cp, .slice A' c.ws.length cp', .int .i64 c.drop], .int .i64 5]) (by simp [results, Try.results39, go_sem, k2]) rfl ?_
        refine WithFr.mk' (fr_mk (.inl fun h => ⟨rfl, by first | exact h | omega | (simp at h)⟩) (.inl fun h => ⟨rfl, by first | exact h | omega | (simp at h)⟩)) ?_
        refine hW.out _ c _ HF.out ?_
        iterate 6 refine Stay.new ?_ (by omega) _ _
        exact H2.out.1
      · have HF := Lib.hid (show c.park t true v = ({ c with ws := c.ws ++ [⟨t, true, v⟩] }, 0) from park_good HN.out hw h2)
        have h2' : (c.ws.length : Int) < 200 := by omega
        obtain ⟨iw, hiw0, hiw1, hiw2, hiw3⟩ := info_parts infoW
        clear hw h2
        have hOx : Only w2 (w2.alloc (.cells (⟨t, true, v⟩ : Wt).cells.toArray 46)) := (Stay.refl _ w2).alloc _
        have H3 := Lib.hid (And.intro (H2.out.1.trans' hOx) (And.intro (hOx.blk H2.out.2.1) (And.intro (hOx.blk H2.out.2.2.2) (Blk.new w2 (⟨t, true, v⟩ : Wt).cells 46))))
        clear hOx
        have hcase : c.ws.length = 0 ∨ 0 < c.ws.length := by omega
        rcases hcase with h0 | h0
        case' inl =>
          have hwn : c.ws = [] := List.eq_nil_of_length_eq_zero h0
          have HZ := Lib.hid (And.intro h0 hwn)
          clear h0 hwn
          go_upto_region 12 with (at_builtin; refine append_zero' rfl _ _ _ rfl (w2.heap.size + 1) 46 iw 5 Try.underlying34 hiw0 _ 0 [] (by rfl) (World.ownsRow_nil _ _ _ _) A' cp' c.ws.length HZ.out.1 (by rfl) ?_)
          have hown : (w2.alloc (.cells (⟨t, true, v⟩ : Wt).cells.toArray 46)).ownsRow (w2.heap.size + 1) 46 5 (.slice none 0 0) c.ws.length (c.ws.flatMap Wt.cells) := by
            rw [HZ.out.2]
            exact World.ownsRow_nil _ _ _ _
          have HC := Lib.hid (And.intro hown H3.out)
          obtain ⟨w3, hw3⟩ : ∃ w3 : World, w3 = w2.alloc (.cells (⟨t, true, v⟩ : Wt).cells.toArray 46) := ⟨_, rfl⟩
          have hz3 : w2.heap.size + 1 = w3.heap.size := by rw [hw3]; simp
          rw [← hw3] at HC
          have hw3' := hw3.symm
          simp only [Wt.cells, V.nil] at hw3'
          rw [hw3']
          have hz3' := Nat.le_of_eq hz3
          clear hown hw3 hw3' hz3
        case' inr =>
          obtain ⟨yb, yo, rfl, hyb, hyc⟩ := (HS.out.2.only H3.out.1).2.2.2.2 h0
          have HY := Lib.hid hyc
          clear hyc
          go_upto_region 12 with (at_builtin; refine wpList_append_lies _ rfl _ _ _ rfl (w2.heap.size + 1) 46 iw _ 5 48 Try.underlying34 hiw0 hiw1 hiw2 hiw3 rfl (by omega) _ 0 [] (by rfl) (World.ownsRow_nil _ _ _ _) ⟨yb, yo, none⟩ c.ws.length cp' (c.ws.flatMap Wt.cells) (by rfl) (by rw [flat_len _ _ Wt.cells_length]) (fun j u hu => by rw [Addr.add_lit]; exact HY.out j u hu) Wt.one (by omega) (by simp only [maxLen]; omega) (by omega) (by simp) (w2.heap.size + 1) (by simp) ?_; intro g cap w3 hown hgrow hat hlt2; rw [Nat.zero_add] at hown ⊢; rw [List.nil_append] at hown)
          have hs0 : Only (w2.alloc (.cells (⟨t, true, v⟩ : Wt).cells.toArray 46)) w3 := Mine.stay (Mine.grown (Stay.refl _ _) (World.ownsRow_nil (w2.alloc (.cells (⟨t, true, v⟩ : Wt).cells.toArray 46)) (w2.alloc (.cells (⟨t, true, v⟩ : Wt).cells.toArray 46)).heap.size 46 5) (Nat.le_refl _) hgrow)
          have hz3 := hs0.size
          have hz3' : w2.heap.size + 1 ≤ w3.heap.size := by simpa using hz3
          have HC := Lib.hid (And.intro hown (And.intro (H3.out.1.trans' hs0) (And.intro (hs0.blk H3.out.2.1) (And.intro (hs0.blk H3.out.2.2.1) (hs0.blk H3.out.2.2.2)))))
          clear hown hgrow hat hlt2 hs0 hz3
        all_goals
          clear k0 f0 l0 k1 l1 k2 f2
          have k0 := HC.out.2.2.1.cell
          have f0 := HC.out.2.2.1.free
          have l0 := HC.out.2.2.1.lt
          have k2 := HC.out.2.2.2.1.cell
          have f2 := HC.out.2.2.2.1.free
          have l5 := HC.out.2.2.2.1.lt
          have k9 := HC.out.2.2.2.2.cell
          have l9 := HC.out.2.2.2.2.lt
          simp only [stv] at k0
          simp only [zst] at k2
          simp only [Wt.cells, V.nil] at k9
          go_upto_region 13 with (at_builtin; refine wpList_append_lies _ rfl _ _ _ rfl (w2.heap.size + 1) 46 iw _ 5 48 Try.underlying34 hiw0 hiw1 hiw2 hiw3 rfl (by omega) _ c.ws.length _ (by rfl) (HC.out.1.alloc _) ⟨w3.heap.size, 0, none⟩ 1 1 (⟨t, true, v⟩ : Wt).cells (by rfl) (by rfl) (World.news_of_block (cs := (⟨t, true, v⟩ : Wt).cells.toArray) (t := 46) (fr := (0, 0)) (heap_alloc_new w3 _)) (by simp [Wt.cells, Value.oneCell']) (by omega) (by simp only [maxLen]; omega) (by omega) (by simp; omega) (w3.heap.size + 1) (by simp) ?_; intro g2 cap2 w4 hown4 hgrow hat hlt3)
          have hM : Mine (w2.heap.size + 1) w3 w4 := Mine.grown ((Stay.refl (fun _ => False) w3).alloc _) HC.out.1 (Nat.le_refl _) hgrow
          have hO4 : Only w w4 := Mine.stay ((Mine.only HC.out.2.1).trans (Mine.mono hM (by omega)))
          have b0 := hM.blk HC.out.2.2.1 (by omega)
          have b5 := hM.blk HC.out.2.2.2.1 (by omega)
          clear k0 f0 l0 k2 f2 l5 k9 l9
          have k0 := b0.cell
          have f0 := b0.free
          have l0 := b0.lt
          have k2 := b5.cell
          have f2 := b5.free
          have l5 := b5.lt
          simp only [stv] at k0
          simp only [zst] at k2
          have H4 := Lib.hid (And.intro hown4 hO4)
          clear hown4 hgrow hat hlt3 hM hO4 b0 b5
          go_wp2_with fail
          refine bodyPost_ret (v := .tuple #[.agg #[.int .i64 c.cap, .int .i64 c.pol, .bool c.closed, .slice A c.buf.length cp, .slice (some ⟨g2, 0, none⟩) (c.ws.length + 1) cap2, .int .i64 c.drop], .int .i64 0]) (by simp [results, Try.results39, go_sem, k2]) rfl ?_
          refine WithFr.mk' (fr_mk (.inl fun h => ⟨rfl, by first | exact h | omega | (simp at h)⟩) (.inr fun a ha => by cases ha; have := (H4.out.1.lt g2 rfl).1; have := H2.out.1.size; simp only; omega)) ?_
          have hfin : ∀ {W : World}, Stay (Four w) w4 W → RPark w c t true v (.returned (.tuple #[.agg #[.int .i64 c.cap, .int .i64 c.pol, .bool c.closed, .slice A c.buf.length cp, .slice (some ⟨g2, 0, none⟩) (c.ws.length + 1) cap2, .int .i64 c.drop], .int .i64 0])) W := fun {W} hS => by
            refine RPark.mk HF.out ⟨A, cp, some ⟨g2, 0, none⟩, cap2, by simp, Four.old HS.out.1 H4.out.2 hS, ?_⟩ (Four.only H4.out.2 hS)
            have h1 := own_sl H4.out.1 (by rw [List.length_append, flat_len _ _ Wt.cells_length]; simp [Wt.cells, Nat.add_mul])
            have h3 := h1.aside hS (fun a ha hf => by
              have := (H4.out.1.lt g2 rfl).1
              simp only [Option.some.injEq] at ha
              subst ha
              have := hf.2
              simp only at this
              omega) hS.size
            simpa using h3
          refine hfin ?_
          repeat refine Stay.put ?_ (by unfold Four; omega) _ _
          exact Stay.refl _ _
  · have HN := Lib.hid (show NoArg t false v by unfold NoArg; simp; omega)
    go_enter Try.func39, Try.ntmps39
    go_upto_region 1 with fail
    rw [← hW0]
    obtain ⟨w1, rfl⟩ : ∃ w1 : World, w1 = W0 := ⟨_, rfl⟩
    have H1 := Lib.hid H0.out
    clear hW0
    have k0 := H1.out.2.1.cell
    have l0 := H1.out.2.1.lt
    simp only [stv] at k0
    go_wp2_with fail
    refine (waits_any _ _ c t (HX.out.only H1.out.1)).mono ?_
    rintro e w2 ⟨rfl, hO2⟩
    clear k0 l0
    have k0 := (hO2.blk H1.out.2.1).cell
    have f0 := (hO2.blk H1.out.2.1).free
    have l0 := (hO2.blk H1.out.2.1).lt
    have k1 := (hO2.blk H1.out.2.2.1).cell
    have l1 := (hO2.blk H1.out.2.2.1).lt
    have k2 := (hO2.blk H1.out.2.2.2).cell
    have f2 := (hO2.blk H1.out.2.2.2).free
    have l2 := (hO2.blk H1.out.2.2.2).lt
    simp only [stv] at k0
    simp only [V.cells] at k1
    simp only [zst] at k2
    have H2 := Lib.hid (And.intro (H1.out.1.trans' hO2) (And.intro (hO2.blk H1.out.2.1) (And.intro (hO2.blk H1.out.2.2.1) (hO2.blk H1.out.2.2.2))))
    clear hO2
    cases hw : c.ws.any (fun y => y.t == t) with
    | true =>
      have HF := Lib.hid (show c.park t false v = (c, 21) from park_twice HN.out hw)
      clear hw
      go_wp2_with fail
      refine bodyPost_ret (v := .tuple #[.agg #[.int .i64 c.cap, .int .i64 c.pol, .bool c.closed, .slice A c.buf.length cp, .slice A' c.ws.length cp', .int .i64 c.drop], .int .i64 21]) (by simp [results, Try.results39, go_sem, k2]) rfl ?_
      refine WithFr.mk' (fr_mk (.inl fun h => ⟨rfl, by first | exact h | omega | (simp at h)⟩) (.inl fun h => ⟨rfl, by first | exact h | omega | (simp at h)⟩)) ?_
      refine hW.out _ c _ HF.out ?_
      iterate 6 refine Stay.new ?_ (by omega) _ _
      exact H2.out.1
    | false =>
      by_cases h2 : 200 ≤ c.ws.length
      · have HF := Lib.hid (show c.park t false v = (c, 5) from park_full HN.out hw h2)
        clear hw
        go_wp2_with fail
        refine bodyPost_ret (v := .tuple #[.agg #[.int .i64 c.cap, .int .i64 c.pol, .bool c.closed, .slice A c.buf.length cp, .slice A' c.ws.length cp', .int .i64 c.drop], .int .i64 5]) (by simp [results, Try.results39, go_sem, k2]) rfl ?_
        refine WithFr.mk' (fr_mk (.inl fun h => ⟨rfl, by first | exact h | omega | (simp at h)⟩) (.inl fun h => ⟨rfl, by first | exact h | omega | (simp at h)⟩)) ?_
        refine hW.out _ c _ HF.out ?_
        iterate 6 refine Stay.new ?_ (by omega) _ _
        exact H2.out.1
      · have HF := Lib.hid (show c.park t false v = ({ c with ws := c.ws ++ [⟨t, false, V.nil⟩] }, 0) from park_good HN.out hw h2)
        have h2' : (c.ws.length : Int) < 200 := by omega
        obtain ⟨iw, hiw0, hiw1, hiw2, hiw3⟩ := info_parts infoW
        clear hw h2
        have hOx : Only w2 (w2.alloc (.cells (⟨t, false, V.nil⟩ : Wt).cells.toArray 46)) := (Stay.refl _ w2).alloc _
        have H3 := Lib.hid (And.intro (H2.out.1.trans' hOx) (And.intro (hOx.blk H2.out.2.1) (And.intro (hOx.blk H2.out.2.2.2) (Blk.new w2 (⟨t, false, V.nil⟩ : Wt).cells 46))))
        clear hOx
        have hcase : c.ws.length = 0 ∨ 0 < c.ws.length := by omega
        rcases hcase with h0 | h0
        case' inl =>
          have hwn : c.ws = [] := List.eq_nil_of_length_eq_zero h0
          have HZ := Lib.hid (And.intro h0 hwn)
          clear h0 hwn
          go_upto_region 12 with (at_builtin; refine append_zero' rfl _ _ _ rfl (w2.heap.size + 1) 46 iw 5 Try.underlying34 hiw0 _ 0 [] (by rfl) (World.ownsRow_nil _ _ _ _) A' cp' c.ws.length HZ.out.1 (by rfl) ?_)
          have hown : (w2.alloc (.cells (⟨t, false, V.nil⟩ : Wt).cells.toArray 46)).ownsRow (w2.heap.size + 1) 46 5 (.slice none 0 0) c.ws.length (c.ws.flatMap Wt.cells) := by
            rw [HZ.out.2]
            exact World.ownsRow_nil _ _ _ _
          have HC := Lib.hid (And.intro hown H3.out)
          obtain ⟨w3, hw3⟩ : ∃ w3 : World, w3 = w2.alloc (.cells (⟨t, false, V.nil⟩ : Wt).cells.toArray 46) := ⟨_, rfl⟩
          have hz3 : w2.heap.size + 1 = w3.heap.size := by rw [hw3]; simp
          rw [← hw3] at HC
          have hw3' := hw3.symm
          simp only [Wt.cells, V.nil] at hw3'
          rw [hw3']
          have hz3' := Nat.le_of_eq hz3
          clear hown hw3 hw3' hz3
        case' inr =>
          obtain ⟨yb, yo, rfl, hyb, hyc⟩ := (HS.out.2.only H3.out.1).2.2.2.2 h0
          have HY := Lib.hid hyc
          clear hyc
          go_upto_region 12 with (at_builtin; refine wpList_append_lies _ rfl _ _ _ rfl (w2.heap.size + 1) 46 iw _ 5 48 Try.underlying34 hiw0 hiw1 hiw2 hiw3 rfl (by omega) _ 0 [] (by rfl) (World.ownsRow_nil _ _ _ _) ⟨yb, yo, none⟩ c.ws.length cp' (c.ws.flatMap Wt.cells) (by rfl) (by rw [flat_len _ _ Wt.cells_length]) (fun j u hu => by rw [Addr.add_lit]; exact HY.out j u hu) Wt.one (by omega) (by simp only [maxLen]; omega) (by omega) (by simp) (w2.heap.size + 1) (by simp) ?_; intro g cap w3 hown hgrow hat hlt2; rw [Nat.zero_add] at hown ⊢; rw [List.nil_append] at hown)
          have hs0 : Only (w2.alloc (.cells (⟨t, false, V.nil⟩ : Wt).cells.toArray 46)) w3 := Mine.stay (Mine.grown (Stay.refl _ _) (World.ownsRow_nil (w2.alloc (.cells (⟨t, false, V.nil⟩ : Wt).cells.toArray 46)) (w2.alloc (.cells (⟨t, false, V.nil⟩ : Wt).cells.toArray 46)).heap.size 46 5) (Nat.le_refl _) hgrow)
          have hz3 := hs0.size
          have hz3' : w2.heap.size + 1 ≤ w3.heap.size := by simpa using hz3
          have HC := Lib.hid (And.intro hown (And.intro (H3.out.1.trans' hs0) (And.intro (hs0.blk H3.out.2.1) (And.intro (hs0.blk H3.out.2.2.1) (hs0.blk H3.out.2.2.2)))))
          clear hown hgrow hat hlt2 hs0 hz3
        all_goals
          clear k0 f0 l0 k1 l1 k2 f2
          have k0 := HC.out.2.2.1.cell
          have f0 := HC.out.2.2.1.free
          have l0 := HC.out.2.2.1.lt
          have k2 := HC.out.2.2.2.1.cell
          have f2 := HC.out.2.2.2.1.free
          have l5 := HC.out.2.2.2.1.lt
          have k9 := HC.out.2.2.2.2.cell
          have l9 := HC.out.2.2.2.2.lt
          simp only [stv] at k0
          simp only [zst] at k2
          simp only [Wt.cells, V.nil] at k9
          go_upto_region 13 with (at_builtin; refine wpList_append_lies _ rfl _ _ _ rfl (w2.heap.size + 1) 46 iw _ 5 48 Try.underlying34 hiw0 hiw1 hiw2 hiw3 rfl (by omega) _ c.ws.length _ (by rfl) (HC.out.1.alloc _) ⟨w3.heap.size, 0, none⟩ 1 1 (⟨t, false, V.nil⟩ : Wt).cells (by rfl) (by rfl) (World.news_of_block (cs := (⟨t, false, V.nil⟩ : Wt).cells.toArray) (t := 46) (fr := (0, 0)) (heap_alloc_new w3 _)) (by simp [Wt.cells, Value.oneCell']) (by omega) (by simp only [maxLen]; omega) (by omega) (by simp; omega) (w3.heap.size + 1) (by simp) ?_; intro g2 cap2 w4 hown4 hgrow hat hlt3)
          have hM : Mine (w2.heap.size + 1) w3 w4 := Mine.grown ((Stay.refl (fun _ => False) w3).alloc _) HC.out.1 (Nat.le_refl _) hgrow
          have hO4 : Only w w4 := Mine.stay ((Mine.only HC.out.2.1).trans (Mine.mono hM (by omega)))
          have b0 := hM.blk HC.out.2.2.1 (by omega)
          have b5 := hM.blk HC.out.2.2.2.1 (by omega)
          clear k0 f0 l0 k2 f2 l5 k9 l9
          have k0 := b0.cell
          have f0 := b0.free
          have l0 := b0.lt
          have k2 := b5.cell
          have f2 := b5.free
          have l5 := b5.lt
          simp only [stv] at k0
          simp only [zst] at k2
          have H4 := Lib.hid (And.intro hown4 hO4)
          clear hown4 hgrow hat hlt3 hM hO4 b0 b5
          go_wp2_with fail
          refine bodyPost_ret (v := .tuple #[.agg #[.int .i64 c.cap, .int .i64 c.pol, .bool c.closed, .slice A c.buf.length cp, .slice (some ⟨g2, 0, none⟩) (c.ws.length + 1) cap2, .int .i64 c.drop], .int .i64 0]) (by simp [results, Try.results39, go_sem, k2]) rfl ?_
          refine WithFr.mk' (fr_mk (.inl fun h => ⟨rfl, by first | exact h | omega | (simp at h)⟩) (.inr fun a ha => by cases ha; have := (H4.out.1.lt g2 rfl).1; have := H2.out.1.size; simp only; omega)) ?_
          have hfin : ∀ {W : World}, Stay (Four w) w4 W → RPark w c t false v (.returned (.tuple #[.agg #[.int .i64 c.cap, .int .i64 c.pol, .bool c.closed, .slice A c.buf.length cp, .slice (some ⟨g2, 0, none⟩) (c.ws.length + 1) cap2, .int .i64 c.drop], .int .i64 0])) W := fun {W} hS => by
            refine RPark.mk HF.out ⟨A, cp, some ⟨g2, 0, none⟩, cap2, by simp, Four.old HS.out.1 H4.out.2 hS, ?_⟩ (Four.only H4.out.2 hS)
            have h1 := own_sl H4.out.1 (by rw [List.length_append, flat_len _ _ Wt.cells_length]; simp [Wt.cells, Nat.add_mul])
            have h3 := h1.aside hS (fun a ha hf => by
              have := (H4.out.1.lt g2 rfl).1
              simp only [Option.some.injEq] at ha
              subst ha
              have := hf.2
              simp only at this
              omega) hS.size
            simpa using h3
          refine hfin ?_
          repeat refine Stay.put ?_ (by unfold Four; omega) _ _
          exact Stay.refl _ _

end Go.Proofs.Ytfmkdkpgehkfaaa
