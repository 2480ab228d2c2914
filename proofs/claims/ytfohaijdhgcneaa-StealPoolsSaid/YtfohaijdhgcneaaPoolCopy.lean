/- A pool's Copy. -/
import Derived.Test.YtfohaijdhgcneaaPoolNext
import Derived.Test.YtfohaijdhgcneaaPoolNew
set_option linter.unusedVariables false
set_option linter.unusedSimpArgs false
namespace Go.Proofs.Ytfohaijdhgcneaa
open Go Go.RowKit

theorem PoolAt.grow {w0 wt we w6 : World} {b n g cap : Nat} {qs : List (List Int)} {qv ve : Value} {vs : List Value} {l : List Int} {o : Obj} (hP : PoolAt w0 wt b qs qv vs) (ho : Only wt we) (hq : Qu we wt.heap.size ve l) (st : Stay (fun k => qv.ownBlock = some k) (we.alloc o) w6)
    (hown : w6.ownsRow w0.heap.size 22 1 (.slice (some ⟨g, 0, none⟩) (n + 1) cap) (n + 1) (vs ++ [ve])) (hn : n = qs.length) (hw : w0.heap.size ≤ wt.heap.size) :
    PoolAt w0 (w6.setCell ⟨b, 0, none⟩ (.slice (some ⟨g, 0, none⟩) (n + 1) cap)) b (qs ++ [l]) (.slice (some ⟨g, 0, none⟩) (n + 1) cap) (vs ++ [ve]) := by
  have hvl : vs.length = qs.length := hP.len
  have hqb : ∀ k, qv.ownBlock = some k → k < wt.heap.size ∧ k ≠ b := fun k hk => ⟨(own_lt hP.row k hk).2, own_ne_blk hP.row hP.blk (by decide) k hk⟩
  have hB := st.blk ((ho.blk hP.blk).alloc o) (fun e => (hqb b e).2 rfl)
  have hgb := own_ne_blk hown hB (by decide)
  have hst : Stay (fun k => k = b ∨ qv.ownBlock = some k) (we.alloc o) (w6.setCell ⟨b, 0, none⟩ (.slice (some ⟨g, 0, none⟩) (n + 1) cap)) := (st.mono (fun _ _ h => .inr h)).put (.inl rfl) _ _
  have hqnew := (hq.only ((Stay.refl (fun _ => False) we).alloc o)).stay hst (fun k hk e => by
    have h1 := (hq.lt k hk).1
    rcases e with e | e
    · have := hP.blk.lt; omega
    · have := (hqb k e).1; omega)
  have hlt : ∀ (i : Nat) (v : Value), vs[i]? = some v → ∀ k, v.ownBlock = some k → k < wt.heap.size := fun i v hv k hk => (hP.lt (.inr (.inr ⟨i, v, hv, hk⟩))).2
  have hve : ∀ k, ve.ownBlock = some k → wt.heap.size ≤ k := fun k hk => (hq.lt k hk).1
  refine ⟨hB.set 0 _, ?_, fun i v l' hv hl => ?_, fun i j v u hij hv hu => ?_, hP.bb⟩
  · rw [List.length_append, ← hn]
    exact own_set hown _ hgb
  · by_cases hi : i < vs.length
    · rw [List.getElem?_append_left hi] at hv
      rw [List.getElem?_append_left (by omega)] at hl
      exact (((hP.q i v l' hv hl).only ho).only ((Stay.refl (fun _ => False) we).alloc o)).stay hst (fun k hk e => by
        rcases e with e | e
        · exact (hP.apart hv k hk).2 e
        · exact (hP.apart hv k hk).1 e)
    · have hi2 : i = vs.length := by have := (List.getElem?_eq_some_iff.1 hv).1; simp at this; omega
      subst hi2
      rw [List.getElem?_append_right (Nat.le_refl _), Nat.sub_self] at hv
      rw [hvl, List.getElem?_append_right (Nat.le_refl _), Nat.sub_self] at hl
      simp at hv hl
      subst hv hl
      exact hqnew.rebase hw
  · have key : ∀ (i : Nat) (v : Value), (vs ++ [ve])[i]? = some v → (i < vs.length ∧ vs[i]? = some v) ∨ (i = vs.length ∧ v = ve) := fun i v hv => by
      by_cases hi : i < vs.length
      · rw [List.getElem?_append_left hi] at hv
        exact .inl ⟨hi, hv⟩
      · have hi2 : i = vs.length := by have := (List.getElem?_eq_some_iff.1 hv).1; simp at this; omega
        subst hi2
        rw [List.getElem?_append_right (Nat.le_refl _), Nat.sub_self] at hv
        simp at hv
        exact .inr ⟨rfl, hv.symm⟩
    rcases key i v hv with ⟨_, h1⟩ | ⟨h1, rfl⟩
    · rcases key j u hu with ⟨_, h2⟩ | ⟨h2, rfl⟩
      · exact hP.off i j v u hij h1 h2
      · exact fun k hk hk2 => by have := hlt i v h1 k hk; have := hve k hk2; omega
    · rcases key j u hu with ⟨_, h2⟩ | ⟨h2, rfl⟩
      · exact fun k hk hk2 => by have := hlt j u h2 k hk2; have := hve k hk; omega
      · omega
set_option maxRecDepth 100000 in
set_option maxHeartbeats 4000000 in
theorem pcopy_any {w0 w : World} {b : Nat} {qs : List (List Int)} {qv : Value} {vs : List Value} (h : PoolAt w0 w b qs qv vs) (h1 : 1 ≤ qs.length) (h8 : qs.length ≤ 8) (hl : ∀ j, (qs.getD j []).length ≤ 100000) :
    Calls Try.prog 31 #[.pointer (some ⟨b, 0, none⟩)] w fun e w' => ∃ b' qv' vs', e = .returned (.pointer (some ⟨b', 0, none⟩)) ∧ PoolAt w w' b' qs qv' vs' ∧ Only w w' := by
  obtain ⟨iq, hq0, hq1, hq2, hq3⟩ := info_parts infoQ
  obtain ⟨g, cap, e1, _, hg⟩ := h.row.form (by omega)
  subst e1
  have cb := h.blk.cell
  have lb := h.blk.lt
  have H := Lib.hid h
  clear h
  go_enter Try.func31, Try.ntmps31
  go_wp2_with fail
  go_loopg [15] (qs.length) (fun kk vi wr => ∃ (i : Nat) (qv' : Value) (vs' : List Value), i ≤ qs.length ∧ kk = qs.length - i ∧ vi = .int .i64 (i : Nat) ∧ PoolAt w wr w.heap.size (qs.take i) qv' vs' ∧ Only w wr)
  case atStart =>
    exact ⟨0, .slice none 0 0, [], Nat.zero_le _, rfl, rfl, ⟨Blk.newAt w [_] _ _ rfl, World.ownsRow_nil _ _ _ _, fun i v l hv => by simp at hv, fun i j v u _ hv => by simp at hv, Nat.le_refl _⟩, (Stay.refl _ w).alloc _⟩
  case round =>
    obtain ⟨i, qv', vs', hi, hk, rfl, hP, hO⟩ := hrel
    obtain ⟨wt, hwt⟩ : ∃ wt, wt = wr := ⟨_, rfl⟩
    rw [← hwt] at hP hO ⊢
    clear hwt
    by_cases hlt : i < qs.length
    · have hS := H.out.only hO
      obtain ⟨g2, cap2, A, c, e2, _, hv, hc, hqu, _⟩ := hS.at hlt
      obtain ⟨rfl, rfl⟩ : g = g2 ∧ cap = cap2 := by simpa using e2
      have hgl := (own_lt hS.row g rfl).2
      have hlj := hl i
      obtain ⟨l, hll⟩ : ∃ l, l = qs.getD i [] := ⟨_, rfl⟩
      rw [← hll] at hc hqu hlj
      obtain ⟨Ar, cr, rfl⟩ := own_shape hP.row
      have htl : (qs.take i).length = i := by rw [List.length_take]; omega
      rw [htl] at hP
      have hrow := hP.row
      rw [htl] at hrow
      have cp := hP.blk.cell
      have fp := hP.blk.free
      have lp := hP.blk.lt
      have u1 : (0 : Int) ≤ (i : Int) := by omega
      have u2 : (i : Int) < (qs.length : Int) := by omega
      have hsl := hqu.sl
      have HX := Lib.hid (And.intro hP (And.intro hO (And.intro hqu (And.intro hrow (And.intro hll (And.intro hk htl))))))
      clear hP hO hqu hrow hll hk htl hS hv e2 cb lb
      go_upto_region 7 with fail
      go_region_law (first
        | (refine step_append_lies _ (by rfl) _ _ _ (by rfl) w.heap.size 22 iq _ 1 24 Try.underlying58 hq0 hq1 hq2 hq3 rfl (by omega) _ i _ (by rfl) (by first | exact own_only HE.out.2 (own_only HX.out.2.1 (World.ownsRow_nil w 0 0 0)) | exact own_alloc (own_only HE.out.2 HX.out.2.2.2.1) _) ⟨we.heap.size, 0, none⟩ 1 1 [.slice Ae l.length ce] (by rfl) (by rfl) (World.news_of_block (cs := [Value.slice Ae l.length ce].toArray) (t := 22) (fr := (0, 0)) (heap_alloc_new we _)) (by simp [Value.oneCell']) (by omega) (by simp only [maxLen]; omega) (by omega) (by have := HX.out.2.1.size; have := HE.out.2.size; simp; omega) (we.heap.size + 1) (by simp) ?_; intro g6 cap6 w6 hown hgrow hat hlt6; have st := grown_stay hgrow; have BT := st.blk ((HE.out.2.blk HX.out.1.blk).alloc _) (fun e => own_ne_blk HX.out.2.2.2.1 HX.out.1.blk (by decide) _ e rfl); have c6 := BT.cell; have f6 := BT.free; have l6 := BT.lt; have HG := Lib.hid (And.intro hown (And.intro st (And.intro hat BT))); clear hown hgrow hat hlt6 st BT)
        | (go_simp; go_at_call 37; refine (cloneI_any _ A c l (Sl.later hsl (by first | exact (Stay.refl _ wt).drew | exact Stay.refl _ wt) (by first | exact Nat.le_refl _ | simp)) (by omega)).mono ?_; rintro e we ⟨ve, rfl, hre, hoe⟩; obtain ⟨Ae, ce, rfl⟩ := own_shape hre; have hoe2 : Only wt we := Only.trans' (by first | exact (Stay.refl _ wt).drew | exact Stay.refl _ wt) hoe; have cpe := (hoe2.blk HX.out.1.blk).cell; have fpe := (hoe2.blk HX.out.1.blk).free; have lpe := (hoe2.blk HX.out.1.blk).lt; have HE := Lib.hid (And.intro hre hoe2); clear hre hoe hoe2))
      all_goals
        go_wp2_with fail
        go_roundg (qs.length - (i + 1))
        case measure => have := HX.out.2.2.2.2.2.1; omega
        case rel =>
          have hz := HX.out.2.1.size
          have hre := HE.out.1
          have hqe : Qu we wt.heap.size (.slice Ae l.length ce) l := Qu.of_row hre
          have hg := HX.out.1.grow (n := i) HE.out.2 hqe HG.out.2.1 HG.out.1 HX.out.2.2.2.2.2.2.symm hz
          have htk : qs.take (i + 1) = qs.take i ++ [l] := by
            rw [HX.out.2.2.2.2.1, List.take_add_one, List.getElem?_eq_getElem hlt, List.getD_eq_getElem?_getD, List.getElem?_eq_getElem hlt]
            rfl
          refine ⟨i + 1, _, _, by omega, rfl, by go_num, by rw [htk]; exact hg, ?_⟩
          exact Stay.set (((HX.out.2.1.trans' HE.out.2).alloc _).trans HG.out.2.1 (fun k hk e => by have := (own_lt HX.out.2.2.2.1 k e).1; omega)) (fun h => by simp at h) _
    · obtain rfl : i = qs.length := by omega
      rw [List.take_length] at hP
      have HX := Lib.hid (And.intro hP hO)
      clear hP hO hk
      go_wp2_with fail
      go_ret
      exact ⟨_, _, _, rfl, HX.out.1, HX.out.2⟩
end Go.Proofs.Ytfohaijdhgcneaa
