/- Close. -/
import Derived.Test.YtfmkdkpgehkfaaaChanState
set_option linter.unusedVariables false
set_option linter.unusedSimpArgs false
namespace Go.Proofs.Ytfmkdkpgehkfaaa
open Go Go.RowKit

def ClosePost (w : World) (b : Nat) (ns : List Nat) (c : Ch) (e : Ending) (w' : World) : Prop :=
  ∃ dv ns', e = .returned dv ∧ ChAt w' b ns' c.close.1 ∧ w'.ownsRow w.heap.size 44 7 dv c.close.2.length (c.close.2.flatMap D.cells) ∧ (∀ k ∈ ns', k ∈ ns) ∧ Stay (· ∈ b :: ns) w w'

def cdeal (x : Wt) : D := ⟨x.t, 0, V.nil, F.closed⟩

set_option maxRecDepth 100000 in
set_option maxHeartbeats 8000000 in
theorem close_any (w : World) (b : Nat) (ns : List Nat) (c : Ch) (d : Int) (h : ChAt w b ns c) (hok : c.Ok d) :
    Calls Try.prog 14 #[.pointer (some ⟨b, 0, none⟩)] w (ClosePost w b ns c) := by
  have H := Lib.hid h
  have hbl := h.lt b (by simp)
  have HLT : Hid (∀ k ∈ b :: ns, k < w.heap.size) := h.lt
  obtain ⟨r, fr, p, hC, hR, hch, hnd⟩ := h
  have x2 := hC.closed_
  have hf := hC.free
  have HC := Lib.hid (And.intro hC (And.intro hR (And.intro hch (And.intro hnd hok))))
  cases hcl : c.closed with
  | true =>
    have HF := Lib.hid (show c.close = (c, []) by simp [Ch.close, hcl])
    rw [hcl] at x2
    clear hC hR hch hnd hok hcl
    go_enter Try.func14, Try.ntmps14
    go_wp2_with fail
    go_ret
    unfold ClosePost
    rw [HF.out]
    exact ⟨_, ns, rfl, H.out, World.ownsRow_nil _ _ _ _, fun _ h => h, Stay.refl _ _⟩
  | false =>
    have HF := Lib.hid (show c.close = ({ c with closed := true, ws := [] }, c.ws.map cdeal) by simp [Ch.close, hcl, cdeal])
    rw [hcl] at x2
    clear hC hR hch hnd hok hcl
    obtain ⟨iw, hiw0, hiw1, hiw2, hiw3⟩ := info_parts infoD
    have hp53 : w.cell? ⟨b, 53, none⟩ = some (.pointer p) := HC.out.1.p_
    go_enter Try.func14, Try.ntmps14
    go_wp2_with fail
    have hC0 : CC (w.setCell ⟨b, 2, none⟩ (.bool true)) b c.cap c.pol true r fr c.buf.length p c.ws.length c.drop := HC.out.1.set_closed true
    have hch0 : Chain (w.setCell ⟨b, 2, none⟩ (.bool true)) p c.ws ns := HC.out.2.2.1.stay ((Stay.refl (· = b) w).put rfl _ _) (fun k hk e => by subst e; exact (List.nodup_cons.1 HC.out.2.2.2.1).1 hk)
    have hz : (w.setCell ⟨b, 2, none⟩ (.bool true)).heap.size = w.heap.size := by simp
    have hS0 : Stay (· ∈ b :: ns) w (w.setCell ⟨b, 2, none⟩ (.bool true)) := (Stay.refl _ w).put (by simp) _ _
    generalize w.setCell ⟨b, 2, none⟩ (.bool true) = w0 at *
    have HW := Lib.hid (And.intro hC0 (And.intro hch0 (And.intro hz hS0)))
    clear hC0 hch0 hz hS0 x2 hf hp53
    go_loopg [3, 4] (c.ws.length) (fun k dv q wr => ∃ j nsuf q', j ≤ c.ws.length ∧ k = c.ws.length - j ∧ q = .pointer q' ∧ Chain wr q' (c.ws.drop j) nsuf ∧ (∀ k ∈ nsuf, k ∈ ns) ∧ Only w0 wr ∧
        wr.ownsRow w.heap.size 44 7 dv j (((c.ws.map cdeal).take j).flatMap D.cells))
    case atStart => exact ⟨0, ns, p, Nat.zero_le _, rfl, rfl, HW.out.2.1, fun _ h => h, Stay.refl _ _, World.ownsRow_nil _ _ _ _⟩
    case round =>
      obtain ⟨j, nsuf, q', hj, hk, rfl, hch, hns, hO, hown⟩ := hrel
      obtain ⟨A2, cp2, rfl⟩ : ∃ A cp, u3 = .slice A j cp := by
        rcases hown.2 with ⟨rfl, rfl⟩ | ⟨g, cap, cur, rfl, _⟩
        · exact ⟨none, 0, rfl⟩
        · exact ⟨_, cap, rfl⟩
      cases hd : c.ws.drop j with
      | nil =>
        have hje : j = c.ws.length := by have := congrArg List.length hd; simp at this; omega
        subst hje
        rw [show c.ws.length = (c.ws.map cdeal).length by simp, List.take_length] at hown
        simp only [List.length_map] at hown
        rw [hd] at hch
        obtain ⟨rfl, _⟩ := hch
        have hC1 := HW.out.1.stay hO id
        have e53 := hC1.p_
        have e54 := hC1.nw_
        have ef := hC1.free
        have el := hC1.lt
        have HY := Lib.hid (And.intro hO (And.intro hown hC1))
        clear hO hown hd hns hk hC1
        go_wp2_with fail
        go_ret
        unfold ClosePost
        rw [HF.out]
        refine ⟨_, [], rfl, ⟨r, fr, none, (HY.out.2.2.set_p none).set_nw 0, HC.out.2.1, ⟨rfl, rfl⟩, by simp⟩, ?_, by simp, ?_⟩
        · refine owns_stay (S := (· = b)) (((Stay.refl (· = b) wr).put rfl _ _).put rfl _ _) ?_ (fun k hk _ e => by omega)
          simpa using HY.out.2.1
        · have h1 : Stay (· ∈ b :: ns) w wr := HW.out.2.2.2.trans HY.out.1 (fun _ _ h => h.elim)
          exact (h1.put (by simp) _ _).put (by simp) _ _
      | cons x l =>
        have hlt : j < c.ws.length := by
          rcases Nat.lt_or_ge j c.ws.length with h | h
          · exact h
          · rw [List.drop_eq_nil_of_le h] at hd; cases hd
        have hx : (c.ws.map cdeal)[j]? = some (cdeal x) := by rw [List.getElem?_map, ← List.head?_drop, hd]; rfl
        have hd1 : c.ws.drop (j + 1) = l := by rw [← List.tail_drop, hd]; rfl
        rw [hd] at hch
        obtain ⟨k', ns', q'', rfl, rfl, hb, hc⟩ := hch
        have n0 := hb.at (i := 0) rfl
        have n5 := hb.at (i := 5) rfl
        have kl := hb.lt
        have hkl : k' < w.heap.size := HLT.out k' (by have := hns k' (by simp); simp [this])
        have hA3 : (Value.slice A2 j cp2).ownBlock ≠ some k' := fun e => by have := (hown.lt _ e).1; omega
        have hwl : c.ws.length ≤ 200 := HC.out.2.2.2.2.ws
        have hzz : w.heap.size ≤ wr.heap.size := by have := HW.out.2.2.1; have := hO.size; omega
        have HY := Lib.hid (And.intro hk (And.intro hns (And.intro hO (And.intro hown (And.intro hx (And.intro hd1 (And.intro hc hb)))))))
        clear hk hns hO hx hd1 hd hc hb
        go_wp2_with fail
        go_region_law (first | (refine step_append_lies _ (by rfl) _ _ _ (by rfl) w.heap.size 44 iw _ 7 72 Try.underlying38 hiw0 hiw1 hiw2 hiw3 rfl (by omega) _ j _ (by rfl) ((own_only hO1 hown).alloc _) ⟨w1.heap.size, 0, none⟩ 1 1 (cdeal x).cells (by rfl) (by rfl) (World.news_of_block (cs := (cdeal x).cells.toArray) (t := 44) (fr := (0, 0)) (heap_alloc_new w1 _)) (by simp [D.cells, Value.oneCell']) (by omega) (by simp only [maxLen]; omega) (by omega) (by simp; omega) (w1.heap.size + 1) (by simp) ?_; intro gg cap w2 hown2 hgrow hat hlt1; have q3 := (hgrow.cell_far ⟨k', 5, none⟩ (by simp; omega) (Ne.symm hA3)).trans ((World.cell?_alloc_past _ _ _ (by omega)).trans m5)) | (go_simp; go_at_call 28; refine (throw_any _ _).mono ?_; rintro e w1 ⟨rfl, hO1⟩; unfold F.val; have m0 := hO1.cell n0; have m5 := hO1.cell n5; have ml := World.block_lt_of_cell? w1 _ m5; have mz := hO1.size; simp only [World.size_drew] at mz))
        all_goals
          have HG := Lib.hid (And.intro hown2 (And.intro hgrow (And.intro hat (And.intro hlt1 hO1))))
          have h2l := World.block_lt_of_cell? _ _ q3
          clear hown2 hgrow hat hlt1 hO1 m0 m5 ml mz hown n0 n5 hA3
          go_wp2_with fail
          go_roundg (c.ws.length - (j + 1))
          case measure => have := HY.out.1; omega
          case rel =>
            obtain ⟨hk, hns, hO, hown, hx, hd1, hc, hb⟩ := HY.out
            obtain ⟨hown2, hgrow, hat, hlt1, hO1⟩ := HG.out
            have hO3 : Only wr (w1.alloc (.cells (cdeal x).cells.toArray 44)) := (Only.trans' ((Stay.refl _ wr).drew) hO1).alloc _
            have hM : Mine w.heap.size wr w2 := Mine.grown hO3 hown (Nat.le_refl _) hgrow
            refine ⟨j + 1, ns', q'', hlt, rfl, rfl, ?_, fun k hk => hns k (by simp [hk]), ?_, ?_⟩
            · rw [hd1]
              exact hc.stay hM (fun k hk => Nat.not_le.2 (HLT.out k (by have := hns k (by simp [hk]); simp [this])))
            · refine Mine.stay ?_
              rw [HW.out.2.2.1]
              exact (Mine.only hO).trans hM
            · rw [flat_snoc _ _ _ _ hx]
              exact hown2

end Go.Proofs.Ytfmkdkpgehkfaaa
