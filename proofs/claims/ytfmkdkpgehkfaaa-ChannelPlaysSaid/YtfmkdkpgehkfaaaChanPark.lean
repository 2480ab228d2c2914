/- Park, Withdraw. -/
import Derived.Test.YtfmkdkpgehkfaaaChanOps
set_option linter.unusedVariables false
set_option linter.unusedSimpArgs false
namespace Go.Proofs.Ytfmkdkpgehkfaaa
open Go Go.RowKit

def ParkPost (w : World) (b : Nat) (ns : List Nat) (c : Ch) (t : Int) (send : Bool) (v : V) (e : Ending) (w' : World) : Prop :=
  ∃ ns', e = .returned (.int .i64 (c.park t send v).2) ∧ ChAt w' b ns' (c.park t send v).1 ∧ (∀ k ∈ ns', k ∈ ns ∨ w.heap.size ≤ k) ∧ Stay (· ∈ b :: ns) w w'
theorem ParkPost.mk {w w' : World} {b : Nat} {ns ns' : List Nat} {c c' : Ch} {t : Int} {send : Bool} {v : V} {n : Int} (h : c.park t send v = (c', n)) (hch : ChAt w' b ns' c')
    (hns : ∀ k ∈ ns', k ∈ ns ∨ w.heap.size ≤ k) (hs : Stay (· ∈ b :: ns) w w') :
    ParkPost w b ns c t send v (.returned (.int .i64 n)) w' := by
  unfold ParkPost
  rw [h]
  exact ⟨ns', rfl, hch, hns, hs⟩

set_option maxRecDepth 100000 in
set_option maxHeartbeats 4000000 in
theorem park_any (w : World) (b : Nat) (ns : List Nat) (c : Ch) (t : Int) (send : Bool) (v : V) (d : Int) (h : ChAt w b ns c) (hok : c.Ok d) (hs : v.s.size ≤ 9223372036854775807) :
    Calls Try.prog 25 #[.pointer (some ⟨b, 0, none⟩), .int .i64 t, .bool send, v.val] w (ParkPost w b ns c t send v) := by
  have H := Lib.hid h
  have HOK := Lib.hid hok
  have hbl := h.lt b (by simp)
  have HLT : Hid (∀ k ∈ b :: ns, k < w.heap.size) := h.lt
  clear h hok
  unfold V.val
  by_cases ht : t < 1
  · have HF := Lib.hid (show c.park t send v = (c, 2) by simp [Ch.park, ht])
    go_enter Try.func25, Try.ntmps25
    go_wp2_with fail
    go_ret
    exact ParkPost.mk HF.out (H.out.only ((Stay.refl _ w).alloc _)) (fun _ h => .inl h) ((Stay.refl _ w).alloc _)
  · by_cases hv : send = true ∧ valid v = false
    · have HF := Lib.hid (show c.park t send v = (c, 2) by simp [Ch.park, hv])
      have HV := Lib.hid hv.2
      obtain ⟨rfl, _⟩ := hv
      go_enter Try.func25, Try.ntmps25
      go_wp2_with fail
      refine (value_any v _ hs).mono ?_
      rintro e w1 ⟨rfl, hO⟩
      rw [HV.out]
      have HO := Lib.hid hO.behind
      clear hO
      go_wp2_with fail
      go_ret
      exact ParkPost.mk HF.out (H.out.only HO.out) (fun _ h => .inl h) HO.out.some
    · have HV := Lib.hid hv
      have HT := Lib.hid ht
      cases send with
      | false =>
        clear hv ht
        have ht : 1 ≤ t := by have := HT.out; omega
        go_enter Try.func25, Try.ntmps25
        go_wp2_with fail
        go_loopg [9] (c.ws.length) (fun k p wr => ∃ pre suf npre nsuf, c.ws = pre ++ suf ∧ ns = npre ++ nsuf ∧ npre.length = pre.length ∧ (∀ x ∈ pre, (x.t == t) = false) ∧ k = suf.length ∧ p = .pointer (some (LinkAt b npre)) ∧ Only w wr ∧
          Blk wr w.heap.size 29 v.cells)
        case atStart => exact ⟨[], c.ws, [], ns, rfl, rfl, rfl, by simp, rfl, rfl, (Stay.refl _ _).alloc _, Blk.new w _ _⟩
        case round =>
          obtain ⟨pre, suf, npre, nsuf, hw1, hn1, hl, hpre, hk, rfl, hO, hB⟩ := hrel
          obtain ⟨r, fr, p, hC, hR, hch0, hnd⟩ := H.out
          obtain ⟨q, hc1, hc2, hc3⟩ := link_cell (hC.stay hO (by simp)) hl (hw1 ▸ hn1 ▸ hch0.stay hO (by simp))
          have hC1 := hC.stay hO id
          have e54 := hC1.nw_
          have ef := hC1.free
          have vb := hB.cell
          simp only [V.cells] at vb
          have vf := hB.free
          have vl := hB.lt
          have HC := Lib.hid (And.intro hC (And.intro hR (And.intro hch0 hnd)))
          have HX := Lib.hid (And.intro hw1 (And.intro hn1 (And.intro hl (And.intro hpre (And.intro hk (And.intro hO (And.intro hB hc3)))))))
          clear hw1 hn1 hl hpre hk hO hB hC hR hch0 hnd hC1
          have hbl2 : b < wr.heap.size := by omega
          obtain ⟨A, hA⟩ : ∃ A, LinkAt b npre = A := ⟨_, rfl⟩
          rw [hA] at hc1 hc2 ⊢
          have HA := Lib.hid hA
          clear hA
          cases suf with
          | nil =>
            have hq : q = none := hc3.1
            have hn0 : nsuf = [] := hc3.2
            have HN0 := Lib.hid hn0
            subst hq
            clear hc3 hn0
            have hall : c.ws.any (fun x => x.t == t) = false := by
              have := HX.out.1
              rw [List.append_nil] at this
              rw [this, List.any_eq_false]
              intro x hx
              simp [HX.out.2.2.2.1 x hx]
            have HALL := Lib.hid hall
            clear hall
            by_cases h200 : 200 ≤ c.ws.length
            · have HF := Lib.hid (show c.park t false v = (c, 5) by
                have hnt : ¬ t < 1 := by have := HT.out; omega
                simp [Ch.park, hnt, HALL.out, h200])
              have h200' : (200 : Int) ≤ (c.ws.length : Int) := by omega
              clear h200
              go_wp2_with fail
              go_ret
              exact ParkPost.mk HF.out (H.out.only HX.out.2.2.2.2.2.1) (fun _ h => .inl h) HX.out.2.2.2.2.2.1.some
            · have HF := Lib.hid (show c.park t false v = ({ c with ws := c.ws ++ [⟨t, false, V.nil⟩] }, 0) by
                have hnt : ¬ t < 1 := by have := HT.out; omega
                simp [Ch.park, hnt, HALL.out, h200])
              have h200' : (c.ws.length : Int) < 200 := by omega
              clear h200
              have hns : ns = npre := by have := HX.out.2.1; rw [HN0.out, List.append_nil] at this; exact this
              have hnb : b ∉ ns := by have := HC.out.2.2.2; exact (List.nodup_cons.1 this).1
              have hAc : A = ⟨b, 53, none⟩ ∨ ∃ k, A = ⟨k, 5, none⟩ ∧ k ∈ ns := by
                rw [← HA.out]
                unfold LinkAt
                cases hg : npre.getLast? with
                | none => exact .inl rfl
                | some k => exact .inr ⟨k, rfl, by rw [hns]; exact List.mem_of_getLast? hg⟩
              have HAL := Lib.hid (And.intro hns hnb)
              -- the end, whatever the world
              have fin : Hid (∀ W, Blk W wr.heap.size 77 (nc ⟨t, false, V.nil⟩ none) → Stay (· = w.heap.size) wr W → ParkPost w b ns c t false v (.returned (.int .i64 0)) ((W.setCell A (.pointer (some ⟨wr.heap.size, 0, none⟩))).setCell ⟨b, 54, none⟩ (.int .i64 (c.ws.length + 1)))) := by
                intro W hnode hst
                obtain ⟨hw1, hn1, hl, hpre, hk, hO, hB, _⟩ := HX.out
                obtain ⟨hC, hR, hch0, hnd⟩ := HC.out
                have hbn : ¬ b = w.heap.size := Nat.ne_of_lt (HLT.out b (by simp))
                have hCW : CC W b c.cap c.pol c.closed r fr c.buf.length p c.ws.length c.drop := (hC.stay hO id).stay hst hbn
                have hchW : Chain W p (pre ++ []) (npre ++ []) := by
                  have := (hch0.stay hO (fun _ _ => id)).stay hst (fun k hk e => absurd (HLT.out k (by simp [hk])) (by rw [e]; exact Nat.lt_irrefl _))
                  rw [hns] at this
                  rw [hw1] at this
                  simpa using this
                have hnd' : (b :: npre).Nodup := by rw [← hns]; exact hnd
                have hfresh : ∀ k ∈ b :: npre, k ∉ [wr.heap.size] := by
                  intro k hk e
                  simp at e
                  subst e
                  have h1 := HLT.out wr.heap.size (by rw [hns]; exact hk)
                  have h2 := hO.size
                  omega
                obtain ⟨p', hCr, hchr⟩ := relink hCW hl hchW hnd' (q' := some ⟨wr.heap.size, 0, none⟩) (l := [⟨t, false, V.nil⟩]) (nl := [wr.heap.size]) ⟨wr.heap.size, [], none, rfl, rfl, hnode, rfl, rfl⟩ hfresh
                rw [HA.out] at hCr hchr
                have hnd2 : (b :: (npre ++ [wr.heap.size])).Nodup := by
                  have : ((b :: npre) ++ [wr.heap.size]).Nodup := List.nodup_append.2 ⟨hnd', by simp, fun k hk y hy e => hfresh k hk (by rw [e]; exact hy)⟩
                  simpa using this
                refine ParkPost.mk HF.out (ns' := npre ++ [wr.heap.size]) ⟨r, fr, p', ?_, hR, ?_, hnd2⟩ ?_ ?_
                · have := hCr.set_nw (c.ws.length + 1)
                  simpa using this
                · have hpp : pre = c.ws := by rw [hw1]; simp
                  rw [hpp] at hchr
                  exact hchr.stay ((Stay.refl (· = b) _).put rfl 54 _) (fun k hk e => by subst e; exact (List.nodup_cons.1 hnd2).1 hk)
                · intro k hk
                  rcases List.mem_append.1 hk with h | h
                  · exact .inl (by rw [hns]; exact h)
                  · simp at h; subst h; exact .inr hO.size
                · have hAm : A.block ∈ b :: ns := by rw [hns]; exact HA.out ▸ LinkAt_mem b npre
                  exact ((hO.some.trans hst (fun i hi e => absurd hi (by rw [e]; exact Nat.lt_irrefl _))).set (fun _ => hAm) _).put (by simp) _ _
              rcases hAc with rfl | ⟨k, rfl, hkm⟩
              · go_wp2_with fail
                go_ret
                rw [← World.setCell_alloc_past _ b 54 _ (by first | omega | (simp; omega)), ← World.setCell_alloc_past _ b 53 _ (by first | omega | (simp; omega))]
                exact fin.out _ (Blk.newAt _ (nc ⟨t, false, V.nil⟩ none) _ _ (by simp)) (((((Stay.refl (· = w.heap.size) wr).put rfl _ _).put rfl _ _).put rfl _ _).alloc _)
              · have hkb : ¬ k = b := fun e => HAL.out.2 (e ▸ hkm)
                have hkl : k < w.heap.size := HLT.out k (by simp [hkm])
                have hkl2 : k < wr.heap.size := by omega
                go_wp2_with fail
                go_ret
                rw [← World.setCell_alloc_past _ b 54 _ (by first | omega | (simp; omega)), ← World.setCell_alloc_past _ k 5 _ (by first | omega | (simp; omega))]
                exact fin.out _ (Blk.newAt _ (nc ⟨t, false, V.nil⟩ none) _ _ (by simp)) (((((Stay.refl (· = w.heap.size) wr).put rfl _ _).put rfl _ _).put rfl _ _).alloc _)
          | cons x l =>
            obtain ⟨k', ns', q', rfl, e2, hb, hc⟩ := hc3
            have n0 := hb.at (i := 0) rfl
            have n5 := hb.at (i := 5) rfl
            have HY := Lib.hid (And.intro e2 (And.intro hb hc))
            clear e2 hb hc
            cases hp : (x.t == t) with
            | true =>
              have HF := Lib.hid (show c.park t false v = (c, 21) by
                have hnt : ¬ t < 1 := by have := HT.out; omega
                simp [Ch.park, hnt, HX.out.1, hp])
              go_wp2_with fail
              go_ret
              exact ParkPost.mk HF.out (H.out.only HX.out.2.2.2.2.2.1) (fun _ h => .inl h) HX.out.2.2.2.2.2.1.some
            | false =>
              have HP := Lib.hid hp
              go_wp2_with fail
              go_roundg l.length
              case measure => have := HX.out.2.2.2.2.1; simp at this; omega
              case rel =>
                obtain ⟨hw1, hn1, hl, hpre, hk, hO, hB, _⟩ := HX.out
                obtain ⟨e2, _, _⟩ := HY.out
                exact ⟨pre ++ [x], l, npre ++ [k'], ns', by rw [hw1]; simp, by rw [hn1, e2]; simp, by simp [hl], by
                  intro y hy
                  rcases List.mem_append.1 hy with hy | hy
                  · exact hpre y hy
                  · simp at hy; subst hy; exact HP.out, rfl, by rw [LinkAt_snoc], hO, hB⟩
      | true =>
        clear hv ht
        have ht : 1 ≤ t := by have := HT.out; omega
        have hvt : valid v = true := by
          cases h : valid v with
          | true => rfl
          | false => exact absurd ⟨rfl, h⟩ HV.out
        have HVT := Lib.hid hvt
        clear hvt
        go_enter Try.func25, Try.ntmps25
        go_wp2_with fail
        refine (value_any v _ hs).mono ?_
        rintro e w1 ⟨rfl, hO1⟩
        rw [HVT.out]
        have HO1 := Lib.hid (And.intro hO1.behind (hO1.blk (Blk.new w v.cells 29)))
        clear hO1
        go_wp2_with fail
        go_loopg [9] (c.ws.length) (fun k p wr => ∃ pre suf npre nsuf, c.ws = pre ++ suf ∧ ns = npre ++ nsuf ∧ npre.length = pre.length ∧ (∀ x ∈ pre, (x.t == t) = false) ∧ k = suf.length ∧ p = .pointer (some (LinkAt b npre)) ∧ Only w wr ∧
          Blk wr w.heap.size 29 v.cells)
        case atStart => exact ⟨[], c.ws, [], ns, rfl, rfl, rfl, by simp, rfl, rfl, HO1.out.1, HO1.out.2⟩
        case round =>
          obtain ⟨pre, suf, npre, nsuf, hw1, hn1, hl, hpre, hk, rfl, hO, hB⟩ := hrel
          obtain ⟨r, fr, p, hC, hR, hch0, hnd⟩ := H.out
          obtain ⟨q, hc1, hc2, hc3⟩ := link_cell (hC.stay hO (by simp)) hl (hw1 ▸ hn1 ▸ hch0.stay hO (by simp))
          have hC1 := hC.stay hO id
          have e54 := hC1.nw_
          have ef := hC1.free
          have vb := hB.cell
          simp only [V.cells] at vb
          have vf := hB.free
          have vl := hB.lt
          have HC := Lib.hid (And.intro hC (And.intro hR (And.intro hch0 hnd)))
          have HX := Lib.hid (And.intro hw1 (And.intro hn1 (And.intro hl (And.intro hpre (And.intro hk (And.intro hO (And.intro hB hc3)))))))
          clear hw1 hn1 hl hpre hk hO hB hC hR hch0 hnd hC1
          have hbl2 : b < wr.heap.size := by omega
          obtain ⟨A, hA⟩ : ∃ A, LinkAt b npre = A := ⟨_, rfl⟩
          rw [hA] at hc1 hc2 ⊢
          have HA := Lib.hid hA
          clear hA
          cases suf with
          | nil =>
            have hq : q = none := hc3.1
            have hn0 : nsuf = [] := hc3.2
            have HN0 := Lib.hid hn0
            subst hq
            clear hc3 hn0
            have hall : c.ws.any (fun x => x.t == t) = false := by
              have := HX.out.1
              rw [List.append_nil] at this
              rw [this, List.any_eq_false]
              intro x hx
              simp [HX.out.2.2.2.1 x hx]
            have HALL := Lib.hid hall
            clear hall
            by_cases h200 : 200 ≤ c.ws.length
            · have HF := Lib.hid (show c.park t true v = (c, 5) by
                have hnt : ¬ t < 1 := by have := HT.out; omega
                simp [Ch.park, hnt, HALL.out, h200, HVT.out])
              have h200' : (200 : Int) ≤ (c.ws.length : Int) := by omega
              clear h200
              go_wp2_with fail
              go_ret
              exact ParkPost.mk HF.out (H.out.only HX.out.2.2.2.2.2.1) (fun _ h => .inl h) HX.out.2.2.2.2.2.1.some
            · have HF := Lib.hid (show c.park t true v = ({ c with ws := c.ws ++ [⟨t, true, v⟩] }, 0) by
                have hnt : ¬ t < 1 := by have := HT.out; omega
                simp [Ch.park, hnt, HALL.out, h200, HVT.out])
              have h200' : (c.ws.length : Int) < 200 := by omega
              clear h200
              have hns : ns = npre := by have := HX.out.2.1; rw [HN0.out, List.append_nil] at this; exact this
              have hnb : b ∉ ns := by have := HC.out.2.2.2; exact (List.nodup_cons.1 this).1
              have hAc : A = ⟨b, 53, none⟩ ∨ ∃ k, A = ⟨k, 5, none⟩ ∧ k ∈ ns := by
                rw [← HA.out]
                unfold LinkAt
                cases hg : npre.getLast? with
                | none => exact .inl rfl
                | some k => exact .inr ⟨k, rfl, by rw [hns]; exact List.mem_of_getLast? hg⟩
              have HAL := Lib.hid (And.intro hns hnb)
              -- the end, whatever the world
              have fin : Hid (∀ W, Blk W wr.heap.size 77 (nc ⟨t, true, v⟩ none) → Stay (· = w.heap.size) wr W → ParkPost w b ns c t true v (.returned (.int .i64 0)) ((W.setCell A (.pointer (some ⟨wr.heap.size, 0, none⟩))).setCell ⟨b, 54, none⟩ (.int .i64 (c.ws.length + 1)))) := by
                intro W hnode hst
                obtain ⟨hw1, hn1, hl, hpre, hk, hO, hB, _⟩ := HX.out
                obtain ⟨hC, hR, hch0, hnd⟩ := HC.out
                have hbn : ¬ b = w.heap.size := Nat.ne_of_lt (HLT.out b (by simp))
                have hCW : CC W b c.cap c.pol c.closed r fr c.buf.length p c.ws.length c.drop := (hC.stay hO id).stay hst hbn
                have hchW : Chain W p (pre ++ []) (npre ++ []) := by
                  have := (hch0.stay hO (fun _ _ => id)).stay hst (fun k hk e => absurd (HLT.out k (by simp [hk])) (by rw [e]; exact Nat.lt_irrefl _))
                  rw [hns] at this
                  rw [hw1] at this
                  simpa using this
                have hnd' : (b :: npre).Nodup := by rw [← hns]; exact hnd
                have hfresh : ∀ k ∈ b :: npre, k ∉ [wr.heap.size] := by
                  intro k hk e
                  simp at e
                  subst e
                  have h1 := HLT.out wr.heap.size (by rw [hns]; exact hk)
                  have h2 := hO.size
                  omega
                obtain ⟨p', hCr, hchr⟩ := relink hCW hl hchW hnd' (q' := some ⟨wr.heap.size, 0, none⟩) (l := [⟨t, true, v⟩]) (nl := [wr.heap.size]) ⟨wr.heap.size, [], none, rfl, rfl, hnode, rfl, rfl⟩ hfresh
                rw [HA.out] at hCr hchr
                have hnd2 : (b :: (npre ++ [wr.heap.size])).Nodup := by
                  have : ((b :: npre) ++ [wr.heap.size]).Nodup := List.nodup_append.2 ⟨hnd', by simp, fun k hk y hy e => hfresh k hk (by rw [e]; exact hy)⟩
                  simpa using this
                refine ParkPost.mk HF.out (ns' := npre ++ [wr.heap.size]) ⟨r, fr, p', ?_, hR, ?_, hnd2⟩ ?_ ?_
                · have := hCr.set_nw (c.ws.length + 1)
                  simpa using this
                · have hpp : pre = c.ws := by rw [hw1]; simp
                  rw [hpp] at hchr
                  exact hchr.stay ((Stay.refl (· = b) _).put rfl 54 _) (fun k hk e => by subst e; exact (List.nodup_cons.1 hnd2).1 hk)
                · intro k hk
                  rcases List.mem_append.1 hk with h | h
                  · exact .inl (by rw [hns]; exact h)
                  · simp at h; subst h; exact .inr hO.size
                · have hAm : A.block ∈ b :: ns := by rw [hns]; exact HA.out ▸ LinkAt_mem b npre
                  exact ((hO.some.trans hst (fun i hi e => absurd hi (by rw [e]; exact Nat.lt_irrefl _))).set (fun _ => hAm) _).put (by simp) _ _
              rcases hAc with rfl | ⟨k, rfl, hkm⟩
              · go_wp2_with fail
                go_ret
                rw [← World.setCell_alloc_past _ b 54 _ (by first | omega | (simp; omega)), ← World.setCell_alloc_past _ b 53 _ (by first | omega | (simp; omega))]
                exact fin.out _ (Blk.newAt _ (nc ⟨t, true, v⟩ none) _ _ (by simp)) ((Stay.refl (· = w.heap.size) wr).alloc _)
              · have hkb : ¬ k = b := fun e => HAL.out.2 (e ▸ hkm)
                have hkl : k < w.heap.size := HLT.out k (by simp [hkm])
                have hkl2 : k < wr.heap.size := by omega
                go_wp2_with fail
                go_ret
                rw [← World.setCell_alloc_past _ b 54 _ (by first | omega | (simp; omega)), ← World.setCell_alloc_past _ k 5 _ (by first | omega | (simp; omega))]
                exact fin.out _ (Blk.newAt _ (nc ⟨t, true, v⟩ none) _ _ (by simp)) ((Stay.refl (· = w.heap.size) wr).alloc _)
          | cons x l =>
            obtain ⟨k', ns', q', rfl, e2, hb, hc⟩ := hc3
            have n0 := hb.at (i := 0) rfl
            have n5 := hb.at (i := 5) rfl
            have HY := Lib.hid (And.intro e2 (And.intro hb hc))
            clear e2 hb hc
            cases hp : (x.t == t) with
            | true =>
              have HF := Lib.hid (show c.park t true v = (c, 21) by
                have hnt : ¬ t < 1 := by have := HT.out; omega
                simp [Ch.park, hnt, HX.out.1, hp, HVT.out])
              go_wp2_with fail
              go_ret
              exact ParkPost.mk HF.out (H.out.only HX.out.2.2.2.2.2.1) (fun _ h => .inl h) HX.out.2.2.2.2.2.1.some
            | false =>
              have HP := Lib.hid hp
              go_wp2_with fail
              go_roundg l.length
              case measure => have := HX.out.2.2.2.2.1; simp at this; omega
              case rel =>
                obtain ⟨hw1, hn1, hl, hpre, hk, hO, hB, _⟩ := HX.out
                obtain ⟨e2, _, _⟩ := HY.out
                exact ⟨pre ++ [x], l, npre ++ [k'], ns', by rw [hw1]; simp, by rw [hn1, e2]; simp, by simp [hl], by
                  intro y hy
                  rcases List.mem_append.1 hy with hy | hy
                  · exact hpre y hy
                  · simp at hy; subst hy; exact HP.out, rfl, by rw [LinkAt_snoc], hO, hB⟩

def WithdrawPost (w : World) (b : Nat) (ns : List Nat) (c : Ch) (t : Int) (e : Ending) (w' : World) : Prop :=
  ∃ ns', e = .returned (.bool (c.withdraw t).2) ∧ ChAt w' b ns' (c.withdraw t).1 ∧ (∀ k ∈ ns', k ∈ ns) ∧ Stay (· ∈ b :: ns) w w'

set_option maxRecDepth 100000 in
set_option maxHeartbeats 1000000 in
theorem withdraw_any (w : World) (b : Nat) (ns : List Nat) (c : Ch) (t : Int) (d : Int) (h : ChAt w b ns c) (hok : c.Ok d) :
    Calls Try.prog 26 #[.pointer (some ⟨b, 0, none⟩), .int .i64 t] w (WithdrawPost w b ns c t) := by
  have H := Lib.hid h
  have HOK := Lib.hid hok
  have hmf : ∀ (fn : Fn) (first cap : Array Value) (w : World), (Instr.makeFunc fn first cap).run Try.prog w = .ok (.func fn first cap) w := fun _ _ _ _ => rfl
  clear h hok
  go_enter Try.func26, Try.ntmps26
  go_wp2_with fail
  have hO1 : Only w _ := (Stay.refl _ w).alloc (.cells #[.int .i64 t] 3)
  refine (wait_ticket _ b ns c t ⟨w.heap.size, 0, none⟩ ((Blk.new w [.int .i64 t] 3).at rfl) (H.out.only hO1) HOK.out.ws).mono ?_
  rintro e w2 (⟨x, l, ns', ht, rfl, hch, hns, hst'⟩ | ⟨ht, rfl, hO3⟩)
  · have HF := Lib.hid (show c.withdraw t = ({ c with ws := l }, true) by simp [Ch.withdraw, ht])
    have HS := Lib.hid (And.intro hch (And.intro hns (hO1.some.trans hst' (fun _ _ h => h))))
    clear ht hch hns hst' hO1
    simp only [Wt.val]
    go_wp2_with fail
    go_ret
    unfold WithdrawPost
    rw [HF.out]
    exact ⟨ns', rfl, HS.out.1.only ((Stay.refl _ w2).alloc _), HS.out.2.1, HS.out.2.2.alloc _⟩
  · have HF := Lib.hid (show c.withdraw t = (c, false) by simp [Ch.withdraw, ht])
    have HS := Lib.hid (hO1.trans' hO3)
    clear ht hO1 hO3
    simp only [Wt.val, V.nil]
    go_wp2_with fail
    go_ret
    unfold WithdrawPost
    rw [HF.out]
    exact ⟨ns, rfl, H.out.only (HS.out.alloc _), fun _ h => h, (HS.out.alloc _).mono (fun _ _ h => h.elim)⟩

end Go.Proofs.Ytfmkdkpgehkfaaa
