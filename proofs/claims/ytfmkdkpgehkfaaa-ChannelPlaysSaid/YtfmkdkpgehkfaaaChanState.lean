/- New, State, Close, Copy. -/
import Derived.Test.YtfmkdkpgehkfaaaChanOps
import Derived.Test.YtfmkdkpgehkfaaaHeap2
import Derived.Deep.AppendLies
import Derived.Deep.RegionHeld3
import Derived.Deep.RegionLaw
set_option linter.unusedVariables false
set_option linter.unusedSimpArgs false
namespace Go.Proofs.Ytfmkdkpgehkfaaa
open Go Go.RowKit

theorem infoV : (Try.prog.info? 29).map (fun i => (i.zero, i.size, i.bytes)) = some (some (.agg #[.int .i64 0, .int .i64 0, .string ⟨#[]⟩]), 3, 32) := by kernel_rfl
theorem infoW : (Try.prog.info? 46).map (fun i => (i.zero, i.size, i.bytes)) = some (some (.agg #[.int .i64 0, .bool false, .int .i64 0, .int .i64 0, .string ⟨#[]⟩]), 5, 48) := by kernel_rfl
theorem infoD : (Try.prog.info? 44).map (fun i => (i.zero, i.size, i.bytes)) = some (some (.agg #[.int .i64 0, .int .i64 0, .int .i64 0, .int .i64 0, .string ⟨#[]⟩, .int .i64 0, .string ⟨#[]⟩]), 7, 72) := by kernel_rfl

/-! ### New -/
def Ch.new (cap pol : Int) : Ch := ⟨cap, pol, false, [], [], 0⟩
def newOk (cap pol : Int) : Bool := decide (0 ≤ cap) && decide (cap ≤ 16) && decide (0 ≤ pol) && decide (pol ≤ 2)
theorem Ch.new_ok {cap pol : Int} (h : newOk cap pol = true) : (Ch.new cap pol).Ok 0 := by
  simp [newOk] at h
  exact ⟨h.1.1.1, h.1.1.2, h.1.2, h.2, by simpa [Ch.new] using h.1.1.1, by simp [Ch.new], by simp [Ch.new], by simp [Ch.new]⟩

theorem cells_nil (n : Nat) : (List.replicate n V.nil).flatMap V.cells = (List.replicate n V.nil.cells).flatten := by
  induction n with
  | zero => rfl
  | succ n ih => simp [List.replicate_succ, ih]

set_option maxRecDepth 100000 in
set_option maxHeartbeats 1000000 in
theorem new_bad (cap pol : Int) (w : World) (h : newOk cap pol = false) :
    Calls Try.prog 10 #[.int .i64 cap, .int .i64 pol] w fun e w' => e = .returned (.tuple #[.pointer none, .int .i64 2]) ∧ Only w w' := by
  have hh : cap < 0 ∨ (0 ≤ cap ∧ 16 < cap) ∨ (0 ≤ cap ∧ cap ≤ 16 ∧ pol < 0) ∨ (0 ≤ cap ∧ cap ≤ 16 ∧ 0 ≤ pol ∧ 2 < pol) := by
    simp [newOk] at h
    omega
  clear h
  rcases hh with h | ⟨h1, h2⟩ | ⟨h1, h2, h3⟩ | ⟨h1, h2, h3, h4⟩
  all_goals
    go_enter Try.func10, Try.ntmps10
    go_wp2
    go_ret2
    exact ⟨rfl, Stay.refl _ w⟩

set_option maxRecDepth 100000 in
set_option maxHeartbeats 1000000 in
theorem new_any (cap pol : Int) (w : World) (h : newOk cap pol = true) :
    Calls Try.prog 10 #[.int .i64 cap, .int .i64 pol] w fun e w' => e = .returned (.tuple #[.pointer (some ⟨w.heap.size, 0, none⟩), .int .i64 0]) ∧ ChAt w' w.heap.size [] (Ch.new cap pol) ∧ Only w w' := by
  obtain ⟨h1, h2, h3, h4⟩ : 0 ≤ cap ∧ cap ≤ 16 ∧ 0 ≤ pol ∧ pol ≤ 2 := by
    simp [newOk] at h
    omega
  clear h
  go_enter Try.func10, Try.ntmps10
  go_wp2
  go_ret2
  refine ⟨rfl, ⟨List.replicate 16 V.nil, 0, none, ⟨by simp, ?_⟩, ⟨by omega, by simp [Ch.new]⟩, ⟨rfl, rfl⟩, by simp⟩, (Stay.refl _ w).alloc _⟩
  exact Blk.newAt w (cc cap pol false (List.replicate 16 V.nil) 0 0 none 0 0) _ _ rfl

/-! ### State -/
/-- A state as a value: its slices are the call's own. -/
def StAt (w : World) (B : Nat) (v : Value) (c : Ch) : Prop :=
  ∃ bv wv, v = .agg #[.int .i64 c.cap, .int .i64 c.pol, .bool c.closed, bv, wv, .int .i64 c.drop] ∧ w.ownsRow B 29 3 bv c.buf.length (c.buf.flatMap V.cells) ∧ w.ownsRow B 46 5 wv c.ws.length (c.ws.flatMap Wt.cells)

theorem own_sets6 {w : World} {e : TypeId} {size n : Nat} {v : Value} {xs : List Value} {k : Nat} {a0 a1 a2 a3 a4 a5 : Value} (h : w.ownsRow (k + 2) e size v n xs) :
    ((((((w.setCell ⟨k, 0, none⟩ a0).setCell ⟨k, 1, none⟩ a1).setCell ⟨k, 2, none⟩ a2).setCell ⟨k, 3, none⟩ a3).setCell ⟨k, 4, none⟩ a4).setCell ⟨k, 5, none⟩ a5).ownsRow (k + 2) e size v n xs :=
  ownsRow_setCell_below (ownsRow_setCell_below (ownsRow_setCell_below (ownsRow_setCell_below (ownsRow_setCell_below (ownsRow_setCell_below h (by simp) _) (by simp) _) (by simp) _) (by simp) _) (by simp) _) (by simp) _

set_option maxRecDepth 100000 in
set_option maxHeartbeats 8000000 in
theorem state_any (w : World) (b : Nat) (ns : List Nat) (c : Ch) (d : Int) (h : ChAt w b ns c) (hok : c.Ok d) :
    Calls Try.prog 13 #[.pointer (some ⟨b, 0, none⟩)] w fun e w' => (∃ v, e = .returned v ∧ StAt w' w.heap.size v c) ∧ Only w w' := by
  have H := Lib.hid h
  have hbl := h.lt b (by simp)
  have HLT : Hid (∀ k ∈ b :: ns, k < w.heap.size) := h.lt
  obtain ⟨r, fr, p, hC, hR, hch, hnd⟩ := h
  have x0 := hC.cap_
  have x1 := hC.pol_
  have x2 := hC.closed_
  have x3 := hC.dr_
  have x4 := hC.n_
  have HC := Lib.hid (And.intro hC (And.intro hR (And.intro hch hok)))
  have hcap : c.cap ≤ 16 := hok.cap1
  have hbuf : (c.buf.length : Int) ≤ c.cap := hok.buf
  clear hC hR hch hnd hok
  go_enter Try.func13, Try.ntmps13
  go_wp2_with fail
  go_big_region
  go_wp2_with fail
  obtain ⟨iv, hiv0, hiv1, hiv2, hiv3⟩ := info_parts infoV
  go_loopg [30] (c.buf.length) (fun k i wr => ∃ j bv, j ≤ c.buf.length ∧ k = c.buf.length - j ∧ i = .int .i64 (j : Nat) ∧ Only w wr ∧ Blk wr w.heap.size 36 [.int .i64 0, .int .i64 0, .bool false, .slice none 0 0, .slice none 0 0, .int .i64 0] ∧
    Blk wr (w.heap.size + 1) 36 [.int .i64 c.cap, .int .i64 c.pol, .bool c.closed, bv, .slice none 0 0, .int .i64 c.drop] ∧ wr.ownsRow (w.heap.size + 2) 29 3 bv j ((c.buf.take j).flatMap V.cells))
  case atStart => exact ⟨0, _, Nat.zero_le _, rfl, rfl, (((Stay.refl _ w).alloc _).alloc _).drew, ((Blk.newAt w [.int .i64 0, .int .i64 0, .bool false, .slice none 0 0, .slice none 0 0, .int .i64 0] _ _ rfl).alloc _).drew, (Blk.newAt (w.alloc _) [.int .i64 c.cap, .int .i64 c.pol, .bool c.closed, .slice none 0 0, .slice none 0 0, .int .i64 c.drop] _ _ (by simp)).drew, World.ownsRow_nil _ _ _ _⟩
  case round =>
    obtain ⟨j, bv, hj, hk, rfl, hO, hB0, hB1, hown⟩ := hrel
    obtain ⟨A, cp, rfl⟩ : ∃ A cp, bv = .slice A j cp := by
      rcases hown.2 with ⟨rfl, rfl⟩ | ⟨g, cap, cur, rfl, _⟩
      · exact ⟨none, 0, rfl⟩
      · exact ⟨_, cap, rfl⟩
    have hC1 := HC.out.1.stay hO id
    by_cases hlt : j < c.buf.length
    · have y0 := hC1.fr_
      obtain ⟨u, hu⟩ : ∃ u, c.buf[j]? = some u := ⟨_, List.getElem?_eq_getElem hlt⟩
      obtain ⟨r0, r1, r2⟩ := hC1.ring_ ((HC.out.2.1.2 j hlt).trans hu)
      have hfr := HC.out.2.1.1
      have b3 := hB1.at (i := 3) rfl
      have bf := hB1.free
      have bl := hB1.lt
      have hbl1 : b < wr.heap.size := hC1.lt
      have hA1 : (Value.slice A j cp).ownBlock ≠ some b := fun e => by have := (hown.lt b e).1; omega
      have hA2 : (Value.slice A j cp).ownBlock ≠ some (w.heap.size + 1) := fun e => by have := (hown.lt _ e).1; omega
      have hj16 : (j : Int) < 16 := by omega
      have HX := Lib.hid (And.intro hk (And.intro hO (And.intro hB0 (And.intro hB1 (And.intro hown (And.intro hu (And.intro hA1 hA2)))))))
      have hw0 : IntKind.i64.wrap ((fr : Int) + (j : Int)) = (fr : Int) + (j : Int) := IntWalk.i64_in _ (by omega)
      have hw1 : ((fr : Int) + (j : Int)).tmod 16 = ((fr : Int) + (j : Int)) % 16 := Int.tmod_eq_emod_of_nonneg (by omega)
      have hq : (fr + j) % 16 = (((fr : Int) + (j : Int)) % 16).toNat := by omega
      rw [hq] at r0 r1 r2
      have hw3 : ((fr : Int) + (j : Int)) % 16 < 16 := by omega
      clear hq
      have hw4 : 0 ≤ ((fr : Int) + (j : Int)) % 16 := by omega
      have bf3 := bf 3
      have bc4 : ∀ o, (wr.alloc o).drew.cell? ⟨w.heap.size + 1, 3, none⟩ = some (.slice A j cp) := fun o => (World.cell?_alloc_past o _ _ bl).trans b3
      have bf4 : ∀ o, (wr.alloc o).frozen? ⟨w.heap.size + 1, 3, none⟩ = false := fun o => (World.frozen?_alloc_past o _ _ bl).trans bf3
      clear hk hO hB0 hB1 hC1 hu
      go_wp2_with fail
      go_region_law (refine step_append_lies _ (by rfl) _ _ _ (by rfl) (w.heap.size + 2) 29 iv _ 3 32 Try.underlying33 hiv0 hiv1 hiv2 hiv3 rfl (by omega) _ j _ (by rfl) ((hown.alloc _).drew) ⟨wr.heap.size, 0, none⟩ 1 1 u.cells (by rfl) (by rfl) (World.news_of_block (cs := u.cells.toArray) (t := 29) (fr := (0, 0)) (heap_alloc_new wr _)) (by simp [V.cells, Value.oneCell']) (by omega) (by simp only [maxLen]; omega) (by omega) (by simp; omega) (wr.heap.size + 1) (by simp) ?_; intro gg cap w1 hown1 hgrow hat hlt1; have q1 := (hgrow.cell_far ⟨w.heap.size + 1, 3, none⟩ (by simp; omega) (Ne.symm hA2)).trans (bc4 _); have q2 := (hgrow.frozen_far ⟨w.heap.size + 1, 3, none⟩ (by simp; omega) (Ne.symm hA2)).trans (bf4 _))
      all_goals
        have HG := Lib.hid (And.intro hown1 (And.intro hgrow (And.intro hat hlt1)))
        clear hown1 hgrow hat hlt1 hown bc4 bf4 bf bf3 b3 r0 r1 r2 y0 hw0 hw1 hw3 hw4 hA1 hA2
        go_wp2_with fail
        go_roundg (c.buf.length - (j + 1))
        case measure => have := HX.out.1; omega
        case rel =>
          obtain ⟨hk, hO, hB0, hB1, hown, hu, hA1, hA2⟩ := HX.out
          obtain ⟨hown1, hgrow, hat, hlt1⟩ := HG.out
          have hM : Mine (w.heap.size + 2) wr w1 := Mine.grown (((Stay.refl _ wr).alloc _).drew) hown (Nat.le_refl _) hgrow
          have hM0 : Mine w.heap.size w w1 := (Mine.only hO).trans (hM.mono (by omega))
          refine ⟨j + 1, .slice (some ⟨gg, 0, none⟩) (j + 1) cap, hlt, rfl, by go_num, ?_, ?_, ?_, ?_⟩
          · exact (hM0.put (Nat.le_succ _) _ _).stay
          · exact (hM.blk hB0 (by omega)).set_other (by simp) _
          · exact (hM.blk hB1 (by omega)).set 3 _
          · refine ownsRow_setCell_below (a := ⟨w.heap.size + 1, 3, none⟩) ?_ (by simp) _
            rw [flat_snoc _ _ _ _ hu]
            exact hown1
    · have hje : j = c.buf.length := by omega
      subst hje
      rw [List.take_length] at hown
      have y0 := hC1.p_
      obtain ⟨iw, hiw0, hiw1, hiw2, hiw3⟩ := info_parts infoW
      have HX := Lib.hid (And.intro hO (And.intro hB0 (And.intro hB1 hown)))
      clear hk hO hB0 hB1 hC1 hown hj hlt
      go_wp2_with fail
      go_loopg [5] (c.ws.length) (fun k q wr' => ∃ j nsuf q' wv, j ≤ c.ws.length ∧ k = c.ws.length - j ∧ q = .pointer q' ∧ Chain wr' q' (c.ws.drop j) nsuf ∧ (∀ k ∈ nsuf, k ∈ ns) ∧ Only w wr' ∧
        Blk wr' w.heap.size 36 [.int .i64 0, .int .i64 0, .bool false, .slice none 0 0, .slice none 0 0, .int .i64 0] ∧
        Blk wr' (w.heap.size + 1) 36 [.int .i64 c.cap, .int .i64 c.pol, .bool c.closed, .slice A c.buf.length cp, wv, .int .i64 c.drop] ∧ wr'.ownsRow (w.heap.size + 2) 29 3 (.slice A c.buf.length cp) c.buf.length (c.buf.flatMap V.cells) ∧
        wr'.ownsRow (w.heap.size + 2) 46 5 wv j ((c.ws.take j).flatMap Wt.cells))
      case atStart => exact ⟨0, ns, p, _, Nat.zero_le _, rfl, rfl, HC.out.2.2.1.stay HX.out.1 (fun _ _ => id), fun _ h => h, HX.out.1, HX.out.2.1, HX.out.2.2.1, HX.out.2.2.2, World.ownsRow_nil _ _ _ _⟩
      case round =>
        obtain ⟨j, nsuf, q', wv, hj, hk, rfl, hch, hns, hO, hB0, hB1, hbv, hown⟩ := hrel
        obtain ⟨A2, cp2, rfl⟩ : ∃ A cp, wv = .slice A j cp := by
          rcases hown.2 with ⟨rfl, rfl⟩ | ⟨g, cap, cur, rfl, _⟩
          · exact ⟨none, 0, rfl⟩
          · exact ⟨_, cap, rfl⟩
        cases hd : c.ws.drop j with
        | nil =>
          have hje : j = c.ws.length := by have := congrArg List.length hd; simp at this; omega
          subst hje
          rw [List.take_length] at hown
          rw [hd] at hch
          obtain ⟨rfl, _⟩ := hch
          have c0 := hB0.cell
          have c0f := hB0.free
          have c0l := hB0.lt
          have c1 := hB1.cell
          have HY := Lib.hid (And.intro hO (And.intro hbv hown))
          clear hO hB0 hB1 hbv hown hd hns hk y0
          go_wp2_with fail
          refine bodyPost_ret (v := .agg #[.int .i64 c.cap, .int .i64 c.pol, .bool c.closed, .slice A c.buf.length cp, .slice A2 c.ws.length cp2, .int .i64 c.drop]) (by simp [results, Try.results13, go_sem, c0, c0f]) rfl ⟨⟨_, rfl, _, _, rfl, ?_, ?_⟩, ?_⟩
          · exact owns_base (own_sets6 HY.out.2.1) (by omega)
          · exact owns_base (own_sets6 HY.out.2.2) (by omega)
          · exact (((((((Mine.only HY.out.1).put (Nat.le_refl _) _ _).put (Nat.le_refl _) _ _).put (Nat.le_refl _) _ _).put (Nat.le_refl _) _ _).put (Nat.le_refl _) _ _).put (Nat.le_refl _) _ _).stay
        | cons x l =>
          have hlt : j < c.ws.length := by
            rcases Nat.lt_or_ge j c.ws.length with h | h
            · exact h
            · rw [List.drop_eq_nil_of_le h] at hd; cases hd
          have hx : c.ws[j]? = some x := by rw [← List.head?_drop, hd]; rfl
          have hd1 : c.ws.drop (j + 1) = l := by rw [← List.tail_drop, hd]; rfl
          rw [hd] at hch
          obtain ⟨k', ns', q'', rfl, rfl, hb, hc⟩ := hch
          have n0 := hb.at (i := 0) rfl
          have n1 := hb.at (i := 1) rfl
          have n2 := hb.at (i := 2) rfl
          have n3 := hb.at (i := 3) rfl
          have n4 := hb.at (i := 4) rfl
          have n5 := hb.at (i := 5) rfl
          have kl := hb.lt
          have hkl : k' < w.heap.size := HLT.out k' (by have := hns k' (by simp); simp [this])
          have b4 := hB1.at (i := 4) rfl
          have bf := hB1.free 4
          have bl := hB1.lt
          have hA2 : (Value.slice A2 j cp2).ownBlock ≠ some (w.heap.size + 1) := fun e => by have := (hown.lt _ e).1; omega
          have hA3 : (Value.slice A2 j cp2).ownBlock ≠ some k' := fun e => by have := (hown.lt _ e).1; omega
          have bc4 : ∀ o, (wr.alloc o).drew.cell? ⟨w.heap.size + 1, 4, none⟩ = some (.slice A2 j cp2) := fun o => (World.cell?_alloc_past o _ _ bl).trans b4
          have bf4 : ∀ o, (wr.alloc o).drew.frozen? ⟨w.heap.size + 1, 4, none⟩ = false := fun o => (World.frozen?_alloc_past o _ _ bl).trans bf
          have bn5 : ∀ o, (wr.alloc o).drew.cell? ⟨k', 5, none⟩ = some (.pointer q'') := fun o => (World.cell?_alloc_past o _ _ kl).trans n5
          have hwl : c.ws.length ≤ 200 := HC.out.2.2.2.ws
          have HY := Lib.hid (And.intro hk (And.intro hns (And.intro hO (And.intro hB0 (And.intro hB1 (And.intro hbv (And.intro hown (And.intro hx (And.intro hd1 hc)))))))))
          clear hk hns hO hB0 hB1 hbv hx hd1 hd hc hb y0
          go_wp2_with fail
          go_region_law (refine step_append_lies _ (by rfl) _ _ _ (by rfl) (w.heap.size + 2) 46 iw _ 5 48 Try.underlying34 hiw0 hiw1 hiw2 hiw3 rfl (by omega) _ j _ (by rfl) ((hown.alloc _).drew) ⟨wr.heap.size, 0, none⟩ 1 1 x.cells (by rfl) (by rfl) (World.news_of_block (cs := x.cells.toArray) (t := 46) (fr := (0, 0)) (heap_alloc_new wr _)) (by simp [Wt.cells, Value.oneCell']) (by omega) (by simp only [maxLen]; omega) (by omega) (by simp; omega) (wr.heap.size + 1) (by simp) ?_; intro gg cap w1 hown1 hgrow hat hlt1; have q1 := (hgrow.cell_far ⟨w.heap.size + 1, 4, none⟩ (by simp; omega) (Ne.symm hA2)).trans (bc4 _); have q2 := (hgrow.frozen_far ⟨w.heap.size + 1, 4, none⟩ (by simp; omega) (Ne.symm hA2)).trans (bf4 _); have q3 := (hgrow.cell_far ⟨k', 5, none⟩ (by simp; omega) (Ne.symm hA3)).trans (bn5 _))
          all_goals
            have HG := Lib.hid (And.intro hown1 (And.intro hgrow (And.intro hat hlt1)))
            clear hown1 hgrow hat hlt1 hown bc4 bf4 bn5 bf b4 n0 n1 n2 n3 n4 n5 hA2 hA3
            go_wp2_with fail
            go_roundg (c.ws.length - (j + 1))
            case measure => have := HY.out.1; omega
            case rel =>
              obtain ⟨hk, hns, hO, hB0, hB1, hbv, hown, hx, hd1, hc⟩ := HY.out
              obtain ⟨hown1, hgrow, hat, hlt1⟩ := HG.out
              have hM : Mine (w.heap.size + 2) wr w1 := Mine.grown (((Stay.refl _ wr).alloc _).drew) hown (Nat.le_refl _) hgrow
              have hM0 : Mine w.heap.size w w1 := (Mine.only hO).trans (hM.mono (by omega))
              refine ⟨j + 1, ns', q'', .slice (some ⟨gg, 0, none⟩) (j + 1) cap, hlt, rfl, rfl, ?_, fun k hk => hns k (by simp [hk]), ?_, ?_, ?_, ?_, ?_⟩
              · rw [hd1]
                exact (hc.stay hM (fun k hk => Nat.not_le.2 (by have := HLT.out k (by have := hns k (by simp [hk]); simp [this]); omega))).stay ((Stay.refl (· = w.heap.size + 1) _).put rfl _ _) (fun k hk e => by have := HLT.out k (by have := hns k (by simp [hk]); simp [this]); omega)
              · exact (hM0.put (Nat.le_succ _) _ _).stay
              · exact (hM.blk hB0 (by omega)).set_other (by simp) _
              · exact (hM.blk hB1 (by omega)).set 4 _
              · exact ownsRow_setCell_below (a := ⟨w.heap.size + 1, 4, none⟩) (own_grown (((Stay.refl _ wr).alloc _).drew) hbv hgrow (own_ne hbv hown (by decide))) (by simp) _
              · refine ownsRow_setCell_below (a := ⟨w.heap.size + 1, 4, none⟩) ?_ (by simp) _
                rw [flat_snoc _ _ _ _ hx]
                exact hown1

end Go.Proofs.Ytfmkdkpgehkfaaa
