/- turn: the walk. -/
import Derived.Test.YtbkbcpnpbfnmgaaDoorClockTake
set_option linter.unusedVariables false
set_option linter.unusedSimpArgs false
namespace Go.Proofs.YtbkbcpnpbfnmgaaDoor
open Go Go.RowKit

/-- From one clock tu the next: what has turned, whose blocks it has. -/
def Lk (b m : Nat) (wv : List Value) (w : World) (wv' : List Value) (w' : World) : Prop := Stay (CBlk b m wv) w w' ∧ ∀ k, CBlk b m wv' k → CBlk b m wv k ∨ w.heap.size ≤ k
theorem Lk.refl (b m : Nat) (wv : List Value) (w : World) : Lk b m wv w wv w := ⟨Stay.refl _ _, fun _ h => .inl h⟩
theorem Lk.trans {b m : Nat} {wv wv1 wv2 : List Value} {w w1 w2 : World} (h : Lk b m wv w wv1 w1) (k : Lk b m wv1 w1 wv2 w2) : Lk b m wv w wv2 w2 :=
  ⟨h.1.trans k.1 (fun i hi hS => by
    rcases h.2 i hS with h1 | h1
    · exact h1
    · omega), fun i hi => by
    have hz := h.1.size
    rcases k.2 i hi with h1 | h1
    · exact h.2 i h1
    · exact .inr (by omega)⟩
theorem Lk.only {b m : Nat} {wv wv1 : List Value} {w w1 w2 : World} (h : Lk b m wv w wv1 w1) (ho : Only w1 w2) : Lk b m wv w wv1 w2 := h.trans ⟨ho.mono (fun _ _ h => h.elim), fun _ h => .inl h⟩
theorem CkIn.setNow {w : World} {b m now made : Nat} {l : List (Int × Nat)} {W : Wheel} {wv : List Value} {fs : List Nat} (h : CkIn w b m now made l W wv fs) (tu : Nat) : CkIn (w.setCell ⟨b, 0, none⟩ (.int .i64 tu)) b m tu made l W wv fs :=
  ⟨by rw [← ck_set0 now]; exact h.blk.set 0 _, h.mp.set (fun e => h.mb e.symm) _, h.wl, h.vl, h.full, fun i v hv => own_set (h.row i v hv) (A := ⟨b, 0, none⟩) _ (h.ne_b hv), h.off⟩
theorem flat_len_at {W : Wheel} (i : Nat) : (W.at i).length ≤ W.flatten.length := by
  by_cases h : i < W.length
  · have := (wflat_take h).length_eq
    rw [List.length_append] at this
    omega
  · unfold Wheel.at
    rw [List.getD_eq_getElem?_getD, List.getElem?_eq_none (by omega)]
    simp
theorem puts_succ {W : Wheel} {now : Nat} {r : List Tm} {i : Nat} {t : Tm} (ht : r[i]? = some t) : W.puts now (r.take (i + 1)) = (W.puts now (r.take i)).put now t := by
  obtain ⟨hi, rfl⟩ := List.getElem?_eq_some_iff.1 ht
  unfold Wheel.puts
  rw [List.take_succ_eq_append_getElem hi, List.foldl_append]
  rfl
theorem row_cells {w : World} {g n c : Nat} {r : List Tm} (h : w.ownsRow 0 39 2 (.slice (some ⟨g, 0, none⟩) n c) n (r.flatMap Tm.cells)) (hn : r.length = n) {i : Nat} {t : Tm} (ht : r[i]? = some t) : w.cell? ⟨g, i * 2, none⟩ = some (.int .i64 t.id) ∧ w.cell? ⟨g, i * 2 + 1, none⟩ = some (.int .i64 t.due) := by
  have hi := (List.getElem?_eq_some_iff.1 ht).1
  have h0 := h.cellAt (i * 2) (by omega)
  have h1 := h.cellAt (i * 2 + 1) (by omega)
  have e0 := flat_at Tm.cells 2 Tm.cells_length r i t 0 ht (by omega)
  have e1 := flat_at Tm.cells 2 Tm.cells_length r i t 1 ht (by omega)
  rw [Nat.add_zero] at e0
  exact ⟨h0.trans e0, h1.trans e1⟩
set_option maxRecDepth 100000 in
set_option maxHeartbeats 4000000 in
theorem turn_any {w : World} {b m now made : Nat} {l : List (Int × Nat)} {W : Wheel} {wv : List Value} {fs : List Nat} (h : CkIn w b m now made l W wv fs) (hW : WOk now W) (tu : Nat) (h1 : now ≤ tu) (h2 : tu < 2 ^ 42) (h3 : ∀ t ∈ W.flatten, tu ≤ t.due) (hlen : W.flatten.length ≤ 1000) :
    Calls Tryd.prog 38 #[.pointer (some ⟨b, 0, none⟩), .int .i64 tu] w fun e w' => e = .returned (.tuple #[]) ∧ ∃ W' wv' fs', WOk tu W' ∧ W'.flatten.Perm W.flatten ∧ CkIn w' b m tu made l W' wv' fs' ∧ Lk b m wv w wv' w' := by
  have hH := Half.start hW h1 h2 h3
  have hB := h.blk
  have c0 := hB.at (ck_at0 now made wv fs m)
  have f0 := hB.free 0
  have lb := hB.lt
  have H := Lib.hid (And.intro h (And.intro hH hlen))
  clear h hH hW h3 hB hlen
  go_enter Tryd.func38, Tryd.ntmps38
  go_wp2_with fail
  obtain ⟨w0, hw0⟩ : ∃ w0, w0 = w.setCell ⟨b, 0, none⟩ (.int .i64 tu) := ⟨_, rfl⟩
  rw [← hw0]
  have hs0 := H.out.1.setNow tu
  have hL0 : Lk b m wv w wv w0 := by rw [hw0]; exact ⟨(Stay.refl _ w).put (.inl rfl) _ _, fun _ h => .inl h⟩
  rw [← hw0] at hs0
  have H0 := Lib.hid (And.intro hs0 hL0)
  clear hs0 hL0 c0 f0 lb hw0
  go_loopg [4] 6 (fun kk v4 wr => ∃ (L : Nat) (W' : Wheel) (wv' : List Value) (fs' : List Nat), L ≤ 6 ∧ kk = L ∧ v4 = .int .i64 (L : Nat) ∧ Half tu W' L ∧ W'.flatten.Perm W.flatten ∧ CkIn wr b m tu made l W' wv' fs' ∧ Lk b m wv w wv' wr)
  case atStart => exact ⟨6, W, wv, fs, Nat.le_refl _, rfl, rfl, H.out.2.1, List.Perm.refl _, H0.out.1, H0.out.2⟩
  case round =>
    obtain ⟨L, W', wv', fs', hL6, hk, rfl, hH, hperm, hC, hLk⟩ := hrel
    obtain ⟨wt, hwt⟩ : ∃ wt, wt = wr := ⟨_, rfl⟩
    rw [← hwt] at hC hLk ⊢
    clear hwt
    by_cases hL : 0 < L
    · obtain ⟨sl, hsl⟩ : ∃ sl, sl = slot tu L := ⟨_, rfl⟩
      have hs64 : sl < 64 := by rw [hsl]; exact slot_lt _ _
      have e63 : bits .and .i64 ((tu : Int) / 2 ^ (6 * L)) 63 = (sl : Int) := by
        have w4 : (tu : Int) / 2 ^ (6 * L) = ((tu / 2 ^ (6 * L) : Nat) : Int) := by rw [Int.natCast_ediv]; simp
        have w5 : tu / 2 ^ (6 * L) < 2 ^ 42 := Nat.lt_of_le_of_lt (Nat.div_le_self _ _) h2
        rw [w4, i64_and63_nat _ w5, hsl]
        unfold slot
        rw [pow64]
      have w3 : IntKind.i64.wrap (6 * (L : Int)) = 6 * (L : Int) := IntWalk.i64_in _ (by omega)
      have b1 : decide ((L : Int) > 0) = true := decide_eq_true (by omega)
      have HX := Lib.hid (And.intro hH (And.intro hperm (And.intro hC (And.intro hLk (And.intro hk hsl)))))
      clear hH hperm hC hLk hk hsl
      go_wp2_with fail
      refine (take_any HX.out.2.2.1 L sl (by omega) hs64).mono ?_
      rintro e w1 ⟨v, wv1, fs1, rfl, hrow, hC1, hst1, hsub1, hap1⟩
      obtain ⟨r, hr⟩ : ∃ r, r = W'.at (L * 64 + sl) := ⟨_, rfl⟩
      rw [← hr] at hrow
      obtain ⟨n, hn⟩ : ∃ n, n = r.length := ⟨_, rfl⟩
      rw [← hn] at hrow
      obtain ⟨Av, cv, rfl⟩ := own_shape hrow
      have hrn : n ≤ 1000 := by
        rw [hn, hr]
        have := flat_len_at (W := W') (L * 64 + sl)
        have := HX.out.2.1.length_eq
        have := H.out.2.2
        omega
      have H1 := Lib.hid (And.intro hrow (And.intro hC1 (And.intro (show Lk b m wv' wt wv1 w1 from ⟨hst1, hsub1⟩) (And.intro (fun k hk => (hap1 k hk).2) (And.intro hr hn)))))
      clear hrow hC1 hst1 hsub1 hap1 hr hn
      go_wp2_with fail
      go_loopg [26] n (fun kk vi wr => ∃ (i : Nat) (wv2 : List Value) (fs2 : List Nat), i ≤ n ∧ kk = n - i ∧ vi = .int .i64 (i : Nat) ∧ CkIn wr b m tu made l (Wheel.puts (W'.set (L * 64 + sl) []) tu (r.take i)) wv2 fs2 ∧ Lk b m wv1 w1 wv2 wr ∧ wr.ownsRow 0 39 2 (.slice Av n cv) n (r.flatMap Tm.cells) ∧ ∀ k, (Value.slice Av n cv).ownBlock = some k → ¬ CBlk b m wv2 k)
      case atStart => exact ⟨0, wv1, fs1, Nat.zero_le _, rfl, rfl, H1.out.2.1, Lk.refl _ _ _ _, H1.out.1, H1.out.2.2.2.1⟩
      case round =>
        obtain ⟨i, wv2, fs2, hi, hki, rfl, hC2, hL2, hrow2, hap2⟩ := hrel
        obtain ⟨wq, hwq⟩ : ∃ wq, wq = wr := ⟨_, rfl⟩
        rw [← hwq] at hC2 hL2 hrow2 ⊢
        clear hwq
        have hrl := H1.out.2.2.2.2.2
        by_cases hin : i < n
        · obtain ⟨t, ht⟩ : ∃ t, r[i]? = some t := ⟨_, List.getElem?_eq_getElem (by omega)⟩
          obtain ⟨g, c2, e1, _, hg⟩ := hrow2.form (by omega)
          have e1' : Av = some ⟨g, 0, none⟩ ∧ cv = c2 := by simpa using e1
          obtain ⟨rfl, rfl⟩ := e1'
          obtain ⟨z0, z1⟩ := row_cells hrow2 hrl.symm ht
          obtain ⟨td, htd⟩ : ∃ td, td = t.due := ⟨_, rfl⟩
          obtain ⟨ti, hti⟩ : ∃ ti, ti = t.id := ⟨_, rfl⟩
          rw [← hti] at z0
          rw [← htd] at z1
          have HK := Lib.hid (And.intro hC2 (And.intro hL2 (And.intro hrow2 (And.intro hap2 (And.intro hki (And.intro ht (And.intro hti (And.intro htd hrl))))))))
          clear hC2 hL2 hrow2 hap2 hki ht hti htd e1 hrl
          have hmem : t ∈ W'.at (L * 64 + sl) := by rw [← H1.out.2.2.2.2.1]; exact List.mem_of_getElem? HK.out.2.2.2.2.2.1
          have htw := HX.out.1.pl L sl t hs64 hmem
          have hrow2l : ∀ j, ((Wheel.puts (W'.set (L * 64 + sl) []) tu (r.take i)).at j).length ≤ 100000 := fun j => by
            have h1 := flat_len_at (W := Wheel.puts (W'.set (L * 64 + sl) []) tu (r.take i)) j
            have hlW : L * 64 + sl < W'.length := by rw [HX.out.1.len]; omega
            have h2 := (Wheel.puts_flat (now := tu) (r.take i) (W'.set (L * 64 + sl) []) (fun u hu => by
              rw [List.length_set, HX.out.1.len]
              exact place_lt HX.out.1.to42 (HX.out.1.pl L sl u hs64 (by rw [← H1.out.2.2.2.2.1]; exact List.mem_of_mem_take hu)).2.1)).length_eq
            have h3 := (wflat_take hlW).length_eq
            have h4 := HX.out.2.1.length_eq
            have h5 := H.out.2.2
            rw [List.length_append] at h2 h3
            have h6 : (r.take i).length ≤ 1000 := by rw [List.length_take]; omega
            omega
          go_wp2_with fail
          have hPut := put_any (HK.out.1.only ((Stay.refl (fun _ => False) wq).alloc (.cells #[.int .i64 ti, .int .i64 td] 39))) t h2 (by exact htw.2.1) (hrow2l _)
          rw [← HK.out.2.2.2.2.2.2.1, ← HK.out.2.2.2.2.2.2.2.1] at hPut
          refine hPut.mono ?_
          clear hPut
          rintro e w3 ⟨rfl, wv3, fs3, hC3, hst3, hsub3⟩
          have H3 := Lib.hid (And.intro hC3 (And.intro hst3 hsub3))
          clear hC3 hst3 hsub3 z0 z1 hg
          go_wp2_with fail
          go_roundg (n - (i + 1))
          case measure => have := HK.out.2.2.2.2.1; omega
          case rel =>
            have hL3 : Lk b m wv2 wq wv3 w3 := (Lk.refl b m wv2 wq).only ((Stay.refl (fun _ => False) wq).alloc _) |>.trans ⟨H3.out.2.1, H3.out.2.2⟩
            refine ⟨i + 1, wv3, fs3, by omega, rfl, by go_num, ?_, HK.out.2.1.trans hL3, ?_, fun k hk hk2 => ?_⟩
            · rw [puts_succ HK.out.2.2.2.2.2.1]
              exact H3.out.1
            · exact own_stay hL3.1 HK.out.2.2.1 (fun k hk => HK.out.2.2.2.1 k hk)
            · rcases hL3.2 k hk2 with h6 | h6
              · exact HK.out.2.2.2.1 k hk h6
              · have := (own_lt HK.out.2.2.1 k hk).2; omega
        · obtain rfl : i = n := by omega
          have HK := Lib.hid (And.intro hC2 (And.intro hL2 hrl))
          clear hC2 hL2 hrow2 hap2 hki hrl
          go_wp2_with fail
          go_roundg (L - 1)
          case measure => have := HX.out.2.2.2.2.1; omega
          case rel =>
            have hd := HX.out.1.down hL hL6
            have e2 : W'.down tu L = Wheel.puts (W'.set (L * 64 + sl) []) tu (r.take i) := by
              unfold Wheel.down
              rw [← HX.out.2.2.2.2.2, ← H1.out.2.2.2.2.1, List.take_of_length_le (by have := HK.out.2.2; omega)]
            rw [e2] at hd
            refine ⟨L - 1, _, wv2, fs2, by omega, rfl, ?_, hd.1, hd.2.trans HX.out.2.1, HK.out.1, (HX.out.2.2.2.1.trans H1.out.2.2.1).trans HK.out.2.1⟩
            exact congrArg (Value.int .i64) (by omega)
    · obtain rfl : L = 0 := by omega
      have HX := Lib.hid (And.intro hH (And.intro hperm (And.intro hC hLk)))
      clear hH hperm hC hLk hk
      go_wp2_with fail
      go_end0
      exact ⟨rfl, _, _, _, HX.out.1.done, HX.out.2.1, HX.out.2.2.1, HX.out.2.2.2⟩
end Go.Proofs.YtbkbcpnpbfnmgaaDoor
