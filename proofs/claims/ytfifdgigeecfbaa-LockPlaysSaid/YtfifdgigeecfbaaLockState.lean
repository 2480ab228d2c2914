/- State: a lock, as its users see it. -/
import Derived.Test.YtfifdgigeecfbaaLockOwn
import Derived.Test.YtfifdgigeecfbaaIntKeys
import Derived.Test.YtfifdgigeecfbaaIntClone
import Derived.Outline
import Derived.Deep.DeepCutAuto
import Derived.Deep.CutBlock
set_option linter.unusedVariables false
set_option linter.unusedSimpArgs false
namespace Go.Proofs.Ytfifdgigeecfbaa
open Go Go.RowKit

/-- The parties that hold, ascending, and how many. -/
def Lk.holders (k : Lk) : List (Int × Int) := (srt (k.holds.map (·.1))).map fun p => (p, k.has p)
def hcell (x : Int × Int) : List Value := [.int .i64 x.1, .int .i64 x.2]
theorem hcell_length (x : Int × Int) : (hcell x).length = 2 := rfl
def zst : Value := .agg #[.int .i64 0, .int .i64 0, .slice none 0 0, .slice none 0 0]
/-- A value that reads as a lock's state, its rows from B on. -/
def StV (w : World) (B : Nat) (v : Value) (k : Lk) : Prop :=
  ∃ hv wv, v = .agg #[.int .i64 k.permits, .int .i64 k.free, hv, wv] ∧ w.ownsRow B 44 2 hv k.holders.length (k.holders.flatMap hcell) ∧ w.ownsRow B 3 1 wv k.waiting.length (ints k.waiting)
theorem infoH : (Try.prog.info? 44).map (fun i => (i.zero, i.size, i.bytes)) = some (some (.agg #[.int .i64 0, .int .i64 0]), 2, 16) := by kernel_rfl
theorem holders_length (k : Lk) : k.holders.length = k.holds.length := by simp [Lk.holders, srt_length]
def StPost (w : World) (t : Tb) (lock : Int) (e : Ending) (w' : World) : Prop :=
  Only w w' ∧ ((t.asked lock 1 ≠ 0 ∧ e = .returned (.tuple #[zst, .int .i64 (t.asked lock 1)])) ∨ ∃ k v, t.asked lock 1 = 0 ∧ t.ls[(lock - 1).toNat]? = some k ∧ e = .returned (.tuple #[v, .int .i64 0]) ∧ StV w' w.heap.size v k)

theorem sumH_len {l : List (Int × Int)} (h : ∀ x ∈ l, 1 ≤ x.2) : (l.length : Int) ≤ sumH l := by
  induction l with
  | nil => simp [sumH]
  | cons x l ih =>
    have h1 := h x (by simp)
    have h2 := ih (fun y hy => h y (by simp [hy]))
    simp only [sumH, List.map_cons, List.sum_cons, List.length_cons] at *
    omega
theorem holds_len {k : Lk} {d : Int} (h : k.Ok d) : k.holds.length ≤ 16 := by
  have := sumH_len h.pos
  have := h.sum
  have := h.f0
  have := h.p2
  omega

set_option maxRecDepth 100000 in
set_option maxHeartbeats 4000000 in
theorem state_any (w : World) (S : Nat → Prop) (b : Nat) (t : Tb) (d lock : Int) (h : TabAt w S b t) (hok : t.Ok d) (hd : d ≤ 1000000) :
    Calls Try.prog 19 #[.pointer (some ⟨b, 0, none⟩), .int .i64 lock] w (StPost w t lock) := by
  obtain ⟨m, lv, bs, hs, vs, hT⟩ := h
  have hat := fun W (ho : Only w W) => at_any W S b t m lv bs hs vs lock 1 (hT.only ho) hok.n
  have HT := Lib.hid hT
  clear hT
  by_cases hz : t.asked lock 1 = 0
  · have hag := atv_good (bs := bs) hz
    obtain ⟨i, hi⟩ : ∃ i, (lock - 1).toNat = i := ⟨_, rfl⟩
    obtain ⟨k, hk⟩ := Tb.asked_at hz
    rw [hi] at hk
    have hL := HT.out.lk i k hk
    have hkok := hok.lk k (List.mem_of_getElem? hk)
    obtain ⟨A, cp, hv⟩ := own_shape hL.row
    have HA := Lib.hid (And.intro hz (And.intro hag (And.intro hi (And.intro hk (And.intro hL (And.intro hkok hv))))))
    have hwl : k.waiting.length ≤ 1000000 := by have := hkok.wlen; omega
    have hL0 := HT.out.lt _ hL.sb
    clear hz hag hk hL hkok hv hok
    go_enter Try.func19, Try.ntmps19
    go_wp2_with fail
    refine (hat _ ((Stay.refl _ _).alloc _)).mono ?_
    rintro e w1 ⟨rfl, hO⟩
    rw [HA.out.1, HA.out.2.1, hi]
    have HO := Lib.hid (hO.behind)
    have B0 := Lib.hid (hO.blk (Blk.new w [.int .i64 0, .int .i64 0, .slice none 0 0, .slice none 0 0] 42))
    clear hO hat
    have hsz1 : w.heap.size < w1.heap.size := B0.out.lt
    have B1 := Lib.hid (HO.out.blk HA.out.2.2.2.2.1.blk)
    have c1 := B1.out.cell
    rw [HA.out.2.2.2.2.2.2] at c1
    unfold lkc at c1
    have e0 := c1 0
    have e1 := c1 1
    have e3 := c1 3
    have l1 := B1.out.lt
    have hR := own_only HO.out HA.out.2.2.2.2.1.row
    rw [HA.out.2.2.2.2.2.2] at hR
    have HR := Lib.hid hR
    clear hR
    have n0 := World.new_ne w1 ⟨bs i, 0, none⟩ e0
    have n1 := World.new_ne w1 ⟨bs i, 1, none⟩ e1
    have n3 := World.new_ne w1 ⟨bs i, 3, none⟩ e3
    go_upto_region 4 with fail
    go_cut [8] from 21 to 34 (fun v8 wc => ∃ (B : Nat) (A5 : Option Addr) (c5 : Nat), v8 = .pointer (some ⟨B, 0, none⟩) ∧ w1.heap.size ≤ B ∧ Blk wc B 42 [.int .i64 k.permits, .int .i64 k.free, .slice none 0 0, .slice A5 k.waiting.length c5] ∧ wc.ownsRow w1.heap.size 3 1 (.slice A5 k.waiting.length c5) k.waiting.length (ints k.waiting) ∧ Only w1 wc)
    case first =>
      go_region_held3 (fun w' => w'.cell? ⟨bs i, 0, none⟩ = some (.int .i64 k.permits) ∧ w'.cell? ⟨bs i, 1, none⟩ = some (.int .i64 k.free) ∧ w'.cell? ⟨bs i, 3, none⟩ = some (.slice A k.waiting.length cp))
        (first
          | go_keep
          | (go_split_ands; refine ⟨?_, ?_, ?_⟩ <;> (apply Only.cell hO2; assumption)))
        ((go_at_call 34; refine (cloneI_any _ A cp k.waiting (own_sl HR.out (by first | exact (Stay.refl _ w1).drew | exact (Stay.refl _ w1).drew.alloc _)) (by omega)).mono ?_; rintro e w5 ⟨wv, rfl, hrow, hO2⟩; obtain ⟨A5, c5, rfl⟩ := own_shape hrow; have q5 : Only w1 w5 := Only.trans' (by first | exact (Stay.refl _ w1).drew | exact (Stay.refl _ w1).drew.alloc _) hO2; have k0 : w5.cell? ⟨bs i, 0, none⟩ = some (.int .i64 k.permits) := q5.cell e0; have k1 : w5.cell? ⟨bs i, 1, none⟩ = some (.int .i64 k.free) := q5.cell e1; have k3 : w5.cell? ⟨bs i, 3, none⟩ = some (.slice A k.waiting.length cp) := q5.cell e3; have m0 : w5.heap.size ≠ bs i := (by have := q5.size; omega); first | (have zb : Blk w5 w1.heap.size 42 [.int .i64 0, .int .i64 0, .slice none 0 0, .slice none 0 0] := Only.blk hO2 (Blk.drew (Blk.newAt w1 [.int .i64 0, .int .i64 0, .slice none 0 0, .slice none 0 0] 42 w1.heap.size rfl)); have zc := zb.cell; have zf := zb.free; have zl := zb.lt; have HZ := Lib.hid zb; clear zb) | skip))
      all_goals
        go_wp2_with fail
        go_meet
        case rel =>
          first
            | (have hz := HZ; exact ⟨w1.heap.size, A5, c5, rfl, Nat.le_refl _, (((HZ.out.set 0 _).set 1 _).set 2 _).set 3 _, owns_base (ownsRow_setCell_below (ownsRow_setCell_below (ownsRow_setCell_below (ownsRow_setCell_below hrow (by simp) _) (by simp) _) (by simp) _) (by simp) _) (by simp), (((((Mine.only q5).put (Nat.le_refl _) _ _).put (Nat.le_refl _) _ _).put (Nat.le_refl _) _ _).put (Nat.le_refl _) _ _).stay⟩)
            | exact ⟨w5.heap.size, A5, c5, rfl, q5.size, Blk.newAt w5 [.int .i64 k.permits, .int .i64 k.free, .slice none 0 0, .slice A5 k.waiting.length c5] _ _ rfl, own_alloc hrow _, q5.trans' ((Stay.refl _ w5).alloc _)⟩
    case rest =>
      obtain ⟨B, A5, c5, rfl, hB, hBb, hrow, hO5⟩ := hcut
      have hO6 := HO.out.trans' hO5
      have e2 : wc.cell? ⟨bs i, 2, none⟩ = some (.map (some (hs i))) := hO5.cell (c1 2)
      have l2 : bs i < wc.heap.size := Nat.lt_of_lt_of_le l1 hO5.size
      have HC := Lib.hid (And.intro hBb (And.intro hrow (And.intro hO5 hO6)))
      clear hBb hrow hO5 hO6 c1 e0 e1 e3 n0 n1 n3
      go_wp2_with fail
      refine (keysA_any (some (hs i)) _).mono ?_
      rintro e w6 ⟨rfl, rfl⟩
      have hwf : ∀ p ∈ imap k.holds, (Lit.int .i64 p.1).wf = true := by
        intro p hp
        obtain ⟨q, hq, rfl⟩ := List.mem_map.1 hp
        have := HA.out.2.2.2.2.2.1.one q hq
        exact WalkArith.wf_i64 (by omega)
      have hhl : k.holds.length ≤ 16 := holds_len HA.out.2.2.2.2.2.1
      have hml : (imap k.holds).length ≤ 1000000 := by rw [vmap_length]; omega
      have HM := Lib.hid ((HA.out.2.2.2.2.1.map.only HC.out.2.2.2).alloc (.cells #[.map (some (hs i))] 70))
      go_wp2_with fail
      refine (sortedA_any _ wc.heap.size (hs i) (imap k.holds) ((Blk.new wc [.map (some (hs i))] 70).at rfl) HM.out hwf hml).mono ?_
      rintro e w7 ⟨sv, rfl, hsv, hO7⟩
      rw [vmap_length, vmap_keys] at hsv
      obtain ⟨As, cs, rfl⟩ := own_shape hsv
      obtain ⟨ih, hih0, hih1, hih2, hih3⟩ := info_parts infoH
      have hO8 : Only wc w7 := hO7.behind
      have HS := Lib.hid (And.intro (owns_base hsv (show w1.heap.size ≤ _ by have := HC.out.2.2.1.size; simp; omega)) (And.intro (own_only hO8 HC.out.2.1) (And.intro (hO8.blk HC.out.1) (And.intro (HC.out.2.2.1.trans' hO8) (HC.out.2.2.2.trans' hO8)))))
      have hsl : (srt (k.holds.map (·.1))).length = k.holds.length := by simp [srt_length]
      have HN := Lib.hid hsl
      clear hsv hO7 hO8 e2 l2 hwf hml hsl
      go_wp2_with fail
      go_loopg [42] (k.holds.length) (fun kk vj wr => ∃ (j : Nat) (hv : Value), j ≤ k.holds.length ∧ kk = k.holds.length - j ∧ vj = .int .i64 (j : Nat) ∧ Only w1 wr ∧ Blk wr B 42 [.int .i64 k.permits, .int .i64 k.free, hv, .slice A5 k.waiting.length c5] ∧
        wr.ownsRow w1.heap.size 44 2 hv j ((k.holders.take j).flatMap hcell) ∧ wr.ownsRow w1.heap.size 3 1 (.slice As k.holds.length cs) k.holds.length (ints (srt (k.holds.map (·.1)))) ∧ wr.ownsRow w1.heap.size 3 1 (.slice A5 k.waiting.length c5) k.waiting.length (ints k.waiting))
      case atStart => exact ⟨0, _, Nat.zero_le _, rfl, rfl, HS.out.2.2.2.1, HS.out.2.2.1, World.ownsRow_nil _ _ _ _, HS.out.1, HS.out.2.1⟩
      case round =>
        obtain ⟨j, hv, hj, hk, rfl, hO, hBb, hown, hsr, hwr⟩ := hrel
        obtain ⟨Ah, ch, rfl⟩ := own_shape hown
        by_cases hlt : j < k.holds.length
        · obtain ⟨p, hp⟩ : ∃ p, (srt (k.holds.map (·.1)))[j]? = some p := ⟨_, List.getElem?_eq_getElem (by rw [HN.out]; exact hlt)⟩
          obtain ⟨gs, cs', e, _, hgl⟩ := hsr.form (by omega)
          cases e
          have r0 := hsr.cellAt j (by omega)
          rw [show (ints (srt (k.holds.map (·.1))))[j]? = some (.int .i64 p) by simp only [ints, List.getElem?_map, hp]; rfl] at r0
          have b3 := hBb.at (i := 2) rfl
          have bf := hBb.free 2
          have bl := hBb.lt
          have hL1 := HA.out.2.2.2.2.1.stay (HO.out.trans' hO) id id (fun _ _ => id) (fun _ h => h)
          have x2 : wr.cell? ⟨bs i, 2, none⟩ = some (.map (some (hs i))) := hL1.blk.at rfl
          have xl : bs i < wr.heap.size := hL1.blk.lt
          have hlk : (Instr.lookup 70 (.map (some (hs i))) (.int .i64 p) false).run Try.prog wr.drew = .ok (.int .i64 (k.has p)) wr.drew := by
            have := IMap.lookup (P := Try.prog) (w := wr.drew) (b := hs i) (l := imap k.holds) (t := 70) hL1.map Try.underlying70 Try.underlying3 (zeroI _) p false
            rw [this, aget_vmap]
            simp only [Bool.false_eq_true, if_false]
            rw [getI (c := k.has p) rfl]
          have hA2 : (Value.slice Ah j ch).ownBlock ≠ some B := fun e => own_ne_blk hown hBb (by decide) B e rfl
          have bc4 : ∀ o, (wr.alloc o).drew.cell? ⟨B, 2, none⟩ = some (.slice Ah j ch) := fun o => (World.cell?_alloc_past o _ _ bl).trans b3
          have bf4 : ∀ o, (wr.alloc o).frozen? ⟨B, 2, none⟩ = false := fun o => (World.frozen?_alloc_past o _ _ bl).trans bf
          have HX := Lib.hid (And.intro hk (And.intro hO (And.intro hBb (And.intro hown (And.intro hsr (And.intro hwr (And.intro hp hA2)))))))
          have hsz1 : w1.heap.size ≤ wr.heap.size := hO.size
          clear hk hO hBb hsr hwr hL1 hp
          go_wp2_with fail
          go_region_law (refine step_append_lies _ (by rfl) _ _ _ (by rfl) w1.heap.size 44 ih _ 2 16 Try.underlying40 hih0 hih1 hih2 hih3 rfl (by omega) _ j _ (by rfl) ((hown.alloc _).drew) ⟨wr.heap.size, 0, none⟩ 1 1 (hcell (p, k.has p)) (by rfl) (by rfl) (World.news_of_block (cs := (hcell (p, k.has p)).toArray) (t := 44) (fr := (0, 0)) (heap_alloc_new wr _)) (by simp [hcell, Value.oneCell']) (by omega) (by simp only [maxLen]; omega) (by omega) (by simp; omega) (wr.heap.size + 1) (by simp) ?_; intro gg cap w8 hown1 hgrow hat hlt1; have q1 := (hgrow.cell_far ⟨B, 2, none⟩ (by simp; omega) (Ne.symm hA2)).trans (bc4 _); have q2 := (hgrow.frozen_far ⟨B, 2, none⟩ (by simp; omega) (Ne.symm hA2)).trans (bf4 _))
          all_goals
            have HG := Lib.hid (And.intro hown1 (And.intro hgrow (And.intro hat hlt1)))
            clear hown1 hgrow hat hlt1 hown bc4 bf4 bf b3 r0 x2 hlk hA2
            go_wp2_with fail
            go_roundg (k.holds.length - (j + 1))
            case measure => have := HX.out.1; omega
            case rel =>
              obtain ⟨hk, hO, hBb, hown, hsr, hwr, hp, hA2⟩ := HX.out
              obtain ⟨hown1, hgrow, hat, hlt1⟩ := HG.out
              have hOA : Only wr ((wr.alloc (.cells #[.int .i64 p, .int .i64 (k.has p)] 44)).drew) := ((Stay.refl _ wr).alloc _).drew
              have hM : Mine w1.heap.size wr w8 := Mine.grown hOA hown (Nat.le_refl _) hgrow
              have st := grown_stay hgrow
              have hB8 := st.blk (hOA.blk hBb) hA2
              have hkh : k.holders[j]? = some (p, k.has p) := by unfold Lk.holders; rw [List.getElem?_map, hp]; rfl
              refine ⟨j + 1, .slice (some ⟨gg, 0, none⟩) (j + 1) cap, hlt, rfl, by go_num, ((((Mine.only hO).trans hM).put hB _ _).stay), hB8.set 2 _, ?_, ?_, ?_⟩
              · rw [flat_snoc _ _ _ _ hkh]
                exact own_set hown1 _ (fun g' hg' => own_ne_blk hown1 hB8 (by decide) g' hg')
              · exact own_set (own_stay st (own_only hOA hsr) (fun g' hg' e => by
                  rcases own_ne hsr hown (by decide) with e' | e'
                  · rw [e'] at hg'; cases hg'
                  · exact e' (hg'.trans e.symm))) _ (fun g' hg' => own_ne_blk (own_only hOA hsr) (hOA.blk hBb) (by decide) g' hg')
              · exact own_set (own_stay st (own_only hOA hwr) (fun g' hg' e => by
                  rcases own_ne hwr hown (by decide) with e' | e'
                  · rw [e'] at hg'; cases hg'
                  · exact e' (hg'.trans e.symm))) _ (fun g' hg' => own_ne_blk (own_only hOA hwr) (hOA.blk hBb) (by decide) g' hg')
        · have hje : j = k.holds.length := by omega
          subst hje
          have b0 := hBb.cell
          have bl := hBb.lt
          have hB0 := hO.blk B0.out
          have z0 := hB0.cell
          have zf := hB0.free
          have zl := hB0.lt
          have hBne : B ≠ w.heap.size := by omega
          have HX := Lib.hid (And.intro hO (And.intro hown hwr))
          clear hO hBb hown hsr hwr hB0 hk
          go_wp2_with fail
          refine bodyPost_ret (v := .tuple #[.agg #[.int .i64 k.permits, .int .i64 k.free, .slice Ah k.holds.length ch, .slice A5 k.waiting.length c5], .int .i64 0]) (by simp [results, Try.results19, go_sem, z0, zf]) rfl ⟨?_, .inr ⟨k, _, HA.out.1, by rw [hi]; exact HA.out.2.2.2.1, rfl, _, _, rfl, ?_, ?_⟩⟩
          · exact ((((((Mine.only (HO.out.trans' HX.out.1)).put (Nat.le_refl _) _ _).put (Nat.le_refl _) _ _).put (Nat.le_refl _) _ _).put (Nat.le_refl _) _ _)).stay
          · rw [holders_length]
            have hr := HX.out.2.1
            rw [← holders_length k, List.take_length, holders_length] at hr
            exact owns_base (ownsRow_setCell_below (ownsRow_setCell_below (ownsRow_setCell_below (ownsRow_setCell_below hr (by simpa using hsz1) _) (by simpa using hsz1) _) (by simpa using hsz1) _) (by simpa using hsz1) _) (by omega)
          · exact owns_base (ownsRow_setCell_below (ownsRow_setCell_below (ownsRow_setCell_below (ownsRow_setCell_below HX.out.2.2 (by simpa using hsz1) _) (by simpa using hsz1) _) (by simpa using hsz1) _) (by simpa using hsz1) _) (by omega)
  · have hab := atv_bad (bs := bs) hz
    obtain ⟨x, hx⟩ : ∃ x, t.asked lock 1 = x := ⟨_, rfl⟩
    rw [hx] at hz
    have hxb : (x != 0) = true := by simpa using hz
    have HA := Lib.hid (And.intro hx (And.intro hab hz))
    clear hx hab hz
    go_enter Try.func19, Try.ntmps19
    go_wp2_with fail
    refine (hat _ ((Stay.refl _ _).alloc _)).mono ?_
    rintro e w1 ⟨rfl, hO⟩
    rw [HA.out.1, HA.out.2.1]
    have HO := Lib.hid hO
    have B1 := Lib.hid (hO.blk (Blk.new w [.int .i64 0, .int .i64 0, .slice none 0 0, .slice none 0 0] 42))
    have c1 := B1.out.cell
    have f1 := B1.out.free
    have l1 := B1.out.lt
    clear hO hat
    go_wp2_with fail
    refine bodyPost_ret (v := .tuple #[zst, .int .i64 x]) (by simp [results, Try.results19, go_sem, zst, c1, f1]) rfl ⟨?_, .inl ⟨by rw [HA.out.1]; exact HA.out.2.2, by rw [HA.out.1]⟩⟩
    exact ((((((Mine.only HO.out.behind).put (Nat.le_refl _) _ _).put (Nat.le_refl _) _ _).put (Nat.le_refl _) _ _).put (Nat.le_refl _) _ _)).stay

end Go.Proofs.Ytfifdgigeecfbaa
