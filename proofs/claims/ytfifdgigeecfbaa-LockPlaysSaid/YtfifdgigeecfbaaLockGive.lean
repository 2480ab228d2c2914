/- give: a permit is given back. -/
import Derived.Test.YtfifdgigeecfbaaLockOps
import Derived.Test.YtfifdgigeecfbaaIntDel
set_option linter.unusedVariables false
set_option linter.unusedSimpArgs false
namespace Go.Proofs.Ytfifdgigeecfbaa
open Go Go.RowKit

theorem zeroI (w : World) : (zeroValue 3).run Try.prog w = .ok (.int .i64 0) w := by kernel_rfl
theorem zeroP (w : World) : (zeroValue 69).run Try.prog w = .ok (.pointer none) w := by kernel_rfl

theorem getI {l : List (Int × Int)} {p c : Int} (h : (aget l p).getD 0 = c) : ((aget l p).map (Value.int .i64)).getD (.int .i64 0) = .int .i64 c := by
  cases hg : aget l p with
  | none => rw [hg] at h; simp at h; simp [h]
  | some v => rw [hg] at h; simp at h; simp [h]
/-- The blocks of one lock. -/
def One (b h : Nat) (v : Value) : Nat → Prop := fun j => j = b ∨ j = h ∨ v.ownBlock = some j
def GivePost (w : World) (S : Nat → Prop) (b : Nat) (k : Lk) (h : Nat) (v : Value) (p : Int) (e : Ending) (w' : World) : Prop :=
  e = .returned (.int .i64 (k.give p).2) ∧ ∃ v', LkAt w' S b (k.give p).1 h v' ∧ (∀ g, v'.ownBlock = some g → v.ownBlock = some g) ∧ Stay (One b h v) w w'

theorem Lk.give_nil {k : Lk} {p : Int} (h : k.waiting = []) : k.give p = ({ k with free := k.free + 1, holds := k.less p }, 0) := by unfold Lk.give; rw [h]
theorem Lk.give_cons {k : Lk} {p q : Int} {l : List Int} (h : k.waiting = q :: l) : k.give p = ({ k with holds := aset (k.less p) q ((aget (k.less p) q).getD 0 + 1), waiting := l }, q) := by unfold Lk.give; rw [h]

set_option maxRecDepth 100000 in
set_option maxHeartbeats 4000000 in
theorem give_any (w : World) (S : Nat → Prop) (b : Nat) (k : Lk) (h : Nat) (v : Value) (p d : Int) (hk : LkAt w S b k h v) (hok : k.Ok d) (hd : d ≤ 1000000) (hp : k.has p ≠ 0) :
    Calls Try.prog 32 #[ptr b, .int .i64 p] w (GivePost w S b k h v p) := by
  unfold ptr
  obtain ⟨c, hc⟩ : ∃ c, (aget k.holds p).getD 0 = c := ⟨_, rfl⟩
  have hcb := hok.has p
  have hcp : k.has p = c := hc
  have hless := fun q => Lk.less_bound hok hp q
  rw [hcp] at hcb hp
  obtain ⟨hc0, hc1⟩ := hcb
  have hf0 := hok.f0
  have hf1 : k.free ≤ 16 := by have := hok.sum; have := sumH_nonneg hok.pos; have := hok.p2; omega
  obtain ⟨A, cp, rfl⟩ := own_shape hk.row
  have cc := hk.blk.cell
  have cf := hk.blk.free
  have cl := hk.blk.lt
  unfold lkc at cc
  have hwl : k.waiting.length ≤ 1000000 := by have := hok.wlen; omega
  have hbh : h ≠ b := hk.map.ne_blk hk.blk
  have HL := Lib.hid hless
  have HK := Lib.hid (And.intro hk (And.intro hok (And.intro hcp hp)))
  have hcc := Lib.hid hc
  clear hk hok hc hcp hp hless
  have hp1 : 1 ≤ c := by have := HK.out.2.2.2; omega
  go_enter Try.func32, Try.ntmps32
  go_upto_region 2 with (first | (at_lookup; refine wpList_lookup_v _ rfl _ _ _ rfl 3 3 Try.underlying70 Try.underlying3 (.int .i64 0) (zeroI _) h k.holds (by rfl) HK.out.1.map p (by rfl) (.int .i64 c) (getI hcc.out) ?_) | (at_mapUpdate; refine wpList_update_v _ rfl _ _ _ _ rfl 3 3 Try.underlying70 Try.underlying3 h k.holds (by rfl) HK.out.1.map p (c - 1) (by rfl) (by rfl) ?_; intro w1 hm1 hs1 hz1))
  have B1 := Lib.hid (hs1.blk HK.out.1.blk (fun e => hbh e.symm))
  have H1 := Lib.hid (And.intro hm1 hs1)
  have cl1 : b < w1.heap.size := B1.out.lt
  have cc1 := B1.out.cell
  have cf1 := B1.out.free
  unfold lkc at cc1
  clear hm1 hs1 cc cf
  have hc2 := Lib.hid (show (aget (aset k.holds p (c - 1)) p).getD 0 = c - 1 by rw [aget_set, if_pos rfl]; rfl)
  have fin : Hid (∀ (W : World) (L : List (Int × Int)), IMap W h (imap L) → Stay (fun i => i = h) w1 W → IMap W h (imap L) ∧ Stay (One b h (.slice A k.waiting.length cp)) w W ∧ Blk W b 72 (lkc k h (.slice A k.waiting.length cp)) ∧ W.ownsRow 0 3 1 (.slice A k.waiting.length cp) k.waiting.length (ints k.waiting)) := by
    intro W L q1 q2
    have q3 : Stay (fun i => i = h) w W := H1.out.2.trans q2 (fun _ _ h => h)
    exact ⟨q1, q3.mono (fun _ _ h => .inr (.inl h)), q3.blk HK.out.1.blk (fun e => hbh e.symm), own_stay q3 HK.out.1.row (fun g hg e => own_ne_map HK.out.1.row HK.out.1.map g hg e)⟩
  by_cases h1 : c = 1
  case' pos =>
    obtain rfl : c = 1 := h1
    go_upto_region 4 with (first | (at_lookup; refine wpList_lookup_v _ rfl _ _ _ rfl 3 3 Try.underlying70 Try.underlying3 (.int .i64 0) (zeroI _) h _ (by rfl) H1.out.1 p (by rfl) (.int .i64 0) (getI hc2.out) ?_) | (at_delete; refine wpList_delete_v _ rfl _ _ _ _ rfl 3 Try.underlying70 Try.underlying3 h _ (by rfl) H1.out.1 p (by rfl) ?_; intro w2 hm2 hs2 hz2))
    have HM := Lib.hid (fin.out w2 (k.less p) (by unfold Lk.less; rw [HK.out.2.2.1, if_pos (by decide)]; exact hm2) hs2)
    clear hm2 hs2 hz2
  case' neg =>
    have h1b : (c - 1 == 0) = false := by simp; omega
    have HX := Lib.hid h1
    clear h1
    go_upto_region 4 with (first | (at_lookup; refine wpList_lookup_v _ rfl _ _ _ rfl 3 3 Try.underlying70 Try.underlying3 (.int .i64 0) (zeroI _) h _ (by rfl) H1.out.1 p (by rfl) (.int .i64 (c - 1)) (getI hc2.out) ?_))
    have HM := Lib.hid (fin.out w1 (k.less p) (by unfold Lk.less; rw [HK.out.2.2.1, if_neg (by have := HX.out; omega)]; exact H1.out.1) (Stay.refl _ _))
    clear h1b
  all_goals
    clear cc1 cf1 cl1
    have cc := HM.out.2.2.1.cell
    have cf := HM.out.2.2.1.free
    have cl2 := HM.out.2.2.1.lt
    unfold lkc at cc
    cases hw : k.waiting with
    | nil =>
      have HW := Lib.hid hw
      have hwb : ((k.waiting.length : Int) == 0) = true := by rw [hw]; rfl
      clear hw
      go_wp2_with fail
      go_ret
      obtain ⟨q1, q2, q3, q4⟩ := HM.out
      unfold GivePost
      rw [Lk.give_nil HW.out]
      refine ⟨rfl, .slice A k.waiting.length cp, ⟨q3.set 1 _, q1.set (fun e => hbh e.symm) _, own_set q4 _ (fun g hg => own_ne_blk q4 q3 (by decide) g hg), HK.out.1.sb, HK.out.1.sh, HK.out.1.sv⟩, fun g hg => hg, Stay.put q2 (.inl rfl) _ _⟩
    | cons q l =>
      obtain ⟨g, cap, e, _, hgl⟩ := HM.out.2.2.2.form (by rw [hw]; simp)
      cases e
      have hl0 : 0 < k.waiting.length := by rw [hw]; simp
      have r0 := HM.out.2.2.2.cellAt 0 (by omega)
      rw [show (ints k.waiting)[0]? = some (.int .i64 q) by rw [hw]; rfl] at r0
      have hwb : ((k.waiting.length : Int) == 0) = false := by rw [hw]; simp; omega
      obtain ⟨c9, hc9⟩ : ∃ c9, (aget (k.less p) q).getD 0 = c9 := ⟨_, rfl⟩
      have hb9 := HL.out q
      rw [hc9] at hb9
      obtain ⟨hb91, hb92⟩ := hb9
      have HW := Lib.hid (And.intro hw hc9)
      have hlw : 0 < (k.waiting.length : Int) := by omega
      clear hw hc9
      go_upto_region 8 with fail
      go_wp2_with fail
      have hlen : k.waiting.length = l.length + 1 := by rw [HW.out.1]; rfl
      rw [hlen]
      refine (delete_first _ 0 g cp q l (by have := HM.out.2.2.2; rw [HW.out.1] at this; exact this)).mono ?_
      rintro e w3 ⟨rfl, hr3, hs3⟩
      have hgb : g ≠ b := own_ne_blk HM.out.2.2.2 HM.out.2.2.1 (by decide) g rfl
      have hgh : g ≠ h := own_ne_map HM.out.2.2.2 HM.out.1 g rfl
      have B3 := Lib.hid (hs3.blk HM.out.2.2.1 (fun e => hgb e.symm))
      have M3 := Lib.hid (HM.out.1.stay hs3 (fun e => hgh e.symm))
      have H3 := Lib.hid (And.intro hr3 hs3)
      have HN := Lib.hid hlen
      clear cc cf cl2 r0 hr3 hs3 hwb hlen hlw hl0
      have cc := B3.out.cell
      have cf := B3.out.free
      have cl2 := B3.out.lt
      unfold lkc at cc
      go_wp2_with (first | (at_lookup; refine wpList_lookup_v _ rfl _ _ _ rfl 3 3 Try.underlying70 Try.underlying3 (.int .i64 0) (zeroI _) h _ (by rfl) (M3.out.set (fun e => hbh e.symm) _) q (by rfl) (.int .i64 c9) (getI HW.out.2) ?_) | (at_mapUpdate; refine wpList_update_v _ rfl _ _ _ _ rfl 3 3 Try.underlying70 Try.underlying3 h _ (by rfl) (M3.out.set (fun e => hbh e.symm) _) q (c9 + 1) (by rfl) (by rfl) ?_; intro w4 hm4 hs4 hz4))
      go_ret
      obtain ⟨q1, q2, q3, q4⟩ := HM.out
      obtain ⟨r3, s3⟩ := H3.out
      unfold GivePost
      rw [Lk.give_cons HW.out.1]
      refine ⟨rfl, .slice (some ⟨g, 0, none⟩) l.length cp, ⟨hs4.blk (B3.out.set 3 _) (fun e => hbh e.symm), by rw [HW.out.2]; exact hm4, own_stay hs4 (own_set r3 _ (fun g' hg' => ?_)) (fun g' hg' e => ?_), HK.out.1.sb, HK.out.1.sh, fun g' hg' => HK.out.1.sv g' hg'⟩, fun g' hg' => hg', ?_⟩
      · have e : g = g' := by simpa [Value.ownBlock] using hg'
        subst e
        exact hgb
      · have e2 : g = g' := by simpa [Value.ownBlock] using hg'
        subst e2
        exact hgh e
      · exact Stay.trans (Stay.put (S := One b h (.slice (some ⟨g, 0, none⟩) k.waiting.length cp)) (q2.trans s3 (fun i _ e => .inr (.inr (by rw [e]; rfl)))) (.inl rfl) _ _) hs4 (fun i _ e => .inr (.inl e))

end Go.Proofs.Ytfifdgigeecfbaa
