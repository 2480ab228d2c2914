/- A copy of a lock. -/
import Derived.Test.YtfifdgigeecfbaaLockState
import Derived.Test.YtfifdgigeecfbaaLockCons
set_option linter.unusedVariables false
set_option linter.unusedSimpArgs false
namespace Go.Proofs.Ytfifdgigeecfbaa
open Go Go.RowKit

theorem undrew {w W : World} (h : Only w.drew W) : Only w W := ⟨h.os, h.tape, h.output, h.size, h.block⟩
theorem cloneM_any (w : World) (h : Nat) (l : List (Int × Value)) (hm : IMap w h l) : Calls Try.prog 59 #[.map (some h)] w fun e w' => e = .returned (.map (some w.heap.size)) ∧ IMap w' w.heap.size l ∧ Only w w' ∧ w'.heap.size = w.heap.size + 1 := by
  obtain ⟨es, c, hb, hs, hl⟩ := hm
  refine (Go.Proofs.AnyW.maps_Clone Try.cloneM h es c w hb).mono ?_
  rintro e w' ⟨rfl, rfl⟩
  exact ⟨rfl, ⟨es, c, (MapKept.heap_alloc w _).1, hs, hl⟩, (Stay.refl _ w).alloc _, by simp⟩

def CopyPost (w : World) (k : Lk) (e : Ending) (w' : World) : Prop :=
  ∃ (b' h' : Nat) (v' : Value) (S : Nat → Prop), e = .returned (.pointer (some ⟨b', 0, none⟩)) ∧ LkAt w' S b' k h' v' ∧ w.heap.size ≤ b' ∧ w.heap.size ≤ h' ∧ (∀ g, v'.ownBlock = some g → w.heap.size ≤ g) ∧ Only w w'

set_option maxRecDepth 100000 in
set_option maxHeartbeats 4000000 in
theorem copyOne_any (w : World) (S : Nat → Prop) (b : Nat) (k : Lk) (h : Nat) (v : Value) (hk : LkAt w S b k h v) (hl : k.waiting.length ≤ 1000000) :
    Calls Try.prog 41 #[.pointer (some ⟨b, 0, none⟩)] w (CopyPost w k) := by
  obtain ⟨A, cp, rfl⟩ := own_shape hk.row
  have HK := Lib.hid hk
  have c1 := hk.blk.cell
  unfold lkc at c1
  have e0 := c1 0
  have e1 := c1 1
  have e2 := c1 2
  have e3 := c1 3
  have l1 := hk.blk.lt
  clear hk
  go_enter Try.func41, Try.ntmps41
  go_wp2_with fail
  go_region_held3 (fun w' => w'.cell? ⟨b, 0, none⟩ = some (.int .i64 k.permits) ∧ w'.cell? ⟨b, 1, none⟩ = some (.int .i64 k.free) ∧ w'.cell? ⟨b, 2, none⟩ = some (.map (some h)) ∧ w'.cell? ⟨b, 3, none⟩ = some (.slice A k.waiting.length cp))
    (first
      | go_keep
      | (go_split_ands; refine ⟨?_, ?_, ?_, ?_⟩ <;> (apply Only.cell hOM; assumption))
      | (go_split_ands; refine ⟨?_, ?_, ?_, ?_⟩ <;> (apply Only.cell hOS; assumption)))
    (first
      | (go_at_call 59; refine (cloneM_any _ h (imap k.holds) (by first | exact HK.out.map | exact HK.out.map.only hOS)).mono ?_; rintro e wM ⟨rfl, hmM, hOM, hzM⟩; have lM : b < wM.heap.size := Nat.lt_of_lt_of_le (by first | exact l1 | exact lS) hOM.size)
      | (go_at_call 34; refine (cloneI_any _ A cp k.waiting (own_sl HK.out.row (by first | exact (Stay.refl _ w).drew | exact Only.trans' ((Stay.refl _ w).drew) hOM)) (by omega)).mono ?_; rintro e wS ⟨v', rfl, hrS, hOS⟩; obtain ⟨A5, c5, rfl⟩ := own_shape hrS; have lS : b < wS.heap.size := Nat.lt_of_lt_of_le (by first | exact l1 | exact lM) hOS.size))
  all_goals
    have HZ := Lib.hid (And.intro hmM (And.intro hOM (And.intro hrS hOS)))
    clear hmM hOM hrS hOS hzM
    go_wp2_with fail
    go_ret
    obtain ⟨hmM, hOM, hrS, hOS⟩ := HZ.out
    first
      | (have q : Only w wS := undrew hOS
         exact ⟨_, _, _, fun _ => True, rfl, ⟨Blk.newAt wM (lkc k wS.heap.size (.slice A5 k.waiting.length c5)) _ _ rfl, hmM.alloc _, own_alloc (own_only hOM (owns_base hrS (Nat.zero_le _))) _, trivial, trivial, fun _ _ => trivial⟩, Nat.le_trans hOS.size hOM.size, hOS.size, fun g hg => (own_lt hrS g hg).1, q.trans' (hOM.trans' ((Stay.refl _ wM).alloc _))⟩)
      | (have q : Only w wM := undrew hOM
         have hz := hOM.size
         exact ⟨_, _, _, fun _ => True, rfl, ⟨Blk.newAt wS (lkc k w.heap.size (.slice A5 k.waiting.length c5)) _ _ rfl, (IMap.only hmM hOS).alloc _, own_alloc (owns_base hrS (Nat.zero_le _)) _, trivial, trivial, fun _ _ => trivial⟩, Nat.le_trans hOM.size hOS.size, Nat.le_refl _, fun g hg => Nat.le_trans hOM.size (own_lt hrS g hg).1, q.trans' (hOS.trans' ((Stay.refl _ wS).alloc _))⟩)

end Go.Proofs.Ytfifdgigeecfbaa
