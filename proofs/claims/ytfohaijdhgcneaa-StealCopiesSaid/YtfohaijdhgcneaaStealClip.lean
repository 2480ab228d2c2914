/- A plan is clipped; a race of it. -/
import Derived.Test.YtfohaijdhgcneaaStealOwn
import Derived.Deep.RegionHeld3
import Derived.Deep.CutRange
set_option linter.unusedVariables false
set_option linter.unusedSimpArgs false
namespace Go.Proofs.Ytfohaijdhgcneaa
open Go Go.RowKit

theorem Sl.take {w : World} {B : Nat} {A : Option Addr} {cap : Nat} {l : List Int} (h : Sl w B A l.length cap 1 (ints l)) {m : Nat} (hm : m ≤ l.length) : Sl w B A (l.take m).length cap 1 (ints (l.take m)) := by
  have hl : (l.take m).length = m := by rw [List.length_take]; omega
  rw [hl]
  refine ⟨by simp [ints, hm], by have := h.2.1; omega, h.2.2.1, h.2.2.2.1, fun h0 => ?_⟩
  obtain ⟨b, off, e, hb, hc⟩ := h.2.2.2.2 (by omega)
  refine ⟨b, off, e, hb, fun j u hu => hc j u ?_⟩
  unfold ints at hu ⊢
  rw [List.map_take, List.getElem?_take] at hu
  split at hu
  · exact hu
  · cases hu
set_option maxRecDepth 100000 in
set_option maxHeartbeats 4000000 in
theorem clipped_off (w : World) (room : Int) (own thv : List Int) (A B : Option Addr) (ca cb : Nat) (hA : Sl w w.heap.size A own.length ca 1 (ints own)) (hB : Sl w w.heap.size B thv.length cb 1 (ints thv)) :
    Calls Try.prog 12 #[.agg #[.int .i64 room, .slice A own.length ca, .slice B thv.length cb]] w fun e w' => ∃ ov tv, e = .returned (.agg #[.int .i64 room, ov, tv]) ∧ w'.ownsRow w.heap.size 3 1 ov (own.take 62).length (ints (own.take 62)) ∧ w'.ownsRow w.heap.size 3 1 tv (thv.take 10).length (ints (thv.take 10)) ∧ Only w w' ∧ Off ov tv := by
  have hnA := hA.2.1
  have hcA := hA.2.2.1
  have hnB := hB.2.1
  have hcB := hB.2.2.1
  have tA := hA.take (m := min own.length 62) (by omega)
  have tB := hB.take (m := min thv.length 10) (by omega)
  have qA : own.take (min own.length 62) = own.take 62 := by
    by_cases h : own.length ≤ 62
    · rw [List.take_of_length_le (by omega), List.take_of_length_le (by omega)]
    · rw [show min own.length 62 = 62 by omega]
  have qB : thv.take (min thv.length 10) = thv.take 10 := by
    by_cases h : thv.length ≤ 10
    · rw [List.take_of_length_le (by omega), List.take_of_length_le (by omega)]
    · rw [show min thv.length 10 = 10 by omega]
  rw [qA] at tA
  rw [qB] at tB
  have eA : (min (own.length : Int) 62).toNat = (own.take 62).length := by rw [List.length_take]; omega
  have eB : (min (thv.length : Int) 10).toNat = (thv.take 10).length := by rw [List.length_take]; omega
  have u1 : (0 : Int) ≤ min (own.length : Int) 62 := by omega
  have u2 : min (own.length : Int) 62 ≤ (ca : Int) := by omega
  have u3 : (0 : Int) ≤ min (thv.length : Int) 10 := by omega
  have u4 : min (thv.length : Int) 10 ≤ (cb : Int) := by omega
  have lA : (own.take 62).length ≤ 62 := by rw [List.length_take]; omega
  have lB : (thv.take 10).length ≤ 10 := by rw [List.length_take]; omega
  obtain ⟨oA', hoA⟩ : ∃ l, l = own.take 62 := ⟨_, rfl⟩
  obtain ⟨oB', hoB⟩ : ∃ l, l = thv.take 10 := ⟨_, rfl⟩
  rw [← hoA] at tA eA lA ⊢
  rw [← hoB] at tB eB lB ⊢
  have HS := Lib.hid (And.intro tA tB)
  clear hA hB tA tB qA qB hoA hoB
  go_enter Try.func12, Try.ntmps12
  go_upto_region 1 with fail
  obtain ⟨w1, hw1⟩ : ∃ w1, w1 = (w.alloc (.cells #[.int .i64 room, .slice A own.length ca, .slice B thv.length cb] 24)).alloc (.cells #[.int .i64 0, .slice none 0 0, .slice none 0 0] 24) := ⟨_, rfl⟩
  rw [← hw1]
  have hO1 : Only w w1 := by rw [hw1]; exact ((Stay.refl _ w).alloc _).alloc _
  have hB1 : Blk w1 w.heap.size 24 [.int .i64 room, .slice A own.length ca, .slice B thv.length cb] := by rw [hw1]; exact (Blk.newAt w [_, _, _] _ _ rfl).alloc _
  have hB2 : Blk w1 (w.heap.size + 1) 24 [.int .i64 0, .slice none 0 0, .slice none 0 0] := by rw [hw1]; exact Blk.newAt (w.alloc _) [_, _, _] _ _ (by simp)
  have c1 := hB1.cell
  have l1 := hB1.lt
  have c2 := hB2.cell
  have f2 := hB2.free
  have l2 := hB2.lt
  have H1 := Lib.hid (And.intro hO1 (And.intro hB1 hB2))
  clear hw1 hO1 hB1 hB2
  go_region_held3 (fun w' => w'.cell? ⟨w.heap.size, 0, none⟩ = some (.int .i64 room) ∧ w'.cell? ⟨w.heap.size, 1, none⟩ = some (.slice A own.length ca) ∧ w'.cell? ⟨w.heap.size, 2, none⟩ = some (.slice B thv.length cb))
    (first
      | go_keep
      | (go_split_ands; refine ⟨?_, ?_, ?_⟩ <;> (first | (apply Only.cell oA; assumption) | (apply Only.cell oB; assumption))))
    (first
      | (go_at_call_of 37 (Value.slice A oA'.length ca); refine (cloneI_any _ A ca oA' (Sl.up HS.out.1 (by first | exact H1.out.1.drew | exact aB)) (by omega)).mono ?_; rintro e wA ⟨vA, rfl, hvA, oA⟩; obtain ⟨PA, dA, rfl⟩ := own_shape hvA; have aA : Only w wA := Only.trans' (by first | exact H1.out.1.drew | exact aB) oA; have kA := oA.blk (show Blk _ (w.heap.size + 1) 24 _ from (by first | exact H1.out.2.2.drew | exact kB)); have kc := kA.cell; have kf := kA.free; have kl := kA.lt)
      | (go_at_call_of 37 (Value.slice B oB'.length cb); refine (cloneI_any _ B cb oB' (Sl.up HS.out.2 (by first | exact H1.out.1.drew | exact aA)) (by omega)).mono ?_; rintro e wB ⟨vB, rfl, hvB, oB⟩; obtain ⟨PB, dB, rfl⟩ := own_shape hvB; have aB : Only w wB := Only.trans' (by first | exact H1.out.1.drew | exact aA) oB; have kB := oB.blk (show Blk _ (w.heap.size + 1) 24 _ from (by first | exact H1.out.2.2.drew | exact kA)); have kc := kB.cell; have kf := kB.free; have kl := kB.lt))
  all_goals
    have kE : ∀ (W : World), Blk W (w.heap.size + 1) 24 [.int .i64 0, .slice none 0 0, .slice none 0 0] → Blk (((W.setCell ⟨w.heap.size + 1, 0, none⟩ (.int .i64 room)).setCell ⟨w.heap.size + 1, 1, none⟩ (.slice PA oA'.length dA)).setCell ⟨w.heap.size + 1, 2, none⟩ (.slice PB oB'.length dB)) (w.heap.size + 1) 24 [.int .i64 room, .slice PA oA'.length dA, .slice PB oB'.length dB] := fun W h => ((h.set 0 _).set 1 _).set 2 _
    have kc := (kE _ (by first | exact kB | exact kA)).cell
    have k0 := kc 0
    have k1 := kc 1
    have k2 := kc 2
    simp only [List.getElem?_cons_zero, List.getElem?_cons_succ] at k0 k1 k2
    go_wp2_with fail
    refine bodyPost_ret (v := .agg #[.int .i64 room, .slice PA oA'.length dA, .slice PB oB'.length dB]) (by simp [results, Try.results12, go_sem, k0, k1, k2]) rfl ?_
    have hz1 := H1.out.1.size
    have fin : ∀ (W : World), Only w W → Only w (((W.setCell ⟨w.heap.size + 1, 0, none⟩ (.int .i64 room)).setCell ⟨w.heap.size + 1, 1, none⟩ (.slice PA oA'.length dA)).setCell ⟨w.heap.size + 1, 2, none⟩ (.slice PB oB'.length dB)) := fun W h => ((h.set (fun h => by simp at h; omega) _).set (fun h => by simp at h; omega) _).set (fun h => by simp at h; omega) _
    have xr : ∀ (W : World) (P : Option Addr) (d : Nat) (l : List Int), W.ownsRow w.heap.size 3 1 (.slice P l.length d) l.length (ints l) → Blk W (w.heap.size + 1) 24 [.int .i64 0, .slice none 0 0, .slice none 0 0] → (((W.setCell ⟨w.heap.size + 1, 0, none⟩ (.int .i64 room)).setCell ⟨w.heap.size + 1, 1, none⟩ (.slice PA oA'.length dA)).setCell ⟨w.heap.size + 1, 2, none⟩ (.slice PB oB'.length dB)).ownsRow w.heap.size 3 1 (.slice P l.length d) l.length (ints l) := fun W P d l h hb => by
      have n := own_ne_blk h hb (by decide)
      exact own_set (own_set (own_set h _ n) _ n) _ n
    have sA := aA.size
    have sB := aB.size
    have d1 : w.heap.size ≤ w1.drew.heap.size := hz1
    first
      | exact ⟨_, _, rfl, xr _ _ _ _ (own_only oB (owns_base hvA (by first | exact d1 | omega))) kB, xr _ _ _ _ (owns_base hvB (by first | exact d1 | omega)) kB, fin _ aB, fun g hg hg2 => by have := (own_lt hvA g hg).2; have := (own_lt hvB g hg2).1; omega⟩
      | exact ⟨_, _, rfl, xr _ _ _ _ (owns_base hvA (by first | exact d1 | omega)) kA, xr _ _ _ _ (own_only oA (owns_base hvB (by first | exact d1 | omega))) kA, fin _ aA, fun g hg hg2 => by have := (own_lt hvA g hg).1; have := (own_lt hvB g hg2).2; omega⟩
theorem clipped_any (w : World) (room : Int) (own thv : List Int) (A B : Option Addr) (ca cb : Nat) (hA : Sl w w.heap.size A own.length ca 1 (ints own)) (hB : Sl w w.heap.size B thv.length cb 1 (ints thv)) :
    Calls Try.prog 12 #[.agg #[.int .i64 room, .slice A own.length ca, .slice B thv.length cb]] w fun e w' => ∃ ov tv, e = .returned (.agg #[.int .i64 room, ov, tv]) ∧ w'.ownsRow w.heap.size 3 1 ov (own.take 62).length (ints (own.take 62)) ∧ w'.ownsRow w.heap.size 3 1 tv (thv.take 10).length (ints (thv.take 10)) ∧ Only w w' :=
  (clipped_off w room own thv A B ca cb hA hB).mono fun e w' ⟨ov, tv, h1, h2, h3, h4, _⟩ => ⟨ov, tv, h1, h2, h3, h4⟩
end Go.Proofs.Ytfohaijdhgcneaa
