/- New, Now, Tick: the walks. -/
import Derived.Test.YtbkbcpnpbfnmgaaDoorClockAdv
set_option linter.unusedVariables false
set_option linter.unusedSimpArgs false
namespace Go.Proofs.YtbkbcpnpbfnmgaaDoor
open Go Go.RowKit

set_option maxRecDepth 100000 in
set_option maxHeartbeats 4000000 in
theorem now_any {w : World} {S : Nat → Prop} {b : Nat} {C : Ck} (h : CkAt w S b C) :
    Calls Tryd.prog 19 #[.pointer (some ⟨b, 0, none⟩)] w fun e w' => e = .returned (.int .i64 C.now) ∧ Only w w' := by
  have c0 := h.now
  have lb := h.lt h.inb
  clear h
  go_enter Tryd.func19, Tryd.ntmps19
  go_wp2_with fail
  go_ret
  exact ⟨rfl, Stay.refl _ _⟩
theorem Next1.next {C : Ck} {W : Wheel} {t : Nat} (h : Next1 W t) (hp : W.flatten.Perm C.ts) : C.next = some t := by
  rw [Ck.next_some]
  obtain ⟨x, hx, hd⟩ := h.1
  exact ⟨x, hp.mem_iff.1 hx, hd, fun y hy => h.2 y (hp.mem_iff.2 hy)⟩
/-- Next, as its callers see it. -/
theorem cnext_any {w : World} {S : Nat → Prop} {b : Nat} {C : Ck} (h : CkAt w S b C) (hT : Tab w) :
    Calls Tryd.prog 21 #[.pointer (some ⟨b, 0, none⟩)] w fun e w' => e = .returned (.tuple #[.int .i64 (C.next.getD 0 : Nat), .bool C.next.isSome]) ∧ Only w w' := by
  obtain ⟨m, W, wv, fs, hC, hW, hp, hok, hs, hlt⟩ := h
  refine (next_any hC hW (flat1000 hp hok) hT).mono ?_
  rintro e w' ⟨ho, h⟩
  rcases h with ⟨hn, rfl⟩ | ⟨t, hN, rfl⟩
  · have : C.next = none := by
      rw [Ck.next_none]
      rw [hn] at hp
      exact List.perm_nil.1 hp.symm
    rw [this]
    exact ⟨rfl, ho⟩
  · rw [hN.next hp]
    exact ⟨rfl, ho⟩
set_option maxRecDepth 100000 in
set_option maxHeartbeats 4000000 in
theorem tick_none {w : World} {S : Nat → Prop} {b : Nat} {C : Ck} (h : CkAt w S b C) (hT : Tab w) (hn : C.next = none) :
    Calls Tryd.prog 23 #[.pointer (some ⟨b, 0, none⟩)] w fun e w' => e = .returned (.tuple #[.slice none 0 0, .int .i64 6]) ∧ Only w w' := by
  have HN := Lib.hid (cnext_any h hT)
  clear h hT
  have hn' := Lib.hid hn
  clear hn
  go_enter Tryd.func23, Tryd.ntmps23
  go_wp2_with fail
  refine HN.out.mono ?_
  rintro e w1 ⟨rfl, o1⟩
  rw [hn'.out]
  simp only [Option.getD_none, Option.isSome_none]
  have H1 := Lib.hid o1
  clear o1
  go_wp2_with fail
  go_ret2
  exact ⟨rfl, H1.out⟩
set_option maxRecDepth 100000 in
set_option maxHeartbeats 4000000 in
theorem tick_some {w : World} {S : Nat → Prop} {b : Nat} {C : Ck} (h : CkAt w S b C) (hT : Tab w) (hg : ¬ S 0) {t : Nat} (hn : C.next = some t) :
    Calls Tryd.prog 23 #[.pointer (some ⟨b, 0, none⟩)] w fun e w' => ∃ v, e = .returned (.tuple #[v, .int .i64 0]) ∧ AdvPost w S b C t v w' := by
  have HN := Lib.hid (cnext_any h hT)
  have H := Lib.hid (And.intro h (And.intro hT (And.intro hg hn)))
  clear h hT hg hn
  go_enter Tryd.func23, Tryd.ntmps23
  go_wp2_with fail
  refine HN.out.mono ?_
  clear HN
  rintro e w1 ⟨rfl, o1⟩
  rw [H.out.2.2.2]
  simp only [Option.getD_some, Option.isSome_some]
  have H1 := Lib.hid o1
  clear o1
  go_wp2_with fail
  have ht : C.now ≤ t ∧ t ≤ maxT := by
    obtain ⟨x, hx, hd, _⟩ := Ck.next_some.1 H.out.2.2.2
    have := H.out.1.ok.due x hx
    omega
  refine (adv_ok (H.out.1.only H1.out) t ht.1 ht.2 (H.out.2.1.only H1.out) H.out.2.2.1).mono ?_
  clear ht
  rintro e w2 ⟨v, rfl, S', hr, hC, hsub, hst, hoff⟩
  have hz := H1.out.size
  have HP : Hid (AdvPost w S b C t v w2) := Lib.hid ⟨S', owns_base hr hz, hC, fun k hk => (hsub k hk).imp id (fun h => Nat.le_trans hz h), (H1.out.mono (fun _ _ h => h.elim)).trans hst (fun _ _ h => h), hoff⟩
  clear hr hC hsub hst hoff
  go_wp2_with fail
  go_ret2
  exact ⟨_, rfl, HP.out⟩
theorem zero_ck (m : Nat) : (Tryd.zeroCells71).setIfInBounds 457 (.map (some m)) = (ckCells 0 0 (List.replicate 448 (.slice none 0 0)) (List.replicate 7 0) m).toArray := by
  have e : Tryd.zeroCells71 = (.int .i64 0 :: .int .i64 0 :: (List.replicate 448 (.slice none 0 0) ++ (List.replicate 7 (.int .u64 0) ++ [.map none]))).toArray := by kernel_rfl
  rw [e, List.setIfInBounds_toArray]
  exact congrArg List.toArray (by kernel_rfl)
theorem at_nil (i : Nat) : Wheel.at (List.replicate 448 []) i = [] := by
  unfold Wheel.at
  rw [List.getD_eq_getElem?_getD, List.getElem?_replicate]
  split <;> rfl
theorem ck_new {w : World} {b m : Nat} (hb : Blk w b 71 (ckCells 0 0 (List.replicate 448 (.slice none 0 0)) (List.replicate 7 0) m)) (hm : IMap w m []) : CkIn w b m 0 0 (keyed []) (List.replicate 448 []) (List.replicate 448 (.slice none 0 0)) (List.replicate 7 0) := by
  refine ⟨hb, hm, List.length_replicate, List.length_replicate, ⟨List.length_replicate, fun l f hf => ?_⟩, fun i v hv => ?_, fun i j v u hij hv hu g hg => ?_⟩
  · have hf0 : f = 0 := by
      rw [List.getElem?_replicate] at hf
      split at hf
      · exact (Option.some.inj hf).symm
      · cases hf
    subst hf0
    exact ⟨by decide, fun s hs => by rw [at_nil]; simp⟩
  · have hv0 : v = .slice none 0 0 := by
      rw [List.getElem?_replicate] at hv
      split at hv
      · exact (Option.some.inj hv).symm
      · cases hv
    subst hv0
    rw [at_nil]
    exact World.ownsRow_nil _ _ _ _
  · have hv0 : v = .slice none 0 0 := by
      rw [List.getElem?_replicate] at hv
      split at hv
      · exact (Option.some.inj hv).symm
      · cases hv
    subst hv0
    simp [Value.ownBlock] at hg
set_option maxRecDepth 100000 in
set_option maxHeartbeats 4000000 in
theorem new_any (w : World) : Calls Tryd.prog 11 #[] w fun e w' => e = .returned (.pointer (some ⟨w.heap.size + 1, 0, none⟩)) ∧ CkAt w' (From w.heap.size w') (w.heap.size + 1) Ck.new ∧ Only w w' := by
  have hmm := @run_makeMap Tryd.prog
  go_enter Tryd.func11, Tryd.ntmps11
  go_wp2_with fail
  go_ret
  have hB : Blk ((w.alloc (.map #[] 0)).alloc (.cells (Tryd.zeroCells71.setIfInBounds 457 (.map (some w.heap.size))) 71)) (w.heap.size + 1) 71 (ckCells 0 0 (List.replicate 448 (.slice none 0 0)) (List.replicate 7 0) w.heap.size) := by
    rw [zero_ck]
    exact Blk.newAt _ _ _ _ (by simp)
  have hM : IMap ((w.alloc (.map #[] 0)).alloc (.cells (Tryd.zeroCells71.setIfInBounds 457 (.map (some w.heap.size))) 71)) w.heap.size [] := (IMap.new w).alloc _
  have hC := ck_new hB hM
  refine ⟨rfl, ⟨w.heap.size, _, _, _, hC, ⟨List.length_replicate, by decide, fun i t ht => ?_⟩, ?_, Ck.new_ok, fun k hk => ⟨?_, hC.lt hk⟩, fun k hk => hk.2⟩, ((Stay.refl _ w).alloc _).alloc _⟩
  · rw [at_nil] at ht
    simp at ht
  · have e : (List.replicate 448 ([] : List Tm)).flatten = [] := by rw [List.flatten_eq_nil_iff]; intro l hl; exact (List.mem_replicate.1 hl).2
    rw [e]
    exact List.Perm.refl _
  · rcases hk with e | e | ⟨i, v, hv, e⟩
    · omega
    · omega
    · have hv0 : v = .slice none 0 0 := by
        rw [List.getElem?_replicate] at hv
        split at hv
        · exact (Option.some.inj hv).symm
        · cases hv
      subst hv0
      simp [Value.ownBlock] at e
end Go.Proofs.YtbkbcpnpbfnmgaaDoor
