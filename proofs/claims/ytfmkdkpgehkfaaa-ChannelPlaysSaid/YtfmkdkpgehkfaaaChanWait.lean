/- The inner functions of a channel: push, pop, wait. -/
import Derived.Test.YtfmkdkpgehkfaaaChanRep
set_option linter.unusedVariables false
set_option linter.unusedSimpArgs false
namespace Go.Proofs.Ytfmkdkpgehkfaaa
open Go Go.RowKit


set_option maxRecDepth 100000 in
set_option maxHeartbeats 400000 in
theorem push_any (w : World) (b : Nat) (v : V) (cap pol : Int) (closed : Bool) (r : List V) (fr n : Nat) (p : Option Addr) (nw : Nat) (dr : Int) (hf : fr < 16) (hn : n < 16) (h : CC w b cap pol closed r fr n p nw dr) :
    Calls Try.prog 32 #[.pointer (some ⟨b, 0, none⟩), v.val] w fun e w' => e = .returned (.tuple #[]) ∧ CC w' b cap pol closed (r.set ((fr + n) % 16) v) fr (n + 1) p nw dr ∧ Stay (· = b) w w' := by
  have hlt := h.lt
  have hcf := h.fr_
  have hcn := h.n_
  have hz := h.free
  obtain ⟨u, hu⟩ : ∃ u, r[(fr + n) % 16]? = some u := ⟨_, List.getElem?_eq_getElem (by rw [h.1]; omega)⟩
  obtain ⟨hr0, hr1, hr2⟩ := h.ring_ hu
  have H := Lib.hid h
  clear h hu
  unfold V.val
  go_enter Try.func32, Try.ntmps32
  go_wp2
  go_big_region
  go_wp2
  go_end0
  have h1 := ((H.out.set_ring (i := (fr + n) % 16) (by omega) v).set_n (n + 1)).alloc (Obj.cells #[.int .i64 v.k, .int .i64 v.n, .string v.s] 29)
  refine ⟨rfl, h1.drew, ?_⟩
  exact ((((((Stay.refl _ w).put (by rfl) _ _).put (by rfl) _ _).put (by rfl) _ _).put (by rfl) _ _).alloc _).drew

set_option maxRecDepth 100000 in
set_option maxHeartbeats 400000 in
theorem pop_any (w : World) (b : Nat) (v : V) (cap pol : Int) (closed : Bool) (r : List V) (fr n : Nat) (p : Option Addr) (nw : Nat) (dr : Int) (hf : fr < 16) (hn : n < 16) (hv : r[fr]? = some v) (h : CC w b cap pol closed r fr (n + 1) p nw dr) :
    Calls Try.prog 33 #[.pointer (some ⟨b, 0, none⟩)] w fun e w' => e = .returned v.val ∧ CC w' b cap pol closed (r.set fr V.nil) ((fr + 1) % 16) n p nw dr ∧ Stay (· = b) w w' := by
  have hlt := h.lt
  have hcf := h.fr_
  have hcn := h.n_
  have hz := h.free
  obtain ⟨hr0, hr1, hr2⟩ := h.ring_ hv
  have H := Lib.hid h
  clear h hv
  go_enter Try.func33, Try.ntmps33
  go_wp2
  go_big_region
  go_wp2
  go_big_region
  go_wp2
  refine bodyPost_ret (v := v.val) (by simp [results, Try.results33, V.val, go_sem]) rfl ⟨rfl, ?_, ?_⟩
  · have h1 := ((((H.out.set_ring (i := fr) hf V.nil).set_fr ((fr + 1) % 16)).set_n n).alloc (Obj.cells #[.int .i64 v.k, .int .i64 v.n, .string v.s] 29)).alloc (Obj.cells #[.int .i64 v.k, .int .i64 v.n, .string v.s] 29)
    exact h1
  · exact (((((((((Stay.refl _ w).put (by rfl) _ _).put (by rfl) _ _).put (by rfl) _ _).put (by rfl) _ _).put (by rfl) _ _).alloc _).alloc _).drew).drew

end Go.Proofs.Ytfmkdkpgehkfaaa
