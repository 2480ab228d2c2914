/- A clock in memory: its struct with the wheel, its map, the rows of its slots. -/
import Derived.Test.YtbkbcpnpbfnmgaaDoorClockPlace
import Derived.Test.YtbkbcpnpbfnmgaaDoorLift
set_option linter.unusedVariables false
set_option linter.unusedSimpArgs false
namespace Go.Proofs.YtbkbcpnpbfnmgaaDoor
open Go Go.RowKit

def Tm.cells (t : Tm) : List Value := [.int .i64 t.id, .int .i64 t.due]
theorem Tm.cells_length (t : Tm) : t.cells.length = 2 := rfl
def dv (d : Nat) : Value := .int .i64 d
theorem tm_one (l : List Tm) : ∀ u ∈ l.flatMap Tm.cells, u.oneCell' = true := fun u hu => by
  obtain ⟨t, _, ht⟩ := List.mem_flatMap.1 hu
  simp [Tm.cells] at ht
  rcases ht with rfl | rfl <;> rfl
theorem infoTm : (Tryd.prog.info? 39).map (fun i => (i.zero, i.size, i.bytes)) = some (some (.agg #[.int .i64 0, .int .i64 0]), 2, 16) := by kernel_rfl
theorem infoI : (Tryd.prog.info? 3).map (fun i => (i.zero, i.size, i.bytes)) = some (some (.int .i64 0), 1, 8) := by kernel_rfl
/-- Two rows share no block. -/
def OffR (v u : Value) : Prop := ∀ g, v.ownBlock = some g → u.ownBlock ≠ some g
theorem OffR.symm {v u : Value} (h : OffR v u) : OffR u v := fun g hg e => h g e hg
/-- The bits that say which slots hold anything. -/
def FullOk (fs : List Nat) (W : Wheel) : Prop := fs.length = 7 ∧ ∀ (l f : Nat), fs[l]? = some f → f < 18446744073709551616 ∧ ∀ s, s < 64 → (f.testBit s = true ↔ W.at (l * 64 + s) ≠ [])
def u64s (fs : List Nat) : List Value := fs.map fun (f : Nat) => Value.int .u64 (f : Int)
def ckCells (now made : Nat) (wv : List Value) (fs : List Nat) (m : Nat) : List Value := .int .i64 now :: .int .i64 made :: (wv ++ (u64s fs ++ [.map (some m)]))
structure CkIn (w : World) (b m now made : Nat) (l : List (Int × Nat)) (W : Wheel) (wv : List Value) (fs : List Nat) : Prop where
  blk : Blk w b 71 (ckCells now made wv fs m)
  mp : IMap w m (vmap dv l)
  wl : W.length = 448
  vl : wv.length = 448
  full : FullOk fs W
  row : ∀ (i : Nat) (v : Value), wv[i]? = some v → w.ownsRow 0 39 2 v (W.at i).length ((W.at i).flatMap Tm.cells)
  off : ∀ (i j : Nat) (v u : Value), i ≠ j → wv[i]? = some v → wv[j]? = some u → OffR v u
/-- A clock's blocks. -/
def CBlk (b m : Nat) (wv : List Value) (k : Nat) : Prop := k = b ∨ k = m ∨ ∃ (i : Nat) (v : Value), wv[i]? = some v ∧ v.ownBlock = some k
section
variable {w w' : World} {b m now made : Nat} {l : List (Int × Nat)} {W : Wheel} {wv : List Value} {fs : List Nat} {X : Nat → Prop}
theorem CkIn.lt (h : CkIn w b m now made l W wv fs) {k : Nat} (hk : CBlk b m wv k) : k < w.heap.size := by
  rcases hk with rfl | rfl | ⟨i, v, hv, e⟩
  · exact h.blk.lt
  · exact h.mp.lt
  · exact (own_lt (h.row i v hv) k e).2
theorem CkIn.stay (h : CkIn w b m now made l W wv fs) (hx : Stay X w w') (hX : ∀ k, CBlk b m wv k → ¬ X k) : CkIn w' b m now made l W wv fs :=
  ⟨hx.blk h.blk (hX b (.inl rfl)), h.mp.stay hx (hX m (.inr (.inl rfl))), h.wl, h.vl, h.full, fun i v hv => own_stay hx (h.row i v hv) (fun g hg => hX g (.inr (.inr ⟨i, v, hv, hg⟩))), h.off⟩
theorem CkIn.only (h : CkIn w b m now made l W wv fs) (ho : Only w w') : CkIn w' b m now made l W wv fs := h.stay ho (fun _ _ h => h)
theorem CkIn.ne_b (h : CkIn w b m now made l W wv fs) {i : Nat} {v : Value} (hv : wv[i]? = some v) : ∀ g, v.ownBlock = some g → g ≠ b := own_ne_blk (h.row i v hv) h.blk (by decide)
theorem CkIn.ne_m (h : CkIn w b m now made l W wv fs) {i : Nat} {v : Value} (hv : wv[i]? = some v) : ∀ g, v.ownBlock = some g → g ≠ m := own_ne_map (h.row i v hv) h.mp
theorem CkIn.mb (h : CkIn w b m now made l W wv fs) : m ≠ b := h.mp.ne_blk h.blk
end
theorem ck_at0 (now made : Nat) (wv : List Value) (fs : List Nat) (m : Nat) : (ckCells now made wv fs m)[0]? = some (.int .i64 now) := rfl
theorem ck_at1 (now made : Nat) (wv : List Value) (fs : List Nat) (m : Nat) : (ckCells now made wv fs m)[1]? = some (.int .i64 made) := rfl
theorem ck_atw (now made : Nat) {wv : List Value} (fs : List Nat) (m : Nat) {i : Nat} (hi : i < wv.length) : (ckCells now made wv fs m)[2 + i]? = wv[i]? := by
  unfold ckCells
  rw [show 2 + i = i + 1 + 1 by omega, List.getElem?_cons_succ, List.getElem?_cons_succ, List.getElem?_append_left hi]
theorem ck_atf (now made : Nat) {wv : List Value} {fs : List Nat} (m : Nat) (hv : wv.length = 448) {l f : Nat} (hl : fs[l]? = some f) : (ckCells now made wv fs m)[450 + l]? = some (.int .u64 f) := by
  unfold ckCells
  have hlt := (List.getElem?_eq_some_iff.1 hl).1
  rw [show 450 + l = 448 + l + 1 + 1 by omega, List.getElem?_cons_succ, List.getElem?_cons_succ, List.getElem?_append_right (by omega), hv, Nat.add_sub_cancel_left, List.getElem?_append_left (by simp [u64s]; exact hlt)]
  unfold u64s
  rw [List.getElem?_map, hl]
  rfl
theorem ck_atm (now made : Nat) {wv : List Value} {fs : List Nat} (m : Nat) (hv : wv.length = 448) (hf : fs.length = 7) : (ckCells now made wv fs m)[457]? = some (.map (some m)) := by
  unfold ckCells
  rw [List.getElem?_cons_succ, List.getElem?_cons_succ, List.getElem?_append_right (by omega), hv, List.getElem?_append_right (by simp [u64s]; omega)]
  simp [u64s, hf]
theorem ck_set0 (now made : Nat) (wv : List Value) (fs : List Nat) (m now' : Nat) : (ckCells now made wv fs m).set 0 (.int .i64 now') = ckCells now' made wv fs m := rfl
theorem ck_set1 (now made : Nat) (wv : List Value) (fs : List Nat) (m made' : Nat) : (ckCells now made wv fs m).set 1 (.int .i64 made') = ckCells now made' wv fs m := rfl
theorem ck_setw (now made : Nat) {wv : List Value} (fs : List Nat) (m : Nat) {i : Nat} (hi : i < wv.length) (v : Value) : (ckCells now made wv fs m).set (2 + i) v = ckCells now made (wv.set i v) fs m := by
  unfold ckCells
  rw [show 2 + i = i + 1 + 1 by omega, List.set_cons_succ, List.set_cons_succ, List.set_append_left _ _ hi]
theorem ck_setf (now made : Nat) {wv : List Value} {fs : List Nat} (m : Nat) (hv : wv.length = 448) {l : Nat} (hl : l < fs.length) (f : Nat) : (ckCells now made wv fs m).set (450 + l) (.int .u64 f) = ckCells now made wv (fs.set l f) m := by
  unfold ckCells
  rw [show 450 + l = 448 + l + 1 + 1 by omega, List.set_cons_succ, List.set_cons_succ, List.set_append_right _ _ (by omega), hv, Nat.add_sub_cancel_left, List.set_append_left _ _ (by simp [u64s]; exact hl)]
  unfold u64s
  rw [List.map_set]
end Go.Proofs.YtbkbcpnpbfnmgaaDoor
