/- A race's struct and an actor's, in memory; end, cell. -/
import Derived.Test.YtfohaijdhgcneaaIntSl
import Derived.Test.YtfohaijdhgcneaaStealOk
import Derived.Test.YtfohaijdhgcneaaChecked
import Derived.Deep.RegionHeld3
import Derived.Deep.RegionLaw
set_option linter.unusedVariables false
set_option linter.unusedSimpArgs false
namespace Go.Proofs.Ytfohaijdhgcneaa
open Go Go.RowKit

theorem infoI : (Try.prog.info? 3).map (fun i => (i.zero, i.size, i.bytes)) = some (some (.int .i64 0), 1, 8) := by kernel_rfl
def Off (u v : Value) : Prop := ∀ g, u.ownBlock = some g → v.ownBlock ≠ some g
theorem Off.symm {u v : Value} (h : Off u v) : Off v u := fun g hg hu => h g hu hg
def Next (w : World) (v v' : Value) : Prop := ∀ g, v'.ownBlock = some g → v.ownBlock = some g ∨ w.heap.size ≤ g
theorem Next.refl (w : World) (v : Value) : Next w v v := fun _ h => .inl h

/-- The race's struct and its cells. -/
structure Core (w : World) (b room : Nat) (cells : List Int) (top bot : Int) (cv av ov tv pv : Value) : Prop where
  blk : Blk w b 81 [.int .i64 room, cv, .int .i64 top, .int .i64 bot, av, ov, tv, pv]
  row : w.ownsRow 0 3 1 cv room (ints cells)
/-- An actor's struct and its results. -/
structure AcB (w : World) (ab n : Nat) (got : List Int) (opv nx gv : Value) : Prop where
  blk : Blk w ab 86 [.int .i64 n, opv, nx, gv]
  row : w.ownsRow 0 3 1 gv got.length (ints got)
section
variable {w w' : World} {X : Nat → Prop} {b room ab n : Nat} {cells got : List Int} {top bot : Int} {cv av ov tv pv opv nx gv : Value}
theorem Core.stay (h : Core w b room cells top bot cv av ov tv pv) (hx : Stay X w w') (h1 : ¬ X b) (h2 : ∀ g, cv.ownBlock = some g → ¬ X g) : Core w' b room cells top bot cv av ov tv pv := ⟨hx.blk h.blk h1, own_stay hx h.row h2⟩
theorem AcB.stay (h : AcB w ab n got opv nx gv) (hx : Stay X w w') (h1 : ¬ X ab) (h2 : ∀ g, gv.ownBlock = some g → ¬ X g) : AcB w' ab n got opv nx gv := ⟨hx.blk h.blk h1, own_stay hx h.row h2⟩
theorem Core.only (h : Core w b room cells top bot cv av ov tv pv) (ho : Only w w') : Core w' b room cells top bot cv av ov tv pv := ⟨ho.blk h.blk, own_only ho h.row⟩
theorem AcB.only (h : AcB w ab n got opv nx gv) (ho : Only w w') : AcB w' ab n got opv nx gv := ⟨ho.blk h.blk, own_only ho h.row⟩
end

set_option maxRecDepth 100000 in
set_option maxHeartbeats 2000000 in
theorem end_any (w : World) (ab n : Nat) (got : List Int) (opv nx gv : Value) (x : Int) (h : AcB w ab n got opv nx gv) (hl : got.length ≤ 1000) :
    Calls Try.prog 77 #[.pointer (some ⟨ab, 0, none⟩), .int .i64 x] w fun e w' => e = .returned .nilFunc ∧ ∃ gv', AcB w' ab n (got ++ [x]) opv nx gv' ∧ Next w gv gv' ∧ Stay (fun k => k = ab ∨ gv.ownBlock = some k) w w' := by
  obtain ⟨ii, hii0, hii1, hii2, hii3⟩ := info_parts infoI
  obtain ⟨Ag, cg, rfl⟩ := own_shape h.row
  have c := h.blk.cell
  have f := h.blk.free
  have l := h.blk.lt
  have H := Lib.hid h
  clear h
  go_enter Try.func77, Try.ntmps77
  go_wp2_with (at_builtin; refine wpList_append_lies _ rfl _ _ _ rfl 0 3 ii _ 1 8 Try.underlying22 hii0 hii1 hii2 hii3 rfl (by omega) _ got.length _ (by rfl) (own_alloc H.out.row _) ⟨w.heap.size, 0, none⟩ 1 1 [.int .i64 x] (by rfl) (by rfl) (World.news_of_block (cs := [Value.int .i64 x].toArray) (t := 3) (fr := (0, 0)) (heap_alloc_at' _ _ _ (by simp))) (by simp [Value.oneCell']) (by omega) (by simp only [maxLen]; omega) (by omega) (by simp) (w.heap.size + 1) (by simp) ?_; intro g cap w1 hown hgrow hat hlt; have BT := (grown_stay hgrow).blk (H.out.blk.alloc _) (fun e => own_ne_blk H.out.row H.out.blk (by decide) _ e rfl); have c1 := BT.cell; have f1 := BT.free; have l1 := BT.lt; have HG := Lib.hid (And.intro hown (And.intro (grown_stay hgrow) (And.intro hat BT))); clear hown hgrow hat hlt BT)
  go_ret
  refine ⟨rfl, _, ⟨HG.out.2.2.2.set 3 (.slice (some ⟨g, 0, none⟩) (got.length + 1) cap), ?_⟩, fun g' hg' => ?_, ?_⟩
  · have := own_set HG.out.1 (A := ⟨ab, 3, none⟩) (.slice (some ⟨g, 0, none⟩) (got.length + 1) cap) (own_ne_blk HG.out.1 HG.out.2.2.2 (by decide))
    simpa [ints] using this
  · have e : g = g' := by simpa [Value.ownBlock] using hg'
    subst e
    rcases HG.out.2.2.1 with h | h
    · exact .inl h
    · exact .inr (by omega)
  · exact (((Stay.refl _ w).alloc _).trans HG.out.2.1 (fun _ _ h => .inr h)).put (.inl rfl) _ _

theorem rem_place (p : Int) (room : Nat) (h0 : 0 ≤ p) : p.tmod (room : Int) = ((p.toNat % room : Nat) : Int) := by
  have e : p = ((p.toNat : Nat) : Int) := by omega
  rw [e, Int.tmod_eq_emod_of_nonneg (by omega)]
  simp

set_option maxRecDepth 100000 in
set_option maxHeartbeats 2000000 in
theorem cell_any (w : World) (b room : Nat) (cells : List Int) (top bot : Int) (gc cc : Nat) (av ov tv pv : Value) (p : Int) (h : Core w b room cells top bot (.slice (some ⟨gc, 0, none⟩) room cc) av ov tv pv) (hr : 1 ≤ room) (hr2 : room ≤ 16) (hp : 0 ≤ p) :
    Calls Try.prog 40 #[.pointer (some ⟨b, 0, none⟩), .int .i64 p] w fun e w' => e = .returned (.pointer (some ⟨gc, p.toNat % room, none⟩)) ∧ Only w w' := by
  have c := h.blk.cell
  have l := h.blk.lt
  have hm := rem_place p room hp
  have hlt : p.toNat % room < room := Nat.mod_lt _ (by omega)
  have u1 : (0 : Int) ≤ ((p.toNat % room : Nat) : Int) := by omega
  have u2 : ((p.toNat % room : Nat) : Int) < (room : Int) := by omega
  have u3 : ¬ room = 0 := by omega
  have u4 : ((room : Int) == 0) = false := by simp; omega
  obtain ⟨q, hq⟩ : ∃ q, q = p.toNat % room := ⟨_, rfl⟩
  rw [← hq] at hm hlt u1 u2 ⊢
  clear hq
  go_enter Try.func40, Try.ntmps40
  go_wp2_with fail
  go_quiet (fail)
  go_wp2_with fail
  go_ret
  exact ⟨rfl, (Stay.refl _ w).drewN nq⟩

end Go.Proofs.Ytfohaijdhgcneaa
