/- The steps of a take: the first and the last. -/
import Derived.Test.YtfohaijdhgcneaaStealPush
set_option linter.unusedVariables false
set_option linter.unusedSimpArgs false
namespace Go.Proofs.Ytfohaijdhgcneaa
open Go Go.RowKit

section
variable {w : World} {F : Fixed} {N : Nums} {gv : Value} {bt bx : Nat} {t x : Int}
theorem stayT {w' : World} (h : Stay (XP F gv) w w') : Stay (XT F gv bt bx) w w' := h.mono (fun _ _ h => .inl h)
set_option maxRecDepth 100000 in
set_option maxHeartbeats 2000000 in
/-- The first step: bottom goes back. -/
theorem take4_any (h : Loc w F N gv) (hB : Box2 w F gv bt bx t x) {br bl : Nat} {u : Value} (h1 : Blk w br 26 [.pointer (some ⟨F.b, 0, none⟩)]) (h4 : Blk w bl 83 [u]) (hb : 0 ≤ N.bot) :
    Calls Try.prog 80 #[.pointer (some ⟨br, 0, none⟩), .pointer (some ⟨bl, 0, none⟩)] w (TwoPost w F { N with bot := N.bot - 1 } gv bt bx t x u) := by
  have c := h.core.blk.cell
  have f := h.core.blk.free
  have l := h.core.blk.lt
  have c1 := h1.cell
  have c4 := h4.cell
  have d4 := blk_ne h4 h.core.blk (by decide)
  have hbb := h.bb
  have e4 := (h4.set_other (a := ⟨F.b, 3, none⟩) (fun e => d4 e.symm) (.int .i64 (N.bot - 1))).cell
  have hL := h.putB (N.bot - 1) (by omega)
  have hX := hB.put (k := F.b) (i := 3) (.int .i64 (N.bot - 1)) ⟨blk_ne h.core.blk hB.t (by decide), blk_ne h.core.blk hB.x (by decide)⟩
  have H := Lib.hid (And.intro hL hX)
  clear h hL hX hB h1 h4 d4
  go_enter Try.func80, Try.ntmps80
  go_wp2_with fail
  go_ret
  exact ⟨rfl, gv, H.out.1, H.out.2, Next.refl _ _, stayT (Stay.put (S := XP F gv) (Stay.refl _ w) (XP.b F gv) 3 (.int .i64 (N.bot - 1)))⟩

set_option maxRecDepth 100000 in
set_option maxHeartbeats 2000000 in
/-- The last step: who has the last number? -/
theorem take1_any (h : Loc w F N gv) (hB : Box2 w F gv bt bx t x) {br ba : Nat} (h1 : Blk w br 26 [.pointer (some ⟨F.b, 0, none⟩)]) (h2 : Blk w ba 87 [.pointer (some ⟨F.ab, 0, none⟩)]) (hl : N.got.length < 500) (ht : 0 ≤ t ∧ t < 1000) :
    Calls Try.prog 76 #[.pointer (some ⟨br, 0, none⟩), .pointer (some ⟨bt, 0, none⟩), .pointer (some ⟨bx, 0, none⟩), .pointer (some ⟨ba, 0, none⟩)] w
      (if N.top = t then TwoPost w F { N with bot := t + 1, top := t + 1, got := N.got ++ [x] } gv bt bx t x .nilFunc else TwoPost w F { N with bot := t + 1, got := N.got ++ [0] } gv bt bx t x .nilFunc) := by
  have c := h.core.blk.cell
  have l := h.core.blk.lt
  have c1 := h1.cell
  have l1 := h1.lt
  have ct := hB.t.cell
  have lt := hB.t.lt
  have H := Lib.hid (And.intro h (And.intro hB (And.intro h1 h2)))
  clear h hB h1 h2
  by_cases hf : N.top = t
  · rw [if_pos hf]
    have b0 : (N.top == t) = true := by simp [hf]
    clear hf
    go_enter Try.func76, Try.ntmps76
    go_upto_region 2 with fail
    go_quiet (fail)
    have hO : Only w (w.drewN nq) := (Stay.refl _ w).drewN nq
    obtain ⟨wd, hwd⟩ : ∃ wd, wd = w.drewN nq := ⟨_, rfl⟩
    rw [← hwd] at hO ⊢
    clear c l c1 l1 ct lt hwd
    have h := H.out.1.only hO
    have hB := H.out.2.1.only hO
    have h1 := hO.blk H.out.2.2.1
    have h2 := hO.blk H.out.2.2.2
    have c := h.core.blk.cell
    have f := h.core.blk.free
    have l := h.core.blk.lt
    have c1 := h1.cell
    have ct := hB.t.cell
    have cx := hB.x.cell
    have d1 := blk_ne h1 h.core.blk (by decide)
    have d2 := blk_ne h2 h.core.blk (by decide)
    have dt := blk_ne hB.t h.core.blk (by decide)
    have dx := blk_ne hB.x h.core.blk (by decide)
    have h' := h.putT (t + 1) (by omega)
    have hB' := hB.put (k := F.b) (i := 2) (.int .i64 (t + 1)) ⟨dt.symm, dx.symm⟩
    have h1' := h1.set_other (a := ⟨F.b, 2, none⟩) (fun e => d1 e.symm) (.int .i64 (t + 1))
    have h2' := h2.set_other (a := ⟨F.b, 2, none⟩) (fun e => d2 e.symm) (.int .i64 (t + 1))
    have c1' := h1'.cell
    have ct' := hB'.t.cell
    have cx' := hB'.x.cell
    have c' := h'.core.blk.cell
    have f' := h'.core.blk.free
    have l' := h'.core.blk.lt
    have h'' := h'.putB (t + 1) (by omega)
    have hB'' := hB'.put (k := F.b) (i := 3) (.int .i64 (t + 1)) ⟨dt.symm, dx.symm⟩
    have h2'' := h2'.set_other (a := ⟨F.b, 3, none⟩) (fun e => d2 e.symm) (.int .i64 (t + 1))
    have c2'' := h2''.cell
    have HH := Lib.hid (And.intro h'' (And.intro hB'' hO))
    clear h hB h1 h2 h' hB' h1' h2' h'' hB'' h2'' d1 d2 dt dx hO
    go_wp2_with fail
    refine (end_any _ F.ab F.n N.got F.opv F.nx gv x HH.out.1.ac (by omega)).mono ?_
    rintro e w1 ⟨rfl, gv', ha, hn, hx⟩
    have H1 := Lib.hid (And.intro (HH.out.1.ended ha hn hx hl) (And.intro (HH.out.2.1.ended HH.out.1 hn hx) (And.intro hn hx)))
    clear ha hn hx
    go_wp2_with fail
    go_ret
    refine ⟨rfl, gv', H1.out.1, H1.out.2.1, fun g hg => (H1.out.2.2.1 g hg).imp id (fun h => Nat.le_trans HH.out.2.2.size (by simpa using h)), stayT ((((HH.out.2.2.mono (fun _ _ h => h.elim)).put (XP.b F gv) 2 (.int .i64 (t + 1))).put (XP.b F gv) 3 (.int .i64 (t + 1))).trans (stay_end H1.out.2.2.2) (fun _ _ h => h))⟩
  · rw [if_neg hf]
    have b0 : (N.top == t) = false := by simp [hf]
    clear hf
    go_enter Try.func76, Try.ntmps76
    go_upto_region 2 with fail
    go_quiet (fail)
    have hO : Only w (w.drewN nq) := (Stay.refl _ w).drewN nq
    obtain ⟨wd, hwd⟩ : ∃ wd, wd = w.drewN nq := ⟨_, rfl⟩
    rw [← hwd] at hO ⊢
    clear c l c1 l1 ct lt hwd
    have h' := H.out.1.only hO
    have hB' := H.out.2.1.only hO
    have h1' := hO.blk H.out.2.2.1
    have h2' := hO.blk H.out.2.2.2
    have d2 := blk_ne h2' h'.core.blk (by decide)
    have dt := blk_ne hB'.t h'.core.blk (by decide)
    have dx := blk_ne hB'.x h'.core.blk (by decide)
    have c1' := h1'.cell
    have ct' := hB'.t.cell
    have c' := h'.core.blk.cell
    have f' := h'.core.blk.free
    have l' := h'.core.blk.lt
    have h'' := h'.putB (t + 1) (by omega)
    have hB'' := hB'.put (k := F.b) (i := 3) (.int .i64 (t + 1)) ⟨dt.symm, dx.symm⟩
    have h2'' := h2'.set_other (a := ⟨F.b, 3, none⟩) (fun e => d2 e.symm) (.int .i64 (t + 1))
    have c2'' := h2''.cell
    have HH := Lib.hid (And.intro h'' (And.intro hB'' hO))
    clear h' hB' h1' h2' h'' hB'' h2'' d2 dt dx hO
    go_wp2_with fail
    refine (end_any _ F.ab F.n N.got F.opv F.nx gv 0 HH.out.1.ac (by omega)).mono ?_
    rintro e w1 ⟨rfl, gv', ha, hn, hx⟩
    have H1 := Lib.hid (And.intro (HH.out.1.ended ha hn hx hl) (And.intro (HH.out.2.1.ended HH.out.1 hn hx) (And.intro hn hx)))
    clear ha hn hx
    go_wp2_with fail
    go_ret
    refine ⟨rfl, gv', H1.out.1, H1.out.2.1, fun g hg => (H1.out.2.2.1 g hg).imp id (fun h => Nat.le_trans HH.out.2.2.size (by simpa using h)), stayT (((HH.out.2.2.mono (fun _ _ h => h.elim)).put (XP.b F gv) 3 (.int .i64 (t + 1))).trans (stay_end H1.out.2.2.2) (fun _ _ h => h))⟩
end
end Go.Proofs.Ytfohaijdhgcneaa
