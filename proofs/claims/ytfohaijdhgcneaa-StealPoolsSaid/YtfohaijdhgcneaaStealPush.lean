/- The steps of a push. -/
import Derived.Test.YtfohaijdhgcneaaStealLoc
set_option linter.unusedVariables false
set_option linter.unusedSimpArgs false
namespace Go.Proofs.Ytfohaijdhgcneaa
open Go Go.RowKit

theorem XP.b (F : Fixed) (gv : Value) : XP F gv F.b := .inl rfl
theorem stay_end {w w' : World} {F : Fixed} {gv : Value} (hx : Stay (fun k => k = F.ab ∨ gv.ownBlock = some k) w w') : Stay (XP F gv) w w' := hx.mono (fun _ _ h => h.elim (fun e => .inr (.inr (.inl e))) (fun e => .inr (.inr (.inr e))))

section
variable {w : World} {F : Fixed} {N : Nums} {gv : Value}
set_option maxRecDepth 100000 in
set_option maxHeartbeats 2000000 in
/-- The last step: bottom goes on. -/
theorem push1_any (h : Loc w F N gv) {br ba bx : Nat} {x : Int} (h1 : Blk w br 26 [.pointer (some ⟨F.b, 0, none⟩)]) (h2 : Blk w ba 87 [.pointer (some ⟨F.ab, 0, none⟩)]) (h3 : Blk w bx 3 [.int .i64 x]) (hl : N.got.length < 500) (hb : N.bot < 1000) :
    Calls Try.prog 81 #[.pointer (some ⟨br, 0, none⟩), .pointer (some ⟨ba, 0, none⟩), .pointer (some ⟨bx, 0, none⟩)] w (PushPost w F { N with bot := N.bot + 1, got := N.got ++ [x] } gv .nilFunc) := by
  have c := h.core.blk.cell
  have f := h.core.blk.free
  have l := h.core.blk.lt
  have c1 := h1.cell
  have c2 := h2.cell
  have c3 := h3.cell
  have d1 := blk_ne h1 h.core.blk (by decide)
  have d2 := blk_ne h2 h.core.blk (by decide)
  have d3 := blk_ne h3 h.core.blk (by decide)
  have hbb := h.bb
  have e1 := (h1.set_other (a := ⟨F.b, 3, none⟩) (fun e => d1 e.symm) (.int .i64 (N.bot + 1))).cell
  have e2 := (h2.set_other (a := ⟨F.b, 3, none⟩) (fun e => d2 e.symm) (.int .i64 (N.bot + 1))).cell
  have e3 := (h3.set_other (a := ⟨F.b, 3, none⟩) (fun e => d3 e.symm) (.int .i64 (N.bot + 1))).cell
  have hL := h.putB (N.bot + 1) (by omega)
  have H := Lib.hid hL
  clear h hL h1 h2 h3 d1 d2 d3
  go_enter Try.func81, Try.ntmps81
  go_wp2_with fail
  refine (end_any _ F.ab F.n N.got F.opv F.nx gv x H.out.ac (by omega)).mono ?_
  rintro e w1 ⟨rfl, gv', ha, hn, hx⟩
  have H1 := Lib.hid (And.intro (H.out.ended ha hn hx (by exact hl)) (And.intro hn hx))
  clear ha hn hx
  go_wp2_with fail
  go_ret
  refine ⟨rfl, gv', H1.out.1, fun g hg => by simpa using H1.out.2.1 g hg, (Stay.put (S := XP F gv) (Stay.refl _ w) (XP.b F gv) 3 (.int .i64 (N.bot + 1))).trans (stay_end H1.out.2.2) (fun _ _ h => h)⟩

set_option maxRecDepth 100000 in
set_option maxHeartbeats 2000000 in
/-- The second step: the number is laid. -/
theorem push2_any (h : Loc w F N gv) {br bx bl : Nat} {x : Int} {u : Value} (h1 : Blk w br 26 [.pointer (some ⟨F.b, 0, none⟩)]) (h3 : Blk w bx 3 [.int .i64 x]) (h4 : Blk w bl 83 [u]) (hb : 0 ≤ N.bot) (hgx : ∀ g, F.cv.ownBlock = some g → g ≠ bx) :
    Calls Try.prog 82 #[.pointer (some ⟨bx, 0, none⟩), .pointer (some ⟨br, 0, none⟩), .pointer (some ⟨bl, 0, none⟩)] w (PushPost w F { N with cells := N.cells.set (N.bot.toNat % N.room) x } gv u) := by
  obtain ⟨gc, cc, ecv, _, _⟩ := h.core.row.form (by have := h.r1; omega)
  have hrow := h.core.row
  have hcore := h.core
  rw [ecv] at hrow hcore
  have hq : N.bot.toNat % N.room < N.room := Nat.mod_lt _ (by have := h.r1; omega)
  obtain ⟨y, hy⟩ : ∃ y, (ints N.cells)[N.bot.toNat % N.room]? = some y := ⟨_, List.getElem?_eq_getElem (by simp [h.cl, hq])⟩
  have z := hrow.cellAt (N.bot.toNat % N.room) (by omega)
  rw [hy] at z
  have fz := hrow.frozenAt
  have hgl := (own_lt hrow gc rfl).2
  have c := h.core.blk.cell
  have l := h.core.blk.lt
  have c1 := h1.cell
  have l1 := h1.lt
  have c3 := h3.cell
  have l3 := h3.lt
  have c4 := h4.cell
  have l4 := h4.lt
  have n4 : gc ≠ bl := own_ne_blk hrow h4 (by decide) gc rfl
  obtain ⟨q, hqe⟩ : ∃ q, q = N.bot.toNat % N.room := ⟨_, rfl⟩
  rw [← hqe] at z
  have H := Lib.hid (And.intro h (And.intro h1 (And.intro h3 (And.intro h4 (And.intro hcore (And.intro ecv hqe))))))
  have hc0 := h.core.blk.cell 0
  have c10 := c1 0
  have c30 := c3 0
  have hcv3 := c 3
  simp only [List.getElem?_cons_zero, List.getElem?_cons_succ] at c10 c30 hcv3
  clear h h1 h3 h4 hcore ecv hqe hq hy hrow
  go_enter Try.func82, Try.ntmps82
  go_upto_region 1 with fail
  go_region_with (go_at_call 40; refine (cell_any _ F.b N.room N.cells N.top N.bot gc cc F.av F.ov F.tv F.pv N.bot (H.out.2.2.2.2.1.only ((Stay.refl _ w).drew)) H.out.1.r1 H.out.1.r16 hb).mono ?_; rintro e w1 ⟨rfl, hO⟩; rw [← H.out.2.2.2.2.2.2]; have hOw : Only w w1 := Only.trans' ((Stay.refl (fun _ => False) w).drew) hO; have z' := hOw.cell z; have fz' : ∀ j, w1.frozen? ⟨gc, j, none⟩ = false := (own_only hOw (show w.ownsRow 0 3 1 (.slice (some ⟨gc, 0, none⟩) N.room cc) N.room (ints N.cells) from H.out.2.2.2.2.1.row)).frozenAt; have c3' := (hOw.blk H.out.2.2.1).cell; have c4' := (hOw.blk H.out.2.2.2.1).cell; have l3' := Nat.lt_of_lt_of_le l3 hOw.size; have l4' := Nat.lt_of_lt_of_le l4 hOw.size; have hgl' := Nat.lt_of_lt_of_le hgl hOw.size; have HO := Lib.hid hOw; clear hO hOw)
  all_goals
    go_wp2_with fail
    go_ret
    have hL := (H.out.1.only HO.out).putC H.out.2.2.2.2.2.1 q x
    rw [H.out.2.2.2.2.2.2] at hL ⊢
    exact ⟨rfl, gv, hL, Next.refl _ _, Stay.put (S := XP F gv) (HO.out.mono (fun _ _ h => h.elim)) (.inr (.inl (by rw [H.out.2.2.2.2.2.1]; rfl))) _ _⟩

set_option maxRecDepth 100000 in
set_option maxHeartbeats 2000000 in
/-- The first step: is there room? -/
theorem push3_any (h : Loc w F N gv) {br ba bw : Nat} {u : Value} (h1 : Blk w br 26 [.pointer (some ⟨F.b, 0, none⟩)]) (h2 : Blk w ba 87 [.pointer (some ⟨F.ab, 0, none⟩)]) (h4 : Blk w bw 83 [u]) (hl : N.got.length < 500) :
    Calls Try.prog 83 #[.pointer (some ⟨br, 0, none⟩), .pointer (some ⟨ba, 0, none⟩), .pointer (some ⟨bw, 0, none⟩)] w
      (if N.bot - N.top = N.room then PushPost w F { N with got := N.got ++ [-1] } gv .nilFunc else PushPost w F N gv u) := by
  have c := h.core.blk.cell
  have l := h.core.blk.lt
  have c1 := h1.cell
  have l1 := h1.lt
  have c2 := h2.cell
  have l2 := h2.lt
  have c4 := h4.cell
  have l4 := h4.lt
  have hbb := h.bb
  have htb := h.tb
  have H := Lib.hid (And.intro h (And.intro h2 h4))
  clear h h1 h2 h4
  have hw : IntKind.i64.wrap (N.bot - N.top) = N.bot - N.top := by rw [IntKind.wrap_i64]; omega
  by_cases hf : N.bot - N.top = N.room
  · rw [if_pos hf]
    have b0 : ((N.bot - N.top) == (N.room : Int)) = true := by simp [hf]
    clear hf
    go_enter Try.func83, Try.ntmps83
    go_upto_region 1 with fail
    go_quiet (fail)
    have hO : Only w (w.drewN nq) := (Stay.refl _ w).drewN nq
    have c2' := (hO.blk H.out.2.1).cell
    have l2' := (hO.blk H.out.2.1).lt
    obtain ⟨wd, hwd⟩ : ∃ wd, wd = w.drewN nq := ⟨_, rfl⟩
    rw [← hwd] at hO c2' l2' ⊢
    have HO := Lib.hid hO
    clear hO hwd c2
    go_wp2_with fail
    refine (end_any wd F.ab F.n N.got F.opv F.nx gv (-1) (H.out.1.only HO.out).ac (by omega)).mono ?_
    rintro e w1 ⟨rfl, gv', ha, hn, hx⟩
    have H1 := Lib.hid (And.intro ((H.out.1.only HO.out).ended ha hn hx hl) (And.intro hn hx))
    clear ha hn hx
    go_wp2_with fail
    go_ret
    refine ⟨rfl, gv', H1.out.1, fun g hg => (H1.out.2.1 g hg).imp id (Nat.le_trans HO.out.size), (HO.out.mono (fun _ _ h => h.elim)).trans (stay_end H1.out.2.2) (fun _ _ h => h)⟩
  · rw [if_neg hf]
    have b0 : ((N.bot - N.top) == (N.room : Int)) = false := by simp [hf]
    clear hf
    go_enter Try.func83, Try.ntmps83
    go_upto_region 1 with fail
    go_quiet (fail)
    have hO : Only w (w.drewN nq) := (Stay.refl _ w).drewN nq
    have c4' := (hO.blk H.out.2.2).cell
    have l4' := (hO.blk H.out.2.2).lt
    obtain ⟨wd, hwd⟩ : ∃ wd, wd = w.drewN nq := ⟨_, rfl⟩
    rw [← hwd] at hO c4' l4' ⊢
    have HO := Lib.hid hO
    clear hO hwd c4
    go_wp2_with fail
    go_ret
    exact ⟨rfl, gv, H.out.1.only HO.out, Next.refl _ _, HO.out.mono (fun _ _ h => h.elim)⟩
end
end Go.Proofs.Ytfohaijdhgcneaa
