/- The steps of a take: the two in the middle. -/
import Derived.Test.YtfohaijdhgcneaaStealTake
set_option linter.unusedVariables false
set_option linter.unusedSimpArgs false
namespace Go.Proofs.Ytfohaijdhgcneaa
open Go Go.RowKit

section
variable {w : World} {F : Fixed} {N : Nums} {gv : Value} {bt bx : Nat} {t x : Int}
/-- The cell of a place: where it lies, what lies there. -/
theorem Loc.place (h : Loc w F N gv) (p : Int) : ∃ gc cc, F.cv = .slice (some ⟨gc, 0, none⟩) N.room cc ∧ w.cell? ⟨gc, p.toNat % N.room, none⟩ = some (.int .i64 (N.cells.getD (p.toNat % N.room) 0)) := by
  obtain ⟨gc, cc, ecv, _, _⟩ := h.core.row.form (by have := h.r1; omega)
  have hrow := h.core.row
  rw [ecv] at hrow
  have hq : p.toNat % N.room < N.room := Nat.mod_lt _ (by have := h.r1; omega)
  refine ⟨gc, cc, ecv, ?_⟩
  have z := hrow.cellAt (p.toNat % N.room) (by omega)
  rw [z]
  simp [ints, List.getElem?_eq_getElem (show p.toNat % N.room < N.cells.length by rw [h.cl]; exact hq), List.getD_eq_getElem?_getD]
set_option maxRecDepth 100000 in
set_option maxHeartbeats 2000000 in
/-- The third step: the last number is read. -/
theorem take2_any (h : Loc w F N gv) (hB : Box2 w F gv bt bx t x) {br bl : Nat} {u : Value} (h1 : Blk w br 26 [.pointer (some ⟨F.b, 0, none⟩)]) (h4 : Blk w bl 83 [u]) (hb : 0 ≤ N.bot) :
    Calls Try.prog 78 #[.pointer (some ⟨br, 0, none⟩), .pointer (some ⟨bx, 0, none⟩), .pointer (some ⟨bl, 0, none⟩)] w (TwoPost w F N gv bt bx t (N.cells.getD (N.bot.toNat % N.room) 0) u) := by
  obtain ⟨gc, cc, ecv, z⟩ := h.place N.bot
  have hcore := h.core
  rw [ecv] at hcore
  have c := h.core.blk.cell
  have l := h.core.blk.lt
  have c1 := h1.cell
  have l1 := h1.lt
  obtain ⟨q, hqe⟩ : ∃ q, q = N.bot.toNat % N.room := ⟨_, rfl⟩
  rw [← hqe] at z ⊢
  obtain ⟨y, hye⟩ : ∃ y, y = N.cells.getD q 0 := ⟨_, rfl⟩
  rw [← hye] at z ⊢
  clear hye
  have H := Lib.hid (And.intro h (And.intro hB (And.intro h1 (And.intro h4 (And.intro hcore hqe)))))
  have hc0 := h.core.blk.cell 0
  have c10 := c1 0
  have hcv3 := c 3
  simp only [List.getElem?_cons_zero, List.getElem?_cons_succ] at c10 hc0 hcv3
  clear h h1 hB h4 hcore hqe
  go_enter Try.func78, Try.ntmps78
  go_upto_region 1 with fail
  go_region_with (go_at_call 40; refine (cell_any _ F.b N.room N.cells N.top N.bot gc cc F.av F.ov F.tv F.pv N.bot (H.out.2.2.2.2.1.only ((Stay.refl _ w).drew)) H.out.1.r1 H.out.1.r16 hb).mono ?_; rintro e w1 ⟨rfl, hO⟩; rw [← H.out.2.2.2.2.2]; have hOw : Only w w1 := Only.trans' ((Stay.refl (fun _ => False) w).drew) hO; have z' := hOw.cell z; have cx' := (hOw.blk H.out.2.1.x).cell; have fx' := (hOw.blk H.out.2.1.x).free; have lx' := (hOw.blk H.out.2.1.x).lt; have hh := (hOw.blk H.out.2.2.2.1); have c4' := (hh.set_other (a := ⟨bx, 0, none⟩) (fun e => blk_ne H.out.2.2.2.1 H.out.2.1.x (by decide) e.symm) (.int .i64 y)).cell; have HO := Lib.hid hOw; clear hO hOw hh)
  all_goals
    go_wp2_with fail
    go_ret
    exact ⟨rfl, gv, (H.out.1.only HO.out).box (H.out.2.1.only HO.out) (.inr rfl) _, (H.out.2.1.only HO.out).putX _, Next.refl _ _, Stay.put (S := XT F gv bt bx) (HO.out.mono (fun _ _ h => h.elim)) (.inr (.inr rfl)) _ _⟩

set_option maxRecDepth 100000 in
set_option maxHeartbeats 2000000 in
/-- The second step: there is none. -/
theorem take3a_any (h : Loc w F N gv) (hB : Box2 w F gv bt bx t x) {br ba bl : Nat} {u : Value} (h1 : Blk w br 26 [.pointer (some ⟨F.b, 0, none⟩)]) (h2 : Blk w ba 87 [.pointer (some ⟨F.ab, 0, none⟩)]) (h4 : Blk w bl 83 [u]) (hl : N.got.length < 500) (hf : N.bot < N.top) :
    Calls Try.prog 79 #[.pointer (some ⟨br, 0, none⟩), .pointer (some ⟨bt, 0, none⟩), .pointer (some ⟨ba, 0, none⟩), .pointer (some ⟨bl, 0, none⟩)] w
      (TwoPost w F { N with bot := N.top, got := N.got ++ [0] } gv bt bx N.top x .nilFunc) := by
  have c := h.core.blk.cell
  have l := h.core.blk.lt
  have c1 := h1.cell
  have ct := hB.t.cell
  have ft := hB.t.free
  have lt := hB.t.lt
  have H := Lib.hid (And.intro (h.box hB (.inl rfl) (.int .i64 N.top)) (And.intro (hB.putT N.top) (And.intro (h1.set_other (a := ⟨bt, 0, none⟩) (blk_ne hB.t h1 (by decide)) (.int .i64 N.top)) (And.intro (h2.set_other (a := ⟨bt, 0, none⟩) (blk_ne hB.t h2 (by decide)) (.int .i64 N.top)) (And.intro (h4.set_other (a := ⟨bt, 0, none⟩) (blk_ne hB.t h4 (by decide)) (.int .i64 N.top)) (Stay.put (S := XT F gv bt bx) (Stay.refl _ w) (.inr (.inl rfl)) 0 (.int .i64 N.top)))))))
  clear h hB h1 h2 h4
  go_enter Try.func79, Try.ntmps79
  go_upto_region 2 with fail
  obtain ⟨w1, hw1⟩ : ∃ w1, w1 = w.setCell ⟨bt, 0, none⟩ (.int .i64 N.top) := ⟨_, rfl⟩
  have hsz : w.heap.size ≤ w1.heap.size := by rw [hw1]; simp
  rw [← hw1] at H ⊢
  clear c l c1 ct ft lt hw1
  have c := H.out.1.core.blk.cell
  have l := H.out.1.core.blk.lt
  have c1 := H.out.2.2.1.cell
  have l1 := H.out.2.2.1.lt
  have ct := H.out.2.1.t.cell
  have lt := H.out.2.1.t.lt
  have htb := H.out.1.tb
  have hbb := H.out.1.bb
  go_quiet (fail)
  have hO : Only w1 (w1.drewN nq) := (Stay.refl _ w1).drewN nq
  obtain ⟨wd, hwd⟩ : ∃ wd, wd = w1.drewN nq := ⟨_, rfl⟩
  rw [← hwd] at hO ⊢
  clear c l c1 l1 ct lt hwd
  have h' := H.out.1.only hO
  have hB' := H.out.2.1.only hO
  have h1' := hO.blk H.out.2.2.1
  have h2' := hO.blk H.out.2.2.2.1
  have d2 := blk_ne h2' h'.core.blk (by decide)
  have dt := blk_ne hB'.t h'.core.blk (by decide)
  have dx := blk_ne hB'.x h'.core.blk (by decide)
  have c1' := h1'.cell
  have ct' := hB'.t.cell
  have c' := h'.core.blk.cell
  have f' := h'.core.blk.free
  have l' := h'.core.blk.lt
  have h'' := h'.putB N.top (by omega)
  have hB'' := hB'.put (k := F.b) (i := 3) (.int .i64 N.top) ⟨dt.symm, dx.symm⟩
  have h2'' := h2'.set_other (a := ⟨F.b, 3, none⟩) (fun e => d2 e.symm) (.int .i64 N.top)
  have c2'' := h2''.cell
  have HH := Lib.hid (And.intro h'' (And.intro hB'' hO))
  clear h' hB' h1' h2' h'' hB'' h2'' d2 dt dx hO
  go_wp2_with fail
  refine (end_any _ F.ab F.n N.got F.opv F.nx gv 0 HH.out.1.ac (by omega)).mono ?_
  rintro e w2 ⟨rfl, gv', ha, hn, hx⟩
  have H1 := Lib.hid (And.intro (HH.out.1.ended ha hn hx hl) (And.intro (HH.out.2.1.ended HH.out.1 hn hx) (And.intro hn hx)))
  clear ha hn hx
  go_wp2_with fail
  go_ret
  refine ⟨rfl, gv', H1.out.1, H1.out.2.1, fun g hg => (H1.out.2.2.1 g hg).imp id (fun h => Nat.le_trans (Nat.le_trans hsz HH.out.2.2.size) (by simpa using h)), H.out.2.2.2.2.2.trans (stayT (((HH.out.2.2.mono (fun _ _ h => h.elim)).put (XP.b F gv) 3 (.int .i64 N.top)).trans (stay_end H1.out.2.2.2) (fun _ _ h => h))) (fun _ _ h => h)⟩

set_option maxRecDepth 100000 in
set_option maxHeartbeats 2000000 in
/-- The second step: there are more than one. -/
theorem take3b_any (h : Loc w F N gv) (hB : Box2 w F gv bt bx t x) {br ba bl : Nat} {u : Value} (h1 : Blk w br 26 [.pointer (some ⟨F.b, 0, none⟩)]) (h2 : Blk w ba 87 [.pointer (some ⟨F.ab, 0, none⟩)]) (h4 : Blk w bl 83 [u]) (hl : N.got.length < 500) (hf : ¬ N.bot < N.top) (hg : N.top < N.bot) :
    Calls Try.prog 79 #[.pointer (some ⟨br, 0, none⟩), .pointer (some ⟨bt, 0, none⟩), .pointer (some ⟨ba, 0, none⟩), .pointer (some ⟨bl, 0, none⟩)] w
      (TwoPost w F { N with got := N.got ++ [N.cells.getD (N.bot.toNat % N.room) 0] } gv bt bx N.top x .nilFunc) := by
  have c := h.core.blk.cell
  have l := h.core.blk.lt
  have c1 := h1.cell
  have ct := hB.t.cell
  have ft := hB.t.free
  have lt := hB.t.lt
  have H := Lib.hid (And.intro (h.box hB (.inl rfl) (.int .i64 N.top)) (And.intro (hB.putT N.top) (And.intro (h1.set_other (a := ⟨bt, 0, none⟩) (blk_ne hB.t h1 (by decide)) (.int .i64 N.top)) (And.intro (h2.set_other (a := ⟨bt, 0, none⟩) (blk_ne hB.t h2 (by decide)) (.int .i64 N.top)) (And.intro (h4.set_other (a := ⟨bt, 0, none⟩) (blk_ne hB.t h4 (by decide)) (.int .i64 N.top)) (Stay.put (S := XT F gv bt bx) (Stay.refl _ w) (.inr (.inl rfl)) 0 (.int .i64 N.top)))))))
  clear h hB h1 h2 h4
  go_enter Try.func79, Try.ntmps79
  go_upto_region 2 with fail
  obtain ⟨w1, hw1⟩ : ∃ w1, w1 = w.setCell ⟨bt, 0, none⟩ (.int .i64 N.top) := ⟨_, rfl⟩
  have hsz : w.heap.size ≤ w1.heap.size := by rw [hw1]; simp
  rw [← hw1] at H ⊢
  clear c l c1 ct ft lt hw1
  have c := H.out.1.core.blk.cell
  have l := H.out.1.core.blk.lt
  have c1 := H.out.2.2.1.cell
  have l1 := H.out.2.2.1.lt
  have ct := H.out.2.1.t.cell
  have lt := H.out.2.1.t.lt
  have htb := H.out.1.tb
  have hbb := H.out.1.bb
  go_quiet (fail)
  have hO : Only w1 (w1.drewN nq) := (Stay.refl _ w1).drewN nq
  obtain ⟨wd, hwd⟩ : ∃ wd, wd = w1.drewN nq := ⟨_, rfl⟩
  rw [← hwd] at hO ⊢
  clear c l c1 l1 ct lt hwd
  have H2 := Lib.hid (And.intro (H.out.1.only hO) (And.intro (H.out.2.1.only hO) (And.intro (hO.blk H.out.2.2.1) (And.intro (hO.blk H.out.2.2.2.1) (And.intro (hO.blk H.out.2.2.2.2.1) (H.out.2.2.2.2.2.trans (hO.mono (fun _ _ h => h.elim)) (fun _ _ h => h)))))))
  have hsz := Nat.le_trans hsz hO.size
  clear hO H
  have c := H2.out.1.core.blk.cell
  have l := H2.out.1.core.blk.lt
  have c1 := H2.out.2.2.1.cell
  have l1 := H2.out.2.2.1.lt
  have ct := H2.out.2.1.t.cell
  have lt := H2.out.2.1.t.lt
  go_upto_region 5 with fail
  go_quiet (fail)
  have hO2 : Only wd (wd.drewN nq) := (Stay.refl _ wd).drewN nq
  obtain ⟨w2, hw2⟩ : ∃ w2, w2 = wd.drewN nq := ⟨_, rfl⟩
  rw [← hw2] at hO2 ⊢
  clear c l c1 l1 ct lt hw2
  have H3 := Lib.hid (And.intro (H2.out.1.only hO2) (And.intro (H2.out.2.1.only hO2) (And.intro (hO2.blk H2.out.2.2.1) (And.intro (hO2.blk H2.out.2.2.2.1) (And.intro trivial (H2.out.2.2.2.2.2.trans (hO2.mono (fun _ _ h => h.elim)) (fun _ _ h => h)))))))
  have hsz := Nat.le_trans hsz hO2.size
  clear hO2 H2
  obtain ⟨gc, cc, ecv, z⟩ := H3.out.1.place N.bot
  have hcore := H3.out.1.core
  rw [ecv] at hcore
  have HC := Lib.hid hcore
  obtain ⟨q, hqe⟩ : ∃ q, q = N.bot.toNat % N.room := ⟨_, rfl⟩
  have HQ := Lib.hid hqe
  rw [← hqe] at z ⊢
  obtain ⟨y, hye⟩ : ∃ y, y = N.cells.getD q 0 := ⟨_, rfl⟩
  rw [← hye] at z ⊢
  have HY := Lib.hid hye
  clear hye hcore hqe
  have c := H3.out.1.core.blk.cell
  have l := H3.out.1.core.blk.lt
  have c1 := H3.out.2.2.1.cell
  have l1 := H3.out.2.2.1.lt
  have c2 := H3.out.2.2.2.1.cell
  have l2 := H3.out.2.2.2.1.lt
  have c10 := c1 0
  have c20 := c2 0
  have hcv3 := c 3
  simp only [List.getElem?_cons_zero, List.getElem?_cons_succ] at c10 c20 hcv3
  go_upto_region 6 with fail
  go_region_with (first
    | (go_at_call 40; refine (cell_any _ F.b N.room N.cells N.top N.bot gc cc F.av F.ov F.tv F.pv N.bot (HC.out.only ((Stay.refl _ w2).drew)) H3.out.1.r1 H3.out.1.r16 (by omega)).mono ?_; rintro e w3 ⟨rfl, hO⟩; rw [← HQ.out]; have hOw : Only w2 w3 := Only.trans' ((Stay.refl (fun _ => False) w2).drew) hO; have z' := hOw.cell z; have c20' := hOw.cell c20; have HO := Lib.hid hOw; clear hO hOw)
    | (go_at_call 77; refine (end_any _ F.ab F.n N.got F.opv F.nx gv y (H3.out.1.only HO.out).ac (by omega)).mono ?_; rintro e w4 ⟨rfl, gv', ha, hn, hx⟩; have H1 := Lib.hid (And.intro ((H3.out.1.only HO.out).ended ha hn hx hl) (And.intro ((H3.out.2.1.only HO.out).ended (H3.out.1.only HO.out) hn hx) (And.intro hn hx))); clear ha hn hx))
  all_goals
    go_wp2_with fail
    go_ret
    have hLf := H1.out.1
    rw [HY.out, HQ.out] at hLf
    refine ⟨rfl, gv', hLf, H1.out.2.1, fun g hg => (H1.out.2.2.1 g hg).imp id (fun h => Nat.le_trans (Nat.le_trans hsz HO.out.size) h), H3.out.2.2.2.2.2.trans (stayT ((HO.out.mono (fun _ _ h => h.elim)).trans (stay_end H1.out.2.2.2) (fun _ _ h => h))) (fun _ _ h => h)⟩

set_option maxRecDepth 100000 in
set_option maxHeartbeats 2000000 in
/-- The second step: there is one. -/
theorem take3c_any (h : Loc w F N gv) (hB : Box2 w F gv bt bx t x) {br ba bl : Nat} {u : Value} (h1 : Blk w br 26 [.pointer (some ⟨F.b, 0, none⟩)]) (h2 : Blk w ba 87 [.pointer (some ⟨F.ab, 0, none⟩)]) (h4 : Blk w bl 83 [u]) (hl : N.got.length < 500) (hf : ¬ N.bot < N.top) (hg : ¬ N.top < N.bot) :
    Calls Try.prog 79 #[.pointer (some ⟨br, 0, none⟩), .pointer (some ⟨bt, 0, none⟩), .pointer (some ⟨ba, 0, none⟩), .pointer (some ⟨bl, 0, none⟩)] w
      (TwoPost w F N gv bt bx N.top x u) := by
  have c := h.core.blk.cell
  have l := h.core.blk.lt
  have c1 := h1.cell
  have ct := hB.t.cell
  have ft := hB.t.free
  have lt := hB.t.lt
  have H := Lib.hid (And.intro (h.box hB (.inl rfl) (.int .i64 N.top)) (And.intro (hB.putT N.top) (And.intro (h1.set_other (a := ⟨bt, 0, none⟩) (blk_ne hB.t h1 (by decide)) (.int .i64 N.top)) (And.intro (h2.set_other (a := ⟨bt, 0, none⟩) (blk_ne hB.t h2 (by decide)) (.int .i64 N.top)) (And.intro (h4.set_other (a := ⟨bt, 0, none⟩) (blk_ne hB.t h4 (by decide)) (.int .i64 N.top)) (Stay.put (S := XT F gv bt bx) (Stay.refl _ w) (.inr (.inl rfl)) 0 (.int .i64 N.top)))))))
  clear h hB h1 h2 h4
  go_enter Try.func79, Try.ntmps79
  go_upto_region 2 with fail
  obtain ⟨w1, hw1⟩ : ∃ w1, w1 = w.setCell ⟨bt, 0, none⟩ (.int .i64 N.top) := ⟨_, rfl⟩
  have hsz : w.heap.size ≤ w1.heap.size := by rw [hw1]; simp
  rw [← hw1] at H ⊢
  clear c l c1 ct ft lt hw1
  have c := H.out.1.core.blk.cell
  have l := H.out.1.core.blk.lt
  have c1 := H.out.2.2.1.cell
  have l1 := H.out.2.2.1.lt
  have ct := H.out.2.1.t.cell
  have lt := H.out.2.1.t.lt
  have htb := H.out.1.tb
  have hbb := H.out.1.bb
  go_quiet (fail)
  have hO : Only w1 (w1.drewN nq) := (Stay.refl _ w1).drewN nq
  obtain ⟨wd, hwd⟩ : ∃ wd, wd = w1.drewN nq := ⟨_, rfl⟩
  rw [← hwd] at hO ⊢
  clear c l c1 l1 ct lt hwd
  have H2 := Lib.hid (And.intro (H.out.1.only hO) (And.intro (H.out.2.1.only hO) (And.intro (hO.blk H.out.2.2.1) (And.intro (hO.blk H.out.2.2.2.1) (And.intro (hO.blk H.out.2.2.2.2.1) (H.out.2.2.2.2.2.trans (hO.mono (fun _ _ h => h.elim)) (fun _ _ h => h)))))))
  have hsz := Nat.le_trans hsz hO.size
  clear hO H
  have c := H2.out.1.core.blk.cell
  have l := H2.out.1.core.blk.lt
  have c1 := H2.out.2.2.1.cell
  have l1 := H2.out.2.2.1.lt
  have ct := H2.out.2.1.t.cell
  have lt := H2.out.2.1.t.lt
  go_upto_region 5 with fail
  go_quiet (fail)
  have hO : Only wd (wd.drewN nq) := (Stay.refl _ wd).drewN nq
  have c4' := (hO.blk H2.out.2.2.2.2.1).cell
  have l4' := (hO.blk H2.out.2.2.2.2.1).lt
  have HO := Lib.hid hO
  clear hO
  go_wp2_with fail
  go_ret
  exact ⟨rfl, gv, H2.out.1.only HO.out, H2.out.2.1.only HO.out, Next.refl _ _, H2.out.2.2.2.2.2.trans (HO.out.mono (fun _ _ h => h.elim)) (fun _ _ h => h)⟩
end
end Go.Proofs.Ytfohaijdhgcneaa
