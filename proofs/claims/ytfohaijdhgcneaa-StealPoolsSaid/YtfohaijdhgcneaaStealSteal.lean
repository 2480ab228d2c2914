/- The steps of a steal. -/
import Derived.Test.YtfohaijdhgcneaaStealLook
set_option linter.unusedVariables false
set_option linter.unusedSimpArgs false
namespace Go.Proofs.Ytfohaijdhgcneaa
open Go Go.RowKit

section
variable {w : World} {F : Fixed} {N : Nums} {gv : Value} {bt bx : Nat} {t x : Int}
set_option maxRecDepth 100000 in
set_option maxHeartbeats 2000000 in
/-- The first step: top is read. -/
theorem steal4_any (h : Loc w F N gv) (hB : Box2 w F gv bt bx t x) {br bl : Nat} {u : Value} (h1 : Blk w br 26 [.pointer (some ⟨F.b, 0, none⟩)]) (h4 : Blk w bl 83 [u]) :
    Calls Try.prog 87 #[.pointer (some ⟨br, 0, none⟩), .pointer (some ⟨bt, 0, none⟩), .pointer (some ⟨bl, 0, none⟩)] w (TwoPost w F N gv bt bx N.top x u) := by
  have c := h.core.blk.cell
  have c1 := h1.cell
  have ct := hB.t.cell
  have ft := hB.t.free
  have lt := hB.t.lt
  have h4' := h4.set_other (a := ⟨bt, 0, none⟩) (blk_ne hB.t h4 (by decide)) (.int .i64 N.top)
  have c4 := h4'.cell
  have H := Lib.hid (And.intro (h.box hB (.inl rfl) (.int .i64 N.top)) (hB.putT N.top))
  clear h hB h1 h4 h4'
  go_enter Try.func87, Try.ntmps87
  go_wp2_with fail
  go_ret
  exact ⟨rfl, gv, H.out.1, H.out.2, Next.refl _ _, Stay.put (S := XT F gv bt bx) (Stay.refl _ w) (.inr (.inl rfl)) 0 (.int .i64 N.top)⟩

set_option maxRecDepth 100000 in
set_option maxHeartbeats 2000000 in
/-- The second step: is there anything? -/
theorem steal3_any (h : Loc w F N gv) (hB : Box2 w F gv bt bx t x) {br ba bl : Nat} {u : Value} (h1 : Blk w br 26 [.pointer (some ⟨F.b, 0, none⟩)]) (h2 : Blk w ba 87 [.pointer (some ⟨F.ab, 0, none⟩)]) (h4 : Blk w bl 83 [u]) (hl : N.got.length < 500) :
    Calls Try.prog 86 #[.pointer (some ⟨bt, 0, none⟩), .pointer (some ⟨br, 0, none⟩), .pointer (some ⟨ba, 0, none⟩), .pointer (some ⟨bl, 0, none⟩)] w
      (if N.bot ≤ t then TwoPost w F { N with got := N.got ++ [0] } gv bt bx t x .nilFunc else TwoPost w F N gv bt bx t x u) := by
  have c := h.core.blk.cell
  have l := h.core.blk.lt
  have c1 := h1.cell
  have l1 := h1.lt
  have ct := hB.t.cell
  have lt := hB.t.lt
  have H := Lib.hid (And.intro h (And.intro hB (And.intro h2 h4)))
  clear h hB h1 h2 h4
  by_cases hf : N.bot ≤ t
  · rw [if_pos hf]
    go_enter Try.func86, Try.ntmps86
    go_upto_region 1 with fail
    go_quiet (fail)
    have hO : Only w (w.drewN nq) := (Stay.refl _ w).drewN nq
    obtain ⟨wd, hwd⟩ : ∃ wd, wd = w.drewN nq := ⟨_, rfl⟩
    rw [← hwd] at hO ⊢
    clear c l c1 l1 ct lt hwd
    have c2 := (hO.blk H.out.2.2.1).cell
    have l2 := (hO.blk H.out.2.2.1).lt
    have HO := Lib.hid hO
    clear hO
    go_wp2_with fail
    refine (end_any wd F.ab F.n N.got F.opv F.nx gv 0 (H.out.1.only HO.out).ac (by omega)).mono ?_
    rintro e w1 ⟨rfl, gv', ha, hn, hx⟩
    have H1 := Lib.hid (And.intro ((H.out.1.only HO.out).ended ha hn hx hl) (And.intro ((H.out.2.1.only HO.out).ended (H.out.1.only HO.out) hn hx) (And.intro hn hx)))
    clear ha hn hx
    go_wp2_with fail
    go_ret
    exact ⟨rfl, gv', H1.out.1, H1.out.2.1, fun g hg => (H1.out.2.2.1 g hg).imp id (Nat.le_trans HO.out.size), stayT ((HO.out.mono (fun _ _ h => h.elim)).trans (stay_end H1.out.2.2.2) (fun _ _ h => h))⟩
  · rw [if_neg hf]
    go_enter Try.func86, Try.ntmps86
    go_upto_region 1 with fail
    go_quiet (fail)
    have hO : Only w (w.drewN nq) := (Stay.refl _ w).drewN nq
    obtain ⟨wd, hwd⟩ : ∃ wd, wd = w.drewN nq := ⟨_, rfl⟩
    rw [← hwd] at hO ⊢
    clear c l c1 l1 ct lt hwd
    have c4 := (hO.blk H.out.2.2.2).cell
    have l4 := (hO.blk H.out.2.2.2).lt
    have HO := Lib.hid hO
    clear hO
    go_wp2_with fail
    go_ret
    exact ⟨rfl, gv, H.out.1.only HO.out, H.out.2.1.only HO.out, Next.refl _ _, HO.out.mono (fun _ _ h => h.elim)⟩

set_option maxRecDepth 100000 in
set_option maxHeartbeats 2000000 in
/-- The third step: the number is read. -/
theorem steal2_any (h : Loc w F N gv) (hB : Box2 w F gv bt bx t x) {br bl : Nat} {u : Value} (h1 : Blk w br 26 [.pointer (some ⟨F.b, 0, none⟩)]) (h4 : Blk w bl 83 [u]) (hb : 0 ≤ t) :
    Calls Try.prog 85 #[.pointer (some ⟨br, 0, none⟩), .pointer (some ⟨bt, 0, none⟩), .pointer (some ⟨bx, 0, none⟩), .pointer (some ⟨bl, 0, none⟩)] w (TwoPost w F N gv bt bx t (N.cells.getD (t.toNat % N.room) 0) u) := by
  obtain ⟨gc, cc, ecv, z⟩ := h.place t
  have hcore := h.core
  rw [ecv] at hcore
  have c1 := h1.cell
  have ct := hB.t.cell
  obtain ⟨q, hqe⟩ : ∃ q, q = t.toNat % N.room := ⟨_, rfl⟩
  rw [← hqe] at z ⊢
  obtain ⟨y, hye⟩ : ∃ y, y = N.cells.getD q 0 := ⟨_, rfl⟩
  rw [← hye] at z ⊢
  have H := Lib.hid (And.intro h (And.intro hB (And.intro h1 (And.intro h4 (And.intro hcore hqe)))))
  clear h h1 hB h4 hcore hqe hye
  go_enter Try.func85, Try.ntmps85
  go_wp2_with fail
  refine (cell_any _ F.b N.room N.cells N.top N.bot gc cc F.av F.ov F.tv F.pv t H.out.2.2.2.2.1 H.out.1.r1 H.out.1.r16 hb).mono ?_
  rintro e w1 ⟨rfl, hOw⟩
  rw [← H.out.2.2.2.2.2]
  have z' := hOw.cell z
  have cx' := (hOw.blk H.out.2.1.x).cell
  have fx' := (hOw.blk H.out.2.1.x).free
  have lx' := (hOw.blk H.out.2.1.x).lt
  have hh := (hOw.blk H.out.2.2.2.1)
  have c4' := (hh.set_other (a := ⟨bx, 0, none⟩) (fun e => blk_ne H.out.2.2.2.1 H.out.2.1.x (by decide) e.symm) (.int .i64 y)).cell
  have HO := Lib.hid hOw
  clear hOw hh
  go_wp2_with fail
  go_ret
  exact ⟨rfl, gv, (H.out.1.only HO.out).box (H.out.2.1.only HO.out) (.inr rfl) _, (H.out.2.1.only HO.out).putX _, Next.refl _ _, Stay.put (S := XT F gv bt bx) (HO.out.mono (fun _ _ h => h.elim)) (.inr (.inr rfl)) _ _⟩

set_option maxRecDepth 100000 in
set_option maxHeartbeats 2000000 in
/-- The last step: was anybody faster? -/
theorem steal1_any (h : Loc w F N gv) (hB : Box2 w F gv bt bx t x) {br ba : Nat} (h1 : Blk w br 26 [.pointer (some ⟨F.b, 0, none⟩)]) (h2 : Blk w ba 87 [.pointer (some ⟨F.ab, 0, none⟩)]) (hl : N.got.length < 500) (ht : 0 ≤ t ∧ t < 1000) :
    Calls Try.prog 84 #[.pointer (some ⟨br, 0, none⟩), .pointer (some ⟨bt, 0, none⟩), .pointer (some ⟨ba, 0, none⟩), .pointer (some ⟨bx, 0, none⟩)] w
      (if N.top = t then TwoPost w F { N with top := t + 1, got := N.got ++ [x] } gv bt bx t x .nilFunc else TwoPost w F { N with got := N.got ++ [-1] } gv bt bx t x .nilFunc) := by
  have c := h.core.blk.cell
  have l := h.core.blk.lt
  have c1 := h1.cell
  have l1 := h1.lt
  have ct := hB.t.cell
  have lt := hB.t.lt
  have H := Lib.hid (And.intro h (And.intro hB (And.intro h1 h2)))
  clear h hB h1 h2
  by_cases hf : N.top = t
  · rw [if_pos hf]
    have b0 : (N.top == t) = true := by simp [hf]
    clear hf
    go_enter Try.func84, Try.ntmps84
    go_upto_region 1 with fail
    go_quiet (fail)
    have hO : Only w (w.drewN nq) := (Stay.refl _ w).drewN nq
    obtain ⟨wd, hwd⟩ : ∃ wd, wd = w.drewN nq := ⟨_, rfl⟩
    rw [← hwd] at hO ⊢
    clear c l c1 l1 ct lt hwd
    have h := H.out.1.only hO
    have hB := H.out.2.1.only hO
    have h1 := hO.blk H.out.2.2.1
    have h2 := hO.blk H.out.2.2.2
    have c := h.core.blk.cell
    have f := h.core.blk.free
    have l := h.core.blk.lt
    have c1 := h1.cell
    have ct := hB.t.cell
    have d2 := blk_ne h2 h.core.blk (by decide)
    have dt := blk_ne hB.t h.core.blk (by decide)
    have dx := blk_ne hB.x h.core.blk (by decide)
    have h' := h.putT (t + 1) (by omega)
    have hB' := hB.put (k := F.b) (i := 2) (.int .i64 (t + 1)) ⟨dt.symm, dx.symm⟩
    have h2' := h2.set_other (a := ⟨F.b, 2, none⟩) (fun e => d2 e.symm) (.int .i64 (t + 1))
    have cx' := hB'.x.cell
    have c2' := h2'.cell
    have HH := Lib.hid (And.intro h' (And.intro hB' hO))
    clear h hB h1 h2 h' hB' h2' d2 dt dx hO
    go_wp2_with fail
    refine (end_any _ F.ab F.n N.got F.opv F.nx gv x HH.out.1.ac (by omega)).mono ?_
    rintro e w1 ⟨rfl, gv', ha, hn, hx⟩
    have H1 := Lib.hid (And.intro (HH.out.1.ended ha hn hx hl) (And.intro (HH.out.2.1.ended HH.out.1 hn hx) (And.intro hn hx)))
    clear ha hn hx
    go_wp2_with fail
    go_ret
    refine ⟨rfl, gv', H1.out.1, H1.out.2.1, fun g hg => (H1.out.2.2.1 g hg).imp id (fun h => Nat.le_trans HH.out.2.2.size (by simpa using h)), stayT (((HH.out.2.2.mono (fun _ _ h => h.elim)).put (XP.b F gv) 2 (.int .i64 (t + 1))).trans (stay_end H1.out.2.2.2) (fun _ _ h => h))⟩
  · rw [if_neg hf]
    have b0 : (N.top == t) = false := by simp [hf]
    clear hf
    go_enter Try.func84, Try.ntmps84
    go_upto_region 1 with fail
    go_quiet (fail)
    have hO : Only w (w.drewN nq) := (Stay.refl _ w).drewN nq
    obtain ⟨wd, hwd⟩ : ∃ wd, wd = w.drewN nq := ⟨_, rfl⟩
    rw [← hwd] at hO ⊢
    clear c l c1 l1 ct lt hwd
    have c2 := (hO.blk H.out.2.2.2).cell
    have l2 := (hO.blk H.out.2.2.2).lt
    have HO := Lib.hid hO
    clear hO
    go_wp2_with fail
    refine (end_any wd F.ab F.n N.got F.opv F.nx gv (-1) (H.out.1.only HO.out).ac (by omega)).mono ?_
    rintro e w1 ⟨rfl, gv', ha, hn, hx⟩
    have H1 := Lib.hid (And.intro ((H.out.1.only HO.out).ended ha hn hx hl) (And.intro ((H.out.2.1.only HO.out).ended (H.out.1.only HO.out) hn hx) (And.intro hn hx)))
    clear ha hn hx
    go_wp2_with fail
    go_ret
    exact ⟨rfl, gv', H1.out.1, H1.out.2.1, fun g hg => (H1.out.2.2.1 g hg).imp id (Nat.le_trans HO.out.size), stayT ((HO.out.mono (fun _ _ h => h.elim)).trans (stay_end H1.out.2.2.2) (fun _ _ h => h))⟩
end
end Go.Proofs.Ytfohaijdhgcneaa
