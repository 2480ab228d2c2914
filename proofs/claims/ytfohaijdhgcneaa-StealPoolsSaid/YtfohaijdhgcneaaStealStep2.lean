/- Step's walks: where nothing is done; where an operation begins. -/
import Derived.Test.YtfohaijdhgcneaaStealStep
set_option linter.unusedVariables false
set_option linter.unusedSimpArgs false
namespace Go.Proofs.Ytfohaijdhgcneaa
open Go Go.RowKit

set_option maxRecDepth 100000 in
set_option maxHeartbeats 4000000 in
theorem step_low {w : World} (b : Nat) (i : Int) (hi : i < 0) : Calls Try.prog 22 #[.pointer (some ⟨b, 0, none⟩), .int .i64 i] w fun e w' => e = .returned (.bool false) ∧ Only w w' := by
  go_enter Try.func22, Try.ntmps22
  go_wp2_with fail
  go_ret
  exact ⟨rfl, Stay.refl _ w⟩
set_option maxRecDepth 100000 in
set_option maxHeartbeats 4000000 in
theorem step_high {w : World} {b room : Nat} {cells : List Int} {top bot : Int} {cv av ov tv pv : Value} {abs : List Nat} (h : Core w b room cells top bot cv av ov tv pv) (ha : w.ownsRow 0 87 1 av abs.length (abs.map pt)) (i : Int) (h0 : ¬ i < 0) (hi : (abs.length : Int) ≤ i) : Calls Try.prog 22 #[.pointer (some ⟨b, 0, none⟩), .int .i64 i] w fun e w' => e = .returned (.bool false) ∧ Only w w' := by
  obtain ⟨Aa, ca, rfl⟩ := own_shape ha
  have c := h.blk.cell
  have l := h.blk.lt
  clear h ha
  go_enter Try.func22, Try.ntmps22
  go_wp2_with fail
  go_ret
  exact ⟨rfl, Stay.refl _ w⟩
set_option maxRecDepth 100000 in
set_option maxHeartbeats 4000000 in
theorem step_done {w : World} {F : Fixed} {N : Nums} {gv : Value} {abs : List Nat} {past : List Int} {i : Nat} (h : Loc w F N gv) (hr : Rows w F abs past i) (hnx : F.nx = .nilFunc) (hn : N.got.length = F.n) :
    Calls Try.prog 22 #[.pointer (some ⟨F.b, 0, none⟩), .int .i64 i] w fun e w' => e = .returned (.bool false) ∧ Only w w' := by
  have hil := (List.getElem?_eq_some_iff.1 hr.at').1
  obtain ⟨ga, ca, eav, _, _⟩ := hr.arow.form (by omega)
  have harow := hr.arow
  rw [eav] at harow
  have za := harow.cellAt i (by omega)
  rw [List.getElem?_map, hr.at'] at za
  simp only [Option.map_some] at za
  obtain ⟨Ag, cg, rfl⟩ := own_shape h.ac.row
  have c := h.core.blk.cell
  have l := h.core.blk.lt
  rw [eav] at c
  have ca' := h.ac.blk.cell
  have la := h.ac.blk.lt
  rw [hnx] at ca'
  have hal := hr.al
  have u1 : ¬ ((i : Int) < 0) := by omega
  have u2 : (i : Int) < (abs.length : Int) := by omega
  clear h hr eav harow hil
  unfold pt at za
  have hfn : ∀ (w : World), (binOp .eql 84 .nilFunc .nilFunc).run Try.prog w = .ok (.bool true) w := fun _ => rfl
  go_enter Try.func22, Try.ntmps22
  go_upto_region 5 with fail
  go_quiet (fail)
  go_wp2_with fail
  go_ret
  exact ⟨rfl, (Stay.refl _ w).drewN nq⟩
set_option maxRecDepth 100000 in
set_option maxHeartbeats 4000000 in
theorem step_new1 {w : World} {F : Fixed} {N : Nums} {gv : Value} {abs : List Nat} {past : List Int} {i rb ob : Nat} {Q : World → Value → World → Nums → Value → Value → Prop} (h : Loc w F N gv) (hr : Rows w F abs past i) (hnx : F.nx = .nilFunc) (hn : N.got.length < F.n) (hov : F.opv = .func (.func 57) #[] #[.pointer (some ⟨rb, 0, none⟩), .pointer (some ⟨ob, 0, none⟩)])
    (hop : ∀ wa, Only w wa → Calls Try.prog 57 #[.int .i64 N.got.length, .pointer (some ⟨rb, 0, none⟩), .pointer (some ⟨ob, 0, none⟩)] wa fun e wb => ∃ nx, e = .returned nx ∧ Only wa wb ∧ ∃ f C, nx = .func (.func f) #[] C ∧ f ∈ stepFns ∧
      Calls Try.prog f C (wb.setCell ⟨F.ab, 2, none⟩ nx) fun e w1 => ∃ nx', e = .returned nx' ∧ (nx' = .nilFunc ∨ ∃ g D, nx' = .func (.func g) #[] D) ∧ ∃ N' gv', Loc w1 { F with nx := nx } N' gv' ∧ w1.ownsRow 0 3 1 F.pv past.length (ints past) ∧ Off F.pv gv' ∧ Off F.pv F.cv ∧ Q wb nx w1 N' gv' nx') :
    Calls Try.prog 22 #[.pointer (some ⟨F.b, 0, none⟩), .int .i64 i] w fun e w' => ∃ wb nx w1 nx' N' gv', Q wb nx w1 N' gv' nx' ∧ TailPost w1 F N' gv' nx' past i e w' := by
  obtain ⟨ii, hii0, hii1, hii2, hii3⟩ := info_parts infoI
  have hil := (List.getElem?_eq_some_iff.1 hr.at').1
  obtain ⟨ga, ca, eav, _, _⟩ := hr.arow.form (by omega)
  have harow := hr.arow
  rw [eav] at harow
  have za := harow.cellAt i (by omega)
  rw [List.getElem?_map, hr.at'] at za
  simp only [Option.map_some] at za
  obtain ⟨Ag, cg, egv⟩ := own_shape h.ac.row
  have c := h.core.blk.cell
  have l := h.core.blk.lt
  rw [eav] at c
  have ca' := h.ac.blk.cell
  have la := h.ac.blk.lt
  rw [hnx, hov, egv] at ca'
  have hal := hr.al
  have HP := Lib.hid (And.intro hr h)
  have u1 : ¬ ((i : Int) < 0) := by omega
  have u2 : (i : Int) < (abs.length : Int) := by omega
  have HOV := Lib.hid hov
  have HEG := Lib.hid egv
  clear h hr eav egv harow hil hov
  unfold pt at za
  have hfn : ∀ (w : World), (binOp .eql 84 .nilFunc .nilFunc).run Try.prog w = .ok (.bool true) w := fun _ => rfl
  go_enter Try.func22, Try.ntmps22
  go_upto_region 5 with fail
  go_quiet (fail)
  have hO : Only w (w.drewN nq) := (Stay.refl _ w).drewN nq
  obtain ⟨wd, hwd⟩ : ∃ wd, wd = w.drewN nq := ⟨_, rfl⟩
  rw [← hwd] at hO ⊢
  have hAd := hO.blk HP.out.2.ac.blk
  rw [hnx, HOV.out, HEG.out] at hAd
  have cd := hAd.cell
  have ld := hAd.lt
  have cd1 := cd 1
  have cd3 := cd 3
  simp only [List.getElem?_cons_zero, List.getElem?_cons_succ] at cd1 cd3
  have HO := Lib.hid hO
  clear hO hAd hwd za c l ca' la
  go_upto_region 7 with fail
  go_region_with (go_at_call 57; refine (hop _ (Stay.drew HO.out)).mono ?_; rintro e wb ⟨nx, rfl, hOb, f, C, rfl, hfs, hcall⟩; have hAb := (Only.trans' (Stay.drew HO.out) hOb).blk HP.out.2.ac.blk; have cb := hAb.cell; have fb := hAb.free; have lb := hAb.lt; have hAs := hAb.set 2 (.func (.func f) #[] C); have cs := hAs.cell; clear hAb hAs hOb)
  all_goals
    go_wp2_with fail
    rw [enter_step hfs, Oper.upon_enter]
    refine hcall.mono ?_
    rintro e w1 ⟨nx', rfl, hform, N', gv', hL, hpr, ho1, ho2, hQ⟩
    clear cb fb lb cs cd ld cd1 cd3
    have hpl := HP.out.1.pl
    obtain ⟨Ap, cp, epv⟩ := own_shape hpr
    have d1 : F.b ≠ F.ab := hL.nab
    have hLc : Core w1 F.b N'.room N'.cells N'.top N'.bot F.cv F.av F.ov F.tv F.pv := hL.core
    have hLa : AcB w1 F.ab F.n N'.got F.opv (.func (.func f) #[] C) gv' := hL.ac
    have hLcb : ∀ g, F.cv.ownBlock = some g → g ≠ F.b := hL.cb
    have hLgb : ∀ g, gv'.ownBlock = some g → g ≠ F.b := hL.gb
    have hLca : ∀ g, F.cv.ownBlock = some g → g ≠ F.ab := hL.ca
    have hLga : ∀ g, gv'.ownBlock = some g → g ≠ F.ab := hL.ga
    have pb := own_ne_blk hpr hLc.blk (by decide)
    have pa := own_ne_blk hpr hLa.blk (by decide)
    have hA1 : AcB (w1.setCell ⟨F.ab, 2, none⟩ nx') F.ab F.n N'.got F.opv nx' gv' := ⟨hLa.blk.set 2 nx', own_set hLa.row _ hLga⟩
    have hC1 : Core (w1.setCell ⟨F.ab, 2, none⟩ nx') F.b N'.room N'.cells N'.top N'.bot F.cv F.av F.ov F.tv F.pv := ⟨hLc.blk.set_other (fun e => d1 e.symm) _, own_set hLc.row _ hLca⟩
    have hP1 := own_set hpr (A := ⟨F.ab, 2, none⟩) nx' pa
    have ca1 := hLa.blk.cell
    have fa1 := hLa.blk.free
    have la1 := hLa.blk.lt
    have cb1 := hC1.blk.cell
    have lb1 := hC1.blk.lt
    have hP1' := hP1
    rw [epv] at cb1 hP1'
    have H1 := Lib.hid (And.intro hA1 (And.intro hC1 (And.intro hP1 (And.intro hQ (And.intro ho1 (And.intro ho2 (And.intro hP1' (And.intro epv (And.intro d1 (And.intro hLgb hLcb))))))))))
    clear hA1 hC1 hP1 hQ ho1 ho2 hL hLc hLa hLcb hLgb hLca hLga hpr d1 pb pa hP1' epv
    rcases hform with rfl | ⟨g0, D0, rfl⟩
    · go_wp2_with (at_builtin; refine wpList_append_lies _ rfl _ _ _ rfl 0 3 ii _ 1 8 Try.underlying22 hii0 hii1 hii2 hii3 rfl (by omega) _ past.length _ (by rfl) (own_alloc H1.out.2.2.2.2.2.2.1 _) ⟨w1.heap.size, 0, none⟩ 1 1 [.int .i64 i] (by rfl) (by rfl) (World.news_of_block (cs := [Value.int .i64 i].toArray) (t := 3) (fr := (0, 0)) (heap_alloc_at' _ _ _ (by simp))) (by simp [Value.oneCell']) (by omega) (by simp only [maxLen]; omega) (by omega) (by omega) (w1.heap.size + 1) (by simp) ?_; intro g cap w2 hown hgrow hat hlt; have BT := (grown_stay hgrow).blk (H1.out.2.1.blk.alloc _) (fun e => own_ne_blk H1.out.2.2.2.2.2.2.1 H1.out.2.1.blk (by decide) _ e rfl); have c2 := BT.cell; have f2 := BT.free; have l2 := BT.lt; have HG := Lib.hid (And.intro hown (And.intro (grown_stay hgrow) (And.intro hat BT))); clear hown hgrow hat hlt BT)
      go_ret
      have epv := H1.out.2.2.2.2.2.2.2.1
      have st := ((Stay.put (S := fun k => k = F.b ∨ k = F.ab ∨ F.pv.ownBlock = some k) (Stay.refl _ w1) (.inr (.inl rfl)) 2 .nilFunc).alloc (Obj.cells #[.int .i64 i] 3)).trans HG.out.2.1 (fun k _ hk => .inr (.inr (by rw [epv]; exact hk)))
      refine ⟨wb, _, w1, _, N', gv', H1.out.2.2.2.1, rfl, _, ⟨HG.out.2.2.2.set 7 (.slice (some ⟨g, 0, none⟩) (past.length + 1) cap), own_set (own_stay HG.out.2.1 (own_alloc H1.out.2.1.row _) (fun g hg e => H1.out.2.2.2.2.2.1 g (by rw [epv]; exact e) hg)) _ H1.out.2.2.2.2.2.2.2.2.2.2⟩, ⟨(HG.out.2.1.blk (H1.out.1.blk.alloc _) (fun e => own_ne_blk H1.out.2.2.2.2.2.2.1 H1.out.1.blk (by decide) _ e rfl)).set_other H1.out.2.2.2.2.2.2.2.2.1 _, own_set (own_stay HG.out.2.1 (own_alloc H1.out.1.row _) (fun g hg e => H1.out.2.2.2.2.1 g (by rw [epv]; exact e) hg)) _ H1.out.2.2.2.2.2.2.2.2.2.1⟩, ?_, fun g' hg' => ?_, st.put (.inl rfl) 7 _⟩
      · have := own_set HG.out.1 (A := ⟨F.b, 7, none⟩) (.slice (some ⟨g, 0, none⟩) (past.length + 1) cap) (own_ne_blk HG.out.1 HG.out.2.2.2 (by decide))
        simpa [ints] using this
      · have e : g = g' := by simpa [Value.ownBlock] using hg'
        subst e
        rcases HG.out.2.2.1 with h | h
        · exact .inl (by rw [epv]; exact h)
        · exact .inr (by have h' : g = w1.heap.size + 1 := by simpa using h
                         omega)
    · go_wp2_with (at_builtin; refine wpList_append_lies _ rfl _ _ _ rfl 0 3 ii _ 1 8 Try.underlying22 hii0 hii1 hii2 hii3 rfl (by omega) _ past.length _ (by rfl) (own_alloc H1.out.2.2.2.2.2.2.1 _) ⟨w1.heap.size, 0, none⟩ 1 1 [.int .i64 i] (by rfl) (by rfl) (World.news_of_block (cs := [Value.int .i64 i].toArray) (t := 3) (fr := (0, 0)) (heap_alloc_at' _ _ _ (by simp))) (by simp [Value.oneCell']) (by omega) (by simp only [maxLen]; omega) (by omega) (by omega) (w1.heap.size + 1) (by simp) ?_; intro g cap w2 hown hgrow hat hlt; have BT := (grown_stay hgrow).blk (H1.out.2.1.blk.alloc _) (fun e => own_ne_blk H1.out.2.2.2.2.2.2.1 H1.out.2.1.blk (by decide) _ e rfl); have c2 := BT.cell; have f2 := BT.free; have l2 := BT.lt; have HG := Lib.hid (And.intro hown (And.intro (grown_stay hgrow) (And.intro hat BT))); clear hown hgrow hat hlt BT)
      go_ret
      have epv := H1.out.2.2.2.2.2.2.2.1
      have st := ((Stay.put (S := fun k => k = F.b ∨ k = F.ab ∨ F.pv.ownBlock = some k) (Stay.refl _ w1) (.inr (.inl rfl)) 2 (.func (.func g0) #[] D0)).alloc (Obj.cells #[.int .i64 i] 3)).trans HG.out.2.1 (fun k _ hk => .inr (.inr (by rw [epv]; exact hk)))
      refine ⟨wb, _, w1, _, N', gv', H1.out.2.2.2.1, rfl, _, ⟨HG.out.2.2.2.set 7 (.slice (some ⟨g, 0, none⟩) (past.length + 1) cap), own_set (own_stay HG.out.2.1 (own_alloc H1.out.2.1.row _) (fun g hg e => H1.out.2.2.2.2.2.1 g (by rw [epv]; exact e) hg)) _ H1.out.2.2.2.2.2.2.2.2.2.2⟩, ⟨(HG.out.2.1.blk (H1.out.1.blk.alloc _) (fun e => own_ne_blk H1.out.2.2.2.2.2.2.1 H1.out.1.blk (by decide) _ e rfl)).set_other H1.out.2.2.2.2.2.2.2.2.1 _, own_set (own_stay HG.out.2.1 (own_alloc H1.out.1.row _) (fun g hg e => H1.out.2.2.2.2.1 g (by rw [epv]; exact e) hg)) _ H1.out.2.2.2.2.2.2.2.2.2.1⟩, ?_, fun g' hg' => ?_, st.put (.inl rfl) 7 _⟩
      · have := own_set HG.out.1 (A := ⟨F.b, 7, none⟩) (.slice (some ⟨g, 0, none⟩) (past.length + 1) cap) (own_ne_blk HG.out.1 HG.out.2.2.2 (by decide))
        simpa [ints] using this
      · have e : g = g' := by simpa [Value.ownBlock] using hg'
        subst e
        rcases HG.out.2.2.1 with h | h
        · exact .inl (by rw [epv]; exact h)
        · exact .inr (by have h' : g = w1.heap.size + 1 := by simpa using h
                         omega)
set_option maxRecDepth 100000 in
set_option maxHeartbeats 4000000 in
theorem step_new2 {w : World} {F : Fixed} {N : Nums} {gv : Value} {abs : List Nat} {past : List Int} {i rb ob : Nat} {Q : World → Value → World → Nums → Value → Value → Prop} (h : Loc w F N gv) (hr : Rows w F abs past i) (hnx : F.nx = .nilFunc) (hn : N.got.length < F.n) (hov : F.opv = .func (.func 60) #[] #[.pointer (some ⟨rb, 0, none⟩), .pointer (some ⟨ob, 0, none⟩)])
    (hop : ∀ wa, Only w wa → Calls Try.prog 60 #[.int .i64 N.got.length, .pointer (some ⟨rb, 0, none⟩), .pointer (some ⟨ob, 0, none⟩)] wa fun e wb => ∃ nx, e = .returned nx ∧ Only wa wb ∧ ∃ f C, nx = .func (.func f) #[] C ∧ f ∈ stepFns ∧
      Calls Try.prog f C (wb.setCell ⟨F.ab, 2, none⟩ nx) fun e w1 => ∃ nx', e = .returned nx' ∧ (nx' = .nilFunc ∨ ∃ g D, nx' = .func (.func g) #[] D) ∧ ∃ N' gv', Loc w1 { F with nx := nx } N' gv' ∧ w1.ownsRow 0 3 1 F.pv past.length (ints past) ∧ Off F.pv gv' ∧ Off F.pv F.cv ∧ Q wb nx w1 N' gv' nx') :
    Calls Try.prog 22 #[.pointer (some ⟨F.b, 0, none⟩), .int .i64 i] w fun e w' => ∃ wb nx w1 nx' N' gv', Q wb nx w1 N' gv' nx' ∧ TailPost w1 F N' gv' nx' past i e w' := by
  obtain ⟨ii, hii0, hii1, hii2, hii3⟩ := info_parts infoI
  have hil := (List.getElem?_eq_some_iff.1 hr.at').1
  obtain ⟨ga, ca, eav, _, _⟩ := hr.arow.form (by omega)
  have harow := hr.arow
  rw [eav] at harow
  have za := harow.cellAt i (by omega)
  rw [List.getElem?_map, hr.at'] at za
  simp only [Option.map_some] at za
  obtain ⟨Ag, cg, egv⟩ := own_shape h.ac.row
  have c := h.core.blk.cell
  have l := h.core.blk.lt
  rw [eav] at c
  have ca' := h.ac.blk.cell
  have la := h.ac.blk.lt
  rw [hnx, hov, egv] at ca'
  have hal := hr.al
  have HP := Lib.hid (And.intro hr h)
  have u1 : ¬ ((i : Int) < 0) := by omega
  have u2 : (i : Int) < (abs.length : Int) := by omega
  have HOV := Lib.hid hov
  have HEG := Lib.hid egv
  clear h hr eav egv harow hil hov
  unfold pt at za
  have hfn : ∀ (w : World), (binOp .eql 84 .nilFunc .nilFunc).run Try.prog w = .ok (.bool true) w := fun _ => rfl
  go_enter Try.func22, Try.ntmps22
  go_upto_region 5 with fail
  go_quiet (fail)
  have hO : Only w (w.drewN nq) := (Stay.refl _ w).drewN nq
  obtain ⟨wd, hwd⟩ : ∃ wd, wd = w.drewN nq := ⟨_, rfl⟩
  rw [← hwd] at hO ⊢
  have hAd := hO.blk HP.out.2.ac.blk
  rw [hnx, HOV.out, HEG.out] at hAd
  have cd := hAd.cell
  have ld := hAd.lt
  have cd1 := cd 1
  have cd3 := cd 3
  simp only [List.getElem?_cons_zero, List.getElem?_cons_succ] at cd1 cd3
  have HO := Lib.hid hO
  clear hO hAd hwd za c l ca' la
  go_upto_region 7 with fail
  go_region_with (go_at_call 60; refine (hop _ (Stay.drew HO.out)).mono ?_; rintro e wb ⟨nx, rfl, hOb, f, C, rfl, hfs, hcall⟩; have hAb := (Only.trans' (Stay.drew HO.out) hOb).blk HP.out.2.ac.blk; have cb := hAb.cell; have fb := hAb.free; have lb := hAb.lt; have hAs := hAb.set 2 (.func (.func f) #[] C); have cs := hAs.cell; clear hAb hAs hOb)
  all_goals
    go_wp2_with fail
    rw [enter_step hfs, Oper.upon_enter]
    refine hcall.mono ?_
    rintro e w1 ⟨nx', rfl, hform, N', gv', hL, hpr, ho1, ho2, hQ⟩
    clear cb fb lb cs cd ld cd1 cd3
    have hpl := HP.out.1.pl
    obtain ⟨Ap, cp, epv⟩ := own_shape hpr
    have d1 : F.b ≠ F.ab := hL.nab
    have hLc : Core w1 F.b N'.room N'.cells N'.top N'.bot F.cv F.av F.ov F.tv F.pv := hL.core
    have hLa : AcB w1 F.ab F.n N'.got F.opv (.func (.func f) #[] C) gv' := hL.ac
    have hLcb : ∀ g, F.cv.ownBlock = some g → g ≠ F.b := hL.cb
    have hLgb : ∀ g, gv'.ownBlock = some g → g ≠ F.b := hL.gb
    have hLca : ∀ g, F.cv.ownBlock = some g → g ≠ F.ab := hL.ca
    have hLga : ∀ g, gv'.ownBlock = some g → g ≠ F.ab := hL.ga
    have pb := own_ne_blk hpr hLc.blk (by decide)
    have pa := own_ne_blk hpr hLa.blk (by decide)
    have hA1 : AcB (w1.setCell ⟨F.ab, 2, none⟩ nx') F.ab F.n N'.got F.opv nx' gv' := ⟨hLa.blk.set 2 nx', own_set hLa.row _ hLga⟩
    have hC1 : Core (w1.setCell ⟨F.ab, 2, none⟩ nx') F.b N'.room N'.cells N'.top N'.bot F.cv F.av F.ov F.tv F.pv := ⟨hLc.blk.set_other (fun e => d1 e.symm) _, own_set hLc.row _ hLca⟩
    have hP1 := own_set hpr (A := ⟨F.ab, 2, none⟩) nx' pa
    have ca1 := hLa.blk.cell
    have fa1 := hLa.blk.free
    have la1 := hLa.blk.lt
    have cb1 := hC1.blk.cell
    have lb1 := hC1.blk.lt
    have hP1' := hP1
    rw [epv] at cb1 hP1'
    have H1 := Lib.hid (And.intro hA1 (And.intro hC1 (And.intro hP1 (And.intro hQ (And.intro ho1 (And.intro ho2 (And.intro hP1' (And.intro epv (And.intro d1 (And.intro hLgb hLcb))))))))))
    clear hA1 hC1 hP1 hQ ho1 ho2 hL hLc hLa hLcb hLgb hLca hLga hpr d1 pb pa hP1' epv
    rcases hform with rfl | ⟨g0, D0, rfl⟩
    · go_wp2_with (at_builtin; refine wpList_append_lies _ rfl _ _ _ rfl 0 3 ii _ 1 8 Try.underlying22 hii0 hii1 hii2 hii3 rfl (by omega) _ past.length _ (by rfl) (own_alloc H1.out.2.2.2.2.2.2.1 _) ⟨w1.heap.size, 0, none⟩ 1 1 [.int .i64 i] (by rfl) (by rfl) (World.news_of_block (cs := [Value.int .i64 i].toArray) (t := 3) (fr := (0, 0)) (heap_alloc_at' _ _ _ (by simp))) (by simp [Value.oneCell']) (by omega) (by simp only [maxLen]; omega) (by omega) (by omega) (w1.heap.size + 1) (by simp) ?_; intro g cap w2 hown hgrow hat hlt; have BT := (grown_stay hgrow).blk (H1.out.2.1.blk.alloc _) (fun e => own_ne_blk H1.out.2.2.2.2.2.2.1 H1.out.2.1.blk (by decide) _ e rfl); have c2 := BT.cell; have f2 := BT.free; have l2 := BT.lt; have HG := Lib.hid (And.intro hown (And.intro (grown_stay hgrow) (And.intro hat BT))); clear hown hgrow hat hlt BT)
      go_ret
      have epv := H1.out.2.2.2.2.2.2.2.1
      have st := ((Stay.put (S := fun k => k = F.b ∨ k = F.ab ∨ F.pv.ownBlock = some k) (Stay.refl _ w1) (.inr (.inl rfl)) 2 .nilFunc).alloc (Obj.cells #[.int .i64 i] 3)).trans HG.out.2.1 (fun k _ hk => .inr (.inr (by rw [epv]; exact hk)))
      refine ⟨wb, _, w1, _, N', gv', H1.out.2.2.2.1, rfl, _, ⟨HG.out.2.2.2.set 7 (.slice (some ⟨g, 0, none⟩) (past.length + 1) cap), own_set (own_stay HG.out.2.1 (own_alloc H1.out.2.1.row _) (fun g hg e => H1.out.2.2.2.2.2.1 g (by rw [epv]; exact e) hg)) _ H1.out.2.2.2.2.2.2.2.2.2.2⟩, ⟨(HG.out.2.1.blk (H1.out.1.blk.alloc _) (fun e => own_ne_blk H1.out.2.2.2.2.2.2.1 H1.out.1.blk (by decide) _ e rfl)).set_other H1.out.2.2.2.2.2.2.2.2.1 _, own_set (own_stay HG.out.2.1 (own_alloc H1.out.1.row _) (fun g hg e => H1.out.2.2.2.2.1 g (by rw [epv]; exact e) hg)) _ H1.out.2.2.2.2.2.2.2.2.2.1⟩, ?_, fun g' hg' => ?_, st.put (.inl rfl) 7 _⟩
      · have := own_set HG.out.1 (A := ⟨F.b, 7, none⟩) (.slice (some ⟨g, 0, none⟩) (past.length + 1) cap) (own_ne_blk HG.out.1 HG.out.2.2.2 (by decide))
        simpa [ints] using this
      · have e : g = g' := by simpa [Value.ownBlock] using hg'
        subst e
        rcases HG.out.2.2.1 with h | h
        · exact .inl (by rw [epv]; exact h)
        · exact .inr (by have h' : g = w1.heap.size + 1 := by simpa using h
                         omega)
    · go_wp2_with (at_builtin; refine wpList_append_lies _ rfl _ _ _ rfl 0 3 ii _ 1 8 Try.underlying22 hii0 hii1 hii2 hii3 rfl (by omega) _ past.length _ (by rfl) (own_alloc H1.out.2.2.2.2.2.2.1 _) ⟨w1.heap.size, 0, none⟩ 1 1 [.int .i64 i] (by rfl) (by rfl) (World.news_of_block (cs := [Value.int .i64 i].toArray) (t := 3) (fr := (0, 0)) (heap_alloc_at' _ _ _ (by simp))) (by simp [Value.oneCell']) (by omega) (by simp only [maxLen]; omega) (by omega) (by omega) (w1.heap.size + 1) (by simp) ?_; intro g cap w2 hown hgrow hat hlt; have BT := (grown_stay hgrow).blk (H1.out.2.1.blk.alloc _) (fun e => own_ne_blk H1.out.2.2.2.2.2.2.1 H1.out.2.1.blk (by decide) _ e rfl); have c2 := BT.cell; have f2 := BT.free; have l2 := BT.lt; have HG := Lib.hid (And.intro hown (And.intro (grown_stay hgrow) (And.intro hat BT))); clear hown hgrow hat hlt BT)
      go_ret
      have epv := H1.out.2.2.2.2.2.2.2.1
      have st := ((Stay.put (S := fun k => k = F.b ∨ k = F.ab ∨ F.pv.ownBlock = some k) (Stay.refl _ w1) (.inr (.inl rfl)) 2 (.func (.func g0) #[] D0)).alloc (Obj.cells #[.int .i64 i] 3)).trans HG.out.2.1 (fun k _ hk => .inr (.inr (by rw [epv]; exact hk)))
      refine ⟨wb, _, w1, _, N', gv', H1.out.2.2.2.1, rfl, _, ⟨HG.out.2.2.2.set 7 (.slice (some ⟨g, 0, none⟩) (past.length + 1) cap), own_set (own_stay HG.out.2.1 (own_alloc H1.out.2.1.row _) (fun g hg e => H1.out.2.2.2.2.2.1 g (by rw [epv]; exact e) hg)) _ H1.out.2.2.2.2.2.2.2.2.2.2⟩, ⟨(HG.out.2.1.blk (H1.out.1.blk.alloc _) (fun e => own_ne_blk H1.out.2.2.2.2.2.2.1 H1.out.1.blk (by decide) _ e rfl)).set_other H1.out.2.2.2.2.2.2.2.2.1 _, own_set (own_stay HG.out.2.1 (own_alloc H1.out.1.row _) (fun g hg e => H1.out.2.2.2.2.1 g (by rw [epv]; exact e) hg)) _ H1.out.2.2.2.2.2.2.2.2.2.1⟩, ?_, fun g' hg' => ?_, st.put (.inl rfl) 7 _⟩
      · have := own_set HG.out.1 (A := ⟨F.b, 7, none⟩) (.slice (some ⟨g, 0, none⟩) (past.length + 1) cap) (own_ne_blk HG.out.1 HG.out.2.2.2 (by decide))
        simpa [ints] using this
      · have e : g = g' := by simpa [Value.ownBlock] using hg'
        subst e
        rcases HG.out.2.2.1 with h | h
        · exact .inl (by rw [epv]; exact h)
        · exact .inr (by have h' : g = w1.heap.size + 1 := by simpa using h
                         omega)
end Go.Proofs.Ytfohaijdhgcneaa
