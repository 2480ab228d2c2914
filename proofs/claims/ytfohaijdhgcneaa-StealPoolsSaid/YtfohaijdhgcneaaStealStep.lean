/- Step's walks. -/
import Derived.Test.YtfohaijdhgcneaaStealOp
import Derived.Test.YtfohaijdhgcneaaStealNow
set_option linter.unusedVariables false
set_option linter.unusedSimpArgs false
namespace Go.Proofs.Ytfohaijdhgcneaa
open Go Go.RowKit

set_option maxRecDepth 100000 in
set_option maxHeartbeats 4000000 in
theorem step_in {w : World} {F : Fixed} {N : Nums} {gv : Value} {abs : List Nat} {past : List Int} {i f : Nat} {C : Array Value} {Q : World → Nums → Value → Value → Prop} (h : Loc w F N gv) (hr : Rows w F abs past i) (hnx : F.nx = .func (.func f) #[] C) (hfs : f ∈ stepFns)
    (hcall : Calls Try.prog f C w fun e w1 => ∃ nx', e = .returned nx' ∧ (nx' = .nilFunc ∨ ∃ g D, nx' = .func (.func g) #[] D) ∧ ∃ N' gv', Loc w1 F N' gv' ∧ w1.ownsRow 0 3 1 F.pv past.length (ints past) ∧ Off F.pv gv' ∧ Off F.pv F.cv ∧ Q w1 N' gv' nx') :
    Calls Try.prog 22 #[.pointer (some ⟨F.b, 0, none⟩), .int .i64 i] w fun e w' => ∃ w1 nx' N' gv', Q w1 N' gv' nx' ∧ TailPost w1 F N' gv' nx' past i e w' := by
  obtain ⟨ii, hii0, hii1, hii2, hii3⟩ := info_parts infoI
  have hil := (List.getElem?_eq_some_iff.1 hr.at').1
  obtain ⟨ga, ca, eav, _, _⟩ := hr.arow.form (by omega)
  have harow := hr.arow
  rw [eav] at harow
  have za := harow.cellAt i (by omega)
  rw [List.getElem?_map, hr.at'] at za
  simp only [Option.map_some] at za
  have c := h.core.blk.cell
  have l := h.core.blk.lt
  rw [eav] at c
  have ca' := h.ac.blk.cell
  have la := h.ac.blk.lt
  rw [hnx] at ca'
  have hal := hr.al
  have HP := Lib.hid (And.intro hr h)
  have u1 : ¬ ((i : Int) < 0) := by omega
  have u2 : (i : Int) < (abs.length : Int) := by omega
  clear h hr eav harow hil
  unfold pt at za
  have hfn : ∀ (fn : Fn) (a b : Array Value) (w : World), (binOp .eql 84 (.func fn a b) .nilFunc).run Try.prog w = .ok (.bool false) w := fun _ _ _ _ => rfl
  go_enter Try.func22, Try.ntmps22
  go_wp2_with fail
  rw [enter_step hfs, Oper.upon_enter]
  refine hcall.mono ?_
  rintro e w1 ⟨nx', rfl, hform, N', gv', hL, hpr, ho1, ho2, hQ⟩
  have hpl := HP.out.1.pl
  obtain ⟨Ap, cp, epv⟩ := own_shape hpr
  have d1 := hL.nab
  have pb := own_ne_blk hpr hL.core.blk (by decide)
  have pa := own_ne_blk hpr hL.ac.blk (by decide)
  have hA1 : AcB (w1.setCell ⟨F.ab, 2, none⟩ nx') F.ab F.n N'.got F.opv nx' gv' := ⟨hL.ac.blk.set 2 nx', own_set hL.ac.row _ hL.ga⟩
  have hC1 : Core (w1.setCell ⟨F.ab, 2, none⟩ nx') F.b N'.room N'.cells N'.top N'.bot F.cv F.av F.ov F.tv F.pv := ⟨hL.core.blk.set_other (fun e => d1 e.symm) _, own_set hL.core.row _ hL.ca⟩
  have hP1 := own_set hpr (A := ⟨F.ab, 2, none⟩) nx' pa
  have ca1 := hL.ac.blk.cell
  have fa1 := hL.ac.blk.free
  have la1 := hL.ac.blk.lt
  have cb1 := hC1.blk.cell
  have lb1 := hC1.blk.lt
  have hP1' := hP1
  rw [epv] at cb1 hP1'
  have H1 := Lib.hid (And.intro hA1 (And.intro hC1 (And.intro hP1 (And.intro hQ (And.intro ho1 (And.intro ho2 (And.intro hP1' (And.intro epv (And.intro d1 (And.intro hL.gb hL.cb))))))))))
  clear hA1 hC1 hP1 hQ ho1 ho2 hL hpr d1 pb pa hP1' epv
  rcases hform with rfl | ⟨g0, D0, rfl⟩
  · go_wp2_with (at_builtin; refine wpList_append_lies _ rfl _ _ _ rfl 0 3 ii _ 1 8 Try.underlying22 hii0 hii1 hii2 hii3 rfl (by omega) _ past.length _ (by rfl) (own_alloc H1.out.2.2.2.2.2.2.1 _) ⟨w1.heap.size, 0, none⟩ 1 1 [.int .i64 i] (by rfl) (by rfl) (World.news_of_block (cs := [Value.int .i64 i].toArray) (t := 3) (fr := (0, 0)) (heap_alloc_at' _ _ _ (by simp))) (by simp [Value.oneCell']) (by omega) (by simp only [maxLen]; omega) (by omega) (by omega) (w1.heap.size + 1) (by simp) ?_; intro g cap w2 hown hgrow hat hlt; have BT := (grown_stay hgrow).blk (H1.out.2.1.blk.alloc _) (fun e => own_ne_blk H1.out.2.2.2.2.2.2.1 H1.out.2.1.blk (by decide) _ e rfl); have c2 := BT.cell; have f2 := BT.free; have l2 := BT.lt; have HG := Lib.hid (And.intro hown (And.intro (grown_stay hgrow) (And.intro hat BT))); clear hown hgrow hat hlt BT)
    go_ret
    have epv := H1.out.2.2.2.2.2.2.2.1
    have st := ((Stay.put (S := fun k => k = F.b ∨ k = F.ab ∨ F.pv.ownBlock = some k) (Stay.refl _ w1) (.inr (.inl rfl)) 2 .nilFunc).alloc (Obj.cells #[.int .i64 i] 3)).trans HG.out.2.1 (fun k _ hk => .inr (.inr (by rw [epv]; exact hk)))
    refine ⟨w1, _, N', gv', H1.out.2.2.2.1, rfl, _, ⟨HG.out.2.2.2.set 7 (.slice (some ⟨g, 0, none⟩) (past.length + 1) cap), own_set (own_stay HG.out.2.1 (own_alloc H1.out.2.1.row _) (fun g hg e => H1.out.2.2.2.2.2.1 g (by rw [epv]; exact e) hg)) _ H1.out.2.2.2.2.2.2.2.2.2.2⟩, ⟨(HG.out.2.1.blk (H1.out.1.blk.alloc _) (fun e => own_ne_blk H1.out.2.2.2.2.2.2.1 H1.out.1.blk (by decide) _ e rfl)).set_other H1.out.2.2.2.2.2.2.2.2.1 _, own_set (own_stay HG.out.2.1 (own_alloc H1.out.1.row _) (fun g hg e => H1.out.2.2.2.2.1 g (by rw [epv]; exact e) hg)) _ H1.out.2.2.2.2.2.2.2.2.2.1⟩, ?_, fun g' hg' => ?_, st.put (.inl rfl) 7 _⟩
    · have := own_set HG.out.1 (A := ⟨F.b, 7, none⟩) (.slice (some ⟨g, 0, none⟩) (past.length + 1) cap) (own_ne_blk HG.out.1 HG.out.2.2.2 (by decide))
      simpa [ints] using this
    · have e : g = g' := by simpa [Value.ownBlock] using hg'
      subst e
      rcases HG.out.2.2.1 with h | h
      · exact .inl (by rw [epv]; exact h)
      · exact .inr (by have h' : g = w1.heap.size + 1 := by simpa using h
                       omega)
  · go_wp2_with (at_builtin; refine wpList_append_lies _ rfl _ _ _ rfl 0 3 ii _ 1 8 Try.underlying22 hii0 hii1 hii2 hii3 rfl (by omega) _ past.length _ (by rfl) (own_alloc H1.out.2.2.2.2.2.2.1 _) ⟨w1.heap.size, 0, none⟩ 1 1 [.int .i64 i] (by rfl) (by rfl) (World.news_of_block (cs := [Value.int .i64 i].toArray) (t := 3) (fr := (0, 0)) (heap_alloc_at' _ _ _ (by simp))) (by simp [Value.oneCell']) (by omega) (by simp only [maxLen]; omega) (by omega) (by omega) (w1.heap.size + 1) (by simp) ?_; intro g cap w2 hown hgrow hat hlt; have BT := (grown_stay hgrow).blk (H1.out.2.1.blk.alloc _) (fun e => own_ne_blk H1.out.2.2.2.2.2.2.1 H1.out.2.1.blk (by decide) _ e rfl); have c2 := BT.cell; have f2 := BT.free; have l2 := BT.lt; have HG := Lib.hid (And.intro hown (And.intro (grown_stay hgrow) (And.intro hat BT))); clear hown hgrow hat hlt BT)
    go_ret
    have epv := H1.out.2.2.2.2.2.2.2.1
    have st := ((Stay.put (S := fun k => k = F.b ∨ k = F.ab ∨ F.pv.ownBlock = some k) (Stay.refl _ w1) (.inr (.inl rfl)) 2 (.func (.func g0) #[] D0)).alloc (Obj.cells #[.int .i64 i] 3)).trans HG.out.2.1 (fun k _ hk => .inr (.inr (by rw [epv]; exact hk)))
    refine ⟨w1, _, N', gv', H1.out.2.2.2.1, rfl, _, ⟨HG.out.2.2.2.set 7 (.slice (some ⟨g, 0, none⟩) (past.length + 1) cap), own_set (own_stay HG.out.2.1 (own_alloc H1.out.2.1.row _) (fun g hg e => H1.out.2.2.2.2.2.1 g (by rw [epv]; exact e) hg)) _ H1.out.2.2.2.2.2.2.2.2.2.2⟩, ⟨(HG.out.2.1.blk (H1.out.1.blk.alloc _) (fun e => own_ne_blk H1.out.2.2.2.2.2.2.1 H1.out.1.blk (by decide) _ e rfl)).set_other H1.out.2.2.2.2.2.2.2.2.1 _, own_set (own_stay HG.out.2.1 (own_alloc H1.out.1.row _) (fun g hg e => H1.out.2.2.2.2.1 g (by rw [epv]; exact e) hg)) _ H1.out.2.2.2.2.2.2.2.2.2.1⟩, ?_, fun g' hg' => ?_, st.put (.inl rfl) 7 _⟩
    · have := own_set HG.out.1 (A := ⟨F.b, 7, none⟩) (.slice (some ⟨g, 0, none⟩) (past.length + 1) cap) (own_ne_blk HG.out.1 HG.out.2.2.2 (by decide))
      simpa [ints] using this
    · have e : g = g' := by simpa [Value.ownBlock] using hg'
      subst e
      rcases HG.out.2.2.1 with h | h
      · exact .inl (by rw [epv]; exact h)
      · exact .inr (by have h' : g = w1.heap.size + 1 := by simpa using h
                       omega)
end Go.Proofs.Ytfohaijdhgcneaa
