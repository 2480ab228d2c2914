/- Rest. -/
import Derived.Test.YtfohaijdhgcneaaStealAt
set_option linter.unusedVariables false
set_option linter.unusedSimpArgs false
namespace Go.Proofs.Ytfohaijdhgcneaa
open Go Go.RowKit

def Rc.upto (R : Rc) (m : Nat) : List Int := (List.range m).map fun (k : Nat) => R.at (R.top + (k : Int))
def Rc.rest (R : Rc) : List Int := R.upto (R.bot - R.top).toNat
theorem Rc.upto_succ (R : Rc) (m : Nat) : R.upto (m + 1) = R.upto m ++ [R.at (R.top + (m : Int))] := by simp [Rc.upto, List.range_succ]
theorem Rc.upto_len (R : Rc) (m : Nat) : (R.upto m).length = m := by simp [Rc.upto]
set_option maxRecDepth 100000 in
set_option maxHeartbeats 4000000 in
theorem rest_any {w : World} {L : Nat → Nat} {b : Nat} {R : Rc} (h : RaceOk w L b R) :
    Calls Try.prog 18 #[.pointer (some ⟨b, 0, none⟩)] w fun e w' => ∃ v', e = .returned v' ∧ w'.ownsRow w.heap.size 3 1 v' R.rest.length (ints R.rest) ∧ Only w w' := by
  obtain ⟨ii, hii0, hii1, hii2, hii3⟩ := info_parts infoI
  obtain ⟨cv, av, ov, tv, pv, rb, abs, h⟩ := h
  obtain ⟨gc, cc, rfl, _, _⟩ := h.core.row.form (by have := h.ok.r1; omega)
  have c := h.core.blk.cell
  have l := h.core.blk.lt
  have hb := h.ok.bounds
  have H := Lib.hid h
  obtain ⟨m, hm⟩ : ∃ m, m = (R.bot - R.top).toNat := ⟨_, rfl⟩
  have hm60 : m ≤ 61 := by omega
  have hmb : m = 0 → R.bot ≤ R.top := fun h0 => by omega
  have hmt : 0 < m → R.bot = R.top + m := fun h0 => by omega
  have HM := Lib.hid (And.intro hm (And.intro hmb hmt))
  clear h hm hmb hmt
  go_enter Try.func18, Try.ntmps18
  go_wp2_with fail
  go_loopg [3, 4] m (fun k vl vp wr => ∃ (i : Nat), i ≤ m ∧ k = m - i ∧ wr.ownsRow w.heap.size 3 1 vl i (ints (R.upto i)) ∧ vp = .int .i64 (R.top + (i : Nat)) ∧ Only w wr)
  case atStart => exact ⟨0, by omega, by omega, World.ownsRow_nil _ _ _ _, by simp, Stay.refl _ w⟩
  case round =>
    obtain ⟨i, hi, hk, hrow, rfl, hO⟩ := hrel
    have BB := hO.blk H.out.core.blk
    have cr := BB.cell
    have lr := BB.lt
    obtain ⟨A, ca, rfl⟩ := own_shape hrow
    by_cases hq : i < m
    · have hlt : R.top + (i : Int) < R.bot := by have := HM.out.2.2 (by omega); omega
      obtain ⟨gc2, cc2, ecv, z⟩ : ∃ g c2, Value.slice (some ⟨gc, 0, none⟩) R.room cc = .slice (some ⟨g, 0, none⟩) R.room c2 ∧ w.cell? ⟨g, (R.top + (i : Int)).toNat % R.room, none⟩ = some (.int .i64 (R.at (R.top + (i : Int)))) := by
        have hq2 : (R.top + (i : Int)).toNat % R.room < R.room := Nat.mod_lt _ (by have := H.out.ok.r1; omega)
        refine ⟨gc, cc, rfl, ?_⟩
        have z := H.out.core.row.cellAt ((R.top + (i : Int)).toNat % R.room) (by omega)
        rw [z]
        unfold Rc.at
        simp [ints, List.getElem?_eq_getElem (show (R.top + (i : Int)).toNat % R.room < R.cells.length by rw [H.out.ok.cl]; exact hq2), List.getD_eq_getElem?_getD]
      cases ecv
      obtain ⟨y, hy⟩ : ∃ y, y = R.at (R.top + (i : Int)) := ⟨_, rfl⟩
      rw [← hy] at z
      have HX := Lib.hid (And.intro hO (And.intro hk (And.intro hrow hy)))
      clear hO hk hrow hy BB
      go_wp2_with fail
      refine (cell_any _ b R.room R.cells R.top R.bot gc cc av ov tv pv (R.top + (i : Int)) (H.out.core.only HX.out.1) H.out.ok.r1 H.out.ok.r16 (by omega)).mono ?_
      rintro e w1 ⟨rfl, ho1⟩
      have z1 := (Only.trans' HX.out.1 ho1).cell z
      have hs0 := (Only.trans' HX.out.1 ho1).size
      have HO := Lib.hid (And.intro (Only.trans' HX.out.1 ho1) (own_only ho1 HX.out.2.2.1))
      clear ho1
      go_wp2_with (at_builtin; refine wpList_append_lies _ rfl _ _ _ rfl w.heap.size 3 ii _ 1 8 Try.underlying22 hii0 hii1 hii2 hii3 rfl (by omega) _ i _ (by rfl) (own_alloc HO.out.2 _) ⟨w1.heap.size, 0, none⟩ 1 1 [.int .i64 y] (by rfl) (by rfl) (World.news_of_block (cs := [Value.int .i64 y].toArray) (t := 3) (fr := (0, 0)) (heap_alloc_at' _ _ _ (by simp))) (by simp [Value.oneCell']) (by omega) (by simp only [maxLen]; omega) (by omega) (by simp; omega) (w1.heap.size + 1) (by simp) ?_; intro g cap w2 hown hgrow hat hlt2; have HG := Lib.hid (And.intro hown (And.intro (grown_stay hgrow) hat)); clear hown hgrow hat hlt2)
      go_roundg (m - (i + 1))
      case measure => have := HX.out.2.1; omega
      case rel =>
        refine ⟨i + 1, hq, rfl, ?_, by simp; omega, ?_⟩
        · rw [R.upto_succ, ← HX.out.2.2.2]
          simpa [ints] using HG.out.1
        · exact ((HO.out.1.alloc _).trans HG.out.2.1 (fun k hk hx => by have := (own_lt HO.out.2 k hx).1; omega))
    · have HX := Lib.hid (And.intro hO hrow)
      clear hO hk hrow BB
      have him : i = m := by omega
      have hge : ¬ R.top + (i : Int) < R.bot := by
        have h1 := HM.out.2.1
        have h2 := HM.out.2.2
        omega
      go_wp2_with fail
      go_ret
      refine ⟨_, rfl, ?_, HX.out.1⟩
      unfold Rc.rest
      rw [← HM.out.1, R.upto_len, ← him]
      exact HX.out.2
end Go.Proofs.Ytfohaijdhgcneaa
