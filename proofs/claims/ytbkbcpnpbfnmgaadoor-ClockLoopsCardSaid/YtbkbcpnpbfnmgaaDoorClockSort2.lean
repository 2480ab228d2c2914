/- slices.SortFunc on a row of timers. -/
import Derived.Test.YtbkbcpnpbfnmgaaDoorClockSort
set_option linter.unusedVariables false
set_option linter.unusedSimpArgs false
namespace Go.Proofs.YtbkbcpnpbfnmgaaDoor
open Go Go.RowKit Go.Sort

instance : Inhabited Tm := ⟨⟨0, 0⟩⟩
def cfT (x y : Tm) : Int := orI (cmpI x.due y.due) (cmpI x.id y.id)
theorem cfT_neg {x y : Tm} : cfT x y < 0 ↔ (x.due < y.due ∨ x.due = y.due ∧ x.id < y.id) := by
  unfold cfT orI cmpI
  split <;> split <;> (try split) <;> (try split) <;> (try split) <;> omega
theorem lt_tle {x y : Tm} : (!Go.Proofs.ltOf cfT y x) = tle x y := by
  unfold Go.Proofs.ltOf tle
  rw [← decide_not]
  refine decide_eq_decide.2 ?_
  rw [cfT_neg]
  omega
theorem cf_swo : SWO (Go.Proofs.ltOf cfT) := by
  refine ⟨fun x => ?_, fun x y z h k => ?_, fun x y z h k => ?_⟩
  · unfold Go.Proofs.ltOf
    rw [decide_eq_false_iff_not, cfT_neg]
    omega
  · unfold Go.Proofs.ltOf at *
    rw [decide_eq_true_eq, cfT_neg] at *
    omega
  · unfold Go.Proofs.ltOf at *
    rw [decide_eq_false_iff_not, cfT_neg] at *
    omega
theorem grow3 (w : World) (a b c : Obj) : (((w.alloc a).alloc b).drew).alloc c = Go.Sort.grow (w.drewN 1) #[a, b, c] := by
  unfold Go.Sort.grow World.drewN World.drew World.alloc
  have e : ((w.heap.push a).push b).push c = w.heap ++ #[a, b, c] := by
    apply Array.ext'
    simp
  simp only [e]
theorem flatK_list (l : List Tm) : (flatK Tm.cells 2 l.toArray).toList = l.flatMap Tm.cells := by
  refine List.ext_getElem (by rw [tms_length]; simp) fun i h1 h2 => ?_
  have hi : i < l.length * 2 := by rw [tms_length] at h2; exact h2
  have hq : i / 2 < l.length := by omega
  obtain ⟨t, ht⟩ : ∃ t, l[i / 2]? = some t := ⟨_, List.getElem?_eq_getElem hq⟩
  have e1 := flat_at Tm.cells 2 Tm.cells_length l (i / 2) t (i % 2) ht (by omega)
  rw [show i / 2 * 2 + i % 2 = i by omega, List.getElem?_eq_getElem h2] at e1
  have e2 : (flatK Tm.cells 2 l.toArray)[i]! = (Tm.cells (l.toArray[i / 2]!))[i % 2]! := by
    rw [get_flatK]
    simpa using hi
  have e3 : (flatK Tm.cells 2 l.toArray).toList[i] = (flatK Tm.cells 2 l.toArray)[i]! := by
    rw [getElem!_pos (flatK Tm.cells 2 l.toArray) i (by simp at h1 ⊢; exact h1)]
    simp
  have e4 : l.toArray[i / 2]! = t := by
    rw [getElem!_pos l.toArray (i / 2) (by simpa using hq)]
    have := (List.getElem?_eq_some_iff.1 ht).2
    simpa using this
  rw [e3, e2, e4]
  have e5 : (t.cells)[i % 2]? = some ((t.cells)[i % 2]'(by rw [Tm.cells_length]; omega)) := List.getElem?_eq_getElem _
  rw [e5] at e1
  rw [Option.some.inj e1, getElem!_pos t.cells (i % 2) (by rw [Tm.cells_length]; omega)]
theorem put_take (cur d : Array Value) (h : d.size ≤ cur.size) : ((putCells id 0 d cur).toList.take d.size) = d.toList := by
  refine List.ext_getElem (by simp [putCells]; omega) fun i h1 h2 => ?_
  have hi : i < d.size := by simpa using h2
  rw [List.getElem_take]
  simp only [putCells, Array.getElem_toList, Array.getElem_mapIdx, Nat.zero_le, true_and, Nat.zero_add, Nat.sub_zero, id]
  rw [if_pos hi, getElem!_pos d i hi]
theorem sortT_any (w : World) (base : Nat) (v : Value) (l : List Tm) (h : w.ownsRow base 39 2 v l.length (l.flatMap Tm.cells)) (hl : l.length ≤ 1000000) :
    Calls Tryd.prog 34 #[v, .func (.func 35) #[] #[]] w fun e w' => e = .returned (.tuple #[]) ∧ w'.ownsRow base 39 2 v l.length ((tsort l).flatMap Tm.cells) ∧ Stay (fun k => v.ownBlock = some k) w w' := by
  by_cases h0 : 0 < l.length
  · obtain ⟨g, c, rfl, _, hlt⟩ := h.form h0
    have hcell := fun j hj => h.cellAt j hj
    have hH : HoldsK Tm.cells 2 w g 0 l.toArray := fun j hj => by
      have hj2 : j < l.length * 2 := by simpa using hj
      refine ⟨?_, h.frozenAt _⟩
      rw [Nat.zero_add, hcell j hj2]
      have hl2 : j < (l.flatMap Tm.cells).length := by rw [tms_length]; exact hj2
      rw [List.getElem?_eq_getElem hl2]
      have e := flatK_list l
      have e1 : (flatK Tm.cells 2 l.toArray)[j]! = (l.flatMap Tm.cells)[j] := by
        rw [getElem!_pos (flatK Tm.cells 2 l.toArray) j hj]
        have := List.getElem_of_eq e (i := j) (by simpa using hj)
        simpa using this
      rw [e1]
      rfl
    have hcmp : Go.Proofs.CmpLays Tryd.prog 35 #[] Tm.cells 2 cfT g 0 l.toArray.size w := fun m os dk hdk x y => by
      refine (before_any x y _).mono ?_
      rintro e w' ⟨rfl, rfl⟩
      exact ⟨rfl, 1, _, grow3 _ _ _ _⟩
    refine (Go.Proofs.AnyQ.slices_SortFunc_total Tryd.sortTm 2 (fun w => Tryd.isAgg39 w) (fun w => Tryd.sizeOf39 w) Tm.cells Tm.cells_length (fun x u hu => tm_one [x] u (by simpa using hu)) cfT cf_swo 35 #[] g 0 c l.toArray w (enters_of Tryd.func35 (by kernel_rfl) rfl) hcmp hH hlt (by simp; omega) (fun x y h k => ?_)).mono ?_
    · unfold Go.Proofs.ltOf at h k
      rw [decide_eq_false_iff_not, cfT_neg] at h k
      obtain ⟨xi, xd⟩ := x
      obtain ⟨yi, yd⟩ := y
      simp only at h k
      have e1 : xd = yd := by omega
      have e2 : xi = yi := by omega
      rw [e1, e2]
    · rintro e w' ⟨rfl, q, os, rfl⟩
      have es : (l.toArray.toList.mergeSort fun x y => !Go.Proofs.ltOf cfT y x) = tsort l := by
        unfold tsort
        congr 1
        funext x y
        exact lt_tle
      rw [es]
      obtain ⟨s, hs⟩ : ∃ s, s = tsort l := ⟨_, rfl⟩
      have hsl : s.length = l.length := by rw [hs, tsort_length]
      rw [← hs]
      rcases h.2 with h0 | ⟨g', cap', cur, e, hb, hg, hnc, hcm, hcs, ht⟩
      · cases h0.1
      · simp only [Value.slice.injEq, Option.some.injEq, Addr.mk.injEq, and_true, true_and] at e
        obtain ⟨rfl, rfl⟩ := e
        have hO : Only (putRowK Tm.cells 2 (Sort.ahead w q) g 0 s.toArray) (Go.Sort.grow (putRowK Tm.cells 2 (Sort.ahead w q) g 0 s.toArray) os) := ⟨rfl, rfl, rfl, by simp, fun k hk _ => heap_grow_old _ _ hk⟩
        have hS : Stay (fun k => (Value.slice (some ⟨g, 0, none⟩) l.length c).ownBlock = some k) w (putRowK Tm.cells 2 (Sort.ahead w q) g 0 s.toArray) := ⟨rfl, rfl, rfl, by simp [putRowK, putRow, mapBlock, Sort.ahead], fun k hk hne => by
          have : g ≠ k := fun e => hne (by rw [e]; rfl)
          simp [putRowK, putRow, mapBlock, Sort.ahead, Array.getElem?_modify, this]⟩
        have hR : (putRowK Tm.cells 2 (Sort.ahead w q) g 0 s.toArray).ownsRow base 39 2 (.slice (some ⟨g, 0, none⟩) l.length c) l.length (s.flatMap Tm.cells) := by
          refine ⟨by rw [tms_length, hsl], .inr ⟨g, c, putCells id 0 (flatK Tm.cells 2 s.toArray) cur, rfl, hb, ?_, hnc, hcm, by simp [putCells, hcs], ?_⟩⟩
          · simp [putRowK, putRow, mapBlock, Sort.ahead, Array.getElem?_modify, hg, onCells]
          · have hsz : (flatK Tm.cells 2 s.toArray).size = l.length * 2 := by simp [hsl]
            rw [← hsz, put_take _ _ (by rw [hsz, hcs]; omega), flatK_list]
        exact ⟨rfl, own_only hO hR, hS.trans hO (fun _ _ h => h.elim)⟩
  · have e1 : l = [] := List.eq_nil_of_length_eq_zero (by omega)
    subst e1
    obtain ⟨A, c, rfl⟩ := own_shape h
    refine (Go.Proofs.AnyF.slices_SortFunc_none Tryd.sortTm A c _ w).mono ?_
    rintro e w' ⟨rfl, rfl⟩
    rw [tsort_nil]
    exact ⟨rfl, h, Stay.refl _ _⟩
end Go.Proofs.YtbkbcpnpbfnmgaaDoor
