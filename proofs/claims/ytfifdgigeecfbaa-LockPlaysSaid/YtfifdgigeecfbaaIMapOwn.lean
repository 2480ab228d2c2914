/- A map with int keys, in the words of the library's iterators. -/
import Derived.Test.YtfifdgigeecfbaaIntSort
import Derived.Shelf.SlIterI.Nil
import Derived.Maps.Range
set_option linter.unusedVariables false
namespace Go.Proofs.Ytfifdgigeecfbaa
open Go Go.RowKit Go.MapKept Go.Maps Go.WideShapes

/-- Every element reads as nothing in particular. -/
def RR : Value → Option (DataW Unit × List MemPlace) := fun _ => some (.nil, [])
theorem IMap.owns {P : Program} {w : World} {b : Nat} {l : List (Int × Value)} {k : TypeId} (h : IMap w b l) (hk : P.underlying k = some (.int .i64)) (hwf : ∀ p ∈ l, (Lit.int .i64 p.1).wf = true) (hn : l.length ≤ maxLen) :
    ∃ D : DataW Unit, w.ownsMap P k RR b l.length D ∧ (l.map (·.1)).Perm (intKeys D) ∧ Maps.size D = l.length := by
  have hnd := h.nodup
  obtain ⟨es, clock, hb, hs, hl⟩ := h
  have hlen : es.size = l.length := by simpa using congrArg List.length hl
  have key : ∀ x ∈ es.toList, ∃ p ∈ l, x.key = .int .i64 p.1 := by
    intro x hx
    have : (x.key, x.val) ∈ l.map kv := by rw [← hl]; exact List.mem_map.2 ⟨x, hx, rfl⟩
    obtain ⟨p, hp, e⟩ := List.mem_map.1 this
    simp only [kv, Prod.mk.injEq] at e
    exact ⟨p, hp, e.1.symm⟩
  have hrd : ∀ x ∈ es.toList, ∃ p ∈ l, x.key = .int .i64 p.1 ∧ WideElems.rd P k RR x = some (.int .i64 p.1, .nil) := by
    intro x hx
    obtain ⟨p, hp, e⟩ := key x hx
    refine ⟨p, hp, e, ?_⟩
    unfold WideElems.rd
    rw [e, keyOf_int_mk hk (hwf p hp)]
    rfl
  have F : WideElems.Fit P k RR es clock := ⟨by rw [hlen]; exact hn, hs, fun x hx => by obtain ⟨p, _, _, e⟩ := hrd x hx; exact ⟨_, e⟩⟩
  refine ⟨_, ⟨es, clock, hb, F, by rw [hlen]; exact Nat.le_refl _, rfl⟩, ?_, ?_⟩
  · refine perm_intKeys (((sorted_perm _).pairwise_iff (fun {_ _} hne => Ne.symm hne)).2 (Maps.fit_apart (Maps.int_keyed hk) F)) (fun p hp => ?_) hnd (fun x => ?_)
    · obtain ⟨y, hy, rfl⟩ := List.mem_map.1 ((sorted_perm _).mem_iff.1 hp)
      obtain ⟨q, _, _, e⟩ := hrd y hy
      exact ⟨q.1, by rw [WideElems.rg_of e]⟩
    · rw [has_eq, List.any_eq_true]
      constructor
      · intro hx
        obtain ⟨p, hp, rfl⟩ := List.mem_map.1 hx
        have : kv p ∈ es.toList.map (fun e => (e.key, e.val)) := by rw [hl]; exact List.mem_map.2 ⟨p, hp, rfl⟩
        obtain ⟨y, hy, e⟩ := List.mem_map.1 this
        simp only [kv, Prod.mk.injEq] at e
        obtain ⟨q, _, e1, e2⟩ := hrd y hy
        have e3 : q.1 = p.1 := by
          have := e1.symm.trans e.1
          simpa using this
        exact ⟨(.int .i64 p.1, .nil), (sorted_perm _).mem_iff.2 (List.mem_map.2 ⟨y, hy, by rw [WideElems.rg_of e2, e3]⟩), by simp [Lit.sameKey]⟩
      · rintro ⟨p, hp, e⟩
        obtain ⟨y, hy, rfl⟩ := List.mem_map.1 ((sorted_perm _).mem_iff.1 hp)
        obtain ⟨q, hq, e1, e2⟩ := hrd y hy
        rw [WideElems.rg_of e2] at e
        have : q.1 = x := by simpa [Lit.sameKey] using e
        exact List.mem_map.2 ⟨q, hq, this⟩
  · rw [size_eq, (sorted_perm _).length_eq]
    simp [hlen]

theorem srt_perm {l l' : List Int} (h : l.Perm l') : srt l = srt l' := mergeSort_of_perm_i h

end Go.Proofs.Ytfifdgigeecfbaa
