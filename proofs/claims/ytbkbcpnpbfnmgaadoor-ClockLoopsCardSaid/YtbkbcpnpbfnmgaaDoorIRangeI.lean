/- Ranging over a map with int keys whose elements are natural numbers: what is still to come, entry by entry. -/
import Derived.Test.YtbkbcpnpbfnmgaaDoorIMap
import Derived.Sort.MapsRangeIn
import Derived.Maps.Range
import Derived.RangeFuncSeq
set_option linter.unusedVariables false
set_option linter.unusedSimpArgs false
namespace Go.Proofs.YtbkbcpnpbfnmgaaDoor
open Go Go.RowKit Go.MapKept Go.Maps Go.WideShapes

/-- A number reads as itself. -/
def RVi : Value → Option (DataW Unit × List MemPlace)
  | .int .i64 (.ofNat b) => some (.lit (.int .i64 (b : Int)), [])
  | _ => none
def iv (b : Nat) : Value := .int .i64 (b : Int)
theorem RVi_inv {v : Value} {y : DataW Unit × List MemPlace} (h : RVi v = some y) : ∃ c, v = iv c ∧ y.1 = .lit (.int .i64 (c : Int)) := by
  unfold RVi at h
  split at h
  · rename_i b
    cases h
    exact ⟨b, rfl, rfl⟩
  · cases h

section
variable {α : Type}
theorem IMap.ownsVI {P : Program} {w : World} {b : Nat} {f : α → Nat} {hs : List (Int × α)} {k : TypeId} (h : IMap w b (vmap (fun h => iv (f h)) hs)) (hk : P.underlying k = some (.int .i64)) (hwf : ∀ p ∈ hs, (Lit.int .i64 p.1).wf = true) (hn : hs.length ≤ maxLen) :
    ∃ D : DataW Unit, w.ownsMap P k RVi b hs.length D ∧ (∀ x : Int, Maps.has D (.int .i64 x) = true ↔ x ∈ hs.map (·.1)) ∧ (∀ p ∈ hs, ∀ zd, D.atKey (.int .i64 p.1) zd = .lit (.int .i64 (f p.2 : Int))) ∧ Maps.size D = hs.length := by
  have hnd := h.nodup
  obtain ⟨es, clock, hb, hs', hl⟩ := h
  have hlen : es.size = hs.length := by simpa [vmap] using congrArg List.length hl
  have key : ∀ x ∈ es.toList, ∃ p ∈ hs, x.key = .int .i64 p.1 ∧ x.val = iv (f p.2) := by
    intro x hx
    have : (x.key, x.val) ∈ (vmap (fun h => iv (f h)) hs).map kv := by rw [← hl]; exact List.mem_map.2 ⟨x, hx, rfl⟩
    obtain ⟨q, hq, e⟩ := List.mem_map.1 this
    obtain ⟨p, hp, rfl⟩ := List.mem_map.1 hq
    simp only [kv, Prod.mk.injEq] at e
    exact ⟨p, hp, e.1.symm, e.2.symm⟩
  have hrd : ∀ x ∈ es.toList, ∃ p ∈ hs, x.key = .int .i64 p.1 ∧ WideElems.rd P k RVi x = some (.int .i64 p.1, .lit (.int .i64 (f p.2 : Int))) := by
    intro x hx
    obtain ⟨p, hp, e, e2⟩ := key x hx
    refine ⟨p, hp, e, ?_⟩
    unfold WideElems.rd
    rw [e, e2, keyOf_int_mk hk (hwf p hp)]
    rfl
  have bak : ∀ p ∈ hs, ∃ y ∈ es.toList, WideElems.rd P k RVi y = some (.int .i64 p.1, .lit (.int .i64 (f p.2 : Int))) := by
    intro p hp
    have : kv (p.1, iv (f p.2)) ∈ es.toList.map (fun e => (e.key, e.val)) := by rw [hl]; exact List.mem_map.2 ⟨_, List.mem_map.2 ⟨p, hp, rfl⟩, rfl⟩
    obtain ⟨y, hy, e⟩ := List.mem_map.1 this
    simp only [kv, Prod.mk.injEq] at e
    refine ⟨y, hy, ?_⟩
    unfold WideElems.rd
    rw [e.1, e.2, keyOf_int_mk hk (hwf p hp)]
    rfl
  have F : WideElems.Fit P k RVi es clock := ⟨by rw [hlen]; exact hn, hs', fun x hx => by obtain ⟨p, _, _, e⟩ := hrd x hx; exact ⟨_, e⟩⟩
  refine ⟨_, ⟨es, clock, hb, F, by rw [hlen]; exact Nat.le_refl _, rfl⟩, fun x => ?_, fun p hp zd => ?_, ?_⟩
  · rw [has_eq, List.any_eq_true]
    constructor
    · rintro ⟨p, hp, e⟩
      obtain ⟨y, hy, rfl⟩ := List.mem_map.1 ((sorted_perm _).mem_iff.1 hp)
      obtain ⟨q, hq, _, e2⟩ := hrd y hy
      rw [WideElems.rg_of e2] at e
      have : q.1 = x := by simpa [Lit.sameKey] using e
      exact List.mem_map.2 ⟨q, hq, this⟩
    · intro hx
      obtain ⟨p, hp, rfl⟩ := List.mem_map.1 hx
      obtain ⟨y, hy, e2⟩ := bak p hp
      exact ⟨(.int .i64 p.1, .lit (.int .i64 (f p.2 : Int))), (sorted_perm _).mem_iff.2 (List.mem_map.2 ⟨y, hy, by rw [WideElems.rg_of e2]⟩), by simp [Lit.sameKey]⟩
  · obtain ⟨y, hy, e2⟩ := bak p hp
    have := (atKey_sorted (es.toList.map (WideElems.rg P k RVi)) (Maps.fit_rising (Maps.int_keyed hk) F) (.int .i64 p.1) ((Maps.int_keyed hk).key (keyOf_int_mk hk (hwf p hp)))).2 (WideElems.rg P k RVi y) (List.mem_map.2 ⟨y, hy, rfl⟩) (by rw [WideElems.rg_of e2])
    rw [this zd, WideElems.rg_of e2]
  · rw [size_eq, (sorted_perm _).length_eq]
    simp [hlen]

/-- A loop over a map under way: what has come, how many are to come. -/
def RngI (P : Program) (k : TypeId) (w : World) (b r : Nat) (f : α → Nat) (hs seen : List (Int × α)) (cnt : Nat) : Prop :=
  ∃ (left : Lit → Bool) (D : DataW Unit), w.ranges P k RVi b r hs.length D left cnt ∧ (∀ x : Int, left (.int .i64 x) = true ↔ x ∈ hs.map (·.1) ∧ x ∉ seen.map (·.1)) ∧ (∀ p ∈ hs, ∀ zd, D.atKey (.int .i64 p.1) zd = .lit (.int .i64 (f p.2 : Int))) ∧ (∀ p ∈ seen, p ∈ hs) ∧ (hs.map (·.1)).Nodup ∧ (seen.map (·.1)).Nodup
theorem RngI.left_eq {P : Program} {k : TypeId} {w : World} {b r : Nat} {f : α → Nat} {hs seen : List (Int × α)} {cnt : Nat} (h : RngI P k w b r f hs seen cnt) : w.rangeLeft b r = cnt := by
  obtain ⟨left, D, hr, _⟩ := h
  exact hr.left_eq
theorem RngI.stay {P : Program} {k : TypeId} {w w' : World} {X : Nat → Prop} {b r : Nat} {f : α → Nat} {hs seen : List (Int × α)} {cnt : Nat} (h : RngI P k w b r f hs seen cnt) (hx : Stay X w w') (hb : ¬ X b) (hr : ¬ X r) : RngI P k w' b r f hs seen cnt := by
  obtain ⟨left, D, hg, h2⟩ := h
  have h1 := hg.owns.lt
  have h3 := hg.lt
  obtain ⟨es, clock, since, seen', c0, hb', F, hs', hD, hr', rest⟩ := hg
  exact ⟨left, D, ⟨es, clock, since, seen', c0, (hx.block b h1 hb).trans hb', F, hs', hD, (hx.block r h3 hr).trans hr', rest⟩, h2⟩
theorem RngI.walks {P : Program} {k : TypeId} {w w' : World} {b r : Nat} {f : α → Nat} {hs seen : List (Int × α)} {cnt : Nat} (h : RngI P k w b r f hs seen cnt) (hk : KeepsWalks w w') : RngI P k w' b r f hs seen cnt := by
  obtain ⟨left, D, hg, h2⟩ := h
  exact ⟨left, D, hg.of_walks hk, h2⟩
theorem RngI.iter {P : Program} {k : TypeId} {w : World} {b r : Nat} {f : α → Nat} {hs seen : List (Int × α)} {cnt : Nat} (h : RngI P k w b r f hs seen cnt) : ∃ o : Obj, w.heap[r]? = some o ∧ o.isWalk = true := by
  obtain ⟨left, D, hg, h2⟩ := h
  exact hg.iter_walk
theorem RngI.sub {P : Program} {k : TypeId} {w : World} {b r : Nat} {f : α → Nat} {hs seen : List (Int × α)} {cnt : Nat} (h : RngI P k w b r f hs seen cnt) : ∀ p ∈ seen, p ∈ hs := by
  obtain ⟨left, D, _, _, _, h, _⟩ := h
  exact h
theorem RngI.lt {P : Program} {k : TypeId} {w : World} {b r : Nat} {f : α → Nat} {hs seen : List (Int × α)} {cnt : Nat} (h : RngI P k w b r f hs seen cnt) : r < w.heap.size ∧ b < w.heap.size := by
  obtain ⟨left, D, hg, h2⟩ := h
  exact ⟨hg.lt, hg.owns.lt⟩
theorem RngI.start {P : Program} {k : TypeId} {w : World} {b r : Nat} {f : α → Nat} {hs : List (Int × α)} {D : DataW Unit} (hg : w.ranges P k RVi b r hs.length D (Maps.has D) (Maps.size D)) (h1 : ∀ x : Int, Maps.has D (.int .i64 x) = true ↔ x ∈ hs.map (·.1)) (h2 : ∀ p ∈ hs, ∀ zd, D.atKey (.int .i64 p.1) zd = .lit (.int .i64 (f p.2 : Int))) (hn : (hs.map (·.1)).Nodup) : RngI P k w b r f hs [] (Maps.size D) :=
  ⟨_, D, hg, fun x => by rw [h1]; simp, h2, by simp, hn, by simp⟩
/-- Nothing is left: all have come. -/
theorem RngI.done {P : Program} {k : TypeId} {w : World} {b r : Nat} {f : α → Nat} {hs seen : List (Int × α)} {cnt : Nat} (h : RngI P k w b r f hs seen cnt) (h0 : cnt = 0) : ∀ p ∈ hs, p ∈ seen := by
  obtain ⟨left, D, hg, hl, _, hsub, hn, _⟩ := h
  obtain ⟨es, clock, since, seen', c0, _, F, _, _, _, _, hc, h1, h2, _⟩ := hg
  intro p hp
  have hf : ¬ left (.int .i64 p.1) = true := fun e => by
    obtain ⟨x, hx, hk⟩ := h2 _ e
    rw [← hk, h1 x hx, all_seen es seen' (hc.trans h0) x hx] at e
    cases e
  rw [hl] at hf
  have hm : p.1 ∈ seen.map (·.1) := Classical.byContradiction fun e => hf ⟨List.mem_map.2 ⟨p, hp, rfl⟩, e⟩
  obtain ⟨q, hq, e⟩ := List.mem_map.1 hm
  have hqh := hsub q hq
  have : q = p := by
    have a1 := aget_of_mem hn (show (q.1, q.2) ∈ hs from hqh)
    have a2 := aget_of_mem hn (show (p.1, p.2) ∈ hs from hp)
    rw [e, a2] at a1
    exact Prod.ext e (Option.some.inj a1).symm
  exact this ▸ hq
/-- One has come. -/
theorem RngI.more {P : Program} {k : TypeId} {w' : World} {b r : Nat} {f : α → Nat} {hs seen : List (Int × α)} {cnt' : Nat} {x : Int} {c : Nat} {y : DataW Unit × List MemPlace} {left : Lit → Bool} {D : DataW Unit}
    (hg' : w'.ranges P k RVi b r hs.length D (fun z => left z && !z.sameKey (.int .i64 x)) cnt') (hx : left (.int .i64 x) = true) (hv : RVi (iv c) = some y) (hat : ∀ zd, D.atKey (.int .i64 x) zd = y.1)
    (h : (∀ x : Int, left (.int .i64 x) = true ↔ x ∈ hs.map (·.1) ∧ x ∉ seen.map (·.1)) ∧ (∀ p ∈ hs, ∀ zd, D.atKey (.int .i64 p.1) zd = .lit (.int .i64 (f p.2 : Int))) ∧ (∀ p ∈ seen, p ∈ hs) ∧ (hs.map (·.1)).Nodup ∧ (seen.map (·.1)).Nodup) :
    ∃ p ∈ hs, p.1 = x ∧ c = f p.2 ∧ p.1 ∉ seen.map (·.1) ∧ RngI P k w' b r f hs (seen ++ [p]) cnt' := by
  obtain ⟨hl, hD, hsub, hn, hsn⟩ := h
  obtain ⟨hxm, hxs⟩ := (hl x).1 hx
  obtain ⟨p, hp, rfl⟩ := List.mem_map.1 hxm
  have e1 := hD p hp .nil
  rw [hat] at e1
  obtain ⟨c', e2, e3⟩ := RVi_inv hv
  have hc : c = c' := by
    have : (c : Int) = (c' : Int) := by simpa [iv] using e2
    omega
  rw [e3] at e1
  have hcf : c = f p.2 := by
    have : (c' : Int) = (f p.2 : Int) := by simpa using e1
    omega
  refine ⟨p, hp, rfl, hcf, hxs, _, D, hg', fun z => ?_, hD, fun q hq => ?_, hn, ?_⟩
  · rw [Bool.and_eq_true, hl]
    simp only [List.map_append, List.map_cons, List.map_nil, List.mem_append, List.mem_cons, List.not_mem_nil, or_false, not_or, Lit.sameKey]
    constructor
    · rintro ⟨⟨h1, h2⟩, h3⟩
      exact ⟨h1, h2, fun e => by subst e; simp at h3⟩
    · rintro ⟨h1, h2, h3⟩
      exact ⟨⟨h1, h2⟩, by simp [h3]⟩
  · rcases List.mem_append.1 hq with h | h
    · exact hsub q h
    · rw [List.mem_singleton.1 h]; exact hp
  · rw [List.map_append, List.nodup_append]
    exact ⟨hsn, by simp, fun a ha b hb e => by simp at hb; subst hb; subst e; exact hxs ha⟩
theorem key_intI {P : Program} {k : TypeId} (hk : P.underlying k = some (.int .i64)) {x : Int} {kl : Lit} (h : keyOf P k (.int .i64 x) = some kl) : kl = .int .i64 x := by
  obtain ⟨x', e, rfl, _⟩ := Maps.keyOf_int_inv hk h
  cases e
  rfl

section
variable {P : Program} {F : Fence} {n : Nat} (w : World) {ops : Array Oper} {rest : List Oper} {o : Oper} {a : Act} {Q : Exit → Act → World → Prop}
/-- 'range m', at the map known whole. -/
theorem wpList_rangeI (hg : o.guard = none) (m : Operand) (t : TypeId) (hop : o.op = Op.range t m) (k e : TypeId) (hk : P.underlying k = some (.int .i64)) (ht : P.underlying t = some (.map k e)) (b : Nat) (f : α → Nat) (hs : List (Int × α))
    (hm : a.eval m = .map (some b)) (h : IMap w b (vmap (fun h => iv (f h)) hs)) (hwf : ∀ p ∈ hs, (Lit.int .i64 p.1).wf = true) (hn : hs.length ≤ maxLen)
    (hK : ∀ w', RngI P k w' b w.heap.size f hs [] hs.length → w.grownBy w' none → w'.heap.size = w.heap.size + 1 → wpList P ops Q rest (a.put o.dst (.pointer (some ⟨w.heap.size, 0, none⟩))) w') :
    wpList P ops Q (o :: rest) a w := by
  have hnd := h.keys
  obtain ⟨D, hown, h1, h2, h3⟩ := h.ownsVI hk hwf hn
  refine wpList_range_own w hg m t hop k e (Maps.int_keyed hk) ht RVi b hs.length D hm hown (fun w' hr hgr hsz => hK w' (h3 ▸ RngI.start hr h1 h2 hnd) hgr hsz)
theorem wpListIn_rangeI (hg : o.guard = none) (m : Operand) (t : TypeId) (hop : o.op = Op.range t m) (k e : TypeId) (hk : P.underlying k = some (.int .i64)) (ht : P.underlying t = some (.map k e)) (b : Nat) (f : α → Nat) (hs : List (Int × α))
    (hm : a.eval m = .map (some b)) (h : IMap w b (vmap (fun h => iv (f h)) hs)) (hwf : ∀ p ∈ hs, (Lit.int .i64 p.1).wf = true) (hn : hs.length ≤ maxLen)
    (hK : ∀ w', RngI P k w' b w.heap.size f hs [] hs.length → w.grownBy w' none → w'.heap.size = w.heap.size + 1 → wpListIn F n P ops Q rest (a.put o.dst (.pointer (some ⟨w.heap.size, 0, none⟩))) w') :
    wpListIn F n P ops Q (o :: rest) a w := by
  have hnd := h.keys
  obtain ⟨D, hown, h1, h2, h3⟩ := h.ownsVI hk hwf hn
  refine wpListIn_range_own w hg m t hop k e (Maps.int_keyed hk) ht RVi b hs.length D hm hown (fun w' hr hgr hsz => hK w' (h3 ▸ RngI.start hr h1 h2 hnd) hgr hsz)
/-- The step. -/
theorem wpList_nextI (hg : o.guard = none) (it : Operand) (hop : o.op = Op.next it false) (k : TypeId) (hk : P.underlying k = some (.int .i64)) (b r : Nat) (f : α → Nat) (hs seen : List (Int × α)) (cnt : Nat)
    (hit : a.eval it = .pointer (some ⟨r, 0, none⟩)) (h : RngI P k w b r f hs seen cnt)
    (hDone : (∀ p ∈ hs, p ∈ seen) → wpList P ops Q rest (a.put o.dst (.tuple #[.bool false])) w)
    (hMore : ∀ (p : Int × α) (w' : World) (cnt' : Nat), p ∈ hs → p.1 ∉ seen.map (·.1) → RngI P k w' b r f hs (seen ++ [p]) cnt' → cnt' < cnt → w.grownBy w' (some r) → w'.heap.size = w.heap.size → (Instr.entry (.pointer (some ⟨r, 0, none⟩))).run P w' = .ok (.tuple #[.int .i64 p.1, iv (f p.2)]) w' →
      wpList P ops Q rest (a.put o.dst (.tuple #[.bool true, .int .i64 p.1, iv (f p.2)])) w') :
    wpList P ops Q (o :: rest) a w := by
  have h' := h
  obtain ⟨left, D, hr, h2⟩ := h
  refine wpList_next_ranges w hg it hop k (Maps.int_keyed hk) RVi (Value.int .i64) iv (fun key kl hkey => by obtain ⟨x, rfl, _⟩ := Maps.keyOf_int_inv hk hkey; exact ⟨x, rfl⟩) (fun v y hv => by obtain ⟨c, e, _⟩ := RVi_inv hv; exact ⟨c, e⟩)
    b r hs.length D left cnt hit hr (fun h0 _ => hDone (h'.done h0)) (fun x c kl y w' cnt' hkey hlk hv hat hrg hlt hgr hsz hen => ?_)
  obtain rfl := key_intI hk hkey
  obtain ⟨p, hp, rfl, rfl, hns, hR⟩ := RngI.more hrg hlk hv hat h2
  exact hMore p w' cnt' hp hns hR hlt hgr hsz hen
theorem wpListIn_nextI (hg : o.guard = none) (it : Operand) (hop : o.op = Op.next it false) (k : TypeId) (hk : P.underlying k = some (.int .i64)) (b r : Nat) (f : α → Nat) (hs seen : List (Int × α)) (cnt : Nat)
    (hit : a.eval it = .pointer (some ⟨r, 0, none⟩)) (h : RngI P k w b r f hs seen cnt)
    (hDone : (∀ p ∈ hs, p ∈ seen) → wpListIn F n P ops Q rest (a.put o.dst (.tuple #[.bool false])) w)
    (hMore : ∀ (p : Int × α) (w' : World) (cnt' : Nat), p ∈ hs → p.1 ∉ seen.map (·.1) → RngI P k w' b r f hs (seen ++ [p]) cnt' → cnt' < cnt → w.grownBy w' (some r) → w'.heap.size = w.heap.size → (Instr.entry (.pointer (some ⟨r, 0, none⟩))).run P w' = .ok (.tuple #[.int .i64 p.1, iv (f p.2)]) w' →
      wpListIn F n P ops Q rest (a.put o.dst (.tuple #[.bool true, .int .i64 p.1, iv (f p.2)])) w') :
    wpListIn F n P ops Q (o :: rest) a w := by
  have h' := h
  obtain ⟨left, D, hr, h2⟩ := h
  refine wpListIn_next_ranges w hg it hop k (Maps.int_keyed hk) RVi (Value.int .i64) iv (fun key kl hkey => by obtain ⟨x, rfl, _⟩ := Maps.keyOf_int_inv hk hkey; exact ⟨x, rfl⟩) (fun v y hv => by obtain ⟨c, e, _⟩ := RVi_inv hv; exact ⟨c, e⟩)
    b r hs.length D left cnt hit hr (fun h0 _ => hDone (h'.done h0)) (fun x c kl y w' cnt' hkey hlk hv hat hrg hlt hgr hsz hen => ?_)
  obtain rfl := key_intI hk hkey
  obtain ⟨p, hp, rfl, rfl, hns, hR⟩ := RngI.more hrg hlk hv hat h2
  exact hMore p w' cnt' hp hns hR hlt hgr hsz hen
end
end
end Go.Proofs.YtbkbcpnpbfnmgaaDoor
