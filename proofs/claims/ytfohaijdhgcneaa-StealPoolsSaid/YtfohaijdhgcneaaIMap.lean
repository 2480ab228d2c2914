/- Maps with int keys, known whole: the list of their entries. Plain lemmas and laws of the walk; no program in sight. -/
import Derived.Test.YtfohaijdhgcneaaHeap2
import Derived.MapKept
import Derived.Maps.Own
import Derived.Maps.OwnOps
import Derived.Maps.OwnSet
import Derived.Maps.RangeWalk
set_option linter.unusedVariables false
set_option linter.unusedSimpArgs false
namespace Go.Proofs.Ytfohaijdhgcneaa
open Go Go.RowKit Go.MapKept

section
variable {α : Type}
/-- What stands at a key. -/
def aget : List (Int × α) → Int → Option α
  | [], _ => none
  | p :: l, k => if p.1 = k then some p.2 else aget l k
/-- Laid at a key. -/
def aset : List (Int × α) → Int → α → List (Int × α)
  | [], k, v => [(k, v)]
  | p :: l, k, v => if p.1 = k then (k, v) :: l else p :: aset l k v
/-- Struck at a key. -/
def adel : List (Int × α) → Int → List (Int × α)
  | [], _ => []
  | p :: l, k => if p.1 = k then l else p :: adel l k

theorem aget_set (l : List (Int × α)) (k j : Int) (v : α) : aget (aset l k v) j = if k = j then some v else aget l j := by
  induction l with
  | nil => simp [aset, aget]
  | cons p l ih =>
    simp only [aset]
    split
    · rename_i h
      simp only [aget]
      split
      · rfl
      · rename_i h2
        rw [if_neg (by rw [h]; exact h2)]
    · rename_i h
      simp only [aget, ih]
      split
      · rename_i h2
        rw [if_neg (by rintro rfl; exact h h2)]
      · rfl
theorem aget_none {l : List (Int × α)} {k : Int} : aget l k = none ↔ k ∉ l.map (·.1) := by
  induction l with
  | nil => simp [aget]
  | cons p l ih =>
    simp only [aget, List.map_cons, List.mem_cons, not_or]
    split
    · rename_i h; simp [h]
    · rename_i h
      rw [ih]
      exact ⟨fun h2 => ⟨fun e => h e.symm, h2⟩, fun h2 => h2.2⟩
theorem aget_mem {l : List (Int × α)} {k : Int} {v : α} (h : aget l k = some v) : (k, v) ∈ l := by
  induction l with
  | nil => simp [aget] at h
  | cons p l ih =>
    simp only [aget] at h
    split at h
    · rename_i e
      simp only [Option.some.injEq] at h
      subst e h
      simp
    · exact List.mem_cons_of_mem _ (ih h)
theorem aget_of_mem {l : List (Int × α)} (hn : (l.map (·.1)).Nodup) {k : Int} {v : α} (h : (k, v) ∈ l) : aget l k = some v := by
  induction l with
  | nil => simp at h
  | cons p l ih =>
    simp only [List.map_cons, List.nodup_cons] at hn
    simp only [aget]
    rcases List.mem_cons.1 h with e | h
    · subst e; simp
    · rw [if_neg]
      · exact ih hn.2 h
      · intro e
        exact hn.1 (e ▸ List.mem_map.2 ⟨_, h, rfl⟩)
theorem adel_keys (l : List (Int × α)) (k : Int) : (adel l k).map (·.1) = (l.map (·.1)).erase k := by
  induction l with
  | nil => rfl
  | cons p l ih =>
    simp only [adel, List.map_cons]
    split
    · rename_i h; subst h; simp
    · rename_i h
      rw [List.erase_cons_tail (by simpa using h)]
      simp [ih]
theorem adel_sub (l : List (Int × α)) (k : Int) : (adel l k).Sublist l := by
  induction l with
  | nil => exact List.Sublist.refl _
  | cons p l ih =>
    simp only [adel]
    split
    · exact List.sublist_cons_self _ _
    · exact ih.cons_cons _
theorem aget_del {l : List (Int × α)} (hn : (l.map (·.1)).Nodup) (k j : Int) : aget (adel l k) j = if k = j then none else aget l j := by
  induction l with
  | nil => simp [adel, aget]
  | cons p l ih =>
    simp only [List.map_cons, List.nodup_cons] at hn
    simp only [adel]
    split
    · rename_i h
      split
      · rename_i h2
        rw [aget_none, ← h2, ← h]
        exact hn.1
      · rename_i h2
        simp only [aget]
        rw [if_neg (by rw [h]; exact h2)]
    · rename_i h
      simp only [aget, ih hn.2]
      split
      · rename_i h2
        rw [if_neg (by rintro rfl; exact h h2)]
      · rfl
theorem aset_keys (l : List (Int × α)) (k : Int) (v : α) : (aset l k v).map (·.1) = if k ∈ l.map (·.1) then l.map (·.1) else l.map (·.1) ++ [k] := by
  induction l with
  | nil => simp [aset]
  | cons p l ih =>
    simp only [aset]
    split
    · rename_i h; simp [h]
    · rename_i h
      simp only [List.map_cons, ih, List.mem_cons]
      by_cases h2 : k ∈ l.map (·.1)
      · rw [if_pos h2, if_pos (.inr h2)]
      · rw [if_neg h2, if_neg (by simp only [not_or]; exact ⟨fun e => h e.symm, h2⟩)]
        rfl
theorem aset_nodup {l : List (Int × α)} (hn : (l.map (·.1)).Nodup) (k : Int) (v : α) : ((aset l k v).map (·.1)).Nodup := by
  rw [aset_keys]
  split
  · exact hn
  · rename_i h
    exact List.nodup_append.2 ⟨hn, by simp, fun a ha b hb => by simp at hb; subst hb; exact fun e => h (e ▸ ha)⟩
theorem adel_nodup {l : List (Int × α)} (hn : (l.map (·.1)).Nodup) (k : Int) : ((adel l k).map (·.1)).Nodup := ((adel_sub l k).map _).nodup hn
theorem aset_len (l : List (Int × α)) (k : Int) (v : α) : (aset l k v).length = if aget l k = none then l.length + 1 else l.length := by
  have h := congrArg List.length (aset_keys l k v)
  rw [List.length_map] at h
  rw [h]
  by_cases hk : k ∈ l.map (·.1)
  · rw [if_pos hk, if_neg (by rw [aget_none]; simpa using hk)]
    simp
  · rw [if_neg hk, if_pos (aget_none.2 hk)]
    simp
end

/-- The entries, as they stand in the map's block. -/
def kv (p : Int × Value) : Value × Value := (.int .i64 p.1, p.2)
/-- Block b: a map with these entries (int keys). -/
def IMap (w : World) (b : Nat) (l : List (Int × Value)) : Prop :=
  ∃ es clock, w.heap[b]? = some (.map es clock) ∧ Stamped es clock ∧ es.toList.map (fun e => (e.key, e.val)) = l.map kv

theorem IMap.lt {w : World} {b : Nat} {l : List (Int × Value)} (h : IMap w b l) : b < w.heap.size := by
  obtain ⟨es, c, hb, _⟩ := h
  exact lt_of_block hb
theorem IMap.same {w w' : World} {b : Nat} {l : List (Int × Value)} (h : IMap w b l) (hb : w'.heap[b]? = w.heap[b]?) : IMap w' b l := by
  obtain ⟨es, c, h1, h2, h3⟩ := h
  exact ⟨es, c, hb.trans h1, h2, h3⟩
theorem IMap.stay {S : Nat → Prop} {w w' : World} {b : Nat} {l : List (Int × Value)} (h : IMap w b l) (hs : Stay S w w') (hn : ¬ S b) : IMap w' b l := h.same (hs.block b h.lt hn)
theorem IMap.only {w w' : World} {b : Nat} {l : List (Int × Value)} (h : IMap w b l) (hs : Only w w') : IMap w' b l := h.stay hs id
theorem IMap.alloc {w : World} {b : Nat} {l : List (Int × Value)} (h : IMap w b l) (o : Obj) : IMap (w.alloc o) b l := h.same (Below.heap_alloc w o b h.lt)
theorem IMap.set {w : World} {b : Nat} {l : List (Int × Value)} (h : IMap w b l) {a : Addr} (ha : a.block ≠ b) (v : Value) : IMap (w.setCell a v) b l := h.same (Below.heap_setCell w a v b (fun e => ha e.symm))
theorem IMap.new (w : World) : IMap (w.alloc (.map #[] 0)) w.heap.size [] := ⟨#[], 0, (heap_alloc w _).1, stamped_empty 0, rfl⟩
theorem IMap.newAt (w : World) (n : Nat) (hn : n = w.heap.size) : IMap (w.alloc (.map #[] 0)) n [] := by subst hn; exact IMap.new w
theorem IMap.nodup {w : World} {b : Nat} {l : List (Int × Value)} (h : IMap w b l) : (l.map (·.1)).Nodup := by
  obtain ⟨es, c, hb, hs, hl⟩ := h
  have h1 := hs.2.2
  have e : es.toList.map (·.key) = l.map (fun p => Value.int .i64 p.1) := by
    have := congrArg (List.map Prod.fst) hl
    simpa [List.map_map, kv, Function.comp_def] using this
  rw [e] at h1
  have h2 : ((l.map (·.1)).map (fun x => Value.int .i64 x)).Nodup := by simpa [List.map_map, Function.comp_def] using h1
  exact (List.pairwise_map.1 h2).imp (fun hne e => hne (by rw [e]))
theorem IMap.inj_len {w : World} {b : Nat} {l : List (Int × Value)} (h : IMap w b l) : ∃ es c, w.heap[b]? = some (.map es c) ∧ es.size = l.length := by
  obtain ⟨es, c, hb, hs, hl⟩ := h
  exact ⟨es, c, hb, by simpa using congrArg List.length hl⟩
theorem IMap.ne_blk {w : World} {b k : Nat} {l : List (Int × Value)} {T : TypeId} {vs : List Value} (h : IMap w b l) (hb : Blk w k T vs) : b ≠ k := by
  rintro rfl
  obtain ⟨es, c, h1, _⟩ := h
  unfold Blk at hb
  rw [h1] at hb
  cases hb

theorem findNow_get (k : Int) : ∀ (es : List MapEntry) (l : List (Int × Value)) (i : Nat), es.map (fun e => (e.key, e.val)) = l.map kv →
    (Instr.findNow (.int .i64) (.int .i64 k) es i = some none ∧ aget l k = none ∧ (∀ x ∈ es, x.key ≠ .int .i64 k)) ∨
    ∃ j e, Instr.findNow (.int .i64) (.int .i64 k) es i = some (some (i + j, e.val)) ∧ es[j]? = some e ∧ e.key = .int .i64 k ∧ aget l k = some e.val ∧
      (es.eraseIdx j).map (fun e => (e.key, e.val)) = (adel l k).map kv ∧ ∀ v, (es.set j { e with key := .int .i64 k, val := v }).map (fun e => (e.key, e.val)) = (aset l k v).map kv
  | [], [], i, _ => .inl ⟨rfl, rfl, by simp⟩
  | [], _ :: _, _, h => by simp at h
  | _ :: _, [], _, h => by simp at h
  | e :: es, p :: l, i, h => by
    simp only [List.map_cons, List.cons.injEq] at h
    obtain ⟨h1, h2⟩ := h
    obtain ⟨p1, p2⟩ := p
    simp only [kv, Prod.mk.injEq] at h1
    obtain ⟨hk, hv⟩ := h1
    by_cases hpk : p1 = k
    · subst hpk
      refine .inr ⟨0, e, by simp [Instr.findNow, hk, Instr.sameNow], rfl, hk, by simp [aget, hv], by simp [adel, h2], fun v => by simp [aset, h2, kv]⟩
    · have hkp : ¬ k = p1 := fun e => hpk e.symm
      have hf : Instr.findNow (.int .i64) (.int .i64 k) (e :: es) i = Instr.findNow (.int .i64) (.int .i64 k) es (i + 1) := by
        simp only [Instr.findNow, hk, Instr.sameNow, if_true]
        have : (k == p1) = false := by simpa using hkp
        rw [this]
      rcases findNow_get k es l (i + 1) h2 with ⟨r1, r2, r3⟩ | ⟨j, e', r1, r2, r3, r4, r5, r6⟩
      · refine .inl ⟨by rw [hf, r1], by simp [aget, hpk, r2], fun x hx => ?_⟩
        rcases List.mem_cons.1 hx with rfl | hx
        · rw [hk]; simp only [ne_eq, Value.int.injEq, true_and]; exact hpk
        · exact r3 x hx
      · refine .inr ⟨j + 1, e', by rw [hf, r1]; simp only [Option.some.injEq, Prod.mk.injEq, and_true]; omega, by simpa using r2, r3, by simp [aget, hpk, r4], by simp [adel, hpk, r5, kv, hk, hv], fun v => by simp [aset, hpk, r6 v, kv, hk, hv]⟩

section
variable {P : Program} {w : World} {b : Nat} {l : List (Int × Value)} {t k e : TypeId}

theorem IMap.keys_int {es : Array MapEntry} {l : List (Int × Value)} (hl : es.toList.map (fun e => (e.key, e.val)) = l.map kv) : ∀ x ∈ es.toList, IsKey (.int .i64) x.key := by
  intro x hx
  have : (x.key, x.val) ∈ l.map kv := by rw [← hl]; exact List.mem_map.2 ⟨x, hx, rfl⟩
  obtain ⟨p, _, hp⟩ := List.mem_map.1 this
  simp only [kv, Prod.mk.injEq] at hp
  rw [← hp.1]
  exact rfl

theorem IMap.lookup (h : IMap w b l) (ht : P.underlying t = some (.map k e)) (hk : P.underlying k = some (.int .i64)) {z : Value} (hz : (zeroValue e).run P w = .ok z w) (x : Int) (ok : Bool) :
    (Instr.lookup t (.map (some b)) (.int .i64 x) ok).run P w = .ok (if ok then .tuple #[(aget l x).getD z, .bool (aget l x).isSome] else (aget l x).getD z) w := by
  obtain ⟨es, c, hb, hs, hl⟩ := h
  have hky : IsKey (.int .i64) (.int .i64 x) := rfl
  rcases findNow_get x es.toList l 0 hl with ⟨r1, r2, _⟩ | ⟨j, e', r1, _, _, r4, _⟩
  · rw [r2]
    cases ok <;> simp [Instr.lookup, run_underlying ht, MapKept.run_getObj_map hb, run_checkKey hk hky, run_findKey hk r1, hz, Result.andThen]
  · rw [r4]
    cases ok <;> simp [Instr.lookup, run_underlying ht, MapKept.run_getObj_map hb, run_checkKey hk hky, run_findKey hk r1, Result.andThen]

theorem IMap.update (h : IMap w b l) (ht : P.underlying t = some (.map k e)) (hk : P.underlying k = some (.int .i64)) (x : Int) (v : Value) :
    ∃ w', (Instr.mapUpdate t (.map (some b)) (.int .i64 x) v).run P w = .ok () w' ∧ IMap w' b (aset l x v) ∧ Stay (fun i => i = b) w w' ∧ w'.heap.size = w.heap.size := by
  obtain ⟨es, c, hb, hs, hl⟩ := h
  have hky : IsKey (.int .i64) (.int .i64 x) := rfl
  have hst : ∀ o, Stay (fun i => i = b) w { w with heap := w.heap.setIfInBounds b o } := fun o =>
    ⟨rfl, rfl, rfl, by simp, fun i hi hn => (heap_set hb).2 i hn⟩
  rcases findNow_get x es.toList l 0 hl with ⟨r1, r2, r3⟩ | ⟨j, e', r1, r2, r3, r4, _, r6⟩
  · refine ⟨_, by simp [Instr.mapUpdate, run_underlying ht, MapKept.run_getObj_map hb, run_checkKey hk hky, run_findKey hk r1, MapKept.run_setObj_map _ hb, Result.andThen]; rfl, ⟨_, _, (heap_set hb).1, stamped_push hs r3, ?_⟩, hst _, by simp⟩
    have : aset l x v = l ++ [(x, v)] := by
      clear hl r1 r3
      induction l with
      | nil => rfl
      | cons p l ih =>
        simp only [aget] at r2
        split at r2
        · cases r2
        · rename_i hp
          simp only [aset, if_neg hp, List.cons_append, ih r2]
    rw [this]
    simp [hl, kv]
  · have hj : es[j]? = some e' := by simpa using r2
    have hkey : ∀ e'', es[j]? = some e'' → ({ e'' with key := .int .i64 x, val := v } : MapEntry).key = e''.key := fun e'' he' => by rw [hj] at he'; cases he'; exact r3.symm
    refine ⟨{ w with heap := w.heap.setIfInBounds b (.map (es.modify j fun e => { e with key := .int .i64 x, val := v }) c) }, by simp [Instr.mapUpdate, run_underlying ht, MapKept.run_getObj_map hb, run_checkKey hk hky, run_findKey hk r1, hj, r3, run_keyThatStays hky, MapKept.run_setObj_map _ hb, Result.andThen], ⟨_, _, (heap_set hb).1, stamped_modify hs j (fun e => { e with key := .int .i64 x, val := v }) (fun _ _ => rfl) (fun e'' _ he' => hkey e'' he'), ?_⟩, hst _, by simp⟩
    rw [← r6 v]
    congr 1
    apply List.ext_getElem?
    intro i
    simp only [Array.getElem?_toList, Array.getElem?_modify, List.getElem?_set]
    split
    · rename_i e0
      subst e0
      obtain ⟨hlt, he⟩ := Array.getElem?_eq_some_iff.1 hj
      simp [hlt, he]
    · rfl

theorem IMap.del (h : IMap w b l) (ht : P.underlying t = some (.map k e)) (hk : P.underlying k = some (.int .i64)) (x : Int) (ty : TypeId) :
    ∃ w', (Builtin.delete_ #[t, k] ty #[.map (some b), .int .i64 x]).run P w = .ok (.tuple #[]) w' ∧ IMap w' b (adel l x) ∧ Stay (fun i => i = b) w w' ∧ w'.heap.size = w.heap.size := by
  obtain ⟨es, c, hb, hs, hl⟩ := h
  have hky : IsKey (.int .i64) (.int .i64 x) := rfl
  have hst : ∀ o, Stay (fun i => i = b) w { w with heap := w.heap.setIfInBounds b o } := fun o =>
    ⟨rfl, rfl, rfl, by simp, fun i hi hn => (heap_set hb).2 i hn⟩
  rcases findNow_get x es.toList l 0 hl with ⟨r1, r2, r3⟩ | ⟨j, e', r1, r2, r3, r4, r5, _⟩
  · refine ⟨_, by simp [Builtin.delete_, run_underlying ht, MapKept.run_getObj_map hb, run_checkKey hk hky, run_findKey hk r1, MapKept.run_setObj_map _ hb, Result.andThen], ⟨_, _, (heap_set hb).1, hs, ?_⟩, hst _, by simp⟩
    have : adel l x = l := by
      clear hl r1 r3
      induction l with
      | nil => rfl
      | cons p l ih =>
        simp only [aget] at r2
        split at r2
        · cases r2
        · rename_i hp
          simp only [adel, if_neg hp, ih r2]
    rw [this]
    exact hl
  · have hj : j < es.size := by
      have : es[j]? = some e' := by simpa using r2
      exact (Array.getElem?_eq_some_iff.1 this).1
    refine ⟨_, by simp [Builtin.delete_, run_underlying ht, MapKept.run_getObj_map hb, run_checkKey hk hky, run_findKey hk r1, MapKept.run_setObj_map _ hb, Result.andThen]; rfl, ⟨_, _, (heap_set hb).1, stamped_erase hs _, ?_⟩, hst _, by simp⟩
    rw [← r5]
    congr 1
    unfold Array.eraseIdxIfInBounds
    rw [dif_pos hj]
    simp

theorem IMap.len (h : IMap w b l) (ht : P.underlying t = some (.map k e)) (ty : TypeId) :
    (Builtin.len_ #[t] ty #[.map (some b)]).run P w = .ok (.int .i64 (l.length : Nat)) w := by
  obtain ⟨es, c, hb, hs, hl⟩ := h
  have hn : es.size = l.length := by simpa using congrArg List.length hl
  simp [Builtin.len_, run_underlying ht, MapKept.run_getObj_map hb, Result.andThen, hn, goInt]
end

/-! ### At the operation -/
section
variable {P : Program} (w : World) {ops : Array Oper} {rest : List Oper} {o : Oper} {a : Act} {Q : Exit → Act → World → Prop}
theorem wpList_lookup_imap (hg : o.guard = none) (m x : Operand) (t : TypeId) (hop : o.op = Op.lookup t m x false) (k e : TypeId) (ht : P.underlying t = some (.map k e)) (hk : P.underlying k = some (.int .i64))
    (z : Value) (hz : (zeroValue e).run P w = .ok z w) (b : Nat) (l : List (Int × Value)) (hm : a.eval m = .map (some b)) (h : IMap w b l) (key : Int) (hx : a.eval x = .int .i64 key)
    (hK : wpList P ops Q rest (a.put o.dst ((aget l key).getD z)) w) : wpList P ops Q (o :: rest) a w := by
  refine wpList_plain hg fun K' hK' => ?_
  have hrun := h.lookup ht hk hz key false
  unfold Oper.wp
  simp [execOp, hop, hm, hx, hrun, Result.andThen]
  exact hK' _ _ hK
theorem wpList_lookup_imap_ok (hg : o.guard = none) (m x : Operand) (t : TypeId) (hop : o.op = Op.lookup t m x true) (k e : TypeId) (ht : P.underlying t = some (.map k e)) (hk : P.underlying k = some (.int .i64))
    (z : Value) (hz : (zeroValue e).run P w = .ok z w) (b : Nat) (l : List (Int × Value)) (hm : a.eval m = .map (some b)) (h : IMap w b l) (key : Int) (hx : a.eval x = .int .i64 key)
    (hK : wpList P ops Q rest (a.put o.dst (.tuple #[(aget l key).getD z, .bool (aget l key).isSome])) w) : wpList P ops Q (o :: rest) a w := by
  refine wpList_plain hg fun K' hK' => ?_
  have hrun := h.lookup ht hk hz key true
  unfold Oper.wp
  simp [execOp, hop, hm, hx, hrun, Result.andThen]
  exact hK' _ _ hK
theorem wpList_update_imap (hg : o.guard = none) (m x v : Operand) (t : TypeId) (hop : o.op = Op.mapUpdate t m x v) (k e : TypeId) (ht : P.underlying t = some (.map k e)) (hk : P.underlying k = some (.int .i64))
    (b : Nat) (l : List (Int × Value)) (hm : a.eval m = .map (some b)) (h : IMap w b l) (key : Int) (val : Value) (hx : a.eval x = .int .i64 key) (hv : a.eval v = val)
    (hK : ∀ w', IMap w' b (aset l key val) → Stay (fun i => i = b) w w' → w'.heap.size = w.heap.size → wpList P ops Q rest (a.put o.dst undef) w') : wpList P ops Q (o :: rest) a w := by
  refine wpList_plain hg fun K' hK' => ?_
  obtain ⟨w', hrun, r1, r2, r3⟩ := h.update ht hk key val
  unfold Oper.wp
  simp [execOp, hop, hm, hx, hv, hrun, Result.andThen]
  exact hK' _ _ (hK w' r1 r2 r3)
theorem wpList_delete_imap (hg : o.guard = none) (m x : Operand) (t k : TypeId) (hop : o.op = Op.call { callee := Callee.builtin Builtin.delete, args := #[m, x], argTypes := #[t, k] }) (e : TypeId) (ht : P.underlying t = some (.map k e)) (hk : P.underlying k = some (.int .i64))
    (b : Nat) (l : List (Int × Value)) (hm : a.eval m = .map (some b)) (h : IMap w b l) (key : Int) (hx : a.eval x = .int .i64 key)
    (hK : ∀ w', IMap w' b (adel l key) → Stay (fun i => i = b) w w' → w'.heap.size = w.heap.size → wpList P ops Q rest (a.put o.dst (.tuple #[])) w') : wpList P ops Q (o :: rest) a w := by
  refine wpList_plain hg fun K' hK' => ?_
  obtain ⟨w', hrun, r1, r2, r3⟩ := h.del ht hk key o.type
  unfold Oper.wp
  simp [execOp, hop, resolve, invoke, builtin, hm, hx, hrun, Result.andThen]
  exact hK' _ _ (hK w' r1 r2 r3)
theorem wpList_len_imap (hg : o.guard = none) (m : Operand) (t : TypeId) (hop : o.op = Op.call { callee := Callee.builtin Builtin.len, args := #[m], argTypes := #[t] }) (k e : TypeId) (ht : P.underlying t = some (.map k e))
    (b : Nat) (l : List (Int × Value)) (hm : a.eval m = .map (some b)) (h : IMap w b l)
    (hK : wpList P ops Q rest (a.put o.dst (.int .i64 (l.length : Nat))) w) : wpList P ops Q (o :: rest) a w := by
  refine wpList_plain hg fun K' hK' => ?_
  have hrun := h.len ht o.type
  unfold Oper.wp
  simp [execOp, hop, resolve, invoke, builtin, hm, hrun, Result.andThen]
  exact hK' _ _ hK
end

/-! ### Entries of one kind -/
section
variable {α : Type} (f : α → Value)
def vmap (l : List (Int × α)) : List (Int × Value) := l.map fun p => (p.1, f p.2)
theorem aget_vmap (l : List (Int × α)) (p : Int) : aget (vmap f l) p = (aget l p).map f := by
  induction l with
  | nil => rfl
  | cons x l ih =>
    simp only [vmap, List.map_cons, aget] at *
    split
    · rfl
    · exact ih
theorem aset_vmap (l : List (Int × α)) (p : Int) (v : α) : aset (vmap f l) p (f v) = vmap f (aset l p v) := by
  induction l with
  | nil => rfl
  | cons x l ih =>
    simp only [vmap, List.map_cons, aset] at *
    split
    · rfl
    · rw [ih]; rfl
theorem adel_vmap (l : List (Int × α)) (p : Int) : adel (vmap f l) p = vmap f (adel l p) := by
  induction l with
  | nil => rfl
  | cons x l ih =>
    simp only [vmap, List.map_cons, adel] at *
    split
    · rfl
    · rw [ih]; rfl
theorem vmap_keys (l : List (Int × α)) : (vmap f l).map (·.1) = l.map (·.1) := by simp [vmap, List.map_map, Function.comp_def]
theorem vmap_length (l : List (Int × α)) : (vmap f l).length = l.length := by simp [vmap]
variable {f}
theorem IMap.keys {w : World} {b : Nat} {l : List (Int × α)} (h : IMap w b (vmap f l)) : (l.map (·.1)).Nodup := by rw [← vmap_keys f]; exact h.nodup
variable {P : Program} (w : World) {ops : Array Oper} {rest : List Oper} {o : Oper} {a : Act} {Q : Exit → Act → World → Prop}
theorem wpList_lookup_v (hg : o.guard = none) (m x : Operand) (t : TypeId) (hop : o.op = Op.lookup t m x false) (k e : TypeId) (ht : P.underlying t = some (.map k e)) (hk : P.underlying k = some (.int .i64))
    (z : Value) (hz : (zeroValue e).run P w = .ok z w) (b : Nat) (l : List (Int × α)) (hm : a.eval m = .map (some b)) (h : IMap w b (vmap f l)) (key : Int) (hx : a.eval x = .int .i64 key) (c : Value) (hc : ((aget l key).map f).getD z = c)
    (hK : wpList P ops Q rest (a.put o.dst c) w) : wpList P ops Q (o :: rest) a w :=
  wpList_lookup_imap w hg m x t hop k e ht hk z hz b _ hm h key hx (by rw [aget_vmap, hc]; exact hK)
theorem wpList_lookup_v_ok (hg : o.guard = none) (m x : Operand) (t : TypeId) (hop : o.op = Op.lookup t m x true) (k e : TypeId) (ht : P.underlying t = some (.map k e)) (hk : P.underlying k = some (.int .i64))
    (z : Value) (hz : (zeroValue e).run P w = .ok z w) (b : Nat) (l : List (Int × α)) (hm : a.eval m = .map (some b)) (h : IMap w b (vmap f l)) (key : Int) (hx : a.eval x = .int .i64 key) (c : Value) (hc : ((aget l key).map f).getD z = c) (ok : Bool) (hok : (aget l key).isSome = ok)
    (hK : wpList P ops Q rest (a.put o.dst (.tuple #[c, .bool ok])) w) : wpList P ops Q (o :: rest) a w :=
  wpList_lookup_imap_ok w hg m x t hop k e ht hk z hz b _ hm h key hx (by rw [aget_vmap, hc, Option.isSome_map, hok]; exact hK)
theorem wpList_update_v (hg : o.guard = none) (m x v : Operand) (t : TypeId) (hop : o.op = Op.mapUpdate t m x v) (k e : TypeId) (ht : P.underlying t = some (.map k e)) (hk : P.underlying k = some (.int .i64))
    (b : Nat) (l : List (Int × α)) (hm : a.eval m = .map (some b)) (h : IMap w b (vmap f l)) (key : Int) (val : α) (hx : a.eval x = .int .i64 key) (hv : a.eval v = f val)
    (hK : ∀ w', IMap w' b (vmap f (aset l key val)) → Stay (fun i => i = b) w w' → w'.heap.size = w.heap.size → wpList P ops Q rest (a.put o.dst undef) w') : wpList P ops Q (o :: rest) a w :=
  wpList_update_imap w hg m x v t hop k e ht hk b _ hm h key _ hx hv (fun w' h1 h2 h3 => hK w' (by rw [aset_vmap] at h1; exact h1) h2 h3)
theorem wpList_delete_v (hg : o.guard = none) (m x : Operand) (t k : TypeId) (hop : o.op = Op.call { callee := Callee.builtin Builtin.delete, args := #[m, x], argTypes := #[t, k] }) (e : TypeId) (ht : P.underlying t = some (.map k e)) (hk : P.underlying k = some (.int .i64))
    (b : Nat) (l : List (Int × α)) (hm : a.eval m = .map (some b)) (h : IMap w b (vmap f l)) (key : Int) (hx : a.eval x = .int .i64 key)
    (hK : ∀ w', IMap w' b (vmap f (adel l key)) → Stay (fun i => i = b) w w' → w'.heap.size = w.heap.size → wpList P ops Q rest (a.put o.dst (.tuple #[])) w') : wpList P ops Q (o :: rest) a w :=
  wpList_delete_imap w hg m x t k hop e ht hk b _ hm h key hx (fun w' h1 h2 h3 => hK w' (by rw [adel_vmap] at h1; exact h1) h2 h3)
theorem wpList_len_v (hg : o.guard = none) (m : Operand) (t : TypeId) (hop : o.op = Op.call { callee := Callee.builtin Builtin.len, args := #[m], argTypes := #[t] }) (k e : TypeId) (ht : P.underlying t = some (.map k e))
    (b : Nat) (l : List (Int × α)) (hm : a.eval m = .map (some b)) (h : IMap w b (vmap f l)) (n : Nat) (hn : l.length = n)
    (hK : wpList P ops Q rest (a.put o.dst (.int .i64 (n : Nat))) w) : wpList P ops Q (o :: rest) a w :=
  wpList_len_imap w hg m t hop k e ht b _ hm h (by rw [vmap_length, hn]; exact hK)
theorem step_delete_v {E : Prop} {K : Act → World → Prop} (hg : o.guard = none) (m x : Operand) (t k : TypeId) (hop : o.op = Op.call { callee := Callee.builtin Builtin.delete, args := #[m, x], argTypes := #[t, k] }) (e : TypeId) (ht : P.underlying t = some (.map k e)) (hk : P.underlying k = some (.int .i64))
    (b : Nat) (l : List (Int × α)) (hm : a.eval m = .map (some b)) (h : IMap w b (vmap f l)) (key : Int) (hx : a.eval x = .int .i64 key)
    (hK : ∀ w', IMap w' b (vmap f (adel l key)) → Stay (fun i => i = b) w w' → w'.heap.size = w.heap.size → K (a.put o.dst (.tuple #[])) w') : if Region.wanted o (yielded ops a.tmps) = true then Oper.wp P o a w K Q else E := by
  have hw : Region.wanted o (yielded ops a.tmps) = true := by simp [Region.wanted, hg]
  rw [if_pos hw]
  obtain ⟨w', hrun, r1, r2, r3⟩ := IMap.del h ht hk key o.type
  rw [adel_vmap] at r1
  unfold Oper.wp
  simp [execOp, hop, resolve, invoke, builtin, hm, hx, hrun, Result.andThen]
  exact hK w' r1 r2 r3
theorem step_update_v {E : Prop} {K : Act → World → Prop} (hg : o.guard = none) (m x v : Operand) (t : TypeId) (hop : o.op = Op.mapUpdate t m x v) (k e : TypeId) (ht : P.underlying t = some (.map k e)) (hk : P.underlying k = some (.int .i64))
    (b : Nat) (l : List (Int × α)) (hm : a.eval m = .map (some b)) (h : IMap w b (vmap f l)) (key : Int) (val : α) (hx : a.eval x = .int .i64 key) (hv : a.eval v = f val)
    (hK : ∀ w', IMap w' b (vmap f (aset l key val)) → Stay (fun i => i = b) w w' → w'.heap.size = w.heap.size → K (a.put o.dst undef) w') : if Region.wanted o (yielded ops a.tmps) = true then Oper.wp P o a w K Q else E := by
  have hw : Region.wanted o (yielded ops a.tmps) = true := by simp [Region.wanted, hg]
  rw [if_pos hw]
  obtain ⟨w', hrun, r1, r2, r3⟩ := IMap.update h ht hk key (f val)
  rw [aset_vmap] at r1
  unfold Oper.wp
  simp [execOp, hop, hm, hx, hv, hrun, Result.andThen]
  exact hK w' r1 r2 r3
end

end Go.Proofs.Ytfohaijdhgcneaa
