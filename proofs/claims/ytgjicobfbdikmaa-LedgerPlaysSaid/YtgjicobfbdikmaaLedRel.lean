/- The inner release. -/
import Derived.Test.YtgjicobfbdikmaaLedCut
set_option linter.unusedVariables false
set_option linter.unusedSimpArgs false
namespace Go.Proofs.Ytgjicobfbdikmaa
open Go Go.RowKit

/-- What the inner release asks of a ledger. -/
structure Lg.Fit (L : Lg) : Prop where
  n : L.es.length ≤ 400
  t0 : 0 ≤ L.time
  time_le : L.time ≤ 800
  hl : ∀ t, (L.stk t).length ≤ 40
  hin : ∀ t k, k ∈ L.stk t → 0 ≤ k ∧ k < L.es.length
theorem Lg.Ok.fit {L : Lg} (h : L.Ok) : L.Fit := ⟨h.n, h.t0, h.time_le, h.hl, h.hin⟩

def RelPost (w : World) (S : Nat → Prop) (b : Nat) (L : Lg) (m : Nat) (ev cv kv : Value) (t : Int) (hb i : Nat) (e : Ending) (w' : World) : Prop :=
  e = .returned (.int .i64 ((L.stk t).getD i 0)) ∧ (∃ hs' h', LTab w' (grow S w w') b (L.cut t i) m ev cv kv hs' ∧ aget hs' t = some h' ∧ h'.b = hb) ∧ Stay S w w'

set_option maxRecDepth 100000 in
set_option maxHeartbeats 4000000 in
theorem release_in (w : World) (S : Nat → Prop) (b : Nat) (L : Lg) (m : Nat) (ev cv kv : Value) (hs : List (Int × Hd)) (t : Int) (h : Hd) (i : Nat) (hT : LTab w S b L m ev cv kv hs) (hok : L.Fit) (hg : aget hs t = some h) (hi : i < h.l.length) :
    Calls Try.prog 35 #[.pointer (some ⟨b, 0, none⟩), .pointer (some ⟨h.b, 0, none⟩), .int .i64 i] w (RelPost w S b L m ev cv kv t h.b i) := by
  have hls := hT.stk hg
  have ht0 := hok.t0
  have ht8 := hok.time_le
  have hn := hok.n
  have hl40 : h.l.length ≤ 40 := by rw [← hls]; exact hok.hl t
  obtain ⟨x, hx⟩ : ∃ x, h.l[i]? = some x := ⟨_, List.getElem?_eq_getElem hi⟩
  have hxr := hok.hin t x (by rw [hls]; exact List.mem_of_getElem? hx)
  obtain ⟨k, rfl⟩ : ∃ k : Nat, x = (k : Int) := ⟨x.toNat, by omega⟩
  have hkn : k < L.es.length := by omega
  have hgx : h.l.getD i 0 = (k : Int) := by rw [List.getD_eq_getElem?_getD, hx]; rfl
  obtain ⟨g, ce, rfl, _, _⟩ := hT.er.form (by omega)
  obtain ⟨hl, hb, hv⟩ := h
  simp only at hls hl40 hx hgx hi ⊢
  have c := hT.blk.cell
  have f := hT.blk.free
  have l := hT.blk.lt
  have hT1 := hT.tick (L.time + 1)
  have hH1 := hT1.get hg
  have H := Lib.hid (And.intro hT (And.intro hok (And.intro hg (And.intro hls (And.intro hgx (And.intro hT1 hH1))))))
  clear hT hok hg hls hx hgx hT1 hH1 hxr
  go_enter Try.func35, Try.ntmps35
  go_wp2_with fail
  refine (cut_any (w.setCell ⟨b, 1, none⟩ (.int .i64 (L.time + 1))) hb hv hl i H.out.2.2.2.2.2.2.blk H.out.2.2.2.2.2.2.row hi (by omega)).mono ?_
  rintro e w2 ⟨rfl, v2, hB2, hr2, hn2, hx2⟩
  rw [H.out.2.2.2.2.1]
  have hT2 := H.out.2.2.2.2.2.1.rowed H.out.2.2.1 hx2 hB2 hr2 hn2
  have c2 := hT2.blk.cell
  have f2 := hT2.blk.free
  have l2 := hT2.blk.lt
  simp only at c2
  have z := hT2.er.cellAt (k * 4 + 3) (by omega)
  have fz := hT2.er.frozenAt
  have hgl := (own_lt hT2.er g rfl).2
  have hgb : g ≠ b := own_ne_blk hT2.er hT2.blk (by decide) g rfl
  obtain ⟨u, hu⟩ : ∃ u, (L.es.flatMap Ent.cells)[k * 4 + 3]? = some u := ⟨_, List.getElem?_eq_getElem (by rw [ents_length]; omega)⟩
  simp only at z
  rw [hu] at z
  have hk1 : (0 : Int) ≤ (k : Int) := by omega
  have hk2 : (k : Int) < (L.es.length : Int) := by omega
  have H2 := Lib.hid (And.intro hT2 hx2)
  clear hB2 hr2 hn2 hx2 hT2 c f l
  go_wp2_with fail
  go_big_region
  go_wp2_with fail
  go_ret
  have hs3 : Stay (fun j => j = g) w2 ((w2.setCell ⟨g, k * 4 + 3, none⟩ (.int .i64 (L.time + 1))).drew) := ((Stay.refl (fun j => j = g) w2).put rfl _ _).drew
  have hx3 : Stay (fun j => j = b ∨ (Value.slice (some ⟨g, 0, none⟩) L.es.length ce).ownBlock = some j) w2 ((w2.setCell ⟨g, k * 4 + 3, none⟩ (.int .i64 (L.time + 1))).drew) := hs3.mono (fun j _ e => .inr (by rw [e]; rfl))
  have hr3 := own_only ((Stay.refl (fun _ => False) _).drew) (H2.out.1.er.stored (k * 4 + 3) (.int .i64 (L.time + 1))).1
  simp only at hr3
  rw [flat_shut L.es k (L.time + 1) hkn] at hr3
  have hT3 := H2.out.1.ents (es' := shut L.es (k : Int) (L.time + 1)) hx3 (hs3.blk H2.out.1.blk (fun e => hgb e.symm)) (by rw [shut_length]; exact hr3) (Next.refl _ _)
  have hcut : L.cut t i = { L with es := shut L.es (k : Int) (L.time + 1), time := L.time + 1, stk := fput L.stk t (hl.eraseIdx i) } := by
    unfold Lg.cut
    rw [H.out.2.2.2.1, H.out.2.2.2.2.1]
  have hsz : (w.setCell ⟨b, 1, none⟩ (.int .i64 (L.time + 1))).heap.size = w.heap.size := by simp
  have hS : Stay S w ((w2.setCell ⟨g, k * 4 + 3, none⟩ (.int .i64 (L.time + 1))).drew) := by
    refine ((Stay.put (S := S) (Stay.refl _ w) H.out.1.sb 1 (.int .i64 (L.time + 1))).trans H2.out.2 (fun j _ e => ?_)).trans hs3 (fun j _ e => by subst e; exact H.out.1.se _ rfl)
    rcases e with rfl | e
    · exact (H.out.1.get H.out.2.2.1).sb
    · exact (H.out.1.get H.out.2.2.1).sv _ e
  refine ⟨by rw [H.out.2.2.2.1, H.out.2.2.2.2.1]; rfl, ⟨aset hs t ⟨hl.eraseIdx i, hb, v2⟩, ⟨hl.eraseIdx i, hb, v2⟩, ?_, by rw [aget_set, if_pos rfl], rfl⟩, hS⟩
  rw [hcut]
  have hz2 := H2.out.2.size
  rw [hsz] at hz2
  refine hT3.wide (S' := grow S w ((w2.setCell ⟨g, k * 4 + 3, none⟩ (.int .i64 (L.time + 1))).drew)) (fun j hj => ?_) (fun j hj => hj.lt H.out.1.lt hS.size)
  rcases hj with (hj | hj) | hj
  · exact .inl hj
  · exact .inr ⟨by rw [hsz] at hj; exact hj.1, Nat.lt_of_lt_of_le hj.2 hs3.size⟩
  · exact .inr ⟨by omega, hj.2⟩

end Go.Proofs.Ytgjicobfbdikmaa
