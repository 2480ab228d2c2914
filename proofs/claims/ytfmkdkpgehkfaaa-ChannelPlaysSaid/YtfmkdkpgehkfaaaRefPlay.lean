/- play: a call on a channel and on the reference's. -/
import Derived.Test.YtfmkdkpgehkfaaaRefPark
import Derived.Test.YtfmkdkpgehkfaaaRefClose
import Derived.Test.YtfmkdkpgehkfaaaRefSmall
import Derived.Test.YtfmkdkpgehkfaaaOwn
import Derived.Deep.CutBlock
import Derived.Deep.DeepCutAuto
import Derived.Laws.StructEq
set_option linter.unusedVariables false
set_option linter.unusedSimpArgs false
namespace Go.Proofs.Ytfmkdkpgehkfaaa
open Go Go.RowKit

/-- A slice of deals does not lie in a block without a text. -/
theorem deals_off {w : World} {B k : Nat} {A : Option Addr} {cp : Nat} {l : List D} {T : TypeId} {us : List Value} (h : Sl w B A l.length cp 7 (l.flatMap D.cells)) (hb : Blk w k T us) (hu : ∀ s, Value.string s ∉ us) : Av (fun j => j = k) A l.length := fun h0 a ha hx => by
  obtain ⟨b, off, e, _, hc⟩ := h.2.2.2.2 h0
  rw [e] at ha
  cases ha
  simp at hx
  subst hx
  obtain ⟨x, hxl⟩ : ∃ x, l[0]? = some x := ⟨_, List.getElem?_eq_getElem h0⟩
  have h4 : (l.flatMap D.cells)[4]? = some (.string x.v.s) := by
    cases l with
    | nil => simp at h0
    | cons a l => simp at hxl; subst hxl; simp [D.cells]
  have h5 := hc 4 _ h4
  have h6 := hb.cell (off + 4)
  rw [h6] at h5
  exact hu _ (List.mem_of_getElem? h5)
theorem stv_text (c : Ch) (A : Option Addr) (cp : Nat) (A' : Option Addr) (cp' : Nat) : ∀ s, Value.string s ∉ stv c A cp A' cp' := by simp [stv]

/-- A channel and the reference's state, beside it and beside X. -/
structure PL (w W : World) (X : Nat → Prop) (b : Nat) (ns : List Nat) (c : Ch) (d : Int) (x : Value) : Prop where
  own : Own w W b ns c d
  rd : Rd W x c
  bes : Bes (fun k => k ∈ b :: ns ∨ X k) x
theorem PL.only {w W W' : World} {X : Nat → Prop} {b : Nat} {ns : List Nat} {c : Ch} {d : Int} {x : Value} (h : PL w W X b ns c d x) (ho : Only W W') : PL w W' X b ns c d x := ⟨h.own.step ho, h.rd.only ho, h.bes⟩
def PMid (w W : World) (X : Nat → Prop) (b : Nat) (ns : List Nat) (d : Int) (wc : World) (b' : Nat) (A : Option Addr) (cp : Nat) (A' : Option Addr) (cp' : Nat) (c' : Ch) : Prop :=
  ∃ (ns' : List Nat), Own w wc b' ns' c' (d + 1) ∧ Rd wc (.agg (stv c' A cp A' cp').toArray) c' ∧ Bes (fun k => (k ∈ b' :: ns' ∨ X k) ∨ (k = W.heap.size ∨ k = W.heap.size + 2)) (.agg (stv c' A cp A' cp').toArray) ∧
    Blk wc W.heap.size 36 (stv c' A cp A' cp') ∧ Blk wc (W.heap.size + 2) 36 zst ∧ Stay (· ∈ b :: ns) W wc ∧ (∀ k ∈ b' :: ns', k ∈ b :: ns ∨ W.heap.size + 3 ≤ k)
theorem PMid.mk {w W W1 w3 w4 wc : World} {X : Nat → Prop} {b : Nat} {ns ns3 : List Nat} {c c' : Ch} {d d' : Int} {A : Option Addr} {cp : Nat} {A' : Option Addr} {cp' : Nat} (h : Own w W b ns c d) (hO1 : Only W W1) (h1 : W1.heap.size = W.heap.size + 3) (hs : Stay (· ∈ b :: ns) W1 w3) (hO4 : Only w3 w4)
    (hT : Own w w3 b ns3 c' d') (hd : d' ≤ d + 1) (hns : ∀ k ∈ ns3, k ∈ ns ∨ W1.heap.size ≤ k) (hy : Rd w4 (.agg (stv c' A cp A' cp').toArray) c') (hb : Bes (fun k => (k ∈ b :: ns3 ∨ X k) ∨ (k = W.heap.size ∨ k = W.heap.size + 2)) (.agg (stv c' A cp A' cp').toArray))
    (hP : Stay (fun k => k = W.heap.size) w4 wc) (h4 : Blk wc W.heap.size 36 (stv c' A cp A' cp')) (h7 : Blk w4 (W.heap.size + 2) 36 zst) : PMid w W X b ns d wc b A cp A' cp' c' := by
  have hlt : ∀ k ∈ b :: ns, k < W.heap.size := fun k hk => h.lies.lt k hk
  have hS' : ∀ k ∈ b :: ns3, k ∈ b :: ns ∨ W.heap.size + 3 ≤ k := fun k hk => by
    rcases List.mem_cons.1 hk with rfl | hk
    · exact .inl (List.mem_cons_self ..)
    · rcases hns k hk with h | h
      · exact .inl (List.mem_cons_of_mem _ h)
      · exact .inr (by omega)
  have hw := h.only.size
  refine ⟨ns3, ((hT.more hd).step hO4).aside hP (fun k hk e => ?_) (fun k hk => by omega), hy.stay hP (hb.sub (fun k hk => .inr (.inl hk))), hb, h4, hP.blk h7 (by omega), ?_, hS'⟩
  · rcases hS' k hk with h | h
    · have := hlt k h; omega
    · omega
  · exact (((hO1.mono (fun _ _ h => h.elim)).trans (hs.trans hO4 (fun _ _ h => h.elim)) (fun _ _ h => h))).trans hP (fun i hi e => by omega)

set_option maxRecDepth 100000 in
set_option maxHeartbeats 16000000 in
theorem play_any {w W : World} {X : Nat → Prop} {b : Nat} {ns : List Nat} {c : Ch} {d : Int} {x : Value} (h : PL w W X b ns c d x) (hX : ∀ k, X k → k < W.heap.size) (hd : d + 1 ≤ 1000000) (o : Op1) (hos : o.v.s.size ≤ 9223372036854775807) :
    Calls Try.prog 24 #[.pointer (some ⟨b, 0, none⟩), x, o.val] W fun e w' => ∃ b' ns' c' y, e = .returned (.tuple #[.pointer (some ⟨b', 0, none⟩), y, .bool true]) ∧ PL w w' X b' ns' c' (d + 1) y ∧ Stay (· ∈ b :: ns) W w' ∧ (∀ k ∈ b' :: ns', k ∈ b :: ns ∨ W.heap.size ≤ k) := by
  have H := Lib.hid (And.intro h.own h.rd)
  have HB0 : Bes (fun k => (k ∈ b :: ns ∨ X k) ∨ W.heap.size ≤ k) x := h.bes.or (h.rd.new (fun _ h => h))
  obtain ⟨A, cp, A', cp', rfl, s1, s2⟩ := h.rd
  have HB := Lib.hid HB0
  have HX := Lib.hid hX
  have hok := h.own.ok
  have d0 := hok.drop0
  have d1 := hok.drop1
  have d2 := hok.ws
  have d3 : c.buf.length ≤ 200 := by have := hok.buf; have := hok.cap1; omega
  obtain ⟨W1, hW1⟩ : ∃ W1 : World, W1 = ((W.alloc (.cells (stv c A cp A' cp').toArray 36)).alloc (.cells o.cells.toArray 31)).alloc (.cells zst.toArray 36) := ⟨_, rfl⟩
  have hO1 : Only W W1 := by rw [hW1]; exact (((Stay.refl _ W).alloc _).alloc _).alloc _
  have hz1 : W1.heap.size = W.heap.size + 3 := by rw [hW1]; simp
  have hB4 : Blk W1 W.heap.size 36 (stv c A cp A' cp') := by rw [hW1]; exact ((Blk.newAt W (stv c A cp A' cp') 36 W.heap.size rfl).alloc _).alloc _
  have hB5 : Blk W1 (W.heap.size + 1) 31 o.cells := by rw [hW1]; exact (Blk.newAt (W.alloc (.cells (stv c A cp A' cp').toArray 36)) o.cells 31 (W.heap.size + 1) (by simp)).alloc _
  have hB7 : Blk W1 (W.heap.size + 2) 36 zst := by rw [hW1]; exact Blk.newAt ((W.alloc (.cells (stv c A cp A' cp').toArray 36)).alloc (.cells o.cells.toArray 31)) zst 36 (W.heap.size + 2) (by simp)
  have H1 := Lib.hid (And.intro hO1 (And.intro hB4 (And.intro hB5 hB7)))
  have hSn : Hid (∀ k, W.heap.size ≤ k → k < W.heap.size + 3 → ¬ k ∈ b :: ns) := fun k hk hk' hs => by have := H.out.1.lies.lt k hs; omega
  have k0 := hB5.cell
  have kl := hB5.lt
  simp only [Op1.cells] at k0
  unfold stv Op1.cells zst at hW1
  clear h hX hO1 hB4 hB5 hB7 HB0 s1 s2 hok
  unfold Op1.val
  go_enter Try.func24, Try.ntmps24
  go_upto_block 0 with fail
  rw [← hW1]
  clear hW1
  go_cut [0, 9] (fun vt vo wc => ∃ b' A4 cp4 A4' cp4' c', vt = .pointer (some ⟨b', 0, none⟩) ∧ vo = .bool true ∧ PMid w W X b ns d wc b' A4 cp4 A4' cp4' c')
  case first =>
    by_cases h0 : o.kind = 0
    · have b0 : (o.kind == 0) = true := by simp [h0]
      clear h0
      go_wp2_with fail
      refine (show Calls _ _ _ W1 _ from own_offer (H.out.1.step H1.out.1) (by omega) o.v hos).mono ?_
      rintro e w3 ⟨A3, cp3, ns3, rfl, hT, hsl, hns, hs⟩
      obtain ⟨c', dl, f, ok, hm⟩ : ∃ c' dl f ok, c.offer o.v = (c', dl, f, ok) := ⟨_, _, _, _, rfl⟩
      rw [hm] at hT hsl ⊢
      simp only at hT hsl ⊢
      have hns3 : ∀ k ∈ ns3, k ∈ ns ∨ W1.heap.size ≤ k := fun k hk => .inl (hns k hk)
      have q4 := hs.blk H1.out.2.1 (hSn.out _ (by omega) (by omega))
      have q5 := hs.blk H1.out.2.2.1 (hSn.out _ (by omega) (by omega))
      have q7 := hs.blk H1.out.2.2.2 (hSn.out _ (by omega) (by omega))
      have hz3 := hs.size
      have hr3 : Rd w3 (.agg #[.int .i64 c.cap, .int .i64 c.pol, .bool c.closed, .slice A c.buf.length cp, .slice A' c.ws.length cp', .int .i64 c.drop]) c := (H.out.2.only H1.out.1).stay hs (HB.out.sub (fun k hk => .inl (.inl hk)))
      have hb3 : Bes (fun k => (k ∈ b :: ns3 ∨ X k) ∨ (k = W.heap.size ∨ k = W.heap.size + 2)) (.agg #[.int .i64 c.cap, .int .i64 c.pol, .bool c.closed, .slice A c.buf.length cp, .slice A' c.ws.length cp', .int .i64 c.drop]) := HB.out.sub (fun k hk => by
        rcases hk with (hk | hk) | hk
        · rcases List.mem_cons.1 hk with rfl | hk
          · exact .inl (.inl (List.mem_cons_self ..))
          · rcases hns3 k hk with h | h
            · exact .inl (.inl (List.mem_cons_of_mem _ h))
            · exact .inr (by omega)
        · exact .inl (.inr hk)
        · exact .inr (by omega))
      have hZ : ∀ k, ((k ∈ b :: ns3 ∨ X k) ∨ (k = W.heap.size ∨ k = W.heap.size + 2)) → k < w3.heap.size := fun k hk => by
        rcases hk with (hk | hk) | hk
        · exact hT.lies.lt k hk
        · have := HX.out k hk; omega
        · omega
      clear k0 kl
      have k0 := q5.cell
      have kl := q5.lt
      have k4 := q4.cell
      have l4 := q4.lt
      simp only [Op1.cells] at k0
      simp only [stv] at k4
      have H3 := Lib.hid (And.intro hT (And.intro hs (And.intro hns3 (And.intro q4 (And.intro q5 (And.intro q7 (And.intro hr3 (And.intro hb3 hZ))))))))
      clear hT hs hns3 q4 q5 q7 hr3 hb3 hZ
      have HS3 := Lib.hid (And.intro hsl hm)
      clear hsl hm hns
      unfold F.val
      go_wp2_with fail
      have hOf : Only w3 (w3.alloc (.cells [.int .i64 f.k, .string f.s].toArray 42)) := (Stay.refl _ w3).alloc _
      refine (show Calls _ _ _ (w3.alloc (.cells [.int .i64 f.k, .string f.s].toArray 42)) _ from roffer_any _ _ c o.v (H3.out.2.2.2.2.2.2.1.only hOf) hos d2 d3 ⟨d0, by omega⟩).mono ?_
      rintro e w4 ⟨⟨y, B4, cq4, rfl, hy, hsl4, hO4⟩, hfr⟩
      rw [HS3.out.2] at hy hsl4 hfr ⊢
      simp only at hy hsl4 hfr ⊢
      have hO34 : Only w3 w4 := hOf.trans' hO4
      have hbY := (hfr _ rfl) (fun k => (k ∈ b :: ns3 ∨ X k) ∨ (k = W.heap.size ∨ k = W.heap.size + 2)) (fun k hk => by have := H3.out.2.2.2.2.2.2.2.2 k hk; simp; omega) H3.out.2.2.2.2.2.2.2.1
      have hy' := hy
      obtain ⟨A4, cp4, A4', cp4', rfl, s3, s4⟩ := hy'
      clear k0 kl k4 l4 s3 s4
      have q4 := hO34.blk H3.out.2.2.2.1
      have q7 := hO34.blk H3.out.2.2.2.2.2.1
      have k4 := q4.cell
      have f4 := q4.free
      have l4 := q4.lt
      simp only [stv] at k4
      have hP : Stay (fun k => k = W.heap.size) w4 ((((((w4.setCell ⟨W.heap.size, 0, none⟩ (.int .i64 c'.cap)).setCell ⟨W.heap.size, 1, none⟩ (.int .i64 c'.pol)).setCell ⟨W.heap.size, 2, none⟩ (.bool c'.closed)).setCell ⟨W.heap.size, 3, none⟩ (.slice A4 c'.buf.length cp4)).setCell ⟨W.heap.size, 4, none⟩ (.slice A4' c'.ws.length cp4')).setCell ⟨W.heap.size, 5, none⟩ (.int .i64 c'.drop)) := (((((((Stay.refl (fun k => k = W.heap.size) w4).put rfl _ _).put rfl _ _).put rfl _ _).put rfl _ _).put rfl _ _).put rfl _ _)
      have hBn : Blk ((((((w4.setCell ⟨W.heap.size, 0, none⟩ (.int .i64 c'.cap)).setCell ⟨W.heap.size, 1, none⟩ (.int .i64 c'.pol)).setCell ⟨W.heap.size, 2, none⟩ (.bool c'.closed)).setCell ⟨W.heap.size, 3, none⟩ (.slice A4 c'.buf.length cp4)).setCell ⟨W.heap.size, 4, none⟩ (.slice A4' c'.ws.length cp4')).setCell ⟨W.heap.size, 5, none⟩ (.int .i64 c'.drop)) W.heap.size 36 (stv c' A4 cp4 A4' cp4') := by
        have := ((((((q4.set 0 (.int .i64 c'.cap)).set 1 (.int .i64 c'.pol)).set 2 (.bool c'.closed)).set 3 (.slice A4 c'.buf.length cp4)).set 4 (.slice A4' c'.ws.length cp4')).set 5 (.int .i64 c'.drop))
        exact this
      have hF3 := hO4.blk (Blk.new w3 [.int .i64 f.k, .string f.s] 42)
      have av3 := deals_off (HS3.out.1.only hO34) q4 (stv_text _ _ _ _ _)
      have av4 := deals_off hsl4 q4 (stv_text _ _ _ _ _)
      have hz4 := hO34.size
      have hU : Only ((((((w4.setCell ⟨W.heap.size, 0, none⟩ (.int .i64 c'.cap)).setCell ⟨W.heap.size, 1, none⟩ (.int .i64 c'.pol)).setCell ⟨W.heap.size, 2, none⟩ (.bool c'.closed)).setCell ⟨W.heap.size, 3, none⟩ (.slice A4 c'.buf.length cp4)).setCell ⟨W.heap.size, 4, none⟩ (.slice A4' c'.ws.length cp4')).setCell ⟨W.heap.size, 5, none⟩ (.int .i64 c'.drop)) ((((((((w4.setCell ⟨W.heap.size, 0, none⟩ (.int .i64 c'.cap)).setCell ⟨W.heap.size, 1, none⟩ (.int .i64 c'.pol)).setCell ⟨W.heap.size, 2, none⟩ (.bool c'.closed)).setCell ⟨W.heap.size, 3, none⟩ (.slice A4 c'.buf.length cp4)).setCell ⟨W.heap.size, 4, none⟩ (.slice A4' c'.ws.length cp4')).setCell ⟨W.heap.size, 5, none⟩ (.int .i64 c'.drop)).alloc (.cells (stv c' A4 cp4 A4' cp4').toArray 36)).alloc (.cells [.int .i64 f.k, .string f.s].toArray 42)) := ((Stay.refl _ _).alloc _).alloc _
      have hPU := hP.trans hU (fun _ _ h => h.elim)
      have n4 : ¬ w3.heap.size = W.heap.size := by omega
      have H4 := Lib.hid (And.intro hO34 (And.intro hy (And.intro hbY (And.intro hPU (And.intro (hU.blk hBn) (And.intro q7 (And.intro hF3 (And.intro ((HS3.out.1.only hO34).up hz4) (And.intro hsl4 (And.intro av3 av4))))))))))
      have HBF := Lib.hid (Blk.newAt (((((((w4.setCell ⟨W.heap.size, 0, none⟩ (.int .i64 c'.cap)).setCell ⟨W.heap.size, 1, none⟩ (.int .i64 c'.pol)).setCell ⟨W.heap.size, 2, none⟩ (.bool c'.closed)).setCell ⟨W.heap.size, 3, none⟩ (.slice A4 c'.buf.length cp4)).setCell ⟨W.heap.size, 4, none⟩ (.slice A4' c'.ws.length cp4')).setCell ⟨W.heap.size, 5, none⟩ (.int .i64 c'.drop)).alloc (.cells (stv c' A4 cp4 A4' cp4').toArray 36)) [.int .i64 f.k, .string f.s] 42 (w4.heap.size + 1) (by simp))
      clear hO34 hy hbY hP hU hPU hBn q4 q7 hF3 hsl4 av3 av4 hO4 hfr hOf hz4
      unfold F.val
      go_wp2_with fail
      refine (show Calls _ _ _ ((((((((w4.setCell ⟨W.heap.size, 0, none⟩ (.int .i64 c'.cap)).setCell ⟨W.heap.size, 1, none⟩ (.int .i64 c'.pol)).setCell ⟨W.heap.size, 2, none⟩ (.bool c'.closed)).setCell ⟨W.heap.size, 3, none⟩ (.slice A4 c'.buf.length cp4)).setCell ⟨W.heap.size, 4, none⟩ (.slice A4' c'.ws.length cp4')).setCell ⟨W.heap.size, 5, none⟩ (.int .i64 c'.drop)).alloc (.cells (stv c' A4 cp4 A4' cp4').toArray 36)).alloc (.cells [.int .i64 f.k, .string f.s].toArray 42)) _ from deals_any _ A3 B4 cp3 cq4 dl (H4.out.2.2.2.2.2.2.2.1.beside H4.out.2.2.2.1 H4.out.2.2.2.2.2.2.2.2.2.1 H4.out.2.2.2.1.size) (H4.out.2.2.2.2.2.2.2.2.1.beside H4.out.2.2.2.1 H4.out.2.2.2.2.2.2.2.2.2.2 H4.out.2.2.2.1.size)).mono ?_
      rintro e w5 ⟨rfl, hO5⟩
      have g1 := (hO5.blk (H4.out.2.2.2.1.blk H4.out.2.2.2.2.2.2.1 n4))
      have g2 := hO5.blk HBF.out
      have p1 := g1.cell
      have p2 := g1.lt
      have p3 := g2.cell
      have p4 := g2.lt
      have H5 := Lib.hid (And.intro (H4.out.2.2.2.1.trans hO5 (fun _ _ h => h.elim)) (hO5.blk H4.out.2.2.2.2.1))
      clear g1 g2 hO5 k4 f4 l4
      go_wp2_with fail
      go_meet
      case rel => exact ⟨_, _, _, _, _, c', rfl, rfl, PMid.mk H.out.1 H1.out.1 hz1 H3.out.2.1 H4.out.1 H3.out.1 (by omega) H3.out.2.2.1 H4.out.2.1 H4.out.2.2.1 H5.out.1 H5.out.2 H4.out.2.2.2.2.2.1⟩
    have b0 : (o.kind == 0) = false := by simp [h0]
    by_cases h1 : o.kind = 1
    · have b1 : (o.kind == 1) = true := by simp [h1]
      clear h0 h1
      go_wp2_with fail
      refine (show Calls _ _ _ W1 _ from own_take (H.out.1.step H1.out.1)).mono ?_
      rintro e w3 ⟨A3, cp3, ns3, rfl, hT, hsl, hns, hs⟩
      obtain ⟨c', v, dl, f, ok, hm⟩ : ∃ c' v dl f ok, c.take = (c', v, dl, f, ok) := ⟨_, _, _, _, _, rfl⟩
      rw [hm] at hT hsl ⊢
      simp only at hT hsl ⊢
      have hns3 : ∀ k ∈ ns3, k ∈ ns ∨ W1.heap.size ≤ k := fun k hk => .inl (hns k hk)
      have q4 := hs.blk H1.out.2.1 (hSn.out _ (by omega) (by omega))
      have q5 := hs.blk H1.out.2.2.1 (hSn.out _ (by omega) (by omega))
      have q7 := hs.blk H1.out.2.2.2 (hSn.out _ (by omega) (by omega))
      have hz3 := hs.size
      have hr3 : Rd w3 (.agg #[.int .i64 c.cap, .int .i64 c.pol, .bool c.closed, .slice A c.buf.length cp, .slice A' c.ws.length cp', .int .i64 c.drop]) c := (H.out.2.only H1.out.1).stay hs (HB.out.sub (fun k hk => .inl (.inl hk)))
      have hb3 : Bes (fun k => (k ∈ b :: ns3 ∨ X k) ∨ (k = W.heap.size ∨ k = W.heap.size + 2)) (.agg #[.int .i64 c.cap, .int .i64 c.pol, .bool c.closed, .slice A c.buf.length cp, .slice A' c.ws.length cp', .int .i64 c.drop]) := HB.out.sub (fun k hk => by
        rcases hk with (hk | hk) | hk
        · rcases List.mem_cons.1 hk with rfl | hk
          · exact .inl (.inl (List.mem_cons_self ..))
          · rcases hns3 k hk with h | h
            · exact .inl (.inl (List.mem_cons_of_mem _ h))
            · exact .inr (by omega)
        · exact .inl (.inr hk)
        · exact .inr (by omega))
      have hZ : ∀ k, ((k ∈ b :: ns3 ∨ X k) ∨ (k = W.heap.size ∨ k = W.heap.size + 2)) → k < w3.heap.size := fun k hk => by
        rcases hk with (hk | hk) | hk
        · exact hT.lies.lt k hk
        · have := HX.out k hk; omega
        · omega
      clear k0 kl
      have k0 := q5.cell
      have kl := q5.lt
      have k4 := q4.cell
      have l4 := q4.lt
      simp only [Op1.cells] at k0
      simp only [stv] at k4
      have H3 := Lib.hid (And.intro hT (And.intro hs (And.intro hns3 (And.intro q4 (And.intro q5 (And.intro q7 (And.intro hr3 (And.intro hb3 hZ))))))))
      clear hT hs hns3 q4 q5 q7 hr3 hb3 hZ
      have HS3 := Lib.hid (And.intro hsl hm)
      clear hsl hm hns
      unfold F.val V.val
      go_wp2_with fail
      have hOf : Only w3 ((w3.alloc (.cells [.int .i64 v.k, .int .i64 v.n, .string v.s].toArray 29)).alloc (.cells [.int .i64 f.k, .string f.s].toArray 42)) := ((Stay.refl _ w3).alloc _).alloc _
      refine (show Calls _ _ _ ((w3.alloc (.cells [.int .i64 v.k, .int .i64 v.n, .string v.s].toArray 29)).alloc (.cells [.int .i64 f.k, .string f.s].toArray 42)) _ from rtake_any _ _ c (H3.out.2.2.2.2.2.2.1.only hOf) d2 d3).mono ?_
      rintro e w4a ⟨⟨y, B4, cq4, rfl, hy0, hsl0, hO0⟩, hfr⟩
      rw [HS3.out.2] at hy0 hsl0 hfr ⊢
      simp only at hy0 hsl0 hfr ⊢
      have hbY := (hfr _ rfl) (fun k => (k ∈ b :: ns3 ∨ X k) ∨ (k = W.heap.size ∨ k = W.heap.size + 2)) (fun k hk => by have := H3.out.2.2.2.2.2.2.2.2 k hk; simp; omega) H3.out.2.2.2.2.2.2.2.1
      have hy' := hy0
      obtain ⟨A4, cp4, A4', cp4', rfl, s3, s4⟩ := hy'
      clear k0 kl k4 l4 s3 s4
      unfold F.val V.val
      go_upto_region 12 with fail
      obtain ⟨w4, hw4⟩ : ∃ w4 : World, w4 = (((w4a.alloc (.cells #[.int .i64 c'.cap, .int .i64 c'.pol, .bool c'.closed, .slice A4 c'.buf.length cp4, .slice A4' c'.ws.length cp4', .int .i64 c'.drop] 36)).alloc (.cells #[.int .i64 v.k, .int .i64 v.n, .string v.s] 29)).alloc (.cells #[.int .i64 f.k, .string f.s] 42)) := ⟨_, rfl⟩
      rw [← hw4]
      have hOv : Only w4a w4 := by rw [hw4]; exact (((Stay.refl _ _).alloc _).alloc _).alloc _
      have hS4 : Blk w4 w4a.heap.size 36 (stv c' A4 cp4 A4' cp4') := by rw [hw4]; exact ((Blk.new w4a (stv c' A4 cp4 A4' cp4') 36).alloc _).alloc _
      have hV4 : Blk w4 (w4a.heap.size + 1) 29 [.int .i64 v.k, .int .i64 v.n, .string v.s] := by rw [hw4]; exact (Blk.newAt (w4a.alloc (.cells (stv c' A4 cp4 A4' cp4').toArray 36)) [.int .i64 v.k, .int .i64 v.n, .string v.s] 29 (w4a.heap.size + 1) (by simp)).alloc _
      have hF4 : Blk w4 (w4a.heap.size + 2) 42 [.int .i64 f.k, .string f.s] := by rw [hw4]; exact Blk.newAt ((w4a.alloc (.cells (stv c' A4 cp4 A4' cp4').toArray 36)).alloc (.cells [.int .i64 v.k, .int .i64 v.n, .string v.s].toArray 29)) [.int .i64 f.k, .string f.s] 42 (w4a.heap.size + 2) (by simp)
      clear hw4
      have hO4 := hO0.trans' hOv
      have hy := hy0.only hOv
      have hsl4 := (hsl0.only hOv).up hOv.size
      have hza := hO0.size
      simp only [World.size_alloc] at hza
      have hO34 : Only w3 w4 := hOf.trans' hO4
      have q4 := hO34.blk H3.out.2.2.2.1
      have q7 := hO34.blk H3.out.2.2.2.2.2.1
      have k4 := q4.cell
      have f4 := q4.free
      have l4 := q4.lt
      simp only [stv] at k4
      have u0 := hS4.cell
      have u1 := hS4.lt
      simp only [stv] at u0
      have hP : Stay (fun k => k = W.heap.size) w4 ((((((w4.setCell ⟨W.heap.size, 0, none⟩ (.int .i64 c'.cap)).setCell ⟨W.heap.size, 1, none⟩ (.int .i64 c'.pol)).setCell ⟨W.heap.size, 2, none⟩ (.bool c'.closed)).setCell ⟨W.heap.size, 3, none⟩ (.slice A4 c'.buf.length cp4)).setCell ⟨W.heap.size, 4, none⟩ (.slice A4' c'.ws.length cp4')).setCell ⟨W.heap.size, 5, none⟩ (.int .i64 c'.drop)) := (((((((Stay.refl (fun k => k = W.heap.size) w4).put rfl _ _).put rfl _ _).put rfl _ _).put rfl _ _).put rfl _ _).put rfl _ _)
      have hBn : Blk ((((((w4.setCell ⟨W.heap.size, 0, none⟩ (.int .i64 c'.cap)).setCell ⟨W.heap.size, 1, none⟩ (.int .i64 c'.pol)).setCell ⟨W.heap.size, 2, none⟩ (.bool c'.closed)).setCell ⟨W.heap.size, 3, none⟩ (.slice A4 c'.buf.length cp4)).setCell ⟨W.heap.size, 4, none⟩ (.slice A4' c'.ws.length cp4')).setCell ⟨W.heap.size, 5, none⟩ (.int .i64 c'.drop)) W.heap.size 36 (stv c' A4 cp4 A4' cp4') := by
        have := ((((((q4.set 0 (.int .i64 c'.cap)).set 1 (.int .i64 c'.pol)).set 2 (.bool c'.closed)).set 3 (.slice A4 c'.buf.length cp4)).set 4 (.slice A4' c'.ws.length cp4')).set 5 (.int .i64 c'.drop))
        exact this
      have hV3 := hO4.blk ((Blk.new w3 [.int .i64 v.k, .int .i64 v.n, .string v.s] 29).alloc (.cells [.int .i64 f.k, .string f.s].toArray 42))
      have hF3 := hO4.blk (Blk.newAt (w3.alloc (.cells [.int .i64 v.k, .int .i64 v.n, .string v.s].toArray 29)) [.int .i64 f.k, .string f.s] 42 (w3.heap.size + 1) (by simp))
      have av3 := deals_off (HS3.out.1.only hO34) q4 (stv_text _ _ _ _ _)
      have av4 := deals_off hsl4 q4 (stv_text _ _ _ _ _)
      have hz4 := hO34.size
      have n4 : ¬ w3.heap.size = W.heap.size := by omega
      have n5 : ¬ w3.heap.size + 1 = W.heap.size := by omega
      have n6 : ¬ w4a.heap.size + 1 = W.heap.size := by omega
      have n7 : ¬ w4a.heap.size + 2 = W.heap.size := by omega
      have n8 : ¬ w4a.heap.size = W.heap.size := by omega
      have y3 := hV3.cell
      have y4 := hV4.cell
      have z3 := hV3.lt
      have z4 := hV4.lt
      have H4 := Lib.hid (And.intro hO34 (And.intro hy (And.intro hbY (And.intro hP (And.intro hBn (And.intro q7 (And.intro hF3 (And.intro ((HS3.out.1.only hO34).up hz4) (And.intro hsl4 (And.intro av3 av4))))))))))
      have HBF := Lib.hid hF4
      clear hO34 hy hbY hP hBn q4 q7 hF3 hV3 hsl4 av3 av4 hO4 hfr hOf hz4 hV4 hF4 hS4 hy0 hsl0 hO0 hOv hza
      go_wp2_with fail
      refine (show Calls _ _ _ ((((((w4.setCell ⟨W.heap.size, 0, none⟩ (.int .i64 c'.cap)).setCell ⟨W.heap.size, 1, none⟩ (.int .i64 c'.pol)).setCell ⟨W.heap.size, 2, none⟩ (.bool c'.closed)).setCell ⟨W.heap.size, 3, none⟩ (.slice A4 c'.buf.length cp4)).setCell ⟨W.heap.size, 4, none⟩ (.slice A4' c'.ws.length cp4')).setCell ⟨W.heap.size, 5, none⟩ (.int .i64 c'.drop)) _ from deals_any _ A3 B4 cp3 cq4 dl (H4.out.2.2.2.2.2.2.2.1.beside H4.out.2.2.2.1 H4.out.2.2.2.2.2.2.2.2.2.1 H4.out.2.2.2.1.size) (H4.out.2.2.2.2.2.2.2.2.1.beside H4.out.2.2.2.1 H4.out.2.2.2.2.2.2.2.2.2.2 H4.out.2.2.2.1.size)).mono ?_
      rintro e w5 ⟨rfl, hO5⟩
      have g1 := (hO5.blk (H4.out.2.2.2.1.blk H4.out.2.2.2.2.2.2.1 n5))
      have g2 := hO5.blk (H4.out.2.2.2.1.blk HBF.out n7)
      have p1 := g1.cell
      have p2 := g1.lt
      have p3 := g2.cell
      have p4 := g2.lt
      have H5 := Lib.hid (And.intro (H4.out.2.2.2.1.trans hO5 (fun _ _ h => h.elim)) (hO5.blk H4.out.2.2.2.2.1))
      clear g1 g2 hO5 k4 f4 l4 y3 y4 u0
      go_wp2_with fail
      go_meet
      case rel => exact ⟨_, _, _, _, _, c', rfl, rfl, PMid.mk H.out.1 H1.out.1 hz1 H3.out.2.1 H4.out.1 H3.out.1 (by omega) H3.out.2.2.1 H4.out.2.1 H4.out.2.2.1 H5.out.1 H5.out.2 H4.out.2.2.2.2.2.1⟩
    have b1 : (o.kind == 1) = false := by simp [h1]
    by_cases h2 : o.kind = 2
    · have b2 : (o.kind == 2) = true := by simp [h2]
      clear h0 h1 h2
      go_wp2_with fail
      refine (show Calls _ _ _ W1 _ from own_park (H.out.1.step H1.out.1) o.t o.send o.v hos).mono ?_
      rintro e w3 ⟨ns3, rfl, hT, hns, hs⟩
      obtain ⟨c', er, hm⟩ : ∃ c' er, c.park o.t o.send o.v = (c', er) := ⟨_, _, rfl⟩
      rw [hm] at hT ⊢
      simp only at hT ⊢
      have hns3 : ∀ k ∈ ns3, k ∈ ns ∨ W1.heap.size ≤ k := fun k hk => hns k hk
      have q4 := hs.blk H1.out.2.1 (hSn.out _ (by omega) (by omega))
      have q5 := hs.blk H1.out.2.2.1 (hSn.out _ (by omega) (by omega))
      have q7 := hs.blk H1.out.2.2.2 (hSn.out _ (by omega) (by omega))
      have hz3 := hs.size
      have hr3 : Rd w3 (.agg #[.int .i64 c.cap, .int .i64 c.pol, .bool c.closed, .slice A c.buf.length cp, .slice A' c.ws.length cp', .int .i64 c.drop]) c := (H.out.2.only H1.out.1).stay hs (HB.out.sub (fun k hk => .inl (.inl hk)))
      have hb3 : Bes (fun k => (k ∈ b :: ns3 ∨ X k) ∨ (k = W.heap.size ∨ k = W.heap.size + 2)) (.agg #[.int .i64 c.cap, .int .i64 c.pol, .bool c.closed, .slice A c.buf.length cp, .slice A' c.ws.length cp', .int .i64 c.drop]) := HB.out.sub (fun k hk => by
        rcases hk with (hk | hk) | hk
        · rcases List.mem_cons.1 hk with rfl | hk
          · exact .inl (.inl (List.mem_cons_self ..))
          · rcases hns3 k hk with h | h
            · exact .inl (.inl (List.mem_cons_of_mem _ h))
            · exact .inr (by omega)
        · exact .inl (.inr hk)
        · exact .inr (by omega))
      have hZ : ∀ k, ((k ∈ b :: ns3 ∨ X k) ∨ (k = W.heap.size ∨ k = W.heap.size + 2)) → k < w3.heap.size := fun k hk => by
        rcases hk with (hk | hk) | hk
        · exact hT.lies.lt k hk
        · have := HX.out k hk; omega
        · omega
      clear k0 kl
      have k0 := q5.cell
      have kl := q5.lt
      have k4 := q4.cell
      have l4 := q4.lt
      simp only [Op1.cells] at k0
      simp only [stv] at k4
      have H3 := Lib.hid (And.intro hT (And.intro hs (And.intro hns3 (And.intro q4 (And.intro q5 (And.intro q7 (And.intro hr3 (And.intro hb3 hZ))))))))
      clear hT hs hns3 q4 q5 q7 hr3 hb3 hZ
      have HS3 := Lib.hid hm
      clear hm hns
      go_wp2_with fail
      refine (show Calls _ _ _ w3 _ from rpark_any _ _ c o.t o.send o.v H3.out.2.2.2.2.2.2.1 hos d2).mono ?_
      rintro e w4 ⟨⟨y, rfl, hy, hO4⟩, hfr⟩
      rw [HS3.out] at hy hfr ⊢
      simp only at hy hfr ⊢
      have hO34 : Only w3 w4 := hO4
      have hbY := (hfr _ rfl) (fun k => (k ∈ b :: ns3 ∨ X k) ∨ (k = W.heap.size ∨ k = W.heap.size + 2)) (fun k hk => by have := H3.out.2.2.2.2.2.2.2.2 k hk; omega) H3.out.2.2.2.2.2.2.2.1
      have hy' := hy
      obtain ⟨A4, cp4, A4', cp4', rfl, s3, s4⟩ := hy'
      clear k0 kl k4 l4 s3 s4
      have q4 := hO34.blk H3.out.2.2.2.1
      have q7 := hO34.blk H3.out.2.2.2.2.2.1
      have k4 := q4.cell
      have f4 := q4.free
      have l4 := q4.lt
      simp only [stv] at k4
      have hP : Stay (fun k => k = W.heap.size) w4 ((((((w4.setCell ⟨W.heap.size, 0, none⟩ (.int .i64 c'.cap)).setCell ⟨W.heap.size, 1, none⟩ (.int .i64 c'.pol)).setCell ⟨W.heap.size, 2, none⟩ (.bool c'.closed)).setCell ⟨W.heap.size, 3, none⟩ (.slice A4 c'.buf.length cp4)).setCell ⟨W.heap.size, 4, none⟩ (.slice A4' c'.ws.length cp4')).setCell ⟨W.heap.size, 5, none⟩ (.int .i64 c'.drop)) := (((((((Stay.refl (fun k => k = W.heap.size) w4).put rfl _ _).put rfl _ _).put rfl _ _).put rfl _ _).put rfl _ _).put rfl _ _)
      have hBn : Blk ((((((w4.setCell ⟨W.heap.size, 0, none⟩ (.int .i64 c'.cap)).setCell ⟨W.heap.size, 1, none⟩ (.int .i64 c'.pol)).setCell ⟨W.heap.size, 2, none⟩ (.bool c'.closed)).setCell ⟨W.heap.size, 3, none⟩ (.slice A4 c'.buf.length cp4)).setCell ⟨W.heap.size, 4, none⟩ (.slice A4' c'.ws.length cp4')).setCell ⟨W.heap.size, 5, none⟩ (.int .i64 c'.drop)) W.heap.size 36 (stv c' A4 cp4 A4' cp4') := by
        have := ((((((q4.set 0 (.int .i64 c'.cap)).set 1 (.int .i64 c'.pol)).set 2 (.bool c'.closed)).set 3 (.slice A4 c'.buf.length cp4)).set 4 (.slice A4' c'.ws.length cp4')).set 5 (.int .i64 c'.drop))
        exact this
      have hU : Only ((((((w4.setCell ⟨W.heap.size, 0, none⟩ (.int .i64 c'.cap)).setCell ⟨W.heap.size, 1, none⟩ (.int .i64 c'.pol)).setCell ⟨W.heap.size, 2, none⟩ (.bool c'.closed)).setCell ⟨W.heap.size, 3, none⟩ (.slice A4 c'.buf.length cp4)).setCell ⟨W.heap.size, 4, none⟩ (.slice A4' c'.ws.length cp4')).setCell ⟨W.heap.size, 5, none⟩ (.int .i64 c'.drop)) (((((((w4.setCell ⟨W.heap.size, 0, none⟩ (.int .i64 c'.cap)).setCell ⟨W.heap.size, 1, none⟩ (.int .i64 c'.pol)).setCell ⟨W.heap.size, 2, none⟩ (.bool c'.closed)).setCell ⟨W.heap.size, 3, none⟩ (.slice A4 c'.buf.length cp4)).setCell ⟨W.heap.size, 4, none⟩ (.slice A4' c'.ws.length cp4')).setCell ⟨W.heap.size, 5, none⟩ (.int .i64 c'.drop)).alloc (.cells (stv c' A4 cp4 A4' cp4').toArray 36)) := (Stay.refl _ _).alloc _
      have H4 := Lib.hid (And.intro hO34 (And.intro hy (And.intro hbY (And.intro (hP.trans hU (fun _ _ h => h.elim)) (And.intro (hU.blk hBn) q7)))))
      clear hO34 hy hbY hP hU hBn q4 q7 hfr hO4
      go_wp2_with fail
      go_meet
      case rel => exact ⟨_, _, _, _, _, c', rfl, rfl, PMid.mk H.out.1 H1.out.1 hz1 H3.out.2.1 H4.out.1 H3.out.1 (by omega) H3.out.2.2.1 H4.out.2.1 H4.out.2.2.1 H4.out.2.2.2.1 H4.out.2.2.2.2.1 H4.out.2.2.2.2.2⟩
    have b2 : (o.kind == 2) = false := by simp [h2]
    by_cases h3 : o.kind = 3
    · have b3 : (o.kind == 3) = true := by simp [h3]
      clear h0 h1 h2 h3
      go_wp2_with fail
      refine (show Calls _ _ _ W1 _ from own_withdraw (H.out.1.step H1.out.1) o.t).mono ?_
      rintro e w3 ⟨ns3, rfl, hT, hns, hs⟩
      obtain ⟨c', ok, hm⟩ : ∃ c' ok, c.withdraw o.t = (c', ok) := ⟨_, _, rfl⟩
      rw [hm] at hT ⊢
      simp only at hT ⊢
      have hns3 : ∀ k ∈ ns3, k ∈ ns ∨ W1.heap.size ≤ k := fun k hk => .inl (hns k hk)
      have q4 := hs.blk H1.out.2.1 (hSn.out _ (by omega) (by omega))
      have q5 := hs.blk H1.out.2.2.1 (hSn.out _ (by omega) (by omega))
      have q7 := hs.blk H1.out.2.2.2 (hSn.out _ (by omega) (by omega))
      have hz3 := hs.size
      have hr3 : Rd w3 (.agg #[.int .i64 c.cap, .int .i64 c.pol, .bool c.closed, .slice A c.buf.length cp, .slice A' c.ws.length cp', .int .i64 c.drop]) c := (H.out.2.only H1.out.1).stay hs (HB.out.sub (fun k hk => .inl (.inl hk)))
      have hb3 : Bes (fun k => (k ∈ b :: ns3 ∨ X k) ∨ (k = W.heap.size ∨ k = W.heap.size + 2)) (.agg #[.int .i64 c.cap, .int .i64 c.pol, .bool c.closed, .slice A c.buf.length cp, .slice A' c.ws.length cp', .int .i64 c.drop]) := HB.out.sub (fun k hk => by
        rcases hk with (hk | hk) | hk
        · rcases List.mem_cons.1 hk with rfl | hk
          · exact .inl (.inl (List.mem_cons_self ..))
          · rcases hns3 k hk with h | h
            · exact .inl (.inl (List.mem_cons_of_mem _ h))
            · exact .inr (by omega)
        · exact .inl (.inr hk)
        · exact .inr (by omega))
      have hZ : ∀ k, ((k ∈ b :: ns3 ∨ X k) ∨ (k = W.heap.size ∨ k = W.heap.size + 2)) → k < w3.heap.size := fun k hk => by
        rcases hk with (hk | hk) | hk
        · exact hT.lies.lt k hk
        · have := HX.out k hk; omega
        · omega
      clear k0 kl
      have k0 := q5.cell
      have kl := q5.lt
      have k4 := q4.cell
      have l4 := q4.lt
      simp only [Op1.cells] at k0
      simp only [stv] at k4
      have H3 := Lib.hid (And.intro hT (And.intro hs (And.intro hns3 (And.intro q4 (And.intro q5 (And.intro q7 (And.intro hr3 (And.intro hb3 hZ))))))))
      clear hT hs hns3 q4 q5 q7 hr3 hb3 hZ
      have HS3 := Lib.hid hm
      clear hm hns
      go_wp2_with fail
      refine (show Calls _ _ _ w3 _ from rwithdraw_any _ _ c o.t H3.out.2.2.2.2.2.2.1 d2).mono ?_
      rintro e w4 ⟨⟨y, rfl, hy, hO4⟩, hfr⟩
      rw [HS3.out] at hy hfr ⊢
      simp only at hy hfr ⊢
      have hO34 : Only w3 w4 := hO4
      have hbY := (hfr _ rfl) (fun k => (k ∈ b :: ns3 ∨ X k) ∨ (k = W.heap.size ∨ k = W.heap.size + 2)) (fun k hk => by have := H3.out.2.2.2.2.2.2.2.2 k hk; omega) H3.out.2.2.2.2.2.2.2.1
      have hy' := hy
      obtain ⟨A4, cp4, A4', cp4', rfl, s3, s4⟩ := hy'
      clear k0 kl k4 l4 s3 s4
      have q4 := hO34.blk H3.out.2.2.2.1
      have q7 := hO34.blk H3.out.2.2.2.2.2.1
      have k4 := q4.cell
      have f4 := q4.free
      have l4 := q4.lt
      simp only [stv] at k4
      have hP : Stay (fun k => k = W.heap.size) w4 ((((((w4.setCell ⟨W.heap.size, 0, none⟩ (.int .i64 c'.cap)).setCell ⟨W.heap.size, 1, none⟩ (.int .i64 c'.pol)).setCell ⟨W.heap.size, 2, none⟩ (.bool c'.closed)).setCell ⟨W.heap.size, 3, none⟩ (.slice A4 c'.buf.length cp4)).setCell ⟨W.heap.size, 4, none⟩ (.slice A4' c'.ws.length cp4')).setCell ⟨W.heap.size, 5, none⟩ (.int .i64 c'.drop)) := (((((((Stay.refl (fun k => k = W.heap.size) w4).put rfl _ _).put rfl _ _).put rfl _ _).put rfl _ _).put rfl _ _).put rfl _ _)
      have hBn : Blk ((((((w4.setCell ⟨W.heap.size, 0, none⟩ (.int .i64 c'.cap)).setCell ⟨W.heap.size, 1, none⟩ (.int .i64 c'.pol)).setCell ⟨W.heap.size, 2, none⟩ (.bool c'.closed)).setCell ⟨W.heap.size, 3, none⟩ (.slice A4 c'.buf.length cp4)).setCell ⟨W.heap.size, 4, none⟩ (.slice A4' c'.ws.length cp4')).setCell ⟨W.heap.size, 5, none⟩ (.int .i64 c'.drop)) W.heap.size 36 (stv c' A4 cp4 A4' cp4') := by
        have := ((((((q4.set 0 (.int .i64 c'.cap)).set 1 (.int .i64 c'.pol)).set 2 (.bool c'.closed)).set 3 (.slice A4 c'.buf.length cp4)).set 4 (.slice A4' c'.ws.length cp4')).set 5 (.int .i64 c'.drop))
        exact this
      have hU : Only ((((((w4.setCell ⟨W.heap.size, 0, none⟩ (.int .i64 c'.cap)).setCell ⟨W.heap.size, 1, none⟩ (.int .i64 c'.pol)).setCell ⟨W.heap.size, 2, none⟩ (.bool c'.closed)).setCell ⟨W.heap.size, 3, none⟩ (.slice A4 c'.buf.length cp4)).setCell ⟨W.heap.size, 4, none⟩ (.slice A4' c'.ws.length cp4')).setCell ⟨W.heap.size, 5, none⟩ (.int .i64 c'.drop)) (((((((w4.setCell ⟨W.heap.size, 0, none⟩ (.int .i64 c'.cap)).setCell ⟨W.heap.size, 1, none⟩ (.int .i64 c'.pol)).setCell ⟨W.heap.size, 2, none⟩ (.bool c'.closed)).setCell ⟨W.heap.size, 3, none⟩ (.slice A4 c'.buf.length cp4)).setCell ⟨W.heap.size, 4, none⟩ (.slice A4' c'.ws.length cp4')).setCell ⟨W.heap.size, 5, none⟩ (.int .i64 c'.drop)).alloc (.cells (stv c' A4 cp4 A4' cp4').toArray 36)) := (Stay.refl _ _).alloc _
      have H4 := Lib.hid (And.intro hO34 (And.intro hy (And.intro hbY (And.intro (hP.trans hU (fun _ _ h => h.elim)) (And.intro (hU.blk hBn) q7)))))
      clear hO34 hy hbY hP hU hBn q4 q7 hfr hO4
      go_wp2_with fail
      go_meet
      case rel => exact ⟨_, _, _, _, _, c', rfl, rfl, PMid.mk H.out.1 H1.out.1 hz1 H3.out.2.1 H4.out.1 H3.out.1 (by omega) H3.out.2.2.1 H4.out.2.1 H4.out.2.2.1 H4.out.2.2.2.1 H4.out.2.2.2.2.1 H4.out.2.2.2.2.2⟩
    have b3 : (o.kind == 3) = false := by simp [h3]
    by_cases h4 : o.kind = 4
    · have b4 : (o.kind == 4) = true := by simp [h4]
      clear h0 h1 h2 h3 h4
      go_wp2_with fail
      refine (show Calls _ _ _ W1 _ from own_close (H.out.1.step H1.out.1)).mono ?_
      rintro e w3 ⟨A3, cp3, ns3, rfl, hT, hsl, hns, hs⟩
      obtain ⟨c', dl, hm⟩ : ∃ c' dl, c.close = (c', dl) := ⟨_, _, rfl⟩
      rw [hm] at hT hsl ⊢
      simp only at hT hsl ⊢
      have hns3 : ∀ k ∈ ns3, k ∈ ns ∨ W1.heap.size ≤ k := fun k hk => .inl (hns k hk)
      have q4 := hs.blk H1.out.2.1 (hSn.out _ (by omega) (by omega))
      have q5 := hs.blk H1.out.2.2.1 (hSn.out _ (by omega) (by omega))
      have q7 := hs.blk H1.out.2.2.2 (hSn.out _ (by omega) (by omega))
      have hz3 := hs.size
      have hr3 : Rd w3 (.agg #[.int .i64 c.cap, .int .i64 c.pol, .bool c.closed, .slice A c.buf.length cp, .slice A' c.ws.length cp', .int .i64 c.drop]) c := (H.out.2.only H1.out.1).stay hs (HB.out.sub (fun k hk => .inl (.inl hk)))
      have hb3 : Bes (fun k => (k ∈ b :: ns3 ∨ X k) ∨ (k = W.heap.size ∨ k = W.heap.size + 2)) (.agg #[.int .i64 c.cap, .int .i64 c.pol, .bool c.closed, .slice A c.buf.length cp, .slice A' c.ws.length cp', .int .i64 c.drop]) := HB.out.sub (fun k hk => by
        rcases hk with (hk | hk) | hk
        · rcases List.mem_cons.1 hk with rfl | hk
          · exact .inl (.inl (List.mem_cons_self ..))
          · rcases hns3 k hk with h | h
            · exact .inl (.inl (List.mem_cons_of_mem _ h))
            · exact .inr (by omega)
        · exact .inl (.inr hk)
        · exact .inr (by omega))
      have hZ : ∀ k, ((k ∈ b :: ns3 ∨ X k) ∨ (k = W.heap.size ∨ k = W.heap.size + 2)) → k < w3.heap.size := fun k hk => by
        rcases hk with (hk | hk) | hk
        · exact hT.lies.lt k hk
        · have := HX.out k hk; omega
        · omega
      clear k0 kl
      have k0 := q5.cell
      have kl := q5.lt
      have k4 := q4.cell
      have l4 := q4.lt
      simp only [Op1.cells] at k0
      simp only [stv] at k4
      have H3 := Lib.hid (And.intro hT (And.intro hs (And.intro hns3 (And.intro q4 (And.intro q5 (And.intro q7 (And.intro hr3 (And.intro hb3 hZ))))))))
      clear hT hs hns3 q4 q5 q7 hr3 hb3 hZ
      have HS3 := Lib.hid (And.intro hsl hm)
      clear hsl hm hns
      go_wp2_with fail
      refine (show Calls _ _ _ w3 _ from rclose_any _ _ c H3.out.2.2.2.2.2.2.1 d2).mono ?_
      rintro e w4 ⟨⟨y, B4, cq4, rfl, hy, hsl4, hO4⟩, hfr⟩
      rw [HS3.out.2] at hy hsl4 hfr ⊢
      simp only at hy hsl4 hfr ⊢
      have hO34 : Only w3 w4 := hO4
      have hbY := (hfr _ rfl) (fun k => (k ∈ b :: ns3 ∨ X k) ∨ (k = W.heap.size ∨ k = W.heap.size + 2)) (fun k hk => by have := H3.out.2.2.2.2.2.2.2.2 k hk; omega) H3.out.2.2.2.2.2.2.2.1
      have hy' := hy
      obtain ⟨A4, cp4, A4', cp4', rfl, s3, s4⟩ := hy'
      clear k0 kl k4 l4 s3 s4
      have q4 := hO34.blk H3.out.2.2.2.1
      have q7 := hO34.blk H3.out.2.2.2.2.2.1
      have k4 := q4.cell
      have f4 := q4.free
      have l4 := q4.lt
      simp only [stv] at k4
      have hP : Stay (fun k => k = W.heap.size) w4 ((((((w4.setCell ⟨W.heap.size, 0, none⟩ (.int .i64 c'.cap)).setCell ⟨W.heap.size, 1, none⟩ (.int .i64 c'.pol)).setCell ⟨W.heap.size, 2, none⟩ (.bool c'.closed)).setCell ⟨W.heap.size, 3, none⟩ (.slice A4 c'.buf.length cp4)).setCell ⟨W.heap.size, 4, none⟩ (.slice A4' c'.ws.length cp4')).setCell ⟨W.heap.size, 5, none⟩ (.int .i64 c'.drop)) := (((((((Stay.refl (fun k => k = W.heap.size) w4).put rfl _ _).put rfl _ _).put rfl _ _).put rfl _ _).put rfl _ _).put rfl _ _)
      have hBn : Blk ((((((w4.setCell ⟨W.heap.size, 0, none⟩ (.int .i64 c'.cap)).setCell ⟨W.heap.size, 1, none⟩ (.int .i64 c'.pol)).setCell ⟨W.heap.size, 2, none⟩ (.bool c'.closed)).setCell ⟨W.heap.size, 3, none⟩ (.slice A4 c'.buf.length cp4)).setCell ⟨W.heap.size, 4, none⟩ (.slice A4' c'.ws.length cp4')).setCell ⟨W.heap.size, 5, none⟩ (.int .i64 c'.drop)) W.heap.size 36 (stv c' A4 cp4 A4' cp4') := by
        have := ((((((q4.set 0 (.int .i64 c'.cap)).set 1 (.int .i64 c'.pol)).set 2 (.bool c'.closed)).set 3 (.slice A4 c'.buf.length cp4)).set 4 (.slice A4' c'.ws.length cp4')).set 5 (.int .i64 c'.drop))
        exact this
      have av3 := deals_off (HS3.out.1.only hO34) q4 (stv_text _ _ _ _ _)
      have av4 := deals_off hsl4 q4 (stv_text _ _ _ _ _)
      have hz4 := hO34.size
      have hU : Only ((((((w4.setCell ⟨W.heap.size, 0, none⟩ (.int .i64 c'.cap)).setCell ⟨W.heap.size, 1, none⟩ (.int .i64 c'.pol)).setCell ⟨W.heap.size, 2, none⟩ (.bool c'.closed)).setCell ⟨W.heap.size, 3, none⟩ (.slice A4 c'.buf.length cp4)).setCell ⟨W.heap.size, 4, none⟩ (.slice A4' c'.ws.length cp4')).setCell ⟨W.heap.size, 5, none⟩ (.int .i64 c'.drop)) (((((((w4.setCell ⟨W.heap.size, 0, none⟩ (.int .i64 c'.cap)).setCell ⟨W.heap.size, 1, none⟩ (.int .i64 c'.pol)).setCell ⟨W.heap.size, 2, none⟩ (.bool c'.closed)).setCell ⟨W.heap.size, 3, none⟩ (.slice A4 c'.buf.length cp4)).setCell ⟨W.heap.size, 4, none⟩ (.slice A4' c'.ws.length cp4')).setCell ⟨W.heap.size, 5, none⟩ (.int .i64 c'.drop)).alloc (.cells (stv c' A4 cp4 A4' cp4').toArray 36)) := (Stay.refl _ _).alloc _
      have hPU := hP.trans hU (fun _ _ h => h.elim)
      have H4 := Lib.hid (And.intro hO34 (And.intro hy (And.intro hbY (And.intro hPU (And.intro (hU.blk hBn) (And.intro q7 (And.intro ((HS3.out.1.only hO34).up hz4) (And.intro hsl4 (And.intro av3 av4)))))))))
      clear hO34 hy hbY hP hU hPU hBn q4 q7 hsl4 av3 av4 hO4 hfr hz4
      go_wp2_with fail
      refine (show Calls _ _ _ (((((((w4.setCell ⟨W.heap.size, 0, none⟩ (.int .i64 c'.cap)).setCell ⟨W.heap.size, 1, none⟩ (.int .i64 c'.pol)).setCell ⟨W.heap.size, 2, none⟩ (.bool c'.closed)).setCell ⟨W.heap.size, 3, none⟩ (.slice A4 c'.buf.length cp4)).setCell ⟨W.heap.size, 4, none⟩ (.slice A4' c'.ws.length cp4')).setCell ⟨W.heap.size, 5, none⟩ (.int .i64 c'.drop)).alloc (.cells (stv c' A4 cp4 A4' cp4').toArray 36)) _ from deals_any _ A3 B4 cp3 cq4 dl (H4.out.2.2.2.2.2.2.1.beside H4.out.2.2.2.1 H4.out.2.2.2.2.2.2.2.2.1 H4.out.2.2.2.1.size) (H4.out.2.2.2.2.2.2.2.1.beside H4.out.2.2.2.1 H4.out.2.2.2.2.2.2.2.2.2 H4.out.2.2.2.1.size)).mono ?_
      rintro e w5 ⟨rfl, hO5⟩
      have H5 := Lib.hid (And.intro (H4.out.2.2.2.1.trans hO5 (fun _ _ h => h.elim)) (hO5.blk H4.out.2.2.2.2.1))
      clear hO5 k4 f4 l4
      go_wp2_with fail
      go_meet
      case rel => exact ⟨_, _, _, _, _, c', rfl, rfl, PMid.mk H.out.1 H1.out.1 hz1 H3.out.2.1 H4.out.1 H3.out.1 (by omega) H3.out.2.2.1 H4.out.2.1 H4.out.2.2.1 H5.out.1 H5.out.2 H4.out.2.2.2.2.2.1⟩
    have b4 : (o.kind == 4) = false := by simp [h4]
    clear h0 h1 h2 h3 h4
    go_wp2_with fail
    refine (show Calls _ _ _ W1 _ from own_copy (H.out.1.step H1.out.1)).mono ?_
    rintro e w3 ⟨b', ns', rfl, hT, hN, hO⟩
    have H3 := Lib.hid (And.intro hT (And.intro hN hO))
    clear hT hN hO
    go_wp2_with fail
    go_meet
    case rel =>
      have hnew : ∀ k ∈ b' :: ns', W.heap.size + 3 ≤ k := fun k hk => by have := H3.out.2.1.new k hk; omega
      have hO13 := H1.out.1.trans' H3.out.2.2
      refine ⟨b', A, cp, A', cp', c, rfl, rfl, ns', H3.out.1.more (by omega), H.out.2.only hO13, HB.out.sub (fun k hk => ?_), H3.out.2.2.blk H1.out.2.1, H3.out.2.2.blk H1.out.2.2.2, hO13.mono (fun _ _ h => h.elim), fun k hk => .inr (hnew k hk)⟩
      rcases hk with (hk | hk) | hk
      · have := hnew k hk; exact .inr (by omega)
      · exact .inl (.inr hk)
      · exact .inr (by omega)
  case rest =>
    obtain ⟨b', A4, cp4, A4', cp4', c', rfl, rfl, ns', hT, hy, hbY, h4, h7, hs, hns⟩ := hcut
    have k4 := h4.cell
    have l4 := h4.lt
    have k7 := h7.cell
    have f7 := h7.free
    have l7 := h7.lt
    simp only [stv] at k4
    simp only [zst] at k7
    have HF := Lib.hid (And.intro hT (And.intro hy (And.intro hbY (And.intro hs (And.intro hns (And.intro h4 h7))))))
    have fin : Hid (∀ V, Stay (fun k => k = W.heap.size + 2) wc V → PL w V X b' ns' c' (d + 1) (.agg (stv c' A4 cp4 A4' cp4').toArray) ∧ Stay (· ∈ b :: ns) W V ∧ (∀ k ∈ b' :: ns', k ∈ b :: ns ∨ W.heap.size ≤ k)) := Lib.hid (fun V hV => ⟨⟨hT.aside hV (fun k hk e => by
      rcases hns k hk with h | h
      · have := H.out.1.lies.lt k h; omega
      · omega) (fun k hk => by have := H.out.1.only.size; omega), hy.stay hV (hbY.sub (fun k hk => .inr (.inr hk))), hbY.sub (fun k hk => .inl hk)⟩, hs.trans hV (fun i hi e => by omega), fun k hk => by
      rcases hns k hk with h | h
      · exact .inl h
      · exact .inr (by omega)⟩)
    clear hT hy hbY h4 h7 hs hns k0 kl
    go_upto_region 29 with fail
    clear H HB HX d0 d1 d2 d3 hz1 H1 hSn hd hos
    go_region_with (first
      | (go_at_call 13; refine (own_state (HF.out.1.step (Stay.refl _ wc).drew)).mono ?_; rintro e w5 ⟨⟨B1, cq1, B2, cq2, rfl, t1, t2⟩, hOx⟩; have j4 := (hOx.blk HF.out.2.2.2.2.2.1.drew).cell; have m4 := (hOx.blk HF.out.2.2.2.2.2.1.drew).lt; simp only [stv] at j4)
      | (go_at_call 15; refine (same_any _ _ _ c' ⟨B1, cq1, B2, cq2, rfl, t1, t2⟩ (HF.out.2.1.only ((Stay.refl (fun _ => False) wc).drew.trans hOx (fun _ _ h => h)))).mono ?_; rintro e w6 ⟨rfl, hOy⟩; have z7 := hOy.blk (hOx.blk HF.out.2.2.2.2.2.2.drew); have j7 := z7.cell; have e7 := z7.lt; have g7 := z7.free; simp only [zst] at j7; have HZ := Lib.hid z7; clear z7; have z4 := hOy.blk (hOx.blk HF.out.2.2.2.2.2.1.drew); have i4 := z4.cell; have e4 := z4.lt; simp only [stv] at i4; clear z4))
    all_goals
      go_wp2_with fail
      have zz := ((((((HZ.out.set 0 (.int .i64 c'.cap)).set 1 (.int .i64 c'.pol)).set 2 (.bool c'.closed)).set 3 (.slice A4 c'.buf.length cp4)).set 4 (.slice A4' c'.ws.length cp4')).set 5 (.int .i64 c'.drop)).cell
      simp only [zst, List.set_cons_succ, List.set_cons_zero] at zz
      refine bodyPost_ret (v := .tuple #[.pointer (some ⟨b', 0, none⟩), .agg (stv c' A4 cp4 A4' cp4').toArray, .bool true]) (by simp [results, Try.results24, go_sem, stv, zz]) rfl ?_
      exact ⟨_, _, _, _, rfl, fin.out _ ((((((((((Stay.refl (fun k => k = W.heap.size + 2) wc).drew).trans hOx (fun _ _ h => h.elim)).trans hOy (fun _ _ h => h.elim)).put rfl _ _).put rfl _ _).put rfl _ _).put rfl _ _).put rfl _ _).put rfl _ _)⟩

end Go.Proofs.Ytfmkdkpgehkfaaa
