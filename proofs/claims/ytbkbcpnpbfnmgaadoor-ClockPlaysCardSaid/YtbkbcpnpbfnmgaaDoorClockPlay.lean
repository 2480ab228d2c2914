/- The law's own 'play': a call on a clock and on that of the reference. -/
import Derived.Test.YtbkbcpnpbfnmgaaDoorClockAgree
set_option linter.unusedVariables false
set_option linter.unusedSimpArgs false
namespace Go.Proofs.YtbkbcpnpbfnmgaaDoor
open Go Go.RowKit

/-- A clock of the law's own, and the reference's timers beside it. -/
structure KX (w0 w : World) (S : Nat → Prop) (b : Nat) (C : Ck) (A : Option Addr) (c : Nat) : Prop where
  oc : OC w0 w S b C
  row : w.ownsRow w0.heap.size 39 2 (.slice A C.ts.length c) C.ts.length (C.ts.flatMap Tm.cells)
  off : ∀ g, (Value.slice A C.ts.length c).ownBlock = some g → ¬ S g
theorem KX.then {w0 w w' : World} {S : Nat → Prop} {b : Nat} {C : Ck} {A : Option Addr} {c : Nat} (h : KX w0 w S b C A c) (ho : Only w w') : KX w0 w' S b C A c := ⟨h.oc.then ho, own_only ho h.row, h.off⟩
/-- Behind a store into a struct of the call's own. -/
theorem KX.at7 {w0 w w' : World} {S : Nat → Prop} {b : Nat} {C : Ck} {A : Option Addr} {c k : Nat} {vs : List Value} (h : KX w0 w S b C A c) (hk : Blk w k 53 vs) (hkS : ¬ S k) (hk0 : w0.heap.size ≤ k) (hst : Stay (fun j => j = k) w w') : KX w0 w' S b C A c :=
  ⟨⟨h.oc.ck.stay hst (fun j hj e => hkS (e ▸ hj)), h.oc.ge, h.oc.only.trans hst (fun j hj e => by omega), h.oc.tab⟩, own_stay hst h.row (fun g hg e => own_ne_blk h.row hk (by decide) g hg e), h.off⟩
theorem play_fin {w0 w wz Wa W' : World} {S S0 : Nat → Prop} {b : Nat} {C : Ck} {A : Option Addr} {c k : Nat} {vs : List Value} (h : KX w0 wz S b C A c) (hk : Blk wz k 53 vs) (hl : vs.length = 3) (hkS : ¬ S k) (hk0 : w0.heap.size ≤ k) (hs : Stay S0 w wz) (hwk : w.heap.size ≤ k) (ha : Only wz Wa)
    {a0 a1 a2 : Value} (hb : Only (((Wa.setCell ⟨k, 0, none⟩ a0).setCell ⟨k, 1, none⟩ a1).setCell ⟨k, 2, none⟩ a2) W') : KX w0 W' S b C A c ∧ Blk W' k 53 [a0, a1, a2] ∧ Stay S0 w W' := by
  have h1 := (((Stay.refl (fun j => j = k) Wa).put rfl 0 a0).put rfl 1 a1).put rfl 2 a2
  refine ⟨((h.then ha).at7 (ha.blk hk) hkS hk0 h1).then hb, hb.blk ?_, ((hs.trans ha (fun _ _ h => h.elim)).trans h1 (fun j hj e => by omega)).trans hb (fun _ _ h => h.elim)⟩
  have hB := ha.blk hk
  match vs, hl with
  | [x0, x1, x2], _ => exact ((hB.set 0 a0).set 1 a1).set 2 a2
/-- The structs of the call: the reference's clock, the operation, the result. -/
structure PB (w W : World) (nw md : Int) (v : Value) (kd d : Int) : Prop where
  b4 : Blk W w.heap.size 53 [.int .i64 nw, .int .i64 md, v]
  b5 : Blk W (w.heap.size + 1) 55 [.int .i64 kd, .int .i64 d]
  b7 : Blk W (w.heap.size + 2) 53 [.int .i64 0, .int .i64 0, .slice none 0 0]
theorem PB.stay {w W W' : World} {nw md : Int} {v : Value} {kd d : Int} {X : Nat → Prop} (h : PB w W nw md v kd d) (hx : Stay X W W') (hX : ∀ k, X k → k < w.heap.size) : PB w W' nw md v kd d :=
  ⟨hx.blk h.b4 (fun e => by have := hX _ e; omega), hx.blk h.b5 (fun e => by have := hX _ e; omega), hx.blk h.b7 (fun e => by have := hX _ e; omega)⟩
theorem PB.only {w W W' : World} {nw md : Int} {v : Value} {kd d : Int} (h : PB w W nw md v kd d) (ho : Only W W') : PB w W' nw md v kd d := h.stay ho (fun _ h => h.elim)
theorem PB.start (w : World) (nw md : Int) (v : Value) (kd d : Int) : PB w (((w.alloc (.cells #[.int .i64 nw, .int .i64 md, v] 53)).alloc (.cells #[.int .i64 kd, .int .i64 d] 55)).alloc (.cells #[.int .i64 0, .int .i64 0, .slice none 0 0] 53)) nw md v kd d :=
  ⟨((Blk.new w [.int .i64 nw, .int .i64 md, v] _).alloc _).alloc _, (Blk.newAt _ [.int .i64 kd, .int .i64 d] _ _ (by simp)).alloc _, Blk.newAt _ [.int .i64 0, .int .i64 0, .slice none 0 0] _ _ (by simp)⟩
/-- What 'agree' says at the clock and the row as they lie in a world behind. -/
theorem KX.agree {w0 wz : World} {S : Nat → Prop} {b : Nat} {C : Ck} {A : Option Addr} {c k : Nat} {vs : List Value} (h : KX w0 wz S b C A c) (hk : Blk wz k 53 vs) (hkS : ¬ S k) (hk0 : w0.heap.size ≤ k) (W : World) (hW : Stay (fun j => j = k) wz W) :
    Calls Tryd.prog 26 #[.pointer (some ⟨b, 0, none⟩), C.val (.slice A C.ts.length c)] W fun e w' => e = .returned (.bool true) ∧ Only W w' := by
  have h2 := h.at7 hk hkS hk0 hW
  exact agree_any h2.oc.ck h2.oc.tabw A c (own_sl h2.row (Stay.refl _ _))
def PlayPost (w0 w : World) (S : Nat → Prop) (C' : Ck) (e : Ending) (w' : World) : Prop :=
  ∃ S' b' A' c', e = .returned (.tuple #[.pointer (some ⟨b', 0, none⟩), C'.val (.slice A' C'.ts.length c'), .bool true]) ∧ KX w0 w' S' b' C' A' c' ∧ (∀ k, S' k → S k ∨ w.heap.size ≤ k) ∧ Stay S w w'
set_option maxRecDepth 100000 in
set_option maxHeartbeats 4000000 in
theorem play_arm {w0 w : World} {S : Nat → Prop} {b : Nat} {C : Ck} {A : Option Addr} {c : Nat} (h : KX w0 w S b C A c) (hm : C.made < maxT) (d : Int) :
    Calls Tryd.prog 25 #[.pointer (some ⟨b, 0, none⟩), C.val (.slice A C.ts.length c), .agg #[.int .i64 0, .int .i64 d]] w (PlayPost w0 w S (C.arme d).1) := by
  obtain ⟨n, hn⟩ : ∃ n, n = C.ts.length := ⟨_, rfl⟩
  obtain ⟨nw, hnw⟩ : ∃ a : Int, a = C.now := ⟨_, rfl⟩
  obtain ⟨md, hmd⟩ : ∃ a : Int, a = C.made := ⟨_, rfl⟩
  have hval : C.val (.slice A C.ts.length c) = .agg #[.int .i64 nw, .int .i64 md, .slice A n c] := by unfold Ck.val; rw [hn, hnw, hmd]
  rw [hval]
  obtain ⟨D, hD⟩ : ∃ D, D = (C.arme d).1 := ⟨_, rfl⟩
  rw [← hD]
  have HN := Lib.hid (And.intro hval (And.intro h (And.intro hm hD)))
  clear h hm hval hn hnw hmd hD
  go_enter Tryd.func25, Tryd.ntmps25
  go_upto_region 1 with fail
  obtain ⟨W0, hW0⟩ : ∃ W0 : World, W0 = ((w.alloc (.cells #[.int .i64 nw, .int .i64 md, .slice A n c] 53)).alloc (.cells #[.int .i64 0, .int .i64 d] 55)).alloc (.cells #[.int .i64 0, .int .i64 0, .slice none 0 0] 53) := ⟨_, rfl⟩
  have hP0 : PB w W0 nw md (.slice A n c) 0 d := by rw [hW0]; exact PB.start w _ _ _ _ _
  have hO0 : Only w W0 := by rw [hW0]; exact (((Stay.refl _ w).alloc _).alloc _).alloc _
  rw [← hW0]
  have c5 := hP0.b5.cell
  have l5 := hP0.b5.lt
  have H0 := Lib.hid (And.intro hP0 (And.intro hO0 (HN.out.2.1.then hO0)))
  clear hP0 hO0 hW0
  go_wp2_with fail
  refine (arme_any H0.out.2.2.oc.ck HN.out.2.2.1 d).mono ?_
  rintro e w1 ⟨rfl, S1, hC1, hS1, hst1⟩
  have hSlt : ∀ k, S k → k < w.heap.size := fun k hk => HN.out.2.1.oc.ck.lt hk
  have hP1 := H0.out.1.stay hst1 hSlt
  have c4 := hP1.b4.cell
  have l4 := hP1.b4.lt
  have c5a := hP1.b5.cell
  have l5a := hP1.b5.lt
  have hrow1 := own_stay hst1 H0.out.2.2.row H0.out.2.2.off
  have hin : RcIn w1 C A c := ⟨H0.out.2.2.oc.ck.ok, own_sl hrow1 (Stay.refl _ _)⟩
  have hra := rarm_any w1 C A c hin HN.out.2.2.1 d
  obtain ⟨zz, hzz⟩ : ∃ zz, zz = (C.arme d).2.1 := ⟨_, rfl⟩
  obtain ⟨ee, hee⟩ : ∃ ee, ee = (C.arme d).2.2 := ⟨_, rfl⟩
  rw [← HN.out.2.2.2] at hC1
  rw [HN.out.1, ← HN.out.2.2.2, ← hzz, ← hee] at hra
  rw [← hzz, ← hee]
  have hoff1 : ∀ g, (Value.slice A C.ts.length c).ownBlock = some g → ¬ S1 g := fun g hg hs => by
    rcases hS1 g hs with e | e
    · exact HN.out.2.1.off g hg e
    · have := (own_lt H0.out.2.2.row g hg).2; omega
  have hb7 : ¬ S1 (w.heap.size + 2) := fun hs => by
    rcases hS1 _ hs with e | e
    · have := hSlt _ e; omega
    · have := H0.out.1.b7.lt; omega
  have hsw : Stay S w w1 := (H0.out.2.1.mono (fun _ _ h => h.elim)).trans hst1 (fun _ _ h => h)
  have hsub : ∀ k, S1 k → S k ∨ w.heap.size ≤ k := fun k hk => (hS1 k hk).imp id (fun h => Nat.le_trans H0.out.2.1.size h)
  have HSW := Lib.hid (And.intro hsw hsub)
  clear hsw hsub
  have H1 := Lib.hid (And.intro (H0.out.2.2.oc.next hC1 hS1 hst1) (And.intro hrow1 (And.intro hoff1 (And.intro hP1 hb7))))
  have HR := Lib.hid hra
  clear hC1 hS1 hst1 hSlt hP1 hrow1 hin hra hzz hee hoff1 hb7 c5 l5
  go_wp2_with fail
  refine HR.out.mono ?_
  clear HR
  rintro e w2 ⟨v', rfl, hout⟩
  have HO12 := Lib.hid hout.2
  have hrr := RcOut.row hout H1.out.2.1 H1.out.1.only.size H1.out.2.2.1 (fun k hk => H1.out.1.ck.lt hk)
  obtain ⟨A', c', rfl⟩ := own_shape hrr.1
  have hKX : KX w0 w2 S1 b D A' c' := ⟨H1.out.1.then hout.2, hrr.1, hrr.2⟩
  have hP2 := H1.out.2.2.2.1.only hout.2
  obtain ⟨q, hq⟩ : ∃ q, q = D.ts.length := ⟨_, rfl⟩
  obtain ⟨n2, hn2⟩ : ∃ a : Int, a = D.now := ⟨_, rfl⟩
  obtain ⟨m2, hm2⟩ : ∃ a : Int, a = D.made := ⟨_, rfl⟩
  have hval : D.val (.slice A' D.ts.length c') = .agg #[.int .i64 n2, .int .i64 m2, .slice A' q c'] := by unfold Ck.val; rw [hn2, hm2, hq]
  rw [hval]
  have H2 := Lib.hid (And.intro hKX (And.intro hP2 hval))
  clear hrr hout hKX hP2 hval hn2 hm2 hq c4 l4 c5a l5a
  go_upto_region 5 with fail
  obtain ⟨wz, hwz⟩ : ∃ wz, wz = w2.alloc (.cells #[.int .i64 n2, .int .i64 m2, .slice A' q c'] 53) := ⟨_, rfl⟩
  have hOz : Only w2 wz := by rw [hwz]; exact (Stay.refl _ w2).alloc _
  have hBz : Blk wz w2.heap.size 53 [.int .i64 n2, .int .i64 m2, .slice A' q c'] := by rw [hwz]; exact Blk.new w2 [_, _, _] _
  have hPz := H2.out.2.1.only hOz
  rw [← hwz]
  have k0 := hBz.cell 0
  have k1 := hBz.cell 1
  have k2 := hBz.cell 2
  simp only [List.getElem?_cons_zero, List.getElem?_cons_succ] at k0 k1 k2
  have lz := hBz.lt
  have f7 := hPz.b7.free
  have c7 := hPz.b7.cell
  have l7 := hPz.b7.lt
  have hlt7 := H2.out.2.1.b7.lt
  have hne : w2.heap.size ≠ w.heap.size + 2 := by omega
  have hne' : w.heap.size + 2 ≠ w2.heap.size := by omega
  have hk0 : w0.heap.size ≤ w.heap.size + 2 := by have := HN.out.2.1.oc.only.size; omega
  have hag := (H2.out.1.then hOz).agree hPz.b7 H1.out.2.2.2.2 hk0
  rw [H2.out.2.2] at hag
  have HG := Lib.hid hag
  have HB7 := Lib.hid hPz.b7
  have HF := Lib.hid (fun (Wa W' : World) (ha : Only wz Wa) (hb : Only (((Wa.setCell ⟨w.heap.size + 2, 0, none⟩ (.int .i64 n2)).setCell ⟨w.heap.size + 2, 1, none⟩ (.int .i64 m2)).setCell ⟨w.heap.size + 2, 2, none⟩ (.slice A' q c')) W') => play_fin (H2.out.1.then hOz) hPz.b7 rfl H1.out.2.2.2.2 hk0 (HSW.out.1.trans (HO12.out.trans' hOz) (fun _ _ h => h.elim)) (by omega) ha hb)
  clear hag hOz hBz hPz hwz hk0 hlt7
  go_region_held3 (fun w' => w'.cell? ⟨w2.heap.size, 0, none⟩ = some (.int .i64 n2) ∧ w'.cell? ⟨w2.heap.size, 1, none⟩ = some (.int .i64 m2) ∧ w'.cell? ⟨w2.heap.size, 2, none⟩ = some (.slice A' q c'))
    (first
      | go_keep
      | (go_split_ands; refine ⟨?_, ?_, ?_⟩ <;> (apply Only.cell o5; assumption)))
    ((go_at_call 26; refine (HG.out _ (by first | exact (Stay.refl _ wz).drew | exact ((((Stay.refl (fun j => j = w.heap.size + 2) wz).drew).put rfl _ _).put rfl _ _).put rfl _ _)).mono ?_; rintro e w5 ⟨rfl, o5⟩; (first | (have hB5 := o5.blk HB7.out; have f7b := hB5.free; have c7b := hB5.cell; have l7b := hB5.lt; clear hB5) | skip)))
  all_goals
    go_wp2_with fail
    have hF := HF.out w5 _ ((show Only wz wz.drew from (Stay.refl _ wz).drew).trans' o5) (Stay.refl _ _)
    have r0 := hF.2.1.cell 0
    have r1 := hF.2.1.cell 1
    have r2 := hF.2.1.cell 2
    rw [show w.heap.size + 2 = w.heap.size + 1 + 1 from rfl] at r0 r1 r2
    simp only [List.getElem?_cons_zero, List.getElem?_cons_succ] at r0 r1 r2
    refine bodyPost_ret (v := .tuple #[.pointer (some ⟨b, 0, none⟩), .agg #[.int .i64 n2, .int .i64 m2, .slice A' q c'], .bool true]) (by simp [results, Tryd.results25, go_sem, r0, r1, r2]) rfl ?_
    exact ⟨S1, b, A', c', by rw [H2.out.2.2], hF.1, HSW.out.2, hF.2.2⟩
set_option maxRecDepth 100000 in
set_option maxHeartbeats 4000000 in
theorem play_dis {w0 w : World} {S : Nat → Prop} {b : Nat} {C : Ck} {A : Option Addr} {c : Nat} (h : KX w0 w S b C A c) (d : Int) :
    Calls Tryd.prog 25 #[.pointer (some ⟨b, 0, none⟩), C.val (.slice A C.ts.length c), .agg #[.int .i64 1, .int .i64 d]] w (PlayPost w0 w S (C.dise d).1) := by
  obtain ⟨n, hn⟩ : ∃ n, n = C.ts.length := ⟨_, rfl⟩
  obtain ⟨nw, hnw⟩ : ∃ a : Int, a = C.now := ⟨_, rfl⟩
  obtain ⟨md, hmd⟩ : ∃ a : Int, a = C.made := ⟨_, rfl⟩
  have hval : C.val (.slice A C.ts.length c) = .agg #[.int .i64 nw, .int .i64 md, .slice A n c] := by unfold Ck.val; rw [hn, hnw, hmd]
  rw [hval]
  obtain ⟨D, hD⟩ : ∃ D, D = (C.dise d).1 := ⟨_, rfl⟩
  rw [← hD]
  have HN := Lib.hid (And.intro hval (And.intro h hD))
  clear h hval hn hnw hmd hD
  go_enter Tryd.func25, Tryd.ntmps25
  go_upto_region 1 with fail
  obtain ⟨W0, hW0⟩ : ∃ W0 : World, W0 = ((w.alloc (.cells #[.int .i64 nw, .int .i64 md, .slice A n c] 53)).alloc (.cells #[.int .i64 1, .int .i64 d] 55)).alloc (.cells #[.int .i64 0, .int .i64 0, .slice none 0 0] 53) := ⟨_, rfl⟩
  have hP0 : PB w W0 nw md (.slice A n c) 1 d := by rw [hW0]; exact PB.start w _ _ _ _ _
  have hO0 : Only w W0 := by rw [hW0]; exact (((Stay.refl _ w).alloc _).alloc _).alloc _
  rw [← hW0]
  have c5 := hP0.b5.cell
  have l5 := hP0.b5.lt
  have H0 := Lib.hid (And.intro hP0 (And.intro hO0 (HN.out.2.1.then hO0)))
  clear hP0 hO0 hW0
  go_wp2_with fail
  refine (dise_any H0.out.2.2.oc.ck d).mono ?_
  rintro e w1 ⟨rfl, S1, hC1, hS1, hst1⟩
  have hSlt : ∀ k, S k → k < w.heap.size := fun k hk => HN.out.2.1.oc.ck.lt hk
  have hP1 := H0.out.1.stay hst1 hSlt
  have c4 := hP1.b4.cell
  have l4 := hP1.b4.lt
  have c5a := hP1.b5.cell
  have l5a := hP1.b5.lt
  have hrow1 := own_stay hst1 H0.out.2.2.row H0.out.2.2.off
  have hin : RcIn w1 C A c := ⟨H0.out.2.2.oc.ck.ok, own_sl hrow1 (Stay.refl _ _)⟩
  have hra := rdis_any w1 C A c hin d
  obtain ⟨ee, hee⟩ : ∃ ee, ee = (C.dise d).2 := ⟨_, rfl⟩
  rw [← HN.out.2.2] at hC1
  rw [HN.out.1, ← HN.out.2.2, ← hee] at hra
  rw [← hee]
  have hoff1 : ∀ g, (Value.slice A C.ts.length c).ownBlock = some g → ¬ S1 g := fun g hg hs => by
    rcases hS1 g hs with e | e
    · exact HN.out.2.1.off g hg e
    · have := (own_lt H0.out.2.2.row g hg).2; omega
  have hb7 : ¬ S1 (w.heap.size + 2) := fun hs => by
    rcases hS1 _ hs with e | e
    · have := hSlt _ e; omega
    · have := H0.out.1.b7.lt; omega
  have hsw : Stay S w w1 := (H0.out.2.1.mono (fun _ _ h => h.elim)).trans hst1 (fun _ _ h => h)
  have hsub : ∀ k, S1 k → S k ∨ w.heap.size ≤ k := fun k hk => (hS1 k hk).imp id (fun h => Nat.le_trans H0.out.2.1.size h)
  have HSW := Lib.hid (And.intro hsw hsub)
  clear hsw hsub
  have H1 := Lib.hid (And.intro (H0.out.2.2.oc.next hC1 hS1 hst1) (And.intro hrow1 (And.intro hoff1 (And.intro hP1 hb7))))
  have HR := Lib.hid hra
  clear hC1 hS1 hst1 hSlt hP1 hrow1 hin hra hee hoff1 hb7 c5 l5
  go_wp2_with fail
  refine HR.out.mono ?_
  clear HR
  rintro e w2 ⟨v', rfl, hout⟩
  have HO12 := Lib.hid hout.2
  have hrr := RcOut.row hout H1.out.2.1 H1.out.1.only.size H1.out.2.2.1 (fun k hk => H1.out.1.ck.lt hk)
  obtain ⟨A', c', rfl⟩ := own_shape hrr.1
  have hKX : KX w0 w2 S1 b D A' c' := ⟨H1.out.1.then hout.2, hrr.1, hrr.2⟩
  have hP2 := H1.out.2.2.2.1.only hout.2
  obtain ⟨q, hq⟩ : ∃ q, q = D.ts.length := ⟨_, rfl⟩
  obtain ⟨n2, hn2⟩ : ∃ a : Int, a = D.now := ⟨_, rfl⟩
  obtain ⟨m2, hm2⟩ : ∃ a : Int, a = D.made := ⟨_, rfl⟩
  have hval : D.val (.slice A' D.ts.length c') = .agg #[.int .i64 n2, .int .i64 m2, .slice A' q c'] := by unfold Ck.val; rw [hn2, hm2, hq]
  rw [hval]
  have H2 := Lib.hid (And.intro hKX (And.intro hP2 hval))
  clear hrr hout hKX hP2 hval hn2 hm2 hq c4 l4 c5a l5a
  go_upto_region 9 with fail
  obtain ⟨wz, hwz⟩ : ∃ wz, wz = w2.alloc (.cells #[.int .i64 n2, .int .i64 m2, .slice A' q c'] 53) := ⟨_, rfl⟩
  have hOz : Only w2 wz := by rw [hwz]; exact (Stay.refl _ w2).alloc _
  have hBz : Blk wz w2.heap.size 53 [.int .i64 n2, .int .i64 m2, .slice A' q c'] := by rw [hwz]; exact Blk.new w2 [_, _, _] _
  have hPz := H2.out.2.1.only hOz
  rw [← hwz]
  have k0 := hBz.cell 0
  have k1 := hBz.cell 1
  have k2 := hBz.cell 2
  simp only [List.getElem?_cons_zero, List.getElem?_cons_succ] at k0 k1 k2
  have lz := hBz.lt
  have f7 := hPz.b7.free
  have c7 := hPz.b7.cell
  have l7 := hPz.b7.lt
  have hlt7 := H2.out.2.1.b7.lt
  have hne : w2.heap.size ≠ w.heap.size + 2 := by omega
  have hne' : w.heap.size + 2 ≠ w2.heap.size := by omega
  have hk0 : w0.heap.size ≤ w.heap.size + 2 := by have := HN.out.2.1.oc.only.size; omega
  have hag := (H2.out.1.then hOz).agree hPz.b7 H1.out.2.2.2.2 hk0
  rw [H2.out.2.2] at hag
  have HG := Lib.hid hag
  have HB7 := Lib.hid hPz.b7
  have HF := Lib.hid (fun (Wa W' : World) (ha : Only wz Wa) (hb : Only (((Wa.setCell ⟨w.heap.size + 2, 0, none⟩ (.int .i64 n2)).setCell ⟨w.heap.size + 2, 1, none⟩ (.int .i64 m2)).setCell ⟨w.heap.size + 2, 2, none⟩ (.slice A' q c')) W') => play_fin (H2.out.1.then hOz) hPz.b7 rfl H1.out.2.2.2.2 hk0 (HSW.out.1.trans (HO12.out.trans' hOz) (fun _ _ h => h.elim)) (by omega) ha hb)
  clear hag hOz hBz hPz hwz hk0 hlt7
  go_region_held3 (fun w' => w'.cell? ⟨w2.heap.size, 0, none⟩ = some (.int .i64 n2) ∧ w'.cell? ⟨w2.heap.size, 1, none⟩ = some (.int .i64 m2) ∧ w'.cell? ⟨w2.heap.size, 2, none⟩ = some (.slice A' q c'))
    (first
      | go_keep
      | (go_split_ands; refine ⟨?_, ?_, ?_⟩ <;> (apply Only.cell o5; assumption)))
    ((go_at_call 26; refine (HG.out _ (by first | exact (Stay.refl _ wz).drew | exact ((((Stay.refl (fun j => j = w.heap.size + 2) wz).drew).put rfl _ _).put rfl _ _).put rfl _ _)).mono ?_; rintro e w5 ⟨rfl, o5⟩; (first | (have hB5 := o5.blk HB7.out; have f7b := hB5.free; have c7b := hB5.cell; have l7b := hB5.lt; clear hB5) | skip)))
  all_goals
    go_wp2_with fail
    have hF := HF.out w5 _ ((show Only wz wz.drew from (Stay.refl _ wz).drew).trans' o5) (Stay.refl _ _)
    have r0 := hF.2.1.cell 0
    have r1 := hF.2.1.cell 1
    have r2 := hF.2.1.cell 2
    rw [show w.heap.size + 2 = w.heap.size + 1 + 1 from rfl] at r0 r1 r2
    simp only [List.getElem?_cons_zero, List.getElem?_cons_succ] at r0 r1 r2
    refine bodyPost_ret (v := .tuple #[.pointer (some ⟨b, 0, none⟩), .agg #[.int .i64 n2, .int .i64 m2, .slice A' q c'], .bool true]) (by simp [results, Tryd.results25, go_sem, r0, r1, r2]) rfl ?_
    exact ⟨S1, b, A', c', by rw [H2.out.2.2], hF.1, HSW.out.2, hF.2.2⟩
/-- Two rows of the same numbers, as they lie in a world behind. -/
theorem eq_two {wz : World} {A B : Option Addr} {ca cb p k B1 B2 : Nat} {L : List Int} {vs : List Value} (h1 : wz.ownsRow B1 3 1 (.slice A p ca) p (ints L)) (h2 : wz.ownsRow B2 3 1 (.slice B p cb) p (ints L)) (hk : Blk wz k 53 vs) (hp : p = L.length) (W : World) (hW : Stay (fun j => j = k) wz W) :
    Calls Tryd.prog 22 #[.slice A p ca, .slice B p cb] W fun e w' => e = .returned (.bool true) ∧ Only W w' := by
  have r1 := own_stay hW h1 (fun g hg e => own_ne_blk h1 hk (by decide) g hg e)
  have r2 := own_stay hW h2 (fun g hg e => own_ne_blk h2 hk (by decide) g hg e)
  subst hp
  have := eqI_any W A B ca cb L L (own_sl r1 (Stay.refl _ _)) (own_sl r2 (Stay.refl _ _))
  rw [beq_self_eq_true] at this
  exact this
set_option maxRecDepth 100000 in
set_option maxHeartbeats 4000000 in
theorem play_adv {w0 w : World} {S : Nat → Prop} {b : Nat} {C : Ck} {A : Option Addr} {c : Nat} (h : KX w0 w S b C A c) (d : Int) :
    Calls Tryd.prog 25 #[.pointer (some ⟨b, 0, none⟩), C.val (.slice A C.ts.length c), .agg #[.int .i64 2, .int .i64 d]] w (PlayPost w0 w S (C.adve d).1) := by
  obtain ⟨n, hn⟩ : ∃ n, n = C.ts.length := ⟨_, rfl⟩
  obtain ⟨nw, hnw⟩ : ∃ a : Int, a = C.now := ⟨_, rfl⟩
  obtain ⟨md, hmd⟩ : ∃ a : Int, a = C.made := ⟨_, rfl⟩
  have hval : C.val (.slice A C.ts.length c) = .agg #[.int .i64 nw, .int .i64 md, .slice A n c] := by unfold Ck.val; rw [hn, hnw, hmd]
  rw [hval]
  obtain ⟨D, hD⟩ : ∃ D, D = (C.adve d).1 := ⟨_, rfl⟩
  rw [← hD]
  have HN := Lib.hid (And.intro hval (And.intro h hD))
  clear h hval hn hnw hmd hD
  go_enter Tryd.func25, Tryd.ntmps25
  go_upto_region 1 with fail
  obtain ⟨W0, hW0⟩ : ∃ W0 : World, W0 = ((w.alloc (.cells #[.int .i64 nw, .int .i64 md, .slice A n c] 53)).alloc (.cells #[.int .i64 2, .int .i64 d] 55)).alloc (.cells #[.int .i64 0, .int .i64 0, .slice none 0 0] 53) := ⟨_, rfl⟩
  have hP0 : PB w W0 nw md (.slice A n c) 2 d := by rw [hW0]; exact PB.start w _ _ _ _ _
  have hO0 : Only w W0 := by rw [hW0]; exact (((Stay.refl _ w).alloc _).alloc _).alloc _
  rw [← hW0]
  have c5 := hP0.b5.cell
  have l5 := hP0.b5.lt
  have H0 := Lib.hid (And.intro hP0 (And.intro hO0 (HN.out.2.1.then hO0)))
  clear hP0 hO0 hW0
  go_wp2_with fail
  refine (adve_any H0.out.2.2.oc.ck H0.out.2.2.oc.tabw H0.out.2.2.oc.g d).mono ?_
  rintro e w1 ⟨v1, rfl, S1, hr1, hC1, hS1, hst1, hn1⟩
  have hSlt : ∀ k, S k → k < w.heap.size := fun k hk => HN.out.2.1.oc.ck.lt hk
  have hP1 := H0.out.1.stay hst1 hSlt
  have c4 := hP1.b4.cell
  have l4 := hP1.b4.lt
  have c5a := hP1.b5.cell
  have l5a := hP1.b5.lt
  have hrow1 := own_stay hst1 H0.out.2.2.row H0.out.2.2.off
  have hin : RcIn w1 C A c := ⟨H0.out.2.2.oc.ck.ok, own_sl hrow1 (Stay.refl _ _)⟩
  have hra := radv_any w1 C A c hin d
  obtain ⟨L, hL⟩ : ∃ L, L = (C.adve d).2.1 := ⟨_, rfl⟩
  obtain ⟨ee, hee⟩ : ∃ ee, ee = (C.adve d).2.2 := ⟨_, rfl⟩
  rw [← HN.out.2.2] at hC1
  rw [HN.out.1, ← HN.out.2.2, ← hL, ← hee] at hra
  rw [← hL] at hr1
  rw [← hee]
  obtain ⟨p, hp⟩ : ∃ p, p = L.length := ⟨_, rfl⟩
  rw [← hp] at hr1 hra
  obtain ⟨A1, c1, rfl⟩ := own_shape hr1
  have hoff1 : ∀ g, (Value.slice A C.ts.length c).ownBlock = some g → ¬ S1 g := fun g hg hs => by
    rcases hS1 g hs with e | e
    · exact HN.out.2.1.off g hg e
    · have := (own_lt H0.out.2.2.row g hg).2; omega
  have hb7 : ¬ S1 (w.heap.size + 2) := fun hs => by
    rcases hS1 _ hs with e | e
    · have := hSlt _ e; omega
    · have := H0.out.1.b7.lt; omega
  have hsw : Stay S w w1 := (H0.out.2.1.mono (fun _ _ h => h.elim)).trans hst1 (fun _ _ h => h)
  have hsub : ∀ k, S1 k → S k ∨ w.heap.size ≤ k := fun k hk => (hS1 k hk).imp id (fun h => Nat.le_trans H0.out.2.1.size h)
  have HSW := Lib.hid (And.intro hsw hsub)
  clear hsw hsub
  have H1 := Lib.hid (And.intro (H0.out.2.2.oc.next hC1 hS1 hst1) (And.intro hrow1 (And.intro hoff1 (And.intro hP1 (And.intro hb7 (And.intro hr1 hp))))))
  have HR := Lib.hid hra
  clear hr1 hp hC1 hS1 hst1 hSlt hP1 hrow1 hin hra hL hee hn1 hoff1 hb7 c5 l5
  go_wp2_with fail
  refine HR.out.mono ?_
  clear HR
  rintro e w2 ⟨v', vl, rfl, hout, hvl⟩
  obtain ⟨A3, c3, rfl⟩ := own_shape hvl
  have HO12 := Lib.hid hout.2
  have hrr := RcOut.row hout H1.out.2.1 H1.out.1.only.size H1.out.2.2.1 (fun k hk => H1.out.1.ck.lt hk)
  obtain ⟨A', c', rfl⟩ := own_shape hrr.1
  have hKX : KX w0 w2 S1 b D A' c' := ⟨H1.out.1.then hout.2, hrr.1, hrr.2⟩
  have hP2 := H1.out.2.2.2.1.only hout.2
  obtain ⟨q, hq⟩ : ∃ q, q = D.ts.length := ⟨_, rfl⟩
  obtain ⟨n2, hn2⟩ : ∃ a : Int, a = D.now := ⟨_, rfl⟩
  obtain ⟨m2, hm2⟩ : ∃ a : Int, a = D.made := ⟨_, rfl⟩
  have hval : D.val (.slice A' D.ts.length c') = .agg #[.int .i64 n2, .int .i64 m2, .slice A' q c'] := by unfold Ck.val; rw [hn2, hm2, hq]
  rw [hval]
  have H2 := Lib.hid (And.intro hKX (And.intro hP2 (And.intro hval (And.intro (own_only hout.2 H1.out.2.2.2.2.2.1) hvl))))
  clear hrr hvl hout hKX hP2 hval hn2 hm2 hq c4 l4 c5a l5a
  go_upto_region 13 with fail
  obtain ⟨wz, hwz⟩ : ∃ wz, wz = w2.alloc (.cells #[.int .i64 n2, .int .i64 m2, .slice A' q c'] 53) := ⟨_, rfl⟩
  have hOz : Only w2 wz := by rw [hwz]; exact (Stay.refl _ w2).alloc _
  have hBz : Blk wz w2.heap.size 53 [.int .i64 n2, .int .i64 m2, .slice A' q c'] := by rw [hwz]; exact Blk.new w2 [_, _, _] _
  have hPz := H2.out.2.1.only hOz
  rw [← hwz]
  have k0 := hBz.cell 0
  have k1 := hBz.cell 1
  have k2 := hBz.cell 2
  simp only [List.getElem?_cons_zero, List.getElem?_cons_succ] at k0 k1 k2
  have lz := hBz.lt
  have f7 := hPz.b7.free
  have c7 := hPz.b7.cell
  have l7 := hPz.b7.lt
  have hlt7 := H2.out.2.1.b7.lt
  have hne : w2.heap.size ≠ w.heap.size + 2 := by omega
  have hne' : w.heap.size + 2 ≠ w2.heap.size := by omega
  have hk0 : w0.heap.size ≤ w.heap.size + 2 := by have := HN.out.2.1.oc.only.size; omega
  have hag := (H2.out.1.then hOz).agree hPz.b7 H1.out.2.2.2.2.1 hk0
  rw [H2.out.2.2.1] at hag
  have HG := Lib.hid hag
  have HB7 := Lib.hid hPz.b7
  have HQ := Lib.hid (fun (W : World) (hW : Stay (fun j => j = w.heap.size + 2) wz W) => eq_two (own_only hOz H2.out.2.2.2.1) (own_only hOz H2.out.2.2.2.2) hPz.b7 H1.out.2.2.2.2.2.2 W hW)
  have HF := Lib.hid (fun (Wa W' : World) (ha : Only wz Wa) (hb : Only (((Wa.setCell ⟨w.heap.size + 2, 0, none⟩ (.int .i64 n2)).setCell ⟨w.heap.size + 2, 1, none⟩ (.int .i64 m2)).setCell ⟨w.heap.size + 2, 2, none⟩ (.slice A' q c')) W') => play_fin (H2.out.1.then hOz) hPz.b7 rfl H1.out.2.2.2.2.1 hk0 (HSW.out.1.trans (HO12.out.trans' hOz) (fun _ _ h => h.elim)) (by omega) ha hb)
  clear hag hOz hBz hPz hwz hk0 hlt7
  go_region_held3 (fun w' => w'.cell? ⟨w2.heap.size, 0, none⟩ = some (.int .i64 n2) ∧ w'.cell? ⟨w2.heap.size, 1, none⟩ = some (.int .i64 m2) ∧ w'.cell? ⟨w2.heap.size, 2, none⟩ = some (.slice A' q c'))
    (first
      | go_keep
      | (go_split_ands; refine ⟨?_, ?_, ?_⟩ <;> (apply Only.cell o5; assumption)))
    (first
      | (go_at_call 22; refine (HQ.out _ (by first | exact (Stay.refl _ wz).drew | exact ((((Stay.refl (fun j => j = w.heap.size + 2) wz).drew).put rfl _ _).put rfl _ _).put rfl _ _)).mono ?_; rintro e w4 ⟨rfl, o5⟩; (first | (have hB4 := o5.blk HB7.out; have f7a := hB4.free; have c7a := hB4.cell; have l7a := hB4.lt; clear hB4) | skip))
      | (go_at_call 26; have o4 : Only wz w4 := (show Only wz wz.drew from (Stay.refl _ wz).drew).trans' o5; clear o5; refine (HG.out _ (by first | exact o4.mono (fun _ _ h => h.elim) | exact (((show Stay (fun j => j = w.heap.size + 2) wz w4 from o4.mono (fun _ _ h => h.elim)).put rfl _ _).put rfl _ _).put rfl _ _)).mono ?_; rintro e w5 ⟨rfl, o5⟩; (first | (have hB5 := (o4.trans' o5).blk HB7.out; have f7b := hB5.free; have c7b := hB5.cell; have l7b := hB5.lt; clear hB5) | skip)))
  all_goals
    go_wp2_with fail
    have hF := HF.out w5 _ (o4.trans' o5) (Stay.refl _ _)
    have r0 := hF.2.1.cell 0
    have r1 := hF.2.1.cell 1
    have r2 := hF.2.1.cell 2
    rw [show w.heap.size + 2 = w.heap.size + 1 + 1 from rfl] at r0 r1 r2
    simp only [List.getElem?_cons_zero, List.getElem?_cons_succ] at r0 r1 r2
    refine bodyPost_ret (v := .tuple #[.pointer (some ⟨b, 0, none⟩), .agg #[.int .i64 n2, .int .i64 m2, .slice A' q c'], .bool true]) (by simp [results, Tryd.results25, go_sem, r0, r1, r2]) rfl ?_
    exact ⟨S1, b, A', c', by rw [H2.out.2.2.1], hF.1, HSW.out.2, hF.2.2⟩
set_option maxRecDepth 100000 in
set_option maxHeartbeats 4000000 in
theorem play_tick {w0 w : World} {S : Nat → Prop} {b : Nat} {C : Ck} {A : Option Addr} {c : Nat} (h : KX w0 w S b C A c) (d : Int) :
    Calls Tryd.prog 25 #[.pointer (some ⟨b, 0, none⟩), C.val (.slice A C.ts.length c), .agg #[.int .i64 3, .int .i64 d]] w (PlayPost w0 w S (C.ticke).1) := by
  obtain ⟨n, hn⟩ : ∃ n, n = C.ts.length := ⟨_, rfl⟩
  obtain ⟨nw, hnw⟩ : ∃ a : Int, a = C.now := ⟨_, rfl⟩
  obtain ⟨md, hmd⟩ : ∃ a : Int, a = C.made := ⟨_, rfl⟩
  have hval : C.val (.slice A C.ts.length c) = .agg #[.int .i64 nw, .int .i64 md, .slice A n c] := by unfold Ck.val; rw [hn, hnw, hmd]
  rw [hval]
  obtain ⟨D, hD⟩ : ∃ D, D = (C.ticke).1 := ⟨_, rfl⟩
  rw [← hD]
  have HN := Lib.hid (And.intro hval (And.intro h hD))
  clear h hval hn hnw hmd hD
  go_enter Tryd.func25, Tryd.ntmps25
  go_upto_region 1 with fail
  obtain ⟨W0, hW0⟩ : ∃ W0 : World, W0 = ((w.alloc (.cells #[.int .i64 nw, .int .i64 md, .slice A n c] 53)).alloc (.cells #[.int .i64 3, .int .i64 d] 55)).alloc (.cells #[.int .i64 0, .int .i64 0, .slice none 0 0] 53) := ⟨_, rfl⟩
  have hP0 : PB w W0 nw md (.slice A n c) 3 d := by rw [hW0]; exact PB.start w _ _ _ _ _
  have hO0 : Only w W0 := by rw [hW0]; exact (((Stay.refl _ w).alloc _).alloc _).alloc _
  rw [← hW0]
  have c5 := hP0.b5.cell
  have l5 := hP0.b5.lt
  have H0 := Lib.hid (And.intro hP0 (And.intro hO0 (HN.out.2.1.then hO0)))
  clear hP0 hO0 hW0
  go_wp2_with fail
  refine (ticke_any H0.out.2.2.oc.ck H0.out.2.2.oc.tabw H0.out.2.2.oc.g).mono ?_
  rintro e w1 ⟨v1, rfl, S1, hr1, hC1, hS1, hst1, hn1⟩
  have hSlt : ∀ k, S k → k < w.heap.size := fun k hk => HN.out.2.1.oc.ck.lt hk
  have hP1 := H0.out.1.stay hst1 hSlt
  have c4 := hP1.b4.cell
  have l4 := hP1.b4.lt
  have c5a := hP1.b5.cell
  have l5a := hP1.b5.lt
  have hrow1 := own_stay hst1 H0.out.2.2.row H0.out.2.2.off
  have hin : RcIn w1 C A c := ⟨H0.out.2.2.oc.ck.ok, own_sl hrow1 (Stay.refl _ _)⟩
  have hra := rtick_any w1 C A c hin
  obtain ⟨L, hL⟩ : ∃ L, L = (C.ticke).2.1 := ⟨_, rfl⟩
  obtain ⟨ee, hee⟩ : ∃ ee, ee = (C.ticke).2.2 := ⟨_, rfl⟩
  rw [← HN.out.2.2] at hC1
  rw [HN.out.1, ← HN.out.2.2, ← hL, ← hee] at hra
  rw [← hL] at hr1
  rw [← hee]
  obtain ⟨p, hp⟩ : ∃ p, p = L.length := ⟨_, rfl⟩
  rw [← hp] at hr1 hra
  obtain ⟨A1, c1, rfl⟩ := own_shape hr1
  have hoff1 : ∀ g, (Value.slice A C.ts.length c).ownBlock = some g → ¬ S1 g := fun g hg hs => by
    rcases hS1 g hs with e | e
    · exact HN.out.2.1.off g hg e
    · have := (own_lt H0.out.2.2.row g hg).2; omega
  have hb7 : ¬ S1 (w.heap.size + 2) := fun hs => by
    rcases hS1 _ hs with e | e
    · have := hSlt _ e; omega
    · have := H0.out.1.b7.lt; omega
  have hsw : Stay S w w1 := (H0.out.2.1.mono (fun _ _ h => h.elim)).trans hst1 (fun _ _ h => h)
  have hsub : ∀ k, S1 k → S k ∨ w.heap.size ≤ k := fun k hk => (hS1 k hk).imp id (fun h => Nat.le_trans H0.out.2.1.size h)
  have HSW := Lib.hid (And.intro hsw hsub)
  clear hsw hsub
  have H1 := Lib.hid (And.intro (H0.out.2.2.oc.next hC1 hS1 hst1) (And.intro hrow1 (And.intro hoff1 (And.intro hP1 (And.intro hb7 (And.intro hr1 hp))))))
  have HR := Lib.hid hra
  clear hr1 hp hC1 hS1 hst1 hSlt hP1 hrow1 hin hra hL hee hn1 hoff1 hb7 c5 l5
  go_wp2_with fail
  refine HR.out.mono ?_
  clear HR
  rintro e w2 ⟨v', vl, rfl, hout, hvl⟩
  obtain ⟨A3, c3, rfl⟩ := own_shape hvl
  have HO12 := Lib.hid hout.2
  have hrr := RcOut.row hout H1.out.2.1 H1.out.1.only.size H1.out.2.2.1 (fun k hk => H1.out.1.ck.lt hk)
  obtain ⟨A', c', rfl⟩ := own_shape hrr.1
  have hKX : KX w0 w2 S1 b D A' c' := ⟨H1.out.1.then hout.2, hrr.1, hrr.2⟩
  have hP2 := H1.out.2.2.2.1.only hout.2
  obtain ⟨q, hq⟩ : ∃ q, q = D.ts.length := ⟨_, rfl⟩
  obtain ⟨n2, hn2⟩ : ∃ a : Int, a = D.now := ⟨_, rfl⟩
  obtain ⟨m2, hm2⟩ : ∃ a : Int, a = D.made := ⟨_, rfl⟩
  have hval : D.val (.slice A' D.ts.length c') = .agg #[.int .i64 n2, .int .i64 m2, .slice A' q c'] := by unfold Ck.val; rw [hn2, hm2, hq]
  rw [hval]
  have H2 := Lib.hid (And.intro hKX (And.intro hP2 (And.intro hval (And.intro (own_only hout.2 H1.out.2.2.2.2.2.1) hvl))))
  clear hrr hvl hout hKX hP2 hval hn2 hm2 hq c4 l4 c5a l5a
  go_upto_region 17 with fail
  obtain ⟨wz, hwz⟩ : ∃ wz, wz = w2.alloc (.cells #[.int .i64 n2, .int .i64 m2, .slice A' q c'] 53) := ⟨_, rfl⟩
  have hOz : Only w2 wz := by rw [hwz]; exact (Stay.refl _ w2).alloc _
  have hBz : Blk wz w2.heap.size 53 [.int .i64 n2, .int .i64 m2, .slice A' q c'] := by rw [hwz]; exact Blk.new w2 [_, _, _] _
  have hPz := H2.out.2.1.only hOz
  rw [← hwz]
  have k0 := hBz.cell 0
  have k1 := hBz.cell 1
  have k2 := hBz.cell 2
  simp only [List.getElem?_cons_zero, List.getElem?_cons_succ] at k0 k1 k2
  have lz := hBz.lt
  have f7 := hPz.b7.free
  have c7 := hPz.b7.cell
  have l7 := hPz.b7.lt
  have hlt7 := H2.out.2.1.b7.lt
  have hne : w2.heap.size ≠ w.heap.size + 2 := by omega
  have hne' : w.heap.size + 2 ≠ w2.heap.size := by omega
  have hk0 : w0.heap.size ≤ w.heap.size + 2 := by have := HN.out.2.1.oc.only.size; omega
  have hag := (H2.out.1.then hOz).agree hPz.b7 H1.out.2.2.2.2.1 hk0
  rw [H2.out.2.2.1] at hag
  have HG := Lib.hid hag
  have HB7 := Lib.hid hPz.b7
  have HQ := Lib.hid (fun (W : World) (hW : Stay (fun j => j = w.heap.size + 2) wz W) => eq_two (own_only hOz H2.out.2.2.2.1) (own_only hOz H2.out.2.2.2.2) hPz.b7 H1.out.2.2.2.2.2.2 W hW)
  have HF := Lib.hid (fun (Wa W' : World) (ha : Only wz Wa) (hb : Only (((Wa.setCell ⟨w.heap.size + 2, 0, none⟩ (.int .i64 n2)).setCell ⟨w.heap.size + 2, 1, none⟩ (.int .i64 m2)).setCell ⟨w.heap.size + 2, 2, none⟩ (.slice A' q c')) W') => play_fin (H2.out.1.then hOz) hPz.b7 rfl H1.out.2.2.2.2.1 hk0 (HSW.out.1.trans (HO12.out.trans' hOz) (fun _ _ h => h.elim)) (by omega) ha hb)
  clear hag hOz hBz hPz hwz hk0 hlt7
  go_region_held3 (fun w' => w'.cell? ⟨w2.heap.size, 0, none⟩ = some (.int .i64 n2) ∧ w'.cell? ⟨w2.heap.size, 1, none⟩ = some (.int .i64 m2) ∧ w'.cell? ⟨w2.heap.size, 2, none⟩ = some (.slice A' q c'))
    (first
      | go_keep
      | (go_split_ands; refine ⟨?_, ?_, ?_⟩ <;> (apply Only.cell o5; assumption)))
    (first
      | (go_at_call 22; refine (HQ.out _ (by first | exact (Stay.refl _ wz).drew | exact ((((Stay.refl (fun j => j = w.heap.size + 2) wz).drew).put rfl _ _).put rfl _ _).put rfl _ _)).mono ?_; rintro e w4 ⟨rfl, o5⟩; (first | (have hB4 := o5.blk HB7.out; have f7a := hB4.free; have c7a := hB4.cell; have l7a := hB4.lt; clear hB4) | skip))
      | (go_at_call 26; have o4 : Only wz w4 := (show Only wz wz.drew from (Stay.refl _ wz).drew).trans' o5; clear o5; refine (HG.out _ (by first | exact o4.mono (fun _ _ h => h.elim) | exact (((show Stay (fun j => j = w.heap.size + 2) wz w4 from o4.mono (fun _ _ h => h.elim)).put rfl _ _).put rfl _ _).put rfl _ _)).mono ?_; rintro e w5 ⟨rfl, o5⟩; (first | (have hB5 := (o4.trans' o5).blk HB7.out; have f7b := hB5.free; have c7b := hB5.cell; have l7b := hB5.lt; clear hB5) | skip)))
  all_goals
    go_wp2_with fail
    have hF := HF.out w5 _ (o4.trans' o5) (Stay.refl _ _)
    have r0 := hF.2.1.cell 0
    have r1 := hF.2.1.cell 1
    have r2 := hF.2.1.cell 2
    rw [show w.heap.size + 2 = w.heap.size + 1 + 1 from rfl] at r0 r1 r2
    simp only [List.getElem?_cons_zero, List.getElem?_cons_succ] at r0 r1 r2
    refine bodyPost_ret (v := .tuple #[.pointer (some ⟨b, 0, none⟩), .agg #[.int .i64 n2, .int .i64 m2, .slice A' q c'], .bool true]) (by simp [results, Tryd.results25, go_sem, r0, r1, r2]) rfl ?_
    exact ⟨S1, b, A', c', by rw [H2.out.2.2.1], hF.1, HSW.out.2, hF.2.2⟩
set_option maxRecDepth 100000 in
set_option maxHeartbeats 4000000 in
theorem play_copy {w0 w : World} {S : Nat → Prop} {b : Nat} {C : Ck} {A : Option Addr} {c : Nat} (h : KX w0 w S b C A c) (kd d : Int) (h0 : ¬ kd = 0) (h1 : ¬ kd = 1) (h2 : ¬ kd = 2) (h3 : ¬ kd = 3) :
    Calls Tryd.prog 25 #[.pointer (some ⟨b, 0, none⟩), C.val (.slice A C.ts.length c), .agg #[.int .i64 kd, .int .i64 d]] w (PlayPost w0 w S C) := by
  obtain ⟨n, hn⟩ : ∃ n, n = C.ts.length := ⟨_, rfl⟩
  obtain ⟨nw, hnw⟩ : ∃ a : Int, a = C.now := ⟨_, rfl⟩
  obtain ⟨md, hmd⟩ : ∃ a : Int, a = C.made := ⟨_, rfl⟩
  have hval : C.val (.slice A C.ts.length c) = .agg #[.int .i64 nw, .int .i64 md, .slice A n c] := by unfold Ck.val; rw [hn, hnw, hmd]
  rw [hval]
  have HN := Lib.hid (And.intro hval h)
  have b0 : (kd == 0) = false := by simp [h0]
  have b1 : (kd == 1) = false := by simp [h1]
  have b2 : (kd == 2) = false := by simp [h2]
  have b3 : (kd == 3) = false := by simp [h3]
  clear h hval hn hnw hmd h0 h1 h2 h3
  go_enter Tryd.func25, Tryd.ntmps25
  go_upto_region 1 with fail
  obtain ⟨W0, hW0⟩ : ∃ W0 : World, W0 = ((w.alloc (.cells #[.int .i64 nw, .int .i64 md, .slice A n c] 53)).alloc (.cells #[.int .i64 kd, .int .i64 d] 55)).alloc (.cells #[.int .i64 0, .int .i64 0, .slice none 0 0] 53) := ⟨_, rfl⟩
  have hP0 : PB w W0 nw md (.slice A n c) kd d := by rw [hW0]; exact PB.start w _ _ _ _ _
  have hO0 : Only w W0 := by rw [hW0]; exact (((Stay.refl _ w).alloc _).alloc _).alloc _
  rw [← hW0]
  have c5 := hP0.b5.cell
  have l5 := hP0.b5.lt
  have H0 := Lib.hid (And.intro hP0 (And.intro hO0 (HN.out.2.then hO0)))
  clear hP0 hO0 hW0
  go_wp2_with fail
  refine (copy_any H0.out.2.2.oc.ck).mono ?_
  rintro e wz ⟨b', rfl, hC1, hO1⟩
  have hPz := H0.out.1.only hO1
  have hKX : KX w0 wz (From W0.heap.size wz) b' C A c := ⟨⟨hC1, fun k hk => Nat.le_trans H0.out.2.2.oc.only.size hk.1, H0.out.2.2.oc.only.trans' hO1, H0.out.2.2.oc.tab⟩, own_only hO1 H0.out.2.2.row, fun g hg hs => by
    have := (own_lt H0.out.2.2.row g hg).2
    have := hs.1
    omega⟩
  have hb7 : ¬ (From W0.heap.size wz) (w.heap.size + 2) := fun hs => by have := hs.1; have := H0.out.1.b7.lt; omega
  have k0 := hPz.b4.cell 0
  have k1 := hPz.b4.cell 1
  have k2 := hPz.b4.cell 2
  simp only [List.getElem?_cons_zero, List.getElem?_cons_succ] at k0 k1 k2
  have lz := hPz.b4.lt
  have f7 := hPz.b7.free
  have c7 := hPz.b7.cell
  have l7 := hPz.b7.lt
  have hne : w.heap.size ≠ w.heap.size + 2 := by omega
  have hne' : w.heap.size + 2 ≠ w.heap.size := by omega
  have hk0 : w0.heap.size ≤ w.heap.size + 2 := by have := HN.out.2.oc.only.size; omega
  have hsw : Stay S w wz := (H0.out.2.1.trans' hO1).mono (fun _ _ h => h.elim)
  have hag := hKX.agree hPz.b7 hb7 hk0
  rw [HN.out.1] at hag
  have HG := Lib.hid hag
  have hsub : ∀ k, (From W0.heap.size wz) k → S k ∨ w.heap.size ≤ k := fun k hk => .inr (Nat.le_trans H0.out.2.1.size hk.1)
  have HB7 := Lib.hid hPz.b7
  have HF := Lib.hid (fun (Wa W' : World) (ha : Only wz Wa) (hb : Only (((Wa.setCell ⟨w.heap.size + 2, 0, none⟩ (.int .i64 nw)).setCell ⟨w.heap.size + 2, 1, none⟩ (.int .i64 md)).setCell ⟨w.heap.size + 2, 2, none⟩ (.slice A n c)) W') => play_fin hKX hPz.b7 rfl hb7 hk0 hsw (by omega) ha hb)
  obtain ⟨S1, hS1⟩ : ∃ S1, S1 = From W0.heap.size wz := ⟨_, rfl⟩
  rw [← hS1] at HF hsub
  have HSUB := Lib.hid hsub
  clear hsw hsub hag hPz hk0 hC1 hO1 hKX hb7 hS1 c5 l5
  go_upto_region 19 with fail
  go_region_held3 (fun w' => w'.cell? ⟨w.heap.size, 0, none⟩ = some (.int .i64 nw) ∧ w'.cell? ⟨w.heap.size, 1, none⟩ = some (.int .i64 md) ∧ w'.cell? ⟨w.heap.size, 2, none⟩ = some (.slice A n c))
    (first
      | go_keep
      | (go_split_ands; refine ⟨?_, ?_, ?_⟩ <;> (apply Only.cell o5; assumption)))
    ((go_at_call 26; refine (HG.out _ (by first | exact (Stay.refl _ wz).drew | exact ((((Stay.refl (fun j => j = w.heap.size + 2) wz).drew).put rfl _ _).put rfl _ _).put rfl _ _)).mono ?_; rintro e w5 ⟨rfl, o5⟩; (first | (have hB5 := o5.blk HB7.out; have f7b := hB5.free; have c7b := hB5.cell; have l7b := hB5.lt; clear hB5) | skip)))
  all_goals
    go_wp2_with fail
    have hF := HF.out w5 _ ((show Only wz wz.drew from (Stay.refl _ wz).drew).trans' o5) (Stay.refl _ _)
    have r0 := hF.2.1.cell 0
    have r1 := hF.2.1.cell 1
    have r2 := hF.2.1.cell 2
    rw [show w.heap.size + 2 = w.heap.size + 1 + 1 from rfl] at r0 r1 r2
    simp only [List.getElem?_cons_zero, List.getElem?_cons_succ] at r0 r1 r2
    refine bodyPost_ret (v := .tuple #[.pointer (some ⟨b', 0, none⟩), .agg #[.int .i64 nw, .int .i64 md, .slice A n c], .bool true]) (by simp [results, Tryd.results25, go_sem, r0, r1, r2]) rfl ?_
    exact ⟨S1, b', A, c, by rw [HN.out.1], hF.1, HSUB.out, hF.2.2⟩
/-- A call, whatever it is. -/
theorem play_any {w0 w : World} {S : Nat → Prop} {b : Nat} {C : Ck} {A : Option Addr} {c : Nat} (h : KX w0 w S b C A c) (hm : C.made < maxT) (o : KOp) :
    Calls Tryd.prog 25 #[.pointer (some ⟨b, 0, none⟩), C.val (.slice A C.ts.length c), .agg #[.int .i64 o.kind, .int .i64 o.n]] w (PlayPost w0 w S (C.run o).1) := by
  obtain ⟨kd, d⟩ := o
  unfold Ck.run
  simp only
  by_cases h0 : kd = 0
  · subst h0
    rw [if_pos rfl]
    exact play_arm h hm d
  by_cases h1 : kd = 1
  · subst h1
    rw [if_neg h0, if_pos rfl]
    exact play_dis h d
  by_cases h2 : kd = 2
  · subst h2
    rw [if_neg h0, if_neg h1, if_pos rfl]
    exact play_adv h d
  by_cases h3 : kd = 3
  · subst h3
    rw [if_neg h0, if_neg h1, if_neg h2, if_pos rfl]
    exact play_tick h d
  · rw [if_neg h0, if_neg h1, if_neg h2, if_neg h3]
    exact play_copy h kd d h0 h1 h2 h3
end Go.Proofs.YtbkbcpnpbfnmgaaDoor
