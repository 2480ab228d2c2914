/- Copy. -/
import Derived.Test.YtfmkdkpgehkfaaaChanOps
import Derived.Deep.DeepCutAuto
import Derived.Deep.CutBlock
import Derived.Deep.WholeRow
import Derived.KernelRfl
set_option linter.unusedVariables false
set_option linter.unusedSimpArgs false
namespace Go.Proofs.Ytfmkdkpgehkfaaa
open Go Go.RowKit

def CopyPost (w : World) (c : Ch) (e : Ending) (w' : World) : Prop :=
  ∃ b' ns', e = .returned (.pointer (some ⟨b', 0, none⟩)) ∧ ChAt w' b' ns' c ∧ w.heap.size ≤ b' ∧ (∀ k ∈ ns', w.heap.size ≤ k) ∧ Only w w'

theorem sixteen {α : Type} {r : List α} (h : r.length = 16) : ∃ a b c d e f g h i j k l m n o p, r = [a, b, c, d, e, f, g, h, i, j, k, l, m, n, o, p] := by
  match r, h with
  | [a, b, c, d, e, f, g, h, i, j, k, l, m, n, o, p], _ => exact ⟨a, b, c, d, e, f, g, h, i, j, k, l, m, n, o, p, rfl⟩

theorem wpList_store_new {P : Program} {ops : Array Oper} {rest : List Oper} {op : Oper} {a : Act} {w : World} {Q : Exit → Act → World → Prop} (hgd : op.guard = none) (ty : TypeId) (x y : Operand) (ho : op.op = .store ty x y)
    (Z C : Array Value) (hx : a.eval x = .pointer (some ⟨w.heap.size, 0, none⟩)) (hy : a.eval y = .agg C)
    (hi : (P.info? ty).map (·.size) = some C.size) (hz : Z.size = C.size) (h1 : C.all (·.oneCell') = true)
    (h : wpList P ops Q rest (a.put op.dst undef) (w.alloc (.cells C ty))) : wpList P ops Q (op :: rest) a (w.alloc (.cells Z ty)) := by
  refine wpList_plain hgd fun _ hK => ?_
  unfold Oper.wp execOp
  simp only [ho, hx, hy, run_storeAt_new w ty Z C hi hz h1, Sem.run_bind, Sem.run_pure, Result.andThen_ok]
  exact hK _ _ h

theorem sum_three {r : List V} : (List.map (fun a => a.cells.length) r).sum = 3 * r.length := by
  induction r with
  | nil => rfl
  | cons a l ih => simp only [List.map_cons, List.sum_cons, ih, List.length_cons]; show 3 + _ = _; omega

set_option maxRecDepth 100000 in
set_option maxHeartbeats 8000000 in
theorem copy_any (w : World) (b : Nat) (ns : List Nat) (c : Ch) (h : ChAt w b ns c) :
    Calls Try.prog 27 #[.pointer (some ⟨b, 0, none⟩)] w (CopyPost w c) := by
  have HLT : Hid (∀ k ∈ b :: ns, k < w.heap.size) := h.lt
  have hbl := h.lt b (by simp)
  obtain ⟨r, fr, p, hC, hR, hch, hnd⟩ := h
  obtain ⟨C, hCC⟩ : ∃ C, C = (cc c.cap c.pol c.closed r fr c.buf.length p c.ws.length c.drop).toArray := ⟨_, rfl⟩
  have hB : w.heap[b]? = some (.cells C 75 (0, 0)) := by rw [hCC]; exact hC.2
  have hsz : C.size = 56 := by rw [hCC]; simp [cc, sum_three, hC.1]
  have hone : C.all (·.oneCell') = true := by
    rw [hCC]
    simp [cc, Value.oneCell', V.cells]
  have hi : (Try.prog.info? 75).map (·.size) = some C.size := by rw [hsz]; kernel_rfl
  have HC := Lib.hid (And.intro hC (And.intro hR (And.intro hch (And.intro hnd hCC))))
  have HW := Lib.hid (And.intro hB (And.intro hi (And.intro hone hsz)))
  clear hC hR hch hnd hCC hB hi hone hsz
  go_enter Try.func27, Try.ntmps27
  go_upto_region 3 with fail
  go_cut [3] from 8 to 10 (fun a wc => a = .pointer (some ⟨w.heap.size, 0, none⟩) ∧ CC wc w.heap.size c.cap c.pol c.closed r fr c.buf.length p c.ws.length c.drop ∧ Only w wc)
  case first =>
    go_wp2_with (first | (refine wpList_load_row rfl 75 _ rfl b rfl _ C (0, 0) _ HW.out.1 Try.underlying75 rfl HW.out.2.1 ?_) | (refine wpList_store_new rfl 75 _ _ rfl _ C rfl rfl HW.out.2.1 (by rw [HW.out.2.2.2]; rfl) HW.out.2.2.1 ?_))
    go_meet
    case rel => exact ⟨rfl, ⟨HC.out.1.1, by rw [HC.out.2.2.2.2]; exact Blk.newAt w (cc c.cap c.pol c.closed r fr c.buf.length p c.ws.length c.drop) _ _ rfl⟩, (Stay.refl _ w).alloc _⟩
  case rest =>
    obtain ⟨rfl, hN, hO1⟩ := hcut
    rename World => w1
    have o53 := (HC.out.1.stay hO1 id).p_
    have hbl1 : b < w1.heap.size := (HC.out.1.stay hO1 id).lt
    have n0l := hN.lt
    have HO1 := Lib.hid (And.intro hN hO1)
    clear hN hO1
    go_wp2_with fail
    go_loopg [4, 5] (c.ws.length) (fun k e q wr => ∃ pre suf npre nsuf np p0 suf0 nsuf0 P, c.ws = pre ++ suf ∧ ns = npre ++ nsuf ∧ np.length = pre.length ∧ k = suf.length ∧ e = .pointer (some (LinkAt w.heap.size np)) ∧ q = .pointer P ∧ Only w wr ∧
      CC wr w.heap.size c.cap c.pol c.closed r fr c.buf.length p0 c.ws.length c.drop ∧ Chain wr p0 (pre ++ suf0) (np ++ nsuf0) ∧ (w.heap.size :: np).Nodup ∧ (∀ k ∈ np, w.heap.size ≤ k) ∧ Chain wr P suf nsuf)
    case atStart => exact ⟨[], c.ws, [], ns, [], p, c.ws, ns, p, rfl, rfl, rfl, rfl, rfl, rfl, HO1.out.2, HO1.out.1, HC.out.2.2.1.stay HO1.out.2 (fun _ _ => id), by simp, by simp, HC.out.2.2.1.stay HO1.out.2 (fun _ _ => id)⟩
    case round =>
      obtain ⟨pre, suf, npre, nsuf, np, p0, suf0, nsuf0, P, hw1, hn1, hl, hk, rfl, rfl, hO, hC, hch, hnd, hge, hold⟩ := hrel
      obtain ⟨qq, hc1, hc2, hc3⟩ := link_cell hC hl hch
      have HA1 : Hid (LinkAt w.heap.size np = ⟨w.heap.size, 53, none⟩ ∨ ∃ k, LinkAt w.heap.size np = ⟨k, 5, none⟩ ∧ k ∈ np) := by
        unfold LinkAt
        cases hg : np.getLast? with
        | none => exact .inl rfl
        | some k => exact .inr ⟨k, rfl, List.mem_of_getLast? hg⟩
      have hAl : (LinkAt w.heap.size np).block < wr.heap.size := block_lt_of_cell hc1
      obtain ⟨A, hA⟩ : ∃ A, LinkAt w.heap.size np = A := ⟨_, rfl⟩
      have hsz := hO.size
      have HX := Lib.hid (And.intro hw1 (And.intro hn1 (And.intro hl (And.intro hk (And.intro hO (And.intro hC (And.intro hch (And.intro hnd (And.intro hge (And.intro hold hA))))))))))
      clear hw1 hn1 hl hk hO hC hch hnd hge hc3
      cases suf with
      | nil =>
        obtain rfl : P = none := hold.1
        have HH := Lib.hid hold.2
        clear hold
        -- the end, whatever the way
        have fin : Hid (ChAt (wr.setCell A (.pointer none)) w.heap.size np c ∧ (∀ k ∈ np, w.heap.size ≤ k) ∧ Only w (wr.setCell A (.pointer none))) := by
          obtain ⟨hw1, hn1, hl, hk, hO, hC, hch, hnd, hge, hold, hA⟩ := HX.out
          obtain ⟨p', h1, h2⟩ := relink hC hl hch hnd (q' := none) (l := []) (nl := []) ⟨rfl, rfl⟩ (by simp)
          rw [hA] at h1 h2
          have hpp : c.ws = pre := by rw [hw1]; simp
          refine ⟨⟨r, fr, p', h1, HC.out.2.1, by rw [hpp]; simpa using h2, hnd⟩, hge, ?_⟩
          have hAb : w.heap.size ≤ A.block := by
            rw [← hA]
            rcases List.mem_cons.1 (LinkAt_mem w.heap.size np) with h | h
            · exact Nat.le_of_eq h.symm
            · exact hge _ h
          exact hO.set (fun hl => absurd hl (Nat.not_lt.2 hAb)) _
        rw [hA] at hc1 hc2 hAl ⊢
        have HA := Lib.hid hA
        clear hA
        rcases HA1.out with h | ⟨k, h, hkm⟩
        · rw [HA.out] at h
          subst h
          go_wp2_with fail
          go_ret
          exact ⟨_, np, rfl, fin.out.1, Nat.le_refl _, fin.out.2⟩
        · rw [HA.out] at h
          subst h
          have HK := Lib.hid hkm
          clear hkm
          go_wp2_with fail
          go_ret
          exact ⟨_, np, rfl, fin.out.1, Nat.le_refl _, fin.out.2⟩
      | cons x l =>
        obtain ⟨k', ns', q', rfl, e2, hb, hc⟩ := hold
        have n0 := hb.cell
        simp only [nc] at n0
        have hkl : k' < wr.heap.size := hb.lt
        have HY := Lib.hid (And.intro e2 (And.intro hb hc))
        have hne : Hid (A.block ≠ k' ∧ w.heap.size ≤ A.block) := by
          obtain ⟨hw1, hn1, hl, hk, hO, hC, hch, hnd, hge, hold, hA⟩ := HX.out
          have hAb : w.heap.size ≤ A.block := by
            rw [← hA]
            rcases List.mem_cons.1 (LinkAt_mem w.heap.size np) with h | h
            · exact Nat.le_of_eq h.symm
            · exact hge _ h
          refine ⟨fun e => ?_, hAb⟩
          have := HLT.out k' (by rw [hn1, e2]; simp)
          omega
        have hk5 : k' < w.heap.size := by
          obtain ⟨hw1, hn1, _⟩ := HX.out
          exact HLT.out k' (by rw [hn1, e2]; simp)
        clear e2 hb hc
        have fin : Hid (∀ W, Blk W wr.heap.size 77 (nc x none) → Only wr W → ∃ p0' , Only w (W.setCell A (.pointer (some ⟨wr.heap.size, 0, none⟩))) ∧ CC (W.setCell A (.pointer (some ⟨wr.heap.size, 0, none⟩))) w.heap.size c.cap c.pol c.closed r fr c.buf.length p0' c.ws.length c.drop ∧
            Chain (W.setCell A (.pointer (some ⟨wr.heap.size, 0, none⟩))) p0' ((pre ++ [x]) ++ []) ((np ++ [wr.heap.size]) ++ []) ∧ (w.heap.size :: (np ++ [wr.heap.size])).Nodup ∧ (∀ k ∈ np ++ [wr.heap.size], w.heap.size ≤ k) ∧ Chain (W.setCell A (.pointer (some ⟨wr.heap.size, 0, none⟩))) q' l ns') := by
          intro W hnode hst
          obtain ⟨hw1, hn1, hl, hk, hO, hC, hch, hnd, hge, hold, hA⟩ := HX.out
          obtain ⟨e2, hb, hc⟩ := HY.out
          have hfresh : ∀ k ∈ w.heap.size :: np, k ∉ [wr.heap.size] := by
            intro k hk e
            simp at e
            subst e
            rcases List.mem_cons.1 hk with h | h
            · have := hC.lt
              omega
            · have := hch.lt wr.heap.size (by simp [h])
              omega
          obtain ⟨p', h1, h2⟩ := relink (hC.stay hst id) hl (hch.stay hst (fun _ _ => id)) hnd (q' := some ⟨wr.heap.size, 0, none⟩) (l := [x]) (nl := [wr.heap.size]) ⟨wr.heap.size, [], none, rfl, rfl, hnode, rfl, rfl⟩ hfresh
          rw [hA] at h1 h2
          refine ⟨p', (hO.trans' hst).set (fun hl => absurd hl (Nat.not_lt.2 hne.out.2)) _, h1, by simpa using h2, ?_, ?_, ?_⟩
          · have : ((w.heap.size :: np) ++ [wr.heap.size]).Nodup := List.nodup_append.2 ⟨hnd, by simp, fun k hk y hy e => hfresh k hk (by rw [e]; exact hy)⟩
            simpa using this
          · intro k hk
            rcases List.mem_append.1 hk with h | h
            · exact hge k h
            · simp at h
              rw [h]
              exact hO.size
          · refine (hc.stay hst (fun _ _ => id)).stay (S := (· = A.block)) ((Stay.refl (· = A.block) W).set (fun _ => rfl) _) (fun i hi e => ?_)
            have h1 := HLT.out i (by rw [hn1, e2]; simp [hi])
            have h2 := hne.out.2
            omega
        rw [hA] at hc1 hc2 hAl ⊢
        have HA := Lib.hid hA
        clear hA
        rcases HA1.out with h | ⟨k, h, hkm⟩
        · rw [HA.out] at h
          subst h
          have hkn : ¬ k' = w.heap.size := by omega
          go_wp2_with fail
          go_roundg l.length
          case measure => have := HX.out.2.2.2.1; simp at this; omega
          case rel =>
            try rw [← World.setCell_alloc_past _ _ _ _ (by first | omega | (simp; omega))]
            obtain ⟨p0', f1, f2, f3, f4, f5, f6⟩ := fin.out (wr.alloc (.cells (nc x none).toArray 77)) (Blk.newAt wr (nc x none) _ _ rfl) ((Stay.refl _ wr).alloc _)
            obtain ⟨hw1, hn1, hl, hk, _⟩ := HX.out
            obtain ⟨e2, _⟩ := HY.out
            exact ⟨pre ++ [x], l, npre ++ [k'], ns', np ++ [wr.heap.size], p0', [], [], q', by rw [hw1]; simp, by rw [hn1, e2]; simp, by simp [hl], rfl, by rw [LinkAt_snoc], rfl, f1, f2, f3, f4, f5, f6⟩
        · rw [HA.out] at h
          subst h
          have hkn : ¬ k' = k := fun e => hne.out.1 e.symm
          have HK := Lib.hid hkm
          clear hkm
          go_wp2_with fail
          go_roundg l.length
          case measure => have := HX.out.2.2.2.1; simp at this; omega
          case rel =>
            try rw [← World.setCell_alloc_past _ _ _ _ (by first | omega | (simp; omega))]
            obtain ⟨p0', f1, f2, f3, f4, f5, f6⟩ := fin.out (wr.alloc (.cells (nc x none).toArray 77)) (Blk.newAt wr (nc x none) _ _ rfl) ((Stay.refl _ wr).alloc _)
            obtain ⟨hw1, hn1, hl, hk, _⟩ := HX.out
            obtain ⟨e2, _⟩ := HY.out
            exact ⟨pre ++ [x], l, npre ++ [k'], ns', np ++ [wr.heap.size], p0', [], [], q', by rw [hw1]; simp, by rw [hn1, e2]; simp, by simp [hl], rfl, by rw [LinkAt_snoc], rfl, f1, f2, f3, f4, f5, f6⟩

end Go.Proofs.Ytfmkdkpgehkfaaa
