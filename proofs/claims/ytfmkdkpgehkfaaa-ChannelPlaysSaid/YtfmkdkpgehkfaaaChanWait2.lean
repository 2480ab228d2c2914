import Derived.Test.YtfmkdkpgehkfaaaChanWait
set_option linter.unusedVariables false
set_option linter.unusedSimpArgs false
namespace Go.Proofs.Ytfmkdkpgehkfaaa
open Go Go.RowKit

def WaitPost (w : World) (b : Nat) (ns : List Nat) (c : Ch) (pr : Wt → Bool) (e : Ending) (w' : World) : Prop :=
  (∃ x l ns', takeW pr c.ws = some (x, l) ∧ e = .returned (.tuple #[x.val, .bool true]) ∧ ChAt w' b ns' { c with ws := l } ∧ (∀ k ∈ ns', k ∈ ns) ∧ Stay (· ∈ b :: ns) w w') ∨
  (takeW pr c.ws = none ∧ e = .returned (.tuple #[(⟨0, false, V.nil⟩ : Wt).val, .bool false]) ∧ Only w w')

set_option maxRecDepth 100000 in
set_option maxHeartbeats 800000 in
theorem wait_any (w : World) (b : Nat) (ns : List Nat) (c : Ch) (pr : Wt → Bool) (f : FuncId) (fc : Array Value) (h : ChAt w b ns c) (hws : c.ws.length ≤ 200)
    (hcf : ∀ (args : Array Value) (W : World), (callFunc f args).run Try.prog W = .ok (.enter f args) W)
    (hcall : ∀ (x : Wt) (W : World), Only w W → Calls Try.prog f (#[x.val] ++ fc) W fun e w' => e = .returned (.bool (pr x)) ∧ Only W w') :
    Calls Try.prog 30 #[.pointer (some ⟨b, 0, none⟩), .func (.func f) #[] fc] w (WaitPost w b ns c pr) := by
  obtain ⟨r, fr, p, hC, hR, hch, hnd⟩ := h
  have HC := Lib.hid hC
  have HCALL := Lib.hid hcall
  clear hcall hC
  have HCH := Lib.hid hch
  clear hch
  go_enter Try.func30, Try.ntmps30
  go_wp2
  go_loopg [6] (c.ws.length) (fun k v wr => ∃ pre suf npre nsuf, c.ws = pre ++ suf ∧ ns = npre ++ nsuf ∧ npre.length = pre.length ∧ (∀ x ∈ pre, pr x = false) ∧ k = suf.length ∧ v = .pointer (some (LinkAt b npre)) ∧ Only w wr ∧
      Blk wr w.heap.size 46 (⟨0, false, V.nil⟩ : Wt).cells)
  case atStart => exact ⟨[], c.ws, [], ns, rfl, rfl, rfl, by simp, rfl, rfl, (Stay.refl _ _).alloc _, Blk.new w _ _⟩
  case round =>
    obtain ⟨pre, suf, npre, nsuf, hw1, hn1, hl, hpre, hk, rfl, hO, hB⟩ := hrel
    obtain ⟨q, hc1, hc2, hc3⟩ := link_cell (HC.out.stay hO (by simp)) hl (hw1 ▸ hn1 ▸ HCH.out.stay hO (by simp))
    have HX := Lib.hid (And.intro hw1 (And.intro hn1 (And.intro hl (And.intro hpre (And.intro hk (And.intro hO (And.intro hB hc3)))))))
    have b0 := hB.at (i := 0) rfl
    have b1 := hB.at (i := 1) rfl
    have b2 := hB.at (i := 2) rfl
    have b3 := hB.at (i := 3) rfl
    have b4 := hB.at (i := 4) rfl
    have bf := hB.free
    have bl := hB.lt
    clear hw1 hn1 hl hpre hk hO hB hc3
    have hA : ∃ A, LinkAt b npre = A := ⟨_, rfl⟩
    obtain ⟨A, hA⟩ := hA
    rw [hA] at hc1 hc2 ⊢
    have HA := Lib.hid hA
    clear hA
    cases suf with
    | nil =>
      obtain ⟨rfl, _⟩ := HX.out.2.2.2.2.2.2.2
      go_wp2
      refine bodyPost_ret (v := .tuple #[(⟨0, false, V.nil⟩ : Wt).val, .bool false]) (by simp [results, Try.results30, Wt.val, V.nil, go_sem, b0, b1, b2, b3, b4]) rfl (.inr ⟨?_, rfl, ?_⟩)
      · obtain ⟨hw1, hn1, hl, hpre, hk, hO, hB, _⟩ := HX.out
        rw [hw1, takeW_skip hpre]
        rfl
      · obtain ⟨hw1, hn1, hl, hpre, hk, hO, hB, _⟩ := HX.out
        exact ((((hO.set (p := ⟨w.heap.size, 0, none⟩) (fun h => absurd h (Nat.lt_irrefl _)) _).set (p := ⟨w.heap.size, 1, none⟩) (fun h => absurd h (Nat.lt_irrefl _)) _).set (p := ⟨w.heap.size, 2, none⟩) (fun h => absurd h (Nat.lt_irrefl _)) _).set (p := ⟨w.heap.size, 3, none⟩) (fun h => absurd h (Nat.lt_irrefl _)) _).set (p := ⟨w.heap.size, 4, none⟩) (fun h => absurd h (Nat.lt_irrefl _)) _
    | cons x l =>
      obtain ⟨k', ns', q', rfl, e2, hb, hc⟩ := HX.out.2.2.2.2.2.2.2
      have n0 := hb.at (i := 0) rfl
      have n1 := hb.at (i := 1) rfl
      have n2 := hb.at (i := 2) rfl
      have n3 := hb.at (i := 3) rfl
      have n4 := hb.at (i := 4) rfl
      have n5 := hb.at (i := 5) rfl
      have HY := Lib.hid (And.intro e2 (And.intro hb hc))
      clear e2 hb hc
      have HC1 := Lib.hid (HC.out.stay HX.out.2.2.2.2.2.1 (by simp))
      cases hp : pr x with
      | false =>
        have HP := Lib.hid hp
        clear hp
        go_wp2_with fail
        refine (HCALL.out x _ (HX.out.2.2.2.2.2.1.alloc _)).mono ?_
        rintro e w1 ⟨rfl, hO1⟩
        rw [HP.out]
        have hO2 := hO1.behind
        have c1 := hO2.cell hc1
        have m5 := hO2.cell n5
        have HO2 := Lib.hid hO2
        clear hO1 hO2 hc1 hc2 n0 n1 n2 n3 n4 n5 b0 b1 b2 b3 b4 bf
        go_wp2
        go_roundg l.length
        case measure => have := HX.out.2.2.2.2.1; simp at this; omega
        case rel =>
          obtain ⟨hw1, hn1, hl, hpre, hk, hO, hB, _⟩ := HX.out
          obtain ⟨e2, _, _⟩ := HY.out
          exact ⟨pre ++ [x], l, npre ++ [k'], ns', by rw [hw1]; simp, by rw [hn1, e2]; simp, by simp [hl], by
            intro y hy
            rcases List.mem_append.1 hy with hy | hy
            · exact hpre y hy
            · simp at hy; subst hy; exact HP.out, rfl, by rw [LinkAt_snoc], hO.trans' HO2.out, HO2.out.blk hB⟩
      | true =>
        have HP := Lib.hid hp
        clear hp
        go_wp2_with fail
        refine (HCALL.out x _ (HX.out.2.2.2.2.2.1.alloc _)).mono ?_
        rintro e w1 ⟨rfl, hO1⟩
        rw [HP.out]
        have hO2 := hO1.behind
        have hbw := hO1.blk (Blk.new wr x.cells 46)
        have d0 := hbw.at (i := 0) rfl
        have d1 := hbw.at (i := 1) rfl
        have d2 := hbw.at (i := 2) rfl
        have d3 := hbw.at (i := 3) rfl
        have d4 := hbw.at (i := 4) rfl
        have dl := hbw.lt
        have c1 := hO2.cell hc1
        have f1 := hO2.free hc1 hc2
        have m5 := hO2.cell n5
        have hC2 := HC1.out.stay hO2 id
        have e54 := hC2.nw_
        have f54 := hC2.free 54
        have g0 := hO2.cell b0
        have g1 := hO2.cell b1
        have g2 := hO2.cell b2
        have g3 := hO2.cell b3
        have g4 := hO2.cell b4
        have gf : ∀ i, w1.frozen? ⟨w.heap.size, i, none⟩ = false := (hO2.blk HX.out.2.2.2.2.2.2.1).free
        have HO2 := Lib.hid hO2
        have HC2 := Lib.hid hC2
        clear hO1 hO2 hc1 hc2 n0 n1 n2 n3 n4 n5 b0 b1 b2 b3 b4 bf hbw hC2
        have hlen : c.ws.length = l.length + pre.length + 1 := by rw [HX.out.1]; simp; omega
        rw [hlen] at e54
        have HLEN := Lib.hid hlen
        clear hlen
        have hAm : A.block ∈ b :: npre := HA.out ▸ LinkAt_mem b npre
        have hAl : A.block < w.heap.size := by
          rcases List.mem_cons.1 hAm with e | e
          · rw [e]; exact HC.out.lt
          · exact HCH.out.lt _ (by rw [HX.out.2.1]; simp [e])
        have hbl : b < w.heap.size := HC.out.lt
        have hA54 : A ≠ ⟨b, 54, none⟩ := by
          rw [← HA.out]
          unfold LinkAt
          split
          · simp
          · intro e; simp at e
        have E54 := cell_off' (v := .pointer q') e54 hA54
        have D0 := cell_off (v := .pointer q') d0 (A := A) (by simp; omega)
        have D1 := cell_off (v := .pointer q') d1 (A := A) (by simp; omega)
        have D2 := cell_off (v := .pointer q') d2 (A := A) (by simp; omega)
        have D3 := cell_off (v := .pointer q') d3 (A := A) (by simp; omega)
        have D4 := cell_off (v := .pointer q') d4 (A := A) (by simp; omega)
        have G0 := cell_off (v := .pointer q') g0 (A := A) (by simp; omega)
        have G1 := cell_off (v := .pointer q') g1 (A := A) (by simp; omega)
        have G2 := cell_off (v := .pointer q') g2 (A := A) (by simp; omega)
        have G3 := cell_off (v := .pointer q') g3 (A := A) (by simp; omega)
        have G4 := cell_off (v := .pointer q') g4 (A := A) (by simp; omega)
        clear e54 d0 d1 d2 d3 d4 g0 g1 g2 g3 g4 hA54 hAm
        have hw200 : (l.length : Int) + pre.length ≤ 200 := by have := HLEN.out; omega
        have HT := Lib.hid (And.intro hAl (And.intro hbl bl))
        go_wp2
        refine bodyPost_ret (v := .tuple #[x.val, .bool true]) (by simp [results, Try.results30, Wt.val, go_sem, G0, G1, G2, G3, G4, gf]) rfl (.inl ⟨x, pre ++ l, npre ++ ns', ?_, rfl, ?_, ?_, ?_⟩)
        · obtain ⟨hw1, hn1, hl, hpre, hk, hO, hB, _⟩ := HX.out
          rw [hw1, takeW_skip hpre]
          simp [takeW, HP.out]
        · obtain ⟨hw1, hn1, hl, hpre, hk, hO, hB, hc0⟩ := HX.out
          obtain ⟨e2, hb0, hcl⟩ := HY.out
          have hns : ns = npre ++ (k' :: ns') := by rw [hn1, e2]
          have hch1 : Chain w1 p (pre ++ x :: l) (npre ++ nsuf) := hw1 ▸ hn1 ▸ (HCH.out.stay (hO.trans' HO2.out) (fun _ _ => id))
          have hnd1 := hnd
          rw [hns] at hnd1
          have hd1 : (b :: npre).Nodup := by
            have := List.nodup_append.1 (show ((b :: npre) ++ (k' :: ns')).Nodup from hnd1)
            exact this.1
          have hd2 : ∀ k ∈ b :: npre, k ∉ ns' := by
            have := List.nodup_append.1 (show ((b :: npre) ++ (k' :: ns')).Nodup from hnd1)
            intro k hk hk'
            exact this.2.2 k hk k (by simp [hk']) rfl
          obtain ⟨p', hCr, hchr⟩ := relink HC2.out hl hch1 hd1 (hcl.stay HO2.out (fun _ _ => id)) hd2
          rw [HA.out] at hCr hchr
          have hnd2 : (b :: (npre ++ ns')).Nodup := by
            refine List.Nodup.sublist ?_ hnd1
            simp
          have hlt : ∀ k ∈ npre ++ ns', k < w.heap.size := fun k hk => HCH.out.lt k (by rw [hns]; simp at hk ⊢; rcases hk with h | h <;> simp [h])
          have hst : Stay (· = w.heap.size) ((w1.setCell A (Value.pointer q')).setCell { block := b, off := 54 } (Value.int IntKind.i64 (l.length + pre.length))) _ :=
            (((((Stay.refl (· = w.heap.size) ((w1.setCell A (Value.pointer q')).setCell { block := b, off := 54 } (Value.int IntKind.i64 (l.length + pre.length)))).put rfl 0 (Value.int IntKind.i64 x.t)).put rfl 1 (Value.bool x.send)).put rfl 2 (Value.int IntKind.i64 x.v.k)).put rfl 3 (Value.int IntKind.i64 x.v.n)).put rfl 4 (Value.string x.v.s)
          have hCn := hCr.set_nw (l.length + pre.length)
          refine ⟨r, fr, p', ?_, hR, ?_, hnd2⟩
          · have := hCn.stay hst (fun e => absurd e (Nat.ne_of_lt HT.out.2.1))
            simpa [List.length_append, Nat.add_comm] using this
          · refine (hchr.stay ((Stay.refl (· = b) _).put rfl 54 (Value.int IntKind.i64 (l.length + pre.length))) ?_).stay hst ?_
            · intro k hk e
              subst e
              exact (List.nodup_cons.1 hnd2).1 hk
            · intro k hk e
              have := hlt k hk
              omega
        · obtain ⟨hw1, hn1, _⟩ := HX.out
          obtain ⟨e2, _⟩ := HY.out
          intro k hk
          rw [hn1, e2]
          simp at hk ⊢
          rcases hk with h | h <;> simp [h]
        · obtain ⟨hw1, hn1, hl, hpre, hk, hO, hB, hc0⟩ := HX.out
          have hs0 : Stay (· ∈ b :: ns) w w1 := (hO.trans' HO2.out).mono (fun _ _ h => h.elim)
          have hAm : A.block ∈ b :: ns := by
            have := HA.out ▸ LinkAt_mem b npre
            rw [hn1]
            rcases List.mem_cons.1 this with h | h
            · simp [h]
            · simp [h]
          exact ((((((hs0.set (fun _ => hAm) _).put (by simp) _ _).new (Nat.le_refl _) _ _).new (Nat.le_refl _) _ _).new (Nat.le_refl _) _ _).new (Nat.le_refl _) _ _).new (Nat.le_refl _) _ _

end Go.Proofs.Ytfmkdkpgehkfaaa
