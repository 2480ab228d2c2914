/- The reference's Same at equal states; Closed; the methods of a nil channel. -/
import Derived.Test.YtfmkdkpgehkfaaaChanState
import Derived.Test.YtfmkdkpgehkfaaaChanClose
import Derived.Test.YtfmkdkpgehkfaaaLaw16
import Derived.Test.YtfmkdkpgehkfaaaArgs
import Derived.Laws.StructEq
set_option linter.unusedVariables false
set_option linter.unusedSimpArgs false
namespace Go.Proofs.Ytfmkdkpgehkfaaa
open Go Go.RowKit

theorem own_sl {w : World} {B : Nat} {e : TypeId} {size n : Nat} {A : Option Addr} {cap : Nat} {xs : List Value} (h : w.ownsRow B e size (.slice A n cap) n xs) (hx : xs.length = n * size) : Sl w w.heap.size A n cap size xs := by
  rcases h.2 with h0 | ⟨g, cap', cur, e, h2⟩
  · obtain ⟨e, rfl⟩ := h0
    simp only [Value.slice.injEq] at e
    obtain ⟨rfl, _, rfl⟩ := e
    exact ⟨hx, Nat.le_refl _, by omega, fun _ => rfl, fun h => absurd h (by omega)⟩
  · simp only [Value.slice.injEq, true_and] at e
    obtain ⟨rfl, rfl⟩ := e
    have hl := (h.lt g rfl).2
    obtain ⟨hb, hg, hnc, hcm, _⟩ := h2
    exact ⟨hx, hnc, Nat.le_trans hcm (by simp only [maxLen]; omega), by simp, fun hn => ⟨g, 0, rfl, hl, fun j u hu => by
      have hj : j < n * size := by have := (List.getElem?_eq_some_iff.1 hu).1; omega
      rw [Nat.zero_add]
      exact (h.cellAt j hj).trans hu⟩⟩

theorem Sl.up {w : World} {B B' : Nat} {A : Option Addr} {n cap size : Nat} {xs : List Value} (h : Sl w B A n cap size xs) (hb : B ≤ B') : Sl w B' A n cap size xs := by
  refine ⟨h.1, h.2.1, h.2.2.1, h.2.2.2.1, fun hn => ?_⟩
  obtain ⟨b, off, e, h1, h2⟩ := h.2.2.2.2 hn
  exact ⟨b, off, e, Nat.lt_of_lt_of_le h1 hb, h2⟩

/-- A state that can be read. -/
def Rd (w : World) (x : Value) (c : Ch) : Prop := ∃ A cp A' cp', x = .agg #[.int .i64 c.cap, .int .i64 c.pol, .bool c.closed, .slice A c.buf.length cp, .slice A' c.ws.length cp', .int .i64 c.drop] ∧
  Sl w w.heap.size A c.buf.length cp 3 (c.buf.flatMap V.cells) ∧ Sl w w.heap.size A' c.ws.length cp' 5 (c.ws.flatMap Wt.cells)
theorem Rd.only {w w' : World} {x : Value} {c : Ch} (h : Rd w x c) (ho : Only w w') : Rd w' x c := by
  obtain ⟨A, cp, A', cp', e, h1, h2⟩ := h
  exact ⟨A, cp, A', cp', e, (h1.only ho).up ho.size, (h2.only ho).up ho.size⟩
theorem V.cells_length (v : V) : v.cells.length = 3 := rfl
theorem Wt.cells_length (v : Wt) : v.cells.length = 5 := rfl
theorem D.cells_length (v : D) : v.cells.length = 7 := rfl
theorem StAt.rd {w : World} {B : Nat} {x : Value} {c : Ch} (h : StAt w B x c) : Rd w x c := by
  obtain ⟨bv, wv, e, h1, h2⟩ := h
  obtain ⟨A, cp, rfl⟩ := own_shape h1
  obtain ⟨A', cp', rfl⟩ := own_shape h2
  exact ⟨A, cp, A', cp', e, own_sl h1 (flat_len _ _ V.cells_length _), own_sl h2 (flat_len _ _ Wt.cells_length _)⟩

set_option maxRecDepth 100000 in
theorem closed_any (w : World) : Calls Try.prog 16 #[] w fun e w' => e = .returned F.closed.val ∧ Only w w' := by
  go_enter Try.func16, Try.ntmps16
  go_wp2
  exact bodyPost_ret (v := F.closed.val) (by simp [results, Try.results16, F.closed, F.val, closedText, go_sem]) rfl ⟨rfl, (Stay.refl _ w).alloc _⟩

set_option maxRecDepth 100000 in
set_option maxHeartbeats 4000000 in
theorem same_any (w : World) (x y : Value) (c : Ch) (hx : Rd w x c) (hy : Rd w y c) :
    Calls Try.prog 15 #[x, y] w fun e w' => e = .returned (.bool true) ∧ Only w w' := by
  obtain ⟨A, cp, A', cp', rfl, s1, s2⟩ := hx
  obtain ⟨B, cq, B', cq', rfl, s3, s4⟩ := hy
  have b1 := s1.2.1
  have b2 := s2.2.1
  have b3 := s1.2.2.1
  have b4 := s2.2.2.1
  have HS := Lib.hid (And.intro s1 (And.intro s2 (And.intro s3 s4)))
  clear s1 s2 s3 s4
  go_enter Try.func15, Try.ntmps15
  go_wp2_with fail
  go_loopg [56] (c.buf.length) (fun k i wr => ∃ j : Nat, j ≤ c.buf.length ∧ k = c.buf.length - j ∧ i = .int .i64 (j : Nat) ∧ Only w wr ∧
    Blk wr w.heap.size 36 [.int .i64 c.cap, .int .i64 c.pol, .bool c.closed, .slice A c.buf.length cp, .slice A' c.ws.length cp', .int .i64 c.drop] ∧
    Blk wr (w.heap.size + 1) 36 [.int .i64 c.cap, .int .i64 c.pol, .bool c.closed, .slice B c.buf.length cq, .slice B' c.ws.length cq', .int .i64 c.drop])
  case atStart =>
    exact ⟨0, Nat.zero_le _, rfl, rfl, ((Stay.refl _ w).alloc _).alloc _, (Blk.newAt w [.int .i64 c.cap, .int .i64 c.pol, .bool c.closed, .slice A c.buf.length cp, .slice A' c.ws.length cp', .int .i64 c.drop] _ _ rfl).alloc _,
      Blk.newAt (w.alloc _) [.int .i64 c.cap, .int .i64 c.pol, .bool c.closed, .slice B c.buf.length cq, .slice B' c.ws.length cq', .int .i64 c.drop] _ _ (by simp)⟩
  case round =>
    obtain ⟨j, hj, hk, rfl, hO, hB0, hB1⟩ := hrel
    have k0 := hB0.cell
    have k1 := hB1.cell
    have l0 := hB0.lt
    have l1 := hB1.lt
    by_cases hlt : j < c.buf.length
    · obtain ⟨v, hv⟩ : ∃ v, c.buf[j]? = some v := ⟨_, List.getElem?_eq_getElem hlt⟩
      obtain ⟨ab, ao, rfl, hab, hc1⟩ := (HS.out.1.only hO).elem V.cells_length hv (by omega)
      obtain ⟨bb, bo, rfl, hbb, hc2⟩ := (HS.out.2.2.1.only hO).elem V.cells_length hv (by omega)
      have g0 := hc1 0 _ rfl
      simp only [Nat.add_zero] at g0
      have g1 := hc1 1 _ rfl
      have g2 := hc1 2 _ rfl
      have e0 := hc2 0 _ rfl
      simp only [Nat.add_zero] at e0
      have e1 := hc2 1 _ rfl
      have e2 := hc2 2 _ rfl
      have hab' : ab < wr.heap.size := Nat.lt_of_lt_of_le hab hO.size
      have hbb' : bb < wr.heap.size := Nat.lt_of_lt_of_le hbb hO.size
      have HX := Lib.hid (And.intro hO (And.intro hB0 (And.intro hB1 (And.intro hk hv))))
      clear hO hB0 hB1 hk hv hc1 hc2
      go_wp2_with fail
      go_big_region
      go_wp2_with fail
      go_roundg (c.buf.length - (j + 1))
      case measure =>
        have := HX.out.2.2.2.1
        omega
      case rel => exact ⟨j + 1, hlt, rfl, rfl, HX.out.1.trans ((Stay.refl (fun _ => False) wr).alloc _).drew (fun _ _ h => h), (HX.out.2.1.alloc _).drew, (HX.out.2.2.1.alloc _).drew⟩
    · have hje : j = c.buf.length := by omega
      subst hje
      have HX := Lib.hid (And.intro hO (And.intro hB0 hB1))
      clear hO hB0 hB1 hk
      go_wp2_with fail
      go_loopg [72] (c.ws.length) (fun k i wr => ∃ j : Nat, j ≤ c.ws.length ∧ k = c.ws.length - j ∧ i = .int .i64 (j : Nat) ∧ Only w wr ∧
        Blk wr w.heap.size 36 [.int .i64 c.cap, .int .i64 c.pol, .bool c.closed, .slice A c.buf.length cp, .slice A' c.ws.length cp', .int .i64 c.drop] ∧
        Blk wr (w.heap.size + 1) 36 [.int .i64 c.cap, .int .i64 c.pol, .bool c.closed, .slice B c.buf.length cq, .slice B' c.ws.length cq', .int .i64 c.drop])
      case atStart => exact ⟨0, Nat.zero_le _, rfl, rfl, HX.out.1, HX.out.2.1, HX.out.2.2⟩
      case round =>
        obtain ⟨j, hj, hk, rfl, hO, hB0, hB1⟩ := hrel
        have k0 := hB0.cell
        have k1 := hB1.cell
        have l0 := hB0.lt
        have l1 := hB1.lt
        by_cases hlt : j < c.ws.length
        · obtain ⟨v, hv⟩ : ∃ v, c.ws[j]? = some v := ⟨_, List.getElem?_eq_getElem hlt⟩
          obtain ⟨ab, ao, rfl, hab, hc1⟩ := (HS.out.2.1.only hO).elem Wt.cells_length hv (by omega)
          obtain ⟨bb, bo, rfl, hbb, hc2⟩ := (HS.out.2.2.2.only hO).elem Wt.cells_length hv (by omega)
          have g0 := hc1 0 _ rfl
          simp only [Nat.add_zero] at g0
          have g1 := hc1 1 _ rfl
          have g2 := hc1 2 _ rfl
          have g3 := hc1 3 _ rfl
          have g4 := hc1 4 _ rfl
          have e0 := hc2 0 _ rfl
          simp only [Nat.add_zero] at e0
          have e1 := hc2 1 _ rfl
          have e2 := hc2 2 _ rfl
          have e3 := hc2 3 _ rfl
          have e4 := hc2 4 _ rfl
          have hab' : ab < wr.heap.size := Nat.lt_of_lt_of_le hab hO.size
          have hbb' : bb < wr.heap.size := Nat.lt_of_lt_of_le hbb hO.size
          have HX := Lib.hid (And.intro hO (And.intro hB0 (And.intro hB1 (And.intro hk hv))))
          clear hO hB0 hB1 hk hv hc1 hc2
          go_wp2_with fail
          go_big_region
          go_wp2_with fail
          go_roundg (c.ws.length - (j + 1))
          case measure =>
            have := HX.out.2.2.2.1
            omega
          case rel => exact ⟨j + 1, hlt, rfl, rfl, HX.out.1.trans ((Stay.refl (fun _ => False) wr).alloc _).drew (fun _ _ h => h), (HX.out.2.1.alloc _).drew, (HX.out.2.2.1.alloc _).drew⟩
        · have hje : j = c.ws.length := by omega
          subst hje
          have HX := Lib.hid (And.intro hO (And.intro hB0 hB1))
          clear hO hB0 hB1 hk
          go_wp2_with fail
          go_ret
          exact ⟨rfl, HX.out.1⟩

end Go.Proofs.Ytfmkdkpgehkfaaa
