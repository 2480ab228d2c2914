/- Same: two states that read as one lock are the same; so are two lists of such states. -/
import Derived.Test.YtfifdgigeecfbaaLockStates
import Derived.Laws.StructEq
set_option linter.unusedVariables false
set_option linter.unusedSimpArgs false
namespace Go.Proofs.Ytfifdgigeecfbaa
open Go Go.RowKit

/-- A state that a call can read. -/
structure Rd (w : World) (k : Lk) (A : Option Addr) (c : Nat) (A' : Option Addr) (c' : Nat) : Prop where
  hs : Sl w w.heap.size A k.holders.length c 2 (k.holders.flatMap hcell)
  ws : Sl w w.heap.size A' k.waiting.length c' 1 (ints k.waiting)
theorem Rd.only {w w' : World} {k : Lk} {A A' : Option Addr} {c c' : Nat} (h : Rd w k A c A' c') (ho : Only w w') : Rd w' k A c A' c' := ⟨h.hs.later ho ho.size, h.ws.later ho ho.size⟩
def stv (k : Lk) (A : Option Addr) (c : Nat) (A' : Option Addr) (c' : Nat) : Value := .agg #[.int .i64 k.permits, .int .i64 k.free, .slice A k.holders.length c, .slice A' k.waiting.length c']
def stc (k : Lk) (A : Option Addr) (c : Nat) (A' : Option Addr) (c' : Nat) : List Value := [.int .i64 k.permits, .int .i64 k.free, .slice A k.holders.length c, .slice A' k.waiting.length c']

set_option maxRecDepth 100000 in
set_option maxHeartbeats 4000000 in
theorem same_any (w : World) (k : Lk) (A A' B B' : Option Addr) (c c' d d' : Nat) (h1 : Rd w k A c A' c') (h2 : Rd w k B d B' d') :
    Calls Try.prog 20 #[stv k A c A' c', stv k B d B' d'] w fun e w' => e = .returned (.bool true) ∧ Only w w' := by
  have b1 := h1.hs.2.1
  have b2 := h1.hs.2.2.1
  have b3 := h1.ws.2.1
  have b4 := h1.ws.2.2.1
  have b5 := h2.hs.2.1
  have b6 := h2.ws.2.1
  have H := Lib.hid (And.intro h1 h2)
  have hO := Lib.hid (((Stay.refl (fun _ => False) w).alloc (.cells (stc k A c A' c').toArray 42)).alloc (.cells (stc k B d B' d').toArray 42))
  have hX1 := Lib.hid ((Blk.newAt w (stc k A c A' c') 42 w.heap.size rfl).alloc (.cells (stc k B d B' d').toArray 42))
  have hX2 := Lib.hid (Blk.newAt (w.alloc (.cells (stc k A c A' c').toArray 42)) (stc k B d B' d') 42 (w.heap.size + 1) (by simp))
  clear h1 h2
  unfold stv
  unfold stc at hO hX1 hX2
  go_enter Try.func20, Try.ntmps20
  go_wp2_with fail
  go_loopg [42] (k.holders.length) (fun kk vi wr => ∃ (i : Nat), i ≤ k.holders.length ∧ kk = k.holders.length - i ∧ vi = .int .i64 (i : Nat) ∧ Only ((w.alloc (.cells #[.int .i64 k.permits, .int .i64 k.free, .slice A k.holders.length c, .slice A' k.waiting.length c'] 42)).alloc (.cells #[.int .i64 k.permits, .int .i64 k.free, .slice B k.holders.length d, .slice B' k.waiting.length d'] 42)) wr)
  case atStart => exact ⟨0, Nat.zero_le _, rfl, rfl, Stay.refl _ _⟩
  case round =>
    obtain ⟨i, hi, hk, rfl, hO1⟩ := hrel
    have z2 := (hO1.blk hX2.out).cell
    have l2 := (hO1.blk hX2.out).lt
    have z1 := (hO1.blk hX1.out).cell
    have l1 := (hO1.blk hX1.out).lt
    have hO2 : Only w wr := Only.trans' hO.out hO1
    by_cases hlt : i < k.holders.length
    · obtain ⟨x, hx⟩ : ∃ x, k.holders[i]? = some x := ⟨_, List.getElem?_eq_getElem hlt⟩
      obtain ⟨xb, xo, rfl, hxb, hxc⟩ := (H.out.1.hs.only hO2).elem hcell_length hx (by omega)
      obtain ⟨yb, yo, rfl, hyb, hyc⟩ := (H.out.2.hs.only hO2).elem hcell_length hx (by omega)
      have e0 := hxc 0 _ rfl
      have e1 := hxc 1 _ rfl
      have g0 := hyc 0 _ rfl
      have g1 := hyc 1 _ rfl
      simp only [Nat.add_zero] at e0 g0
      have hlx : xb < wr.heap.size := Nat.lt_of_lt_of_le hxb hO2.size
      have hly : yb < wr.heap.size := Nat.lt_of_lt_of_le hyb hO2.size
      have u1 : (0 : Int) ≤ (i : Int) := by omega
      have u2 : (i : Int) < (k.holders.length : Int) := by omega
      have HX := Lib.hid (And.intro hk hO1)
      clear hk hO1 hO2 hx hxc hyc
      go_wp2_with fail
      go_big_region
      go_wp2_with fail
      go_roundg (k.holders.length - (i + 1))
      case measure => have := HX.out.1; omega
      case rel => exact ⟨i + 1, by omega, rfl, by go_num, HX.out.2.trans' (((Stay.refl (fun _ => False) wr).alloc _).drew)⟩
    · have HX := Lib.hid (And.intro hO1 hO2)
      obtain ⟨w3, rfl⟩ : ∃ w3 : World, w3 = wr := ⟨_, rfl⟩
      clear hk hO1 hO2
      go_wp2_with fail
      go_loopg [58] (k.waiting.length) (fun kk vi wr => ∃ (i : Nat), i ≤ k.waiting.length ∧ kk = k.waiting.length - i ∧ vi = .int .i64 (i : Nat) ∧ Only w3 wr)
      case atStart => exact ⟨0, Nat.zero_le _, rfl, rfl, Stay.refl _ _⟩
      case round =>
        obtain ⟨i, hi, hk, rfl, hO3⟩ := hrel
        have hO4 := HX.out.2.trans' hO3
        have z4 := (hO3.blk (HX.out.1.blk hX2.out)).cell
        have l4 := (hO3.blk (HX.out.1.blk hX2.out)).lt
        by_cases hlt : i < k.waiting.length
        · obtain ⟨xb, xo, rfl, hxb, hxc⟩ := (H.out.1.ws.only hO4).ints_at (by omega)
          obtain ⟨yb, yo, rfl, hyb, hyc⟩ := (H.out.2.ws.only hO4).ints_at (by omega)
          obtain ⟨x, hx⟩ : ∃ x, k.waiting[i]? = some x := ⟨_, List.getElem?_eq_getElem hlt⟩
          have e0 := hxc i hlt
          have g0 := hyc i hlt
          rw [List.getD_eq_getElem?_getD, hx] at e0 g0
          simp only [Option.getD_some] at e0 g0
          have hlx : xb < wr.heap.size := Nat.lt_of_lt_of_le hxb hO4.size
          have hly : yb < wr.heap.size := Nat.lt_of_lt_of_le hyb hO4.size
          have u1 : (0 : Int) ≤ (i : Int) := by omega
          have u2 : (i : Int) < (k.waiting.length : Int) := by omega
          have HZ := Lib.hid (And.intro hk hO3)
          clear hk hO3 hO4 hx hxc hyc z1 z2
          go_wp2_with fail
          go_roundg (k.waiting.length - (i + 1))
          case measure => have := HZ.out.1; omega
          case rel => exact ⟨i + 1, by omega, rfl, by go_num, HZ.out.2⟩
        · have HZ := Lib.hid hO4
          clear hk hO3 hO4
          go_wp2_with fail
          go_ret
          exact ⟨rfl, HZ.out⟩

end Go.Proofs.Ytfifdgigeecfbaa
