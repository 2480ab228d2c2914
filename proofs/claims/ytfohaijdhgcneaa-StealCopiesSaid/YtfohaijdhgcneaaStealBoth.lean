/- Two races beside each other; rows of Booleans. -/
import Derived.Test.YtfohaijdhgcneaaStealMade
set_option linter.unusedVariables false
set_option linter.unusedSimpArgs false
namespace Go.Proofs.Ytfohaijdhgcneaa
open Go Go.RowKit

abbrev bools (l : List Bool) : List Value := l.map .bool
theorem infoB : (Try.prog.info? 4).map (fun i => (i.zero, i.size, i.bytes)) = some (some (.bool false), 1, 1) := by kernel_rfl
set_option maxRecDepth 100000 in
set_option maxHeartbeats 4000000 in
theorem eqB_any (w : World) (A B : Option Addr) (cap cbp : Nat) (xs : List Bool) (hs : Sl w w.heap.size A xs.length cap 1 (bools xs)) (ht : Sl w w.heap.size B xs.length cbp 1 (bools xs)) :
    Calls Try.prog 24 #[.slice A xs.length cap, .slice B xs.length cbp] w fun e w' => e = .returned (.bool true) ∧ Only w w' := by
  have b1 := hs.2.1
  have b2 := hs.2.2.1
  have HS := Lib.hid (And.intro hs ht)
  clear hs ht
  go_enter Try.func24, Try.ntmps24
  go_wp2_with fail
  go_loopg [13] (xs.length) (fun k vi wr => ∃ i : Nat, i ≤ xs.length ∧ k = xs.length - i ∧ vi = .int .i64 (i : Nat) ∧ Only w wr)
  case atStart => exact ⟨0, by omega, by omega, rfl, Stay.refl _ w⟩
  case round =>
    obtain ⟨i, hi, hk, rfl, hO⟩ := hrel
    by_cases hp : i < xs.length
    · obtain ⟨x, hx⟩ : ∃ x, xs[i]? = some x := ⟨_, List.getElem?_eq_getElem (by omega)⟩
      have hz : (bools xs)[i]? = some (.bool x) := by unfold bools; rw [List.getElem?_map, hx]; rfl
      obtain ⟨xb, xo, rfl, hxb, hxc⟩ := (HS.out.1.only hO).2.2.2.2 (by omega)
      obtain ⟨yb, yo, rfl, hyb, hyc⟩ := (HS.out.2.only hO).2.2.2.2 (by omega)
      have e0 := hxc i _ hz
      have e1 := hyc i _ hz
      have hlt : xb < wr.heap.size := Nat.lt_of_lt_of_le hxb hO.size
      have hlt2 : yb < wr.heap.size := Nat.lt_of_lt_of_le hyb hO.size
      have HX := Lib.hid (And.intro hO hk)
      clear hO hk hx hxc hyc hz
      go_wp2_with fail
      go_big_region
      go_wp2_with fail
      go_roundg (xs.length - (i + 1))
      case measure => have := HX.out.2; omega
      case rel => exact ⟨i + 1, hp, rfl, rfl, HX.out.1.trans (Stay.refl (fun _ => False) wr).drew (fun _ _ h => h)⟩
    · have HX := Lib.hid hO
      clear hO hk
      go_wp2_with fail
      go_ret
      exact ⟨rfl, HX.out⟩
/-- What steps said whether they were steps. -/
def trail : Rc → List Int → List Bool
  | _, [] => []
  | R, i :: l => (R.step i).2 :: trail (R.step i).1 l
theorem trail_append : ∀ (a b : List Int) (R : Rc), trail R (a ++ b) = trail R a ++ trail (replay R a) b
  | [], _, _ => rfl
  | i :: a, b, R => by
    show _ :: trail _ (a ++ b) = _ :: (trail _ a ++ trail (replay _ a) b)
    rw [trail_append a b]
theorem trail_take {R : Rc} {l : List Int} {i : Nat} (h : i < l.length) : trail R (l.take (i + 1)) = trail R (l.take i) ++ [((replay R (l.take i)).step (l.getD i 0)).2] := by
  have e : l.take (i + 1) = l.take i ++ [l.getD i 0] := by
    rw [List.take_add_one, List.getElem?_eq_getElem h, List.getD_eq_getElem?_getD, List.getElem?_eq_getElem h]
    rfl
  rw [e, trail_append]
  rfl
theorem trail_len : ∀ (l : List Int) (R : Rc), (trail R l).length = l.length
  | [], _ => rfl
  | i :: l, R => by simp [trail, trail_len l]
/-- Two races that share nothing. -/
structure Both (w0 w : World) (La : Nat → Nat) (a : Nat) (Ra : Rc) (Lb : Nat → Nat) (b : Nat) (Rb : Rc) : Prop where
  a : SR w0 w La a Ra
  b : SR w0 w Lb b Rb
  off : ∀ k, La k ≠ 0 → Lb k = 0
section
variable {w0 w w' : World} {La Lb : Nat → Nat} {a b : Nat} {Ra Rb : Rc}
theorem Both.swap (h : Both w0 w La a Ra Lb b Rb) : Both w0 w Lb b Rb La a Ra := ⟨h.b, h.a, fun k hk => by
  by_cases h0 : La k = 0
  · exact h0
  · exact absurd (h.off k h0) hk⟩
theorem Both.stay {X : Nat → Prop} (h : Both w0 w La a Ra Lb b Rb) (hx : Stay X w w') (hX : ∀ k, X k → (La k = 0 ∧ Lb k = 0) ∧ w0.heap.size ≤ k) : Both w0 w' La a Ra Lb b Rb :=
  ⟨h.a.stay hx (fun k hk => ⟨(hX k hk).1.1, (hX k hk).2⟩), h.b.stay hx (fun k hk => ⟨(hX k hk).1.2, (hX k hk).2⟩), h.off⟩
theorem Both.then (h : Both w0 w La a Ra Lb b Rb) (ho : Only w w') : Both w0 w' La a Ra Lb b Rb := ⟨h.a.then ho, h.b.then ho, h.off⟩
theorem both_step (h : Both w0 w La a Ra Lb b Rb) (i : Int) :
    Calls Try.prog 22 #[.pointer (some ⟨a, 0, none⟩), .int .i64 i] w fun e w' => e = .returned (.bool (Ra.step i).2) ∧ ∃ La', Both w0 w' La' a (Ra.step i).1 Lb b Rb ∧ (∀ k, k < w.heap.size → La' k = La k) ∧ Stay (fun k => La k ≠ 0) w w' :=
  (sr_step h.a i).mono fun e w' ⟨he, L', h1, h2, h3⟩ => ⟨he, L', ⟨h1, h.b.stay h3 (fun k hk => ⟨h.off k hk, h.a.new k hk⟩), fun k hk => by
    by_cases hkw : k < w.heap.size
    · rw [h2 k hkw] at hk
      exact h.off k hk
    · by_cases h0 : Lb k = 0
      · exact h0
      · have := h.b.race.lab k h0; omega⟩, h2, h3⟩
end
/-- A row that no race owns. -/
structure Apart (w0 w : World) (La Lb : Nat → Nat) (e : TypeId) (v : Value) (n : Nat) (xs : List Value) : Prop where
  row : w.ownsRow w0.heap.size e 1 v n xs
  la : ∀ g, v.ownBlock = some g → La g = 0 ∧ Lb g = 0
section
variable {w0 w w' : World} {La La' Lb : Nat → Nat} {a b : Nat} {Ra Rb : Rc} {e : TypeId} {v : Value} {n : Nat} {xs : List Value}
theorem Apart.step (h : Apart w0 w La Lb e v n xs) (hl : ∀ k, k < w.heap.size → La' k = La k) (hx : Stay (fun k => La k ≠ 0) w w') : Apart w0 w' La' Lb e v n xs :=
  ⟨own_stay hx h.row (fun g hg k => k (h.la g hg).1), fun g hg => ⟨by rw [hl g (own_lt h.row g hg).2]; exact (h.la g hg).1, (h.la g hg).2⟩⟩
theorem Apart.swap (h : Apart w0 w La Lb e v n xs) : Apart w0 w Lb La e v n xs := ⟨h.row, fun g hg => (h.la g hg).symm⟩
theorem Apart.then (h : Apart w0 w La Lb e v n xs) (ho : Only w w') : Apart w0 w' La Lb e v n xs := ⟨own_only ho h.row, h.la⟩
theorem Apart.stay {X : Nat → Prop} (h : Apart w0 w La Lb e v n xs) (hx : Stay X w w') (hX : ∀ g, v.ownBlock = some g → ¬ X g) : Apart w0 w' La Lb e v n xs := ⟨own_stay hx h.row hX, h.la⟩
theorem Apart.x (h : Apart w0 w La Lb e v n xs) : ∀ k, v.ownBlock = some k → (La k = 0 ∧ Lb k = 0) ∧ w0.heap.size ≤ k := fun k hk => ⟨h.la k hk, (own_lt h.row k hk).1⟩
/-- A row that is new. -/
theorem Both.apart (h : Both w0 w La a Ra Lb b Rb) (ho : Only w w') (hr : w'.ownsRow w.heap.size e 1 v n xs) : Apart w0 w' La Lb e v n xs :=
  ⟨owns_base hr h.a.only.size, fun g hg => by
    have h1 := (own_lt hr g hg).1
    refine ⟨?_, ?_⟩
    · by_cases h0 : La g = 0
      · exact h0
      · have := h.a.race.lab g h0; omega
    · by_cases h0 : Lb g = 0
      · exact h0
      · have := h.b.race.lab g h0; omega⟩
end
end Go.Proofs.Ytfohaijdhgcneaa
