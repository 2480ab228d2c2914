/- An operation begins. -/
import Derived.Test.YtfohaijdhgcneaaStealMake
import Derived.Test.YtfohaijdhgcneaaStealNow
set_option linter.unusedVariables false
set_option linter.unusedSimpArgs false
namespace Go.Proofs.Ytfohaijdhgcneaa
open Go Go.RowKit

theorem own_cell {w : World} {ov : Value} {own : List Int} {n : Nat} (h : w.ownsRow 0 3 1 ov own.length (ints own)) (hn : n < own.length) : ∃ g c, ov = .slice (some ⟨g, 0, none⟩) own.length c ∧ w.cell? ⟨g, n, none⟩ = some (.int .i64 (own.getD n 0)) := by
  obtain ⟨g, c, e, _, _⟩ := h.form (by omega)
  have hrow := h
  rw [e] at hrow
  refine ⟨g, c, e, ?_⟩
  have z := hrow.cellAt n (by omega)
  rw [z]
  simp [ints, List.getElem?_eq_getElem hn, List.getD_eq_getElem?_getD]
set_option maxRecDepth 100000 in
set_option maxHeartbeats 2000000 in
theorem new1_any {w : World} {b room : Nat} {cells own : List Int} {top bot : Int} {cv av ov tv pv : Value} {ab rb ob n : Nat} (L : Nat → Nat) (a : Act) (h : Core w b room cells top bot cv av ov tv pv) (ho : w.ownsRow 0 3 1 ov own.length (ints own)) (h1 : Blk w rb 26 [pt b]) (h2 : Blk w ob 87 [pt ab]) (hn : n < own.length) (hlen : own.length ≤ 1000) :
    Calls Try.prog 57 #[.int .i64 n, .pointer (some ⟨rb, 0, none⟩), .pointer (some ⟨ob, 0, none⟩)] w fun e w' => ∃ nx, e = .returned nx ∧ (if own.getD n 0 = 0 then TakeN w' (lay L w.heap.size 0) b 0 ab a 0 nx else PushN w' (lay L w.heap.size 0) b 0 ab (own.getD n 0) 0 nx) ∧ Only w w' := by
  obtain ⟨g, cg, rfl, z⟩ := own_cell ho hn
  have c := h.blk.cell
  have l := h.blk.lt
  have c1 := h1.cell
  have l1 := h1.lt
  have c2 := h2.cell
  have l2 := h2.lt
  unfold pt at c1 c2
  clear h ho h1 h2
  by_cases hx : own.getD n 0 = 0
  · simp only [if_pos hx]
    rw [hx] at z
    clear hx
    go_enter Try.func57, Try.ntmps57
    go_wp2_with fail
    refine (takes_any _ L b 0 ab a).mono ?_
    rintro e w1 ⟨nx, rfl, hN, hO, _⟩
    have H := Lib.hid (And.intro hN hO)
    clear hN hO
    go_wp2_with fail
    go_ret
    exact ⟨nx, rfl, H.out.1, H.out.2⟩
  · simp only [if_neg hx]
    obtain ⟨x, hxe⟩ : ∃ x, x = own.getD n 0 := ⟨_, rfl⟩
    rw [← hxe] at z hx ⊢
    clear hxe
    have b0 : (x == 0) = false := by simp [hx]
    clear hx
    go_enter Try.func57, Try.ntmps57
    go_upto_region 3 with fail
    have c10 := c1 0
    have c20 := c2 0
    have c5 := c 5
    simp only [List.getElem?_cons_zero, List.getElem?_cons_succ] at c10 c20 c5
    go_region_with (go_at_call 59; refine (pushes_any _ L b 0 ab x).mono ?_; rintro e w1 ⟨nx, rfl, hN, hO, _⟩; have H := Lib.hid (And.intro hN (Only.trans' ((Stay.refl (fun _ => False) w).drew) hO)); clear hN hO)
    all_goals
      go_wp2_with fail
      go_ret
      exact ⟨nx, rfl, H.out.1, H.out.2⟩
set_option maxRecDepth 100000 in
set_option maxHeartbeats 2000000 in
theorem new2_any {w : World} {b : Nat} {ab rb ob n i : Nat} (L : Nat → Nat) (a : Act) (h1 : Blk w rb 26 [pt b]) (h2 : Blk w ob 87 [pt ab]) :
    Calls Try.prog 60 #[.int .i64 n, .pointer (some ⟨rb, 0, none⟩), .pointer (some ⟨ob, 0, none⟩)] w fun e w' => ∃ nx, e = .returned nx ∧ StealN w' (lay L w.heap.size i) b i ab a 0 nx ∧ Only w w' := by
  have c1 := h1.cell
  have l1 := h1.lt
  have c2 := h2.cell
  have l2 := h2.lt
  unfold pt at c1 c2
  clear h1 h2
  go_enter Try.func60, Try.ntmps60
  go_wp2_with fail
  refine (steals_any _ L b i ab a).mono ?_
  rintro e w1 ⟨nx, rfl, hN, hO, _⟩
  have H := Lib.hid (And.intro hN hO)
  clear hN hO
  go_wp2_with fail
  go_ret
  exact ⟨nx, rfl, H.out.1, H.out.2⟩
theorem op_any {w : World} {b room : Nat} {cells own : List Int} {top bot : Int} {cv av ov tv pv : Value} {ab rb ob i : Nat} (L : Nat → Nat) (a : Act) (h : Core w b room cells top bot cv av ov tv pv) (ho : w.ownsRow 0 3 1 ov own.length (ints own)) (h1 : Blk w rb 26 [pt b]) (h2 : Blk w ob 87 [pt ab]) (hn : i = 0 → a.got.length < own.length) (hlen : own.length ≤ 1000) (hs : a.step = 0) :
    Calls Try.prog (opF i) #[.int .i64 a.got.length, .pointer (some ⟨rb, 0, none⟩), .pointer (some ⟨ob, 0, none⟩)] w fun e w' => ∃ nx, e = .returned nx ∧ NowAt w' (lay L w.heap.size i) b own i ab a nx ∧ Only w w' := by
  unfold opF NowAt
  by_cases h0 : i = 0
  · subst h0
    simp only [if_pos rfl]
    rw [hs]
    exact new1_any L a h ho h1 h2 (hn rfl) hlen
  · simp only [if_neg h0]
    rw [hs]
    exact new2_any L a h1 h2
end Go.Proofs.Ytfohaijdhgcneaa
