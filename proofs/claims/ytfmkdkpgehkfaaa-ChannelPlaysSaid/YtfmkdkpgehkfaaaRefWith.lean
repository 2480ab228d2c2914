/- The reference's Withdraw. -/
import Derived.Test.YtfmkdkpgehkfaaaRefOffer
set_option linter.unusedVariables false
set_option linter.unusedSimpArgs false
namespace Go.Proofs.Ytfmkdkpgehkfaaa
open Go Go.RowKit

def RWith (w : World) (c : Ch) (t : Int) (e : Ending) (w' : World) : Prop :=
  ∃ y, e = .returned (.tuple #[y, .bool (c.withdraw t).2]) ∧ Rd w' y (c.withdraw t).1 ∧ Only w w'
theorem RWith.mk {w w' : World} {c c' : Ch} {t : Int} {ok : Bool} {y : Value} (h : c.withdraw t = (c', ok)) (hy : Rd w' y c') (hO : Only w w') : RWith w c t (.returned (.tuple #[y, .bool ok])) w' := by
  unfold RWith
  rw [h]
  exact ⟨y, rfl, hy, hO⟩

def zst : List Value := [.int .i64 0, .int .i64 0, .bool false, .slice none 0 0, .slice none 0 0, .int .i64 0]

set_option maxRecDepth 100000 in
set_option maxHeartbeats 8000000 in
theorem rwithdraw_any (w : World) (x : Value) (c : Ch) (t : Int) (hx : Rd w x c) (hws : c.ws.length ≤ 200) :
    Calls Try.prog 40 #[x, .int .i64 t] w (WithFr w x (RWith w c t)) := by
  obtain ⟨A, cp, A', cp', rfl, s1, s2⟩ := hx
  have b1 := s1.2.1
  have b2 := s1.2.2.1
  have b3 := s2.2.1
  have b4 := s2.2.2.1
  have HS := Lib.hid (And.intro s1 s2)
  clear s1 s2
  go_enter Try.func40, Try.ntmps40
  go_wp2_with fail
  go_loopg [11] (c.ws.length) (fun k i wr => ∃ j : Nat, j ≤ c.ws.length ∧ k = c.ws.length - j ∧ i = .int .i64 (j : Nat) ∧ Only w wr ∧ (∀ z ∈ c.ws.take j, (z.t == t) = false) ∧ Blk wr w.heap.size 36 (stv c A cp A' cp') ∧ Blk wr (w.heap.size + 1) 36 zst)
  case atStart =>
    refine ⟨0, Nat.zero_le _, rfl, rfl, ((Stay.refl _ w).alloc _).alloc _, by simp, (Blk.newAt w (stv c A cp A' cp') _ _ rfl).alloc _, Blk.newAt (w.alloc _) zst _ _ (by simp)⟩
  case round =>
    obtain ⟨j, hj, hk, rfl, hO, hpre, hT0, hT1⟩ := hrel
    have k0 := hT0.cell
    have k1 := hT1.cell
    have f0 := hT0.free
    have f1 := hT1.free
    have l0 := hT0.lt
    have l1 := hT1.lt
    simp only [stv] at k0
    simp only [zst] at k1
    by_cases hlt : j < c.ws.length
    · obtain ⟨y, hy⟩ : ∃ y, c.ws[j]? = some y := ⟨_, List.getElem?_eq_getElem hlt⟩
      obtain ⟨xb, xo, rfl, hxb, hxc⟩ := (HS.out.2.only hO).elem Wt.cells_length hy (by omega)
      have e0 := hxc 0 _ rfl
      simp only [Nat.add_zero] at e0
      have e1 := hxc 1 _ rfl
      have e2 := hxc 2 _ rfl
      have e3 := hxc 3 _ rfl
      have e4 := hxc 4 _ rfl
      have hxb' : xb < wr.heap.size := Nat.lt_of_lt_of_le hxb hO.size
      have HX := Lib.hid (And.intro hO (And.intro hk (And.intro hpre (And.intro hy (And.intro hT0 hT1)))))
      clear hO hk hpre hy hxc hT0 hT1
      have hA : ∀ o, Only wr (wr.alloc o) := fun o => (Stay.refl (fun _ => False) wr).alloc o
      cases hp : (y.t == t) with
      | true =>
        have HP := Lib.hid hp
        have HF := Lib.hid (show c.withdraw t = ({ c with ws := c.ws.eraseIdx j }, true) by
          unfold Ch.withdraw
          rw [takeW_at HX.out.2.2.2.1 hp HX.out.2.2.1])
        go_wp2_with fail
        refine (without_any _ (some ⟨xb, xo, none⟩) cp' c.ws j ((HS.out.2.only (HX.out.1.trans' (hA _))).up (HX.out.1.trans' (hA _)).size) hws).mono ?_
        rintro e w3 ⟨⟨A3, cp3, rfl, h3, h3b⟩, hO3⟩
        have hO4 : Only wr w3 := (hA _).trans' hO3
        have q0 := (hO4.blk HX.out.2.2.2.2.1).cell
        have q1 := (hO4.blk HX.out.2.2.2.2.2).cell
        have r0 := (hO4.blk HX.out.2.2.2.2.1).free
        have r1 := (hO4.blk HX.out.2.2.2.2.2).free
        have l2 := (hO4.blk HX.out.2.2.2.2.2).lt
        have l3 := (hO4.blk HX.out.2.2.2.2.1).lt
        simp only [stv] at q0
        simp only [zst] at q1
        obtain ⟨L, hL⟩ : ∃ L, (c.ws.eraseIdx j).length = L := ⟨_, rfl⟩
        rw [hL] at h3 ⊢
        have H3 := Lib.hid (And.intro h3 (And.intro (show ∀ a, A3 = some a → wr.heap.size ≤ a.block from fun a ha => by have := h3b a ha; simp at this; omega) (And.intro (HX.out.1.trans' hO4) hL)))
        clear h3 h3b hO3 hO4 hL k0 k1 f0 f1 e0 e1 e2 e3 e4
        go_wp2_with fail
        refine bodyPost_ret (v := .tuple #[.agg #[.int .i64 c.cap, .int .i64 c.pol, .bool c.closed, .slice A c.buf.length cp, .slice A3 L cp3, .int .i64 c.drop], .bool true]) (by simp [results, Try.results40, go_sem, q0, q1]) rfl ?_
        refine WithFr.mk' (fr_mk (.inl fun h => ⟨rfl, by first | exact h | omega | (simp at h)⟩) (.inr fun a ha => by have := H3.out.2.1 a ha; have := HX.out.1.size; omega)) ?_
        have hfin : ∀ {W : World}, Stay (fun k => w.heap.size ≤ k ∧ k ≤ w.heap.size + 1) w3 W → RWith w c t (.returned (.tuple #[.agg #[.int .i64 c.cap, .int .i64 c.pol, .bool c.closed, .slice A c.buf.length cp, .slice A3 L cp3, .int .i64 c.drop], .bool true])) W := fun {W} hS => by
          have hOw : Only w W := Mine.stay ((Mine.only H3.out.2.2.1).trans (hS.mono (fun k _ h => h.1)))
          refine RWith.mk HF.out ⟨A, cp, A3, cp3, by simp only [H3.out.2.2.2], (HS.out.1.only hOw).up hOw.size, ?_⟩ hOw
          have := H3.out.1.aside hS (fun a ha hf => by have := H3.out.2.1 a ha; have := hf.2; omega) hS.size
          rw [← H3.out.2.2.2] at this
          exact this
        refine hfin ?_
        repeat refine Stay.put ?_ (by omega) _ _
        exact Stay.refl _ _
      | false =>
        have HP := Lib.hid hp
        go_wp2_with fail
        go_roundg (c.ws.length - (j + 1))
        case measure => have := HX.out.2.1; omega
        case rel => exact ⟨j + 1, hlt, rfl, rfl, HX.out.1.trans' (hA _), fun z hz => by
          rw [List.take_add_one, HX.out.2.2.2.1] at hz
          rcases List.mem_append.1 hz with hz | hz
          · exact HX.out.2.2.1 z hz
          · simp at hz
            rw [hz]
            exact HP.out, (hA _).blk HX.out.2.2.2.2.1, (hA _).blk HX.out.2.2.2.2.2⟩
    · have hje : j = c.ws.length := by omega
      have HX := Lib.hid (And.intro hO (And.intro hpre hje))
      have HF := Lib.hid (show c.withdraw t = (c, false) by
        unfold Ch.withdraw
        rw [takeW_none_of (fun z hz => hpre z (by rw [hje, List.take_length]; exact hz))])
      clear hO hk hpre hje hT0 hT1
      go_wp2_with fail
      refine bodyPost_ret (v := .tuple #[.agg #[.int .i64 c.cap, .int .i64 c.pol, .bool c.closed, .slice A c.buf.length cp, .slice A' c.ws.length cp', .int .i64 c.drop], .bool false]) (by simp [results, Try.results40, go_sem, k0, k1]) rfl ?_
      refine WithFr.mk' (fr_mk (.inl fun h => ⟨rfl, by first | exact h | omega | (simp at h)⟩) (.inl fun h => ⟨rfl, by first | exact h | omega | (simp at h)⟩)) ?_
      have hfin : ∀ {W : World}, Stay (fun k => w.heap.size ≤ k ∧ k ≤ w.heap.size + 1) wr W → RWith w c t (.returned (.tuple #[.agg #[.int .i64 c.cap, .int .i64 c.pol, .bool c.closed, .slice A c.buf.length cp, .slice A' c.ws.length cp', .int .i64 c.drop], .bool false])) W := fun {W} hS => by
        have hOw : Only w W := Mine.stay ((Mine.only HX.out.1).trans (hS.mono (fun k _ h => h.1)))
        exact RWith.mk HF.out ⟨A, cp, A', cp', rfl, (HS.out.1.only hOw).up hOw.size, (HS.out.2.only hOw).up hOw.size⟩ hOw
      refine hfin ?_
      repeat refine Stay.put ?_ (by omega) _ _
      exact Stay.refl _ _

end Go.Proofs.Ytfmkdkpgehkfaaa
