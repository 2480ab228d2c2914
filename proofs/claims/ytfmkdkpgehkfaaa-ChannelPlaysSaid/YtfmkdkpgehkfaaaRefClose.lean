/- The reference's Close. -/
import Derived.Test.YtfmkdkpgehkfaaaRefWith
import Derived.Deep.RegionLaw
import Derived.Deep.AppendLies
set_option linter.unusedVariables false
set_option linter.unusedSimpArgs false
namespace Go.Proofs.Ytfmkdkpgehkfaaa
open Go Go.RowKit

def RClose (w : World) (c : Ch) (e : Ending) (w' : World) : Prop :=
  ∃ y A cp, e = .returned (.tuple #[y, .slice A c.close.2.length cp]) ∧ Rd w' y c.close.1 ∧ Sl w' w'.heap.size A c.close.2.length cp 7 (c.close.2.flatMap D.cells) ∧ Only w w'
theorem RClose.mk {w w' : World} {c c' : Ch} {dl : List D} {y : Value} {A : Option Addr} {cp : Nat} (h : c.close = (c', dl)) (hy : Rd w' y c') (hA : Sl w' w'.heap.size A dl.length cp 7 (dl.flatMap D.cells)) (hO : Only w w') : RClose w c (.returned (.tuple #[y, .slice A dl.length cp])) w' := by
  unfold RClose
  rw [h]
  exact ⟨y, A, cp, rfl, hy, hA, hO⟩

set_option maxRecDepth 100000 in
set_option maxHeartbeats 8000000 in
theorem rclose_any (w : World) (x : Value) (c : Ch) (hx : Rd w x c) (hws : c.ws.length ≤ 200) :
    Calls Try.prog 41 #[x] w (WithFr w x (RClose w c)) := by
  obtain ⟨A, cp, A', cp', rfl, s1, s2⟩ := hx
  have b1 := s1.2.1
  have b2 := s1.2.2.1
  have b3 := s2.2.1
  have b4 := s2.2.2.1
  have HS := Lib.hid (And.intro s1 s2)
  clear s1 s2
  cases hcl : c.closed with
  | true =>
    have HF := Lib.hid (show c.close = (c, []) by simp [Ch.close, hcl])
    have HCL := Lib.hid hcl
    clear hcl
    go_enter Try.func41, Try.ntmps41
    go_wp2_with fail
    refine bodyPost_ret (v := .tuple #[.agg #[.int .i64 c.cap, .int .i64 c.pol, .bool true, .slice A c.buf.length cp, .slice A' c.ws.length cp', .int .i64 c.drop], .slice none 0 0]) (by simp [results, Try.results41, go_sem]) rfl ?_
    refine WithFr.mk' (fr_mk (.inl fun h => ⟨rfl, by first | exact h | omega | (simp at h)⟩) (.inl fun h => ⟨rfl, by first | exact h | omega | (simp at h)⟩)) ?_
    have hfin : ∀ {W : World}, Only w W → RClose w c (.returned (.tuple #[.agg #[.int .i64 c.cap, .int .i64 c.pol, .bool true, .slice A c.buf.length cp, .slice A' c.ws.length cp', .int .i64 c.drop], .slice none 0 0])) W := fun {W} hO =>
      RClose.mk HF.out ⟨A, cp, A', cp', by simp only [HCL.out], (HS.out.1.only hO).up hO.size, (HS.out.2.only hO).up hO.size⟩ (sl_none (B := W.heap.size)) hO
    refine hfin ?_
    exact ((Stay.refl _ w).alloc _).alloc _
  | false =>
    have HF := Lib.hid (show c.close = ({ c with closed := true, ws := [] }, c.ws.map cdeal) by simp [Ch.close, hcl, cdeal])
    have HCL := Lib.hid hcl
    clear hcl
    obtain ⟨iw, hiw0, hiw1, hiw2, hiw3⟩ := info_parts infoD
    go_enter Try.func41, Try.ntmps41
    go_wp2_with fail
    go_loopg [4, 13] (c.ws.length) (fun k v i wr => ∃ (j : Nat) (A2 : Option Addr) (cp2 : Nat), j ≤ c.ws.length ∧ k = c.ws.length - j ∧ i = .int .i64 (j : Nat) ∧ v = .slice A2 j cp2 ∧ Only w wr ∧ wr.ownsRow (w.heap.size + 2) 44 7 v j (((c.ws.map cdeal).take j).flatMap D.cells) ∧
      Blk wr w.heap.size 36 (stv { c with closed := false } A cp A' cp') ∧ Blk wr (w.heap.size + 1) 36 zst)
    case atStart =>
      refine ⟨0, none, 0, Nat.zero_le _, rfl, rfl, rfl, ((Stay.refl _ w).alloc _).alloc _, by simpa using World.ownsRow_nil _ _ _ _, (Blk.newAt w (stv { c with closed := false } A cp A' cp') _ _ rfl).alloc _, Blk.newAt (w.alloc _) zst _ _ (by simp)⟩
    case round =>
      obtain ⟨j, A2, cp2, hj, hk, rfl, rfl, hO, hown, hT0, hT1⟩ := hrel
      have k0 := hT0.cell
      have k1 := hT1.cell
      have f0 := hT0.free
      have f1 := hT1.free
      have l0 := hT0.lt
      have l1 := hT1.lt
      simp only [stv] at k0
      simp only [zst] at k1
      by_cases hlt : j < c.ws.length
      · obtain ⟨y, hy⟩ : ∃ y, c.ws[j]? = some y := ⟨_, List.getElem?_eq_getElem hlt⟩
        have hyd : (c.ws.map cdeal)[j]? = some (cdeal y) := by rw [List.getElem?_map, hy]; rfl
        obtain ⟨xb, xo, rfl, hxb, hxc⟩ := (HS.out.2.only hO).elem Wt.cells_length hy (by omega)
        have e0 := hxc 0 _ rfl
        simp only [Nat.add_zero] at e0
        have e1 := hxc 1 _ rfl
        have e2 := hxc 2 _ rfl
        have e3 := hxc 3 _ rfl
        have e4 := hxc 4 _ rfl
        have hxb' : xb < wr.heap.size := Nat.lt_of_lt_of_le hxb hO.size
        have HX := Lib.hid (And.intro hO (And.intro hk (And.intro hown (And.intro hyd (And.intro hT0 hT1)))))
        clear hO hk hyd hy hxc hT0 hT1
        have n0 : ∀ o : Obj, o = .cells y.cells.toArray 46 → ((wr.alloc o).drew).cell? ⟨wr.heap.size, 0, none⟩ = some (.int .i64 y.t) := fun o e => by
          subst e
          exact (Blk.newAt wr y.cells 46 _ rfl).at (i := 0) rfl
        go_wp2_with fail
        go_region_law (first | (refine step_append_lies _ (by rfl) _ _ _ (by rfl) (w.heap.size + 2) 44 iw _ 7 72 Try.underlying38 hiw0 hiw1 hiw2 hiw3 rfl (by omega) _ j _ (by rfl) ((own_only hO1 ((own_only ((Stay.refl _ wr).alloc _) hown).drew)).alloc _) ⟨w1.heap.size, 0, none⟩ 1 1 (cdeal y).cells (by rfl) (by rfl) (World.news_of_block (cs := (cdeal y).cells.toArray) (t := 44) (fr := (0, 0)) (heap_alloc_new w1 _)) (by simp [D.cells, Value.oneCell']) (by omega) (by simp only [maxLen]; omega) (by omega) (by have := hO1.size; simp at this ⊢; omega) (w1.heap.size + 1) (by simp) ?_; intro gg cap w2 hown2 hgrow hat hlt1) | (go_simp; go_at_call 16; refine (closed_any _).mono ?_; rintro e w1 ⟨rfl, hO1⟩; unfold F.val; have m0 := hO1.cell (n0 _ rfl); have ml := World.block_lt_of_cell? w1 _ m0))
        all_goals
          have HG := Lib.hid (And.intro hown2 (And.intro hgrow hO1))
          clear hown2 hgrow hat hlt1 hO1 m0 ml n0 hown e0 e1 e2 e3 e4 k0 k1 f0 f1
          go_wp2_with fail
          go_roundg (c.ws.length - (j + 1))
          case measure => have := HX.out.2.1; omega
          case rel =>
            obtain ⟨hO, hk, hown, hyd, hT0, hT1⟩ := HX.out
            obtain ⟨hown2, hgrow, hO1⟩ := HG.out
            have hOa : ∀ o, Only wr ((wr.alloc o).drew) := fun o => ((Stay.refl (fun _ => False) wr).alloc o).drew
            have hO3 : Only wr (w1.alloc (.cells (cdeal y).cells.toArray 44)) := (Only.trans' (hOa _) hO1).alloc _
            have hM : Mine (w.heap.size + 2) wr w2 := Mine.grown hO3 hown (Nat.le_refl _) hgrow
            refine ⟨j + 1, some ⟨gg, 0, none⟩, cap, hlt, rfl, rfl, rfl, Mine.stay (Mine.trans (Mine.only hO) (hM.mono (by omega))), ?_, hM.blk hT0 (by omega), hM.blk hT1 (by omega)⟩
            rw [flat_snoc _ _ j _ hyd]
            simpa using hown2
      · have hje : j = c.ws.length := by omega
        have HX := Lib.hid (And.intro hO (And.intro hown hje))
        clear hO hk hown hT0 hT1 hje
        have hjl : j ≤ 200 := by omega
        go_wp2_with fail
        refine bodyPost_ret (v := .tuple #[.agg #[.int .i64 c.cap, .int .i64 c.pol, .bool true, .slice A c.buf.length cp, .slice none 0 0, .int .i64 c.drop], .slice A2 j cp2]) (by simp [results, Try.results41, go_sem, k0, k1]) rfl ?_
        refine WithFr.mk' (fr_mk (.inl fun h => ⟨rfl, by first | exact h | omega | (simp at h)⟩) (.inr fun a ha => by cases ha)) ?_
        have hfin : ∀ {W : World}, Stay (fun k => w.heap.size ≤ k ∧ k ≤ w.heap.size + 1) wr W → RClose w c (.returned (.tuple #[.agg #[.int .i64 c.cap, .int .i64 c.pol, .bool true, .slice A c.buf.length cp, .slice none 0 0, .int .i64 c.drop], .slice A2 j cp2])) W := fun {W} hS => by
          obtain ⟨hO, hown, hje⟩ := HX.out
          have hOw : Only w W := Mine.stay ((Mine.only hO).trans (hS.mono (fun k _ h => h.1)))
          have hlen : (c.ws.map cdeal).length = j := by simp [hje]
          have h1 := owns_stay hS hown (fun k hk _ hf => by have := hf.2; omega)
          rw [← hlen, List.take_length] at h1
          have h2 := own_sl h1 (flat_len _ _ D.cells_length _)
          have h3 := RClose.mk (w := w) HF.out (y := .agg #[.int .i64 c.cap, .int .i64 c.pol, .bool true, .slice A c.buf.length cp, .slice none 0 0, .int .i64 c.drop]) ⟨A, cp, none, 0, rfl, (HS.out.1.only hOw).up hOw.size, sl_none⟩ h2 hOw
          rw [hlen] at h3
          exact h3
        refine hfin ?_
        repeat refine Stay.put ?_ (by omega) _ _
        exact Stay.refl _ _

end Go.Proofs.Ytfmkdkpgehkfaaa
