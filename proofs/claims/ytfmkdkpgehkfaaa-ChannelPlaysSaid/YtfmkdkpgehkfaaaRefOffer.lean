/- The reference's Offer. -/
import Derived.Test.YtfmkdkpgehkfaaaRefFr
import Derived.Test.YtfmkdkpgehkfaaaRefVals
import Derived.Test.YtfmkdkpgehkfaaaRefValid
import Derived.Deep.RegionHeld3
set_option linter.unusedVariables false
set_option linter.unusedSimpArgs false
namespace Go.Proofs.Ytfmkdkpgehkfaaa
open Go Go.RowKit

/-- A state value and its parts. -/
def stv (c : Ch) (A : Option Addr) (cp : Nat) (A' : Option Addr) (cp' : Nat) : List Value := [.int .i64 c.cap, .int .i64 c.pol, .bool c.closed, .slice A c.buf.length cp, .slice A' c.ws.length cp', .int .i64 c.drop]

def ROffer (w : World) (c : Ch) (v : V) (e : Ending) (w' : World) : Prop :=
  ∃ y A cp, e = .returned (.tuple #[y, .slice A (c.offer v).2.1.length cp, (c.offer v).2.2.1.val, .bool (c.offer v).2.2.2]) ∧ Rd w' y (c.offer v).1 ∧ Sl w' w'.heap.size A (c.offer v).2.1.length cp 7 ((c.offer v).2.1.flatMap D.cells) ∧ Only w w'
theorem sl_none {w : World} {B size : Nat} : Sl w B none 0 0 size [] := ⟨by simp, Nat.le_refl _, by omega, fun _ => rfl, fun h => absurd h (by omega)⟩
theorem ROffer.mk {w w' : World} {c c' : Ch} {v : V} {dl : List D} {f : F} {ok : Bool} {y : Value} {A : Option Addr} {cp : Nat} (h : c.offer v = (c', dl, f, ok)) (hy : Rd w' y c') (hA : Sl w' w'.heap.size A dl.length cp 7 (dl.flatMap D.cells)) (hO : Only w w') :
    ROffer w c v (.returned (.tuple #[y, .slice A dl.length cp, f.val, .bool ok])) w' := by
  unfold ROffer
  rw [h]
  exact ⟨y, A, cp, rfl, hy, hA, hO⟩

/-- The blocks of the call's own four variables. -/
def Four (w : World) (k : Nat) : Prop := w.heap.size ≤ k ∧ k ≤ w.heap.size + 3
theorem Sl.aside {w w' : World} {S : Nat → Prop} {B : Nat} {A : Option Addr} {n cap size : Nat} {xs : List Value} (h : Sl w B A n cap size xs) (hs : Stay S w w') (hn : ∀ a, A = some a → ¬ S a.block) (hB : B ≤ w'.heap.size) : Sl w' w'.heap.size A n cap size xs := by
  refine ⟨h.1, h.2.1, h.2.2.1, h.2.2.2.1, fun h0 => ?_⟩
  obtain ⟨b, off, e, hb', hc⟩ := h.2.2.2.2 h0
  exact ⟨b, off, e, Nat.lt_of_lt_of_le hb' hB, fun j u hu => hs.cell (hc j u hu) (show ¬ S b from hn _ e)⟩
theorem Four.only {w w3 W : World} (hO : Only w w3) (hS : Stay (Four w) w3 W) : Only w W := Mine.stay ((Mine.only hO).trans (hS.mono (fun k _ h => h.1)))
/-- What came in lies below. -/
theorem Four.old {w w3 W : World} {A : Option Addr} {n cap size : Nat} {xs : List Value} (h : Sl w w.heap.size A n cap size xs) (hO : Only w w3) (hS : Stay (Four w) w3 W) : Sl W W.heap.size A n cap size xs := by
  have hO2 := Four.only hO hS
  exact (h.only hO2).up hO2.size
theorem Four.fresh {w w2 w3 W : World} {A : Option Addr} {n cap size : Nat} {xs : List Value} (h : Sl w3 w3.heap.size A n cap size xs) (hA : ∀ a, A = some a → w2.heap.size ≤ a.block) (h4 : w.heap.size + 3 < w2.heap.size) (hS : Stay (Four w) w3 W) : Sl W W.heap.size A n cap size xs :=
  h.aside hS (fun a ha hf => by have := hA a ha; have := hf.2; omega) hS.size

set_option maxRecDepth 100000 in
set_option maxHeartbeats 8000000 in
theorem roffer_any (w : World) (x : Value) (c : Ch) (v : V) (hx : Rd w x c) (hv : v.s.size ≤ 9223372036854775807) (hws : c.ws.length ≤ 200) (hbuf : c.buf.length ≤ 200) (hd : 0 ≤ c.drop ∧ c.drop ≤ 1000000) :
    Calls Try.prog 36 #[x, v.val] w (WithFr w x (ROffer w c v)) := by
  have HX := Lib.hid hx
  obtain ⟨A, cp, A', cp', rfl, s1, s2⟩ := hx
  have b1 := s1.2.1
  have b2 := s1.2.2.1
  have b3 := s2.2.1
  have b4 := s2.2.2.1
  have HS := Lib.hid (And.intro s1 s2)
  clear s1 s2
  unfold V.val
  go_enter Try.func36, Try.ntmps36
  go_wp2_with fail
  refine (rvalue_any v _ hv).mono ?_
  rintro e w1 ⟨rfl, hO⟩
  have hT0 := hO.blk ((((Blk.newAt w (stv c A cp A' cp') 36 _ rfl).alloc (.cells #[.int .i64 v.k, .int .i64 v.n, .string v.s] 29)).alloc (.cells #[.int .i64 0, .int .i64 0, .bool false, .slice none 0 0, .slice none 0 0, .int .i64 0] 36)).alloc (.cells #[.int .i64 0, .string ⟨#[]⟩] 42))
  have hT1 := hO.blk (((Blk.newAt (w.alloc (.cells (stv c A cp A' cp').toArray 36)) v.cells 29 (w.heap.size + 1) (by simp)).alloc (.cells #[.int .i64 0, .int .i64 0, .bool false, .slice none 0 0, .slice none 0 0, .int .i64 0] 36)).alloc (.cells #[.int .i64 0, .string ⟨#[]⟩] 42))
  have hT2 := hO.blk ((Blk.newAt ((w.alloc (.cells (stv c A cp A' cp').toArray 36)).alloc (.cells v.cells.toArray 29)) [.int .i64 0, .int .i64 0, .bool false, .slice none 0 0, .slice none 0 0, .int .i64 0] 36 (w.heap.size + 2) (by simp)).alloc (.cells #[.int .i64 0, .string ⟨#[]⟩] 42))
  have hT3 := hO.blk (Blk.newAt (((w.alloc (.cells (stv c A cp A' cp').toArray 36)).alloc (.cells v.cells.toArray 29)).alloc (.cells #[.int .i64 0, .int .i64 0, .bool false, .slice none 0 0, .slice none 0 0, .int .i64 0] 36)) [.int .i64 0, .string ⟨#[]⟩] 42 (w.heap.size + 3) (by simp))
  have hO1 := hO.behind.behind.behind.behind
  have HO := Lib.hid (And.intro hO1 (And.intro hT0 (And.intro hT1 (And.intro hT2 hT3))))
  have k0 := hT0.cell
  have k1 := hT1.cell
  have k2 := hT2.cell
  have k3 := hT3.cell
  have f0 := hT0.free
  have f2 := hT2.free
  have f3 := hT3.free
  have l0 := hT0.lt
  have l3 := hT3.lt
  simp only [stv, V.cells] at k0 k1
  clear hO hT0 hT1 hT2 hT3 hO1
  cases hval : valid v with
  | false =>
    have HF := Lib.hid (show c.offer v = (c, [], F.nil, false) by unfold Ch.offer; rw [if_pos hval])
    clear hval
    go_wp2_with fail
    refine bodyPost_ret (v := .tuple #[.agg #[.int .i64 c.cap, .int .i64 c.pol, .bool c.closed, .slice A c.buf.length cp, .slice A' c.ws.length cp', .int .i64 c.drop], .slice none 0 0, F.nil.val, .bool false]) (by simp [results, Try.results36, F.nil, F.val, go_sem, k2, k3]) rfl ?_
    refine WithFr.mk' (fr_mk (.inl fun h => ⟨rfl, by first | exact h | omega | (simp at h)⟩) (.inl fun h => ⟨rfl, by first | exact h | omega | (simp at h)⟩)) ?_
    have hW := fun {W : World} (h : Only w W) => ROffer.mk HF.out (HX.out.only h) (sl_none (B := W.heap.size)) h
    refine hW ?_
    iterate 8 refine Stay.new ?_ (by omega) _ _
    exact HO.out.1
  | true =>
    cases hcl : c.closed with
    | true =>
      have HF := Lib.hid (show c.offer v = (c, [], F.closed, true) by unfold Ch.offer; rw [if_neg (by simp [hval]), if_pos hcl])
      have HCL := Lib.hid hcl
      rw [hcl] at k0
      clear hval hcl
      go_wp2_with fail
      have hO0 : Only w1 w1.drew := (Stay.refl (fun _ => False) w1).drew
      go_region_with (go_at_call 16; refine (closed_any _).mono ?_; rintro e w5 ⟨rfl, hOx⟩; have j0 := (hOx.blk HO.out.2.1.drew).cell; have j2 := (hOx.blk HO.out.2.2.2.1.drew).cell; have j3 := (hOx.blk HO.out.2.2.2.2.drew).cell; have g2 := (hOx.blk HO.out.2.2.2.1.drew).free; have g3 := (hOx.blk HO.out.2.2.2.2.drew).free; have l5 := (hOx.blk HO.out.2.2.2.2.drew).lt; have l6 := (hOx.blk HO.out.2.1.drew).lt; simp only [stv, HCL.out] at j0; simp only [F.val, F.closed, closedText])
      all_goals go_wp2_with fail
      all_goals
        refine bodyPost_ret (v := .tuple #[.agg #[.int .i64 c.cap, .int .i64 c.pol, .bool true, .slice A c.buf.length cp, .slice A' c.ws.length cp', .int .i64 c.drop], .slice none 0 0, F.closed.val, .bool true]) (by simp [results, Try.results36, F.closed, closedText, F.val, go_sem, j2, j3]) rfl ?_
        refine WithFr.mk' (fr_mk (.inl fun h => ⟨rfl, by first | exact h | omega | (simp at h)⟩) (.inl fun h => ⟨rfl, by first | exact h | omega | (simp at h)⟩)) ?_
        have hW := fun {W : World} (h : Only w W) => ROffer.mk HF.out (HX.out.only h) (sl_none (B := W.heap.size)) h
        rw [HCL.out] at hW
        refine hW ?_
        iterate 8 refine Stay.new ?_ (by omega) _ _
        exact (HO.out.1.trans' hO0).trans' hOx
    | false =>
      have HCL := Lib.hid hcl
      rw [hcl] at k0
      have HV := Lib.hid hval
      clear hval hcl
      go_wp2_with fail
      have hrd : Rd w1 (.agg #[.int .i64 c.cap, .int .i64 c.pol, .bool false, .slice A c.buf.length cp, .slice A' c.ws.length cp', .int .i64 c.drop]) c := by
        have := HX.out.only HO.out.1
        rw [HCL.out] at this
        exact this
      have HR := Lib.hid hrd
      refine (first_any w1 _ c false hrd).mono ?_
      rintro e w2 ⟨⟨i, rfl, hi⟩, hO2⟩
      have j0 := (hO2.blk HO.out.2.1).cell
      have j1 := (hO2.blk HO.out.2.2.1).cell
      have j2 := (hO2.blk HO.out.2.2.2.1).cell
      have j3 := (hO2.blk HO.out.2.2.2.2).cell
      have g0 := (hO2.blk HO.out.2.1).free
      have g2 := (hO2.blk HO.out.2.2.2.1).free
      have g3 := (hO2.blk HO.out.2.2.2.2).free
      have l5 := (hO2.blk HO.out.2.2.2.2).lt
      have l6 := (hO2.blk HO.out.2.1).lt
      simp only [stv, HCL.out, V.cells] at j0 j1
      have HO2 := Lib.hid (And.intro hO2 (HO.out.1.trans' hO2))
      clear hO2 hrd k0 k1 k2 k3 f0 f2 f3 l0 l3
      have e1 : (fun y : Wt => y.send == false) = (fun y => !y.send) := by funext y; cases y.send <;> rfl
      rw [e1] at hi
      rcases hi with ⟨rfl, ht⟩ | ⟨k, y, rfl, hy, ht⟩
      · -- nobody receives
        have HT := Lib.hid ht
        clear ht e1
        by_cases hlt : (c.buf.length : Int) < c.cap
        · have HF := Lib.hid (show c.offer v = ({ c with buf := c.buf ++ [v] }, [], F.nil, true) by
            unfold Ch.offer
            rw [if_neg (by simp [HV.out]), if_neg (by simp [HCL.out]), HT.out]
            simp only
            rw [if_pos hlt])
          go_wp2_with fail
          refine (values_any w2 A cp c.buf 0 v (Nat.zero_le _) ((HS.out.1.only HO2.out.2).up HO2.out.2.size) hbuf).mono ?_
          rintro e w3 ⟨⟨A3, cp3, rfl, h3, h3b⟩, hO3⟩
          have e2 : (c.buf.drop 0 ++ [v]).length = c.buf.length + 1 := by simp
          rw [e2] at h3 ⊢
          simp only [List.drop_zero] at h3
          have q0 := (hO3.blk (HO2.out.1.blk HO.out.2.1)).cell
          have q2 := (hO3.blk (HO2.out.1.blk HO.out.2.2.2.1)).cell
          have q3 := (hO3.blk (HO2.out.1.blk HO.out.2.2.2.2)).cell
          have r0 := (hO3.blk (HO2.out.1.blk HO.out.2.1)).free
          have r2 := (hO3.blk (HO2.out.1.blk HO.out.2.2.2.1)).free
          have r3 := (hO3.blk (HO2.out.1.blk HO.out.2.2.2.2)).free
          have l7 := (hO3.blk (HO2.out.1.blk HO.out.2.2.2.2)).lt
          have l8 := (hO3.blk (HO2.out.1.blk HO.out.2.1)).lt
          simp only [stv, HCL.out] at q0
          have H3 := Lib.hid (And.intro h3 (And.intro h3b (HO2.out.2.trans' hO3)))
          clear h3 h3b hO3 j0 j1 j2 j3 g0 g2 g3 e2
          go_wp2_with fail
          refine bodyPost_ret (v := .tuple #[.agg #[.int .i64 c.cap, .int .i64 c.pol, .bool false, .slice A3 (c.buf.length + 1) cp3, .slice A' c.ws.length cp', .int .i64 c.drop], .slice none 0 0, F.nil.val, .bool true]) (by simp [results, Try.results36, F.nil, F.val, go_sem, q0, q2, q3]) rfl ?_
          refine WithFr.mk' (fr_mk (.inr fun a ha => by have := H3.out.2.1 a ha; omega) (.inl fun h => ⟨rfl, by first | exact h | omega | (simp at h)⟩)) ?_
          have hfin : ∀ {W : World}, Stay (Four w) w3 W → ROffer w c v (.returned (.tuple #[.agg #[.int .i64 c.cap, .int .i64 c.pol, .bool false, .slice A3 (c.buf.length + 1) cp3, .slice A' c.ws.length cp', .int .i64 c.drop], .slice none 0 0, F.nil.val, .bool true])) W := fun {W} hS =>
            ROffer.mk HF.out ⟨A3, cp3, A', cp', by simp [HCL.out], by simpa using Four.fresh H3.out.1 H3.out.2.1 l5 hS, Four.old HS.out.2 H3.out.2.2 hS⟩ (sl_none (B := W.heap.size)) (Four.only H3.out.2.2 hS)
          refine hfin ?_
          repeat refine Stay.put ?_ (by unfold Four; omega) _ _
          exact Stay.refl _ _
        · have hlt' : c.cap ≤ (c.buf.length : Int) := by omega
          clear hlt
          by_cases hp : c.pol = 0
          · have hp' : (c.pol == 0) = true := by simp [hp]
            have HF := Lib.hid (show c.offer v = (c, [], F.nil, false) by
              unfold Ch.offer
              rw [if_neg (by simp [HV.out]), if_neg (by simp [HCL.out]), HT.out]
              simp only
              rw [if_neg (by omega), if_pos hp])
            clear hp
            go_wp2_with fail
            refine bodyPost_ret (v := .tuple #[.agg #[.int .i64 c.cap, .int .i64 c.pol, .bool false, .slice A c.buf.length cp, .slice A' c.ws.length cp', .int .i64 c.drop], .slice none 0 0, F.nil.val, .bool false]) (by simp [results, Try.results36, F.nil, F.val, go_sem, j0, j2, j3]) rfl ?_
            refine WithFr.mk' (fr_mk (.inl fun h => ⟨rfl, by first | exact h | omega | (simp at h)⟩) (.inl fun h => ⟨rfl, by first | exact h | omega | (simp at h)⟩)) ?_
            have hfin : ∀ {W : World}, Stay (Four w) w2 W → ROffer w c v (.returned (.tuple #[.agg #[.int .i64 c.cap, .int .i64 c.pol, .bool false, .slice A c.buf.length cp, .slice A' c.ws.length cp', .int .i64 c.drop], .slice none 0 0, F.nil.val, .bool false])) W := fun {W} hS =>
              ROffer.mk HF.out ⟨A, cp, A', cp', by simp [HCL.out], Four.old HS.out.1 HO2.out.2 hS, Four.old HS.out.2 HO2.out.2 hS⟩ (sl_none (B := W.heap.size)) (Four.only HO2.out.2 hS)
            refine hfin ?_
            repeat refine Stay.put ?_ (by unfold Four; omega) _ _
            exact Stay.refl _ _
          · have hp' : (c.pol == 0) = false := by simp [hp]
            obtain ⟨hd0, hd1⟩ := hd
            by_cases h1 : c.pol = 1 ∧ 0 < c.cap
            · have h1' : (c.pol == 1) = true := by simp [h1.1]
              have h2' : 0 < c.cap := h1.2
              have hlen : 1 ≤ c.buf.length := by omega
              have HF := Lib.hid (show c.offer v = ({ c with buf := c.buf.tail ++ [v], drop := c.drop + 1 }, [], F.nil, true) by
                unfold Ch.offer
                rw [if_neg (by simp [HV.out]), if_neg (by simp [HCL.out]), HT.out]
                simp only
                rw [if_neg (by omega), if_neg hp, if_pos h1])
              clear hp h1
              go_wp2_with fail
              have hS0 : Stay (Four w) w2 (w2.setCell ⟨w.heap.size, 5, none⟩ (.int .i64 (c.drop + 1))) := (Stay.refl (Four w) w2).put (by unfold Four; omega) _ _
              refine (values_any _ A cp c.buf 1 v hlen (Four.old HS.out.1 HO2.out.2 hS0) hbuf).mono ?_
              rintro e w3 ⟨⟨A3, cp3, rfl, h3, h3b⟩, hO3⟩
              have e2 : (c.buf.drop 1 ++ [v]).length = c.buf.length := by simp; omega
              rw [e2] at h3 ⊢
              have q0 := (hO3.blk ((HO2.out.1.blk HO.out.2.1).set 5 (.int .i64 (c.drop + 1)))).cell
              have q2 := (hO3.blk ((HO2.out.1.blk HO.out.2.2.2.1).set_other (a := ⟨w.heap.size, 5, none⟩) (by simp) (.int .i64 (c.drop + 1)))).cell
              have q3 := (hO3.blk ((HO2.out.1.blk HO.out.2.2.2.2).set_other (a := ⟨w.heap.size, 5, none⟩) (by simp) (.int .i64 (c.drop + 1)))).cell
              have r0 := (hO3.blk ((HO2.out.1.blk HO.out.2.1).set 5 (.int .i64 (c.drop + 1)))).free
              have r2 := (hO3.blk ((HO2.out.1.blk HO.out.2.2.2.1).set_other (a := ⟨w.heap.size, 5, none⟩) (by simp) (.int .i64 (c.drop + 1)))).free
              have r3 := (hO3.blk ((HO2.out.1.blk HO.out.2.2.2.2).set_other (a := ⟨w.heap.size, 5, none⟩) (by simp) (.int .i64 (c.drop + 1)))).free
              have l7 := (hO3.blk ((HO2.out.1.blk HO.out.2.2.2.2).set_other (a := ⟨w.heap.size, 5, none⟩) (by simp) (.int .i64 (c.drop + 1)))).lt
              have l8 : w.heap.size < w3.heap.size := by omega
              simp only [stv, HCL.out, List.set_cons_succ, List.set_cons_zero] at q0
              have H3 := Lib.hid (And.intro h3 (And.intro (show ∀ a, A3 = some a → w2.heap.size ≤ a.block from fun a ha => by simpa using h3b a ha) ((Four.only HO2.out.2 hS0).trans' hO3)))
              clear h3 h3b hO3 j0 j1 j2 j3 g0 g2 g3 e2 hS0
              go_wp2_with fail
              refine bodyPost_ret (v := .tuple #[.agg #[.int .i64 c.cap, .int .i64 c.pol, .bool false, .slice A3 c.buf.length cp3, .slice A' c.ws.length cp', .int .i64 (c.drop + 1)], .slice none 0 0, F.nil.val, .bool true]) (by simp [results, Try.results36, F.nil, F.val, go_sem, q0, q2, q3]) rfl ?_
              refine WithFr.mk' (fr_mk (.inr fun a ha => by have := H3.out.2.1 a ha; omega) (.inl fun h => ⟨rfl, by first | exact h | omega | (simp at h)⟩)) ?_
              have hfin : ∀ {W : World}, Stay (Four w) w3 W → ROffer w c v (.returned (.tuple #[.agg #[.int .i64 c.cap, .int .i64 c.pol, .bool false, .slice A3 c.buf.length cp3, .slice A' c.ws.length cp', .int .i64 (c.drop + 1)], .slice none 0 0, F.nil.val, .bool true])) W := fun {W} hS => by
                have e3 : (c.buf.tail ++ [v]).length = c.buf.length := by simp; omega
                refine ROffer.mk HF.out ⟨A3, cp3, A', cp', by simp only [HCL.out, e3], ?_, Four.old HS.out.2 H3.out.2.2 hS⟩ (sl_none (B := W.heap.size)) (Four.only H3.out.2.2 hS)
                have := Four.fresh H3.out.1 H3.out.2.1 l5 hS
                rw [List.drop_one] at this
                simpa only [e3] using this
              refine hfin ?_
              repeat refine Stay.put ?_ (by unfold Four; omega) _ _
              exact Stay.refl _ _
            · have HF := Lib.hid (show c.offer v = ({ c with drop := c.drop + 1 }, [], F.nil, true) by
                unfold Ch.offer
                rw [if_neg (by simp [HV.out]), if_neg (by simp [HCL.out]), HT.out]
                simp only
                rw [if_neg (by omega), if_neg hp, if_neg h1])
              have h1' : (c.pol == 1) = false ∨ ((c.pol == 1) = true ∧ c.cap ≤ 0) := by
                cases hq : (c.pol == 1) with
                | false => exact .inl rfl
                | true =>
                  simp at hq
                  exact .inr ⟨rfl, by
                    apply Classical.byContradiction
                    intro hh
                    exact h1 ⟨hq, by omega⟩⟩
              clear hp h1
              have hfin : Hid (∀ {W : World}, Stay (Four w) w2 W → ROffer w c v (.returned (.tuple #[.agg #[.int .i64 c.cap, .int .i64 c.pol, .bool false, .slice A c.buf.length cp, .slice A' c.ws.length cp', .int .i64 (c.drop + 1)], .slice none 0 0, F.nil.val, .bool true])) W) := fun {W} hS =>
                ROffer.mk HF.out ⟨A, cp, A', cp', by simp [HCL.out], Four.old HS.out.1 HO2.out.2 hS, Four.old HS.out.2 HO2.out.2 hS⟩ (sl_none (B := W.heap.size)) (Four.only HO2.out.2 hS)
              rcases h1' with h1 | ⟨h1, h2⟩
              all_goals
                go_wp2_with fail
                refine bodyPost_ret (v := .tuple #[.agg #[.int .i64 c.cap, .int .i64 c.pol, .bool false, .slice A c.buf.length cp, .slice A' c.ws.length cp', .int .i64 (c.drop + 1)], .slice none 0 0, F.nil.val, .bool true]) (by simp [results, Try.results36, F.nil, F.val, go_sem, j0, j2, j3]) rfl ?_
                refine WithFr.mk' (fr_mk (.inl fun h => ⟨rfl, by first | exact h | omega | (simp at h)⟩) (.inl fun h => ⟨rfl, by first | exact h | omega | (simp at h)⟩)) ?_
                refine hfin.out ?_
                repeat refine Stay.put ?_ (by unfold Four; omega) _ _
                exact Stay.refl _ _
      · have HF := Lib.hid (show c.offer v = ({ c with ws := c.ws.eraseIdx k }, [deal y.t v], F.nil, true) by
          unfold Ch.offer
          rw [if_neg (by simp [HV.out]), if_neg (by simp [HCL.out]), ht])
        have hkl : k < c.ws.length := (List.getElem?_eq_some_iff.1 hy).1
        obtain ⟨xb, xo, rfl, hxb, hxc⟩ := (HS.out.2.only HO2.out.2).elem Wt.cells_length hy (by omega)
        have e0 := hxc 0 _ rfl
        simp only [Nat.add_zero] at e0
        have hk1 : (0 : Int) ≤ (k : Int) := by omega
        have hk2 : (k : Int) < (c.ws.length : Int) := by omega
        have hxb' : xb < w2.heap.size := by have := HO2.out.2.size; omega
        have l9 : w.heap.size + 1 < w2.heap.size := by omega
        have l10 : w.heap.size + 2 < w2.heap.size := by omega
        clear hy ht hxc e1
        go_wp2_with fail
        go_big_region
        go_wp2_with fail
        have hOd : ∀ o, Only w2 ((w2.alloc o).drew) := fun o => ((Stay.refl (fun _ => False) w2).alloc o).drew
        refine (without_any _ (some ⟨xb, xo, none⟩) cp' c.ws k ((HS.out.2.only (HO2.out.2.trans' (hOd _))).up (HO2.out.2.trans' (hOd _)).size) hws).mono ?_
        rintro e w3 ⟨⟨A3, cp3, rfl, h3, h3b⟩, hO3⟩
        have hO4 : Only w2 w3 := (hOd _).trans' hO3
        have e2 : (c.ws.eraseIdx k).length = c.ws.length - 1 := by rw [List.length_eraseIdx]; simp [hkl]
        have q0 := (hO4.blk (HO2.out.1.blk HO.out.2.1)).cell
        have q2 := (hO4.blk (HO2.out.1.blk HO.out.2.2.2.1)).cell
        have q3 := (hO4.blk (HO2.out.1.blk HO.out.2.2.2.2)).cell
        have r0 := (hO4.blk (HO2.out.1.blk HO.out.2.1)).free
        have r2 := (hO4.blk (HO2.out.1.blk HO.out.2.2.2.1)).free
        have r3 := (hO4.blk (HO2.out.1.blk HO.out.2.2.2.2)).free
        have l7 := (hO4.blk (HO2.out.1.blk HO.out.2.2.2.2)).lt
        have l8 := (hO4.blk (HO2.out.1.blk HO.out.2.1)).lt
        have hT9 := hO3.blk ((Blk.newAt w2 (deal y.t v).cells 44 _ rfl).drew)
        have q9 := hT9.cell
        have l11 := hT9.lt
        simp only [stv, HCL.out] at q0
        simp only [deal, D.cells, F.nil] at q9
        have H3 := Lib.hid (And.intro h3 (And.intro (show ∀ a, A3 = some a → w2.heap.size ≤ a.block from fun a ha => by have := h3b a ha; simp at this; omega) (And.intro (HO2.out.2.trans' hO4) hT9)))
        clear h3 h3b hO3 hO4 hOd j0 j1 j2 j3 g0 g2 g3 e0 hT9
        have l12 : w.heap.size + 2 < w3.heap.size := by omega
        obtain ⟨L, hL⟩ : ∃ L, (c.ws.eraseIdx k).length = L := ⟨_, rfl⟩
        rw [hL] at H3 ⊢
        have HLL := Lib.hid hL
        clear hL e2
        go_wp2_with fail
        go_big_region
        go_wp2_with fail
        have l12' : w.heap.size + 1 + 1 < w3.heap.size := l12
        have l7' : w.heap.size + 1 + 1 + 1 < w3.heap.size := l7
        refine bodyPost_ret (v := .tuple #[.agg #[.int .i64 c.cap, .int .i64 c.pol, .bool false, .slice A c.buf.length cp, .slice A3 L cp3, .int .i64 c.drop], .slice (some ⟨w3.heap.size, 0, none⟩) 1 1, F.nil.val, .bool true]) (by simp [results, Try.results36, F.nil, F.val, go_sem, q0, q2, q3, l7', l12', World.cell?_alloc_past]) rfl ?_
        refine WithFr.mk' (fr_mk (.inl fun h => ⟨rfl, by first | exact h | omega | (simp at h)⟩) (.inr fun a ha => by have := H3.out.2.1 a ha; omega)) ?_
        have hfin : ∀ {W : World}, Stay (Four w) w3 W → w3.heap.size = W.heap.size → ROffer w c v (.returned (.tuple #[.agg #[.int .i64 c.cap, .int .i64 c.pol, .bool false, .slice A c.buf.length cp, .slice A3 L cp3, .int .i64 c.drop], .slice (some ⟨w3.heap.size, 0, none⟩) 1 1, F.nil.val, .bool true])) (W.alloc (.cells (deal y.t v).cells.toArray 44)).drew := fun {W} hS hz => by
          have hA : Only W (W.alloc (.cells (deal y.t v).cells.toArray 44)).drew := ((Stay.refl (fun _ => False) W).alloc _).drew
          refine ROffer.mk (dl := [deal y.t v]) HF.out ⟨A, cp, A3, cp3, by simp only [HCL.out, HLL.out], ((Four.old HS.out.1 H3.out.2.2.1 hS).only hA).up hA.size, ?_⟩ ?_ ((Four.only H3.out.2.2.1 hS).trans' hA)
          · have := ((Four.fresh H3.out.1 H3.out.2.1 l5 hS).only hA).up hA.size
            rw [← HLL.out] at this
            exact this
          · have := own_sl (owns_newAt W (deal y.t v).cells 44 7 1 w3.heap.size hz rfl (by simp only [maxLen]; omega) (base := 0) (Nat.zero_le _)).drew rfl
            simpa using this
        refine hfin ?_ (by simp)
        repeat refine Stay.put ?_ (by unfold Four; omega) _ _
        exact Stay.refl _ _

end Go.Proofs.Ytfmkdkpgehkfaaa
