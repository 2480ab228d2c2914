/- states: those of all locks. -/
import Derived.Test.YtfifdgigeecfbaaLockRun
import Derived.Test.YtfifdgigeecfbaaLockState
import Derived.Deep.DeepCutAuto
import Derived.Deep.CutBlock
set_option linter.unusedVariables false
set_option linter.unusedSimpArgs false
namespace Go.Proofs.Ytfifdgigeecfbaa
open Go Go.RowKit

/-- The rows of a lock's state. -/
def RowsAt (w : World) (B : Nat) (hv wv : Value) (k : Lk) : Prop := w.ownsRow B 44 2 hv k.holders.length (k.holders.flatMap hcell) ∧ w.ownsRow B 3 1 wv k.waiting.length (ints k.waiting)
def scell (x : Lk × (Value × Value)) : List Value := [.int .i64 x.1.permits, .int .i64 x.1.free, x.2.1, x.2.2]
theorem scell_length (x : Lk × (Value × Value)) : (scell x).length = 4 := rfl
/-- A row of the call's own that reads as the states of these locks. -/
def Sts (w : World) (B : Nat) (v : Value) (ks : List Lk) : Prop :=
  ∃ vs : List (Value × Value), vs.length = ks.length ∧ w.ownsRow B 42 4 v ks.length ((ks.zip vs).flatMap scell) ∧ ∀ (i : Nat) k hv wv, ks[i]? = some k → vs[i]? = some (hv, wv) → RowsAt w B hv wv k
theorem infoL : (Try.prog.info? 42).map (fun i => (i.zero, i.size, i.bytes)) = some (some (.agg #[.int .i64 0, .int .i64 0, .slice none 0 0, .slice none 0 0]), 4, 64) := by kernel_rfl
theorem RowsAt.only {w w' : World} {B : Nat} {hv wv : Value} {k : Lk} (h : RowsAt w B hv wv k) (ho : Only w w') : RowsAt w' B hv wv k := ⟨own_only ho h.1, own_only ho h.2⟩
theorem RowsAt.base {w : World} {B B' : Nat} {hv wv : Value} {k : Lk} (h : RowsAt w B hv wv k) (hb : B' ≤ B) : RowsAt w B' hv wv k := ⟨owns_base h.1 hb, owns_base h.2 hb⟩
theorem Sts.only {w w' : World} {B : Nat} {v : Value} {ks : List Lk} (h : Sts w B v ks) (ho : Only w w') : Sts w' B v ks := by
  obtain ⟨vs, h1, h2, h3⟩ := h
  exact ⟨vs, h1, own_only ho h2, fun i k hv wv hk hv' => (h3 i k hv wv hk hv').only ho⟩
theorem Sts.nil (w : World) (B : Nat) : Sts w B (.slice none 0 0) [] := ⟨[], rfl, World.ownsRow_nil _ _ _ _, by simp⟩
theorem asked_one {t : Tb} {n : Int} : t.asked n 1 = 0 ↔ 1 ≤ n ∧ n ≤ t.ls.length := by
  unfold Tb.asked
  rw [if_neg (by omega)]
  split
  · constructor
    · intro h; cases h
    · rintro ⟨h1, h2⟩; omega
  · constructor
    · intro _; omega
    · intro _; rfl

set_option maxRecDepth 100000 in
set_option maxHeartbeats 4000000 in
theorem states_any (W : World) (S : Nat → Prop) (b : Nat) (t : Tb) (d : Int) (h : TabAt W S b t) (hok : t.Ok d) (hd : d ≤ 1000000) :
    Calls Try.prog 17 #[.pointer (some ⟨b, 0, none⟩)] W fun e w' => ∃ v, e = .returned v ∧ Sts w' W.heap.size v t.ls ∧ Only W w' := by
  have HH := Lib.hid (And.intro h hok)
  have hn := hok.n
  obtain ⟨il, hil0, hil1, hil2, hil3⟩ := info_parts infoL
  clear h hok
  go_enter Try.func17, Try.ntmps17
  go_wp2_with fail
  go_loopg [3, 4] 16 (fun kk vo vn wr => ∃ (j : Nat), j ≤ 16 ∧ kk = 16 - j ∧ vn = .int .i64 ((j : Nat) + 1) ∧ Sts wr W.heap.size vo (t.ls.take j) ∧ Only W wr)
  case atStart => exact ⟨0, by omega, rfl, rfl, Sts.nil _ _, Stay.refl _ W⟩
  case round =>
    obtain ⟨j, hj, hk, rfl, hsts, hO⟩ := hrel
    have hvo : ∃ A c, u3 = .slice A (min j t.ls.length) c := by
      obtain ⟨vs, _, h2, _⟩ := hsts
      have := own_shape h2
      rwa [List.length_take] at this
    obtain ⟨A, c, rfl⟩ := hvo
    have HX := Lib.hid (And.intro hk (And.intro hsts hO))
    clear hk hsts hO
    by_cases hlt : j < 16
    · go_wp2_with fail
      refine (state_any _ S b t d ((j : Int) + 1) (HH.out.1.only HX.out.2.2) HH.out.2 hd).mono ?_
      rintro e w2 ⟨hO2, hp⟩
      rcases hp with ⟨hz, rfl⟩ | ⟨k, v, hz, hk, rfl, hst⟩
      · have hnj : ¬ ((j : Int) + 1 ≤ t.ls.length) := fun h => hz (asked_one.2 ⟨by omega, h⟩)
        have hzb : (t.asked ((j : Int) + 1) 1 == 0) = false := by simpa using hz
        have HY := Lib.hid (And.intro hO2 hnj)
        clear hO2 hnj hz
        unfold zst
        go_wp2_with fail
        go_roundg (16 - (j + 1))
        case measure => have := HX.out.1; omega
        case rel =>
          have e : t.ls.take (j + 1) = t.ls.take j := by rw [List.take_of_length_le (by have := HY.out.2; omega), List.take_of_length_le (by have := HY.out.2; omega)]
          have hO3 := HY.out.1.trans' ((Stay.refl (fun _ => False) w2).alloc (.cells #[.int .i64 0, .int .i64 0, .slice none 0 0, .slice none 0 0] 42))
          exact ⟨j + 1, by omega, rfl, by go_num, by rw [e]; exact HX.out.2.1.only hO3, HX.out.2.2.trans' hO3⟩
      · obtain ⟨hv, wv, rfl, hr1, hr2⟩ := hst
        have hjl : j < t.ls.length := by have := (asked_one.1 hz).2; omega
        have htl : min j t.ls.length = j := by omega
        have htk : (t.ls.take j).length = j := by simp; omega
        obtain ⟨A1, c1, rfl⟩ := own_shape hr1
        obtain ⟨A2, c2, rfl⟩ := own_shape hr2
        have hkk : t.ls[j]? = some k := by
          have e : (((j : Int) + 1) - 1).toNat = j := by omega
          rw [e] at hk
          exact hk
        have hrs := RowsAt.base (w := w2) (B' := W.heap.size) (hv := .slice A1 k.holders.length c1) (wv := .slice A2 k.waiting.length c2) (k := k) ⟨hr1, hr2⟩ HX.out.2.2.size
        have HY := Lib.hid (And.intro hO2 (And.intro hkk hrs))
        have HS := Lib.hid (HX.out.2.1.only hO2)
        have hsz := hO2.size
        have hsW := HX.out.2.2.size
        have hO2' := Lib.hid (((Stay.refl (fun _ => False) w2).alloc (.cells #[.int .i64 k.permits, .int .i64 k.free, .slice A1 k.holders.length c1, .slice A2 k.waiting.length c2] 42)).alloc (.cells #[.int .i64 k.permits, .int .i64 k.free, .slice A1 k.holders.length c1, .slice A2 k.waiting.length c2] 42))
        clear hO2 hr1 hr2 hz hk hkk hrs
        obtain ⟨vs, hvl, hvr, hvs⟩ := HS.out
        have hvr2 := hvr
        rw [htk, htl] at hvr2
        have HV := Lib.hid (And.intro hvr2 (And.intro hvl hvs))
        have HT := Lib.hid htk
        clear hvr hvr2 hvs hvl htk
        go_wp2_with (at_builtin; refine wpList_append_lies _ rfl _ _ _ rfl W.heap.size 42 il _ 4 64 Try.underlying38 hil0 hil1 hil2 hil3 rfl (by omega) _ j _ (by rfl) (own_only hO2'.out HV.out.1) ⟨w2.heap.size + 1, 0, none⟩ 1 1 (scell (k, .slice A1 k.holders.length c1, .slice A2 k.waiting.length c2)) (by rfl) (by rfl) (World.news_of_block (cs := (scell (k, .slice A1 k.holders.length c1, .slice A2 k.waiting.length c2)).toArray) (t := 42) (fr := (0, 0)) (heap_alloc_at' _ _ _ (by simp))) (by simp [scell, Value.oneCell']) (by omega) (by simp only [maxLen]; omega) (by omega) (by simp; omega) (w2.heap.size + 2) (by simp) ?_; intro g cap w5 hown hgrow hat hlt2; have HG := Lib.hid (And.intro hown (And.intro hgrow hat)); clear hown hgrow hat hlt2)
        go_roundg (16 - (j + 1))
        case measure => have := HX.out.1; omega
        case rel =>
          obtain ⟨k1, k2, k3⟩ := HG.out
          have hOA := HY.out.1.trans' hO2'.out
          have st := grown_stay k2
          have e : t.ls.take (j + 1) = t.ls.take j ++ [k] := by rw [List.take_succ_eq_append_getElem (List.getElem?_eq_some_iff.1 HY.out.2.1).1, (List.getElem?_eq_some_iff.1 HY.out.2.1).2]
          have hM : Mine W.heap.size W w5 := (Mine.only (HX.out.2.2.trans' hOA)).trans (Stay.mono st (fun i _ hi => (own_lt HV.out.1 i hi).1))
          refine ⟨j + 1, by omega, rfl, by go_num, ?_, hM.stay⟩
          rw [e]
          have far : ∀ {e : TypeId} {s m : Nat} {u : Value} {us : List Value}, w2.ownsRow W.heap.size e s u m us → e ≠ 42 → w5.ownsRow W.heap.size e s u m us := by
            intro e s m u us hu hne
            refine own_stay st (own_only hO2'.out hu) (fun g' hg' e' => ?_)
            rcases own_ne hu HV.out.1 hne with e1 | e1
            · rw [e1] at hg'; cases hg'
            · exact e1 (hg'.trans e'.symm)
          have hlen : (t.ls.take j ++ [k]).length = j + 1 := by rw [List.length_append, HT.out]; rfl
          refine ⟨vs ++ [(.slice A1 k.holders.length c1, .slice A2 k.waiting.length c2)], by simp [HV.out.2.1], ?_, ?_⟩
          · rw [hlen]
            have e2 : (t.ls.take j ++ [k]).zip (vs ++ [(.slice A1 k.holders.length c1, .slice A2 k.waiting.length c2)]) = (t.ls.take j).zip vs ++ [(k, .slice A1 k.holders.length c1, .slice A2 k.waiting.length c2)] := by rw [List.zip_append HV.out.2.1.symm]; rfl
            rw [e2, List.flatMap_append]
            simpa using k1
          · intro i k' hv' wv' hk hv2
            by_cases hi : i < j
            · rw [List.getElem?_append_left (by rw [HT.out]; exact hi)] at hk
              rw [List.getElem?_append_left (by rw [HV.out.2.1, HT.out]; exact hi)] at hv2
              have := HV.out.2.2 i k' hv' wv' hk hv2
              exact ⟨far this.1 (by decide), far this.2 (by decide)⟩
            · rw [List.getElem?_append_right (by rw [HT.out]; omega)] at hk
              rw [List.getElem?_append_right (by rw [HV.out.2.1, HT.out]; omega)] at hv2
              rw [HT.out] at hk
              rw [HV.out.2.1, HT.out] at hv2
              cases e3 : i - j with
              | zero =>
                rw [e3] at hk hv2
                simp at hk hv2
                obtain ⟨rfl, rfl⟩ := hv2
                subst hk
                exact ⟨far HY.out.2.2.1 (by decide), far HY.out.2.2.2 (by decide)⟩
              | succ n => rw [e3] at hk; simp at hk
    · have hje : j = 16 := by omega
      subst hje
      go_wp2_with fail
      go_ret
      refine ⟨_, rfl, ?_, HX.out.2.2⟩
      have := HX.out.2.1
      rw [List.take_of_length_le hn] at this
      simpa [List.take_of_length_le hn] using this

end Go.Proofs.Ytfifdgigeecfbaa
