/- The reference of the lock table: its small functions, its contracts' lists, rows beside a set of blocks. -/
import Derived.Test.YtfifdgigeecfbaaLockNext
import Derived.Test.YtfifdgigeecfbaaBalPure
import Derived.Test.YtfifdgigeecfbaaLockAlike
set_option linter.unusedVariables false
set_option linter.unusedSimpArgs false
namespace Go.Proofs.Ytfifdgigeecfbaa
open Go Go.RowKit

def tv (A : Option Addr) (n c : Nat) : Value := .agg #[.slice A n c]
theorem StsR.bounds {w : World} {A : Option Addr} {n c : Nat} {ks : List Lk} (h : StsR w A n c ks) : n = ks.length ∧ n ≤ c ∧ c ≤ 9223372036854775807 := by
  obtain ⟨_, _, h2, s1, _⟩ := h
  exact ⟨h2, s1.2.1, s1.2.2.1⟩

theorem rparty_any (p : Int) (w : World) : Calls Try.prog 80 #[.int .i64 p] w fun e w' => e = .returned (.bool (decide (1 ≤ p ∧ p ≤ 1000000))) ∧ Only w w' := by
  by_cases h1 : p ≥ 1
  · by_cases h2 : p ≤ 1000000
    · go_enter Try.func80, Try.ntmps80
      go_wp2_with fail
      go_ret
      exact ⟨by simp [h2]; omega, Stay.refl _ w⟩
    · go_enter Try.func80, Try.ntmps80
      go_wp2_with fail
      go_ret
      exact ⟨by simp [h2], Stay.refl _ w⟩
  · go_enter Try.func80, Try.ntmps80
    go_wp2_with fail
    go_ret
    exact ⟨by simp; omega, Stay.refl _ w⟩

set_option maxRecDepth 100000 in
theorem rasked_any (w : World) (A : Option Addr) (c : Nat) (t : Tb) (lock party : Int) (h : t.ls.length ≤ c) (h2 : c ≤ 9223372036854775807) :
    Calls Try.prog 61 #[tv A t.ls.length c, .int .i64 lock, .int .i64 party] w fun e w' => e = .returned (.int .i64 (t.asked lock party)) ∧ Only w w' := by
  have hO0 : Only w (w.alloc (.cells #[.slice A t.ls.length c] 57)) := (Stay.refl _ w).alloc _
  have HO := Lib.hid hO0
  clear hO0
  unfold tv
  go_enter Try.func61, Try.ntmps61
  go_wp2_with fail
  refine (rparty_any party _).mono ?_
  rintro e w2 ⟨rfl, hO2⟩
  have hb := (Only.blk hO2 (Blk.new w [.slice A t.ls.length c] 57))
  have c1 := hb.cell
  have l1 := hb.lt
  have H2 := Lib.hid (HO.out.trans' hO2)
  clear hO2 hb
  by_cases hp : 1 ≤ party ∧ party ≤ 1000000
  · have hd : decide (1 ≤ party ∧ party ≤ 1000000) = true := by simp [hp]
    rw [hd]
    have HP := Lib.hid hp
    clear hp hd
    by_cases h3 : lock < 1
    · go_wp2_with fail
      go_ret
      refine ⟨?_, H2.out⟩
      unfold Tb.asked
      rw [if_neg (by have := HP.out; omega), if_pos (by omega)]
      rfl
    · by_cases h4 : lock > (t.ls.length : Int)
      · go_wp2_with fail
        go_ret
        refine ⟨?_, H2.out⟩
        unfold Tb.asked
        rw [if_neg (by have := HP.out; omega), if_pos (by omega)]
        rfl
      · go_wp2_with fail
        go_ret
        refine ⟨?_, H2.out⟩
        unfold Tb.asked
        rw [if_neg (by have := HP.out; omega), if_neg (by omega)]
        rfl
  · have hd : decide (1 ≤ party ∧ party ≤ 1000000) = false := by simp; omega
    rw [hd]
    have HP := Lib.hid hp
    clear hp hd
    go_wp2_with fail
    go_ret
    refine ⟨?_, H2.out⟩
    unfold Tb.asked
    rw [if_pos (by have := HP.out; omega)]
    rfl

theorem aget_holders (k : Lk) (p : Int) {l : List (Int × Int)} (h : ∀ x ∈ l, x.2 = k.has x.1) : (l.find? fun x => x.1 == p).map (·.2) = if p ∈ l.map (·.1) then some (k.has p) else none := by
  induction l with
  | nil => simp
  | cons x l ih =>
    have ih := ih fun y hy => h y (List.mem_cons_of_mem _ hy)
    by_cases e : x.1 = p
    · subst e
      simp [List.find?, h x (List.mem_cons_self ..)]
    · have e1 : (x.1 == p) = false := by simpa using e
      have e2 : ¬ p = x.1 := fun e' => e e'.symm
      simp only [List.find?, e1, List.map_cons, List.mem_cons, e2, false_or]
      exact ih

set_option maxRecDepth 100000 in
set_option maxHeartbeats 4000000 in
theorem rhas_any (w : World) (k : Lk) (A A' : Option Addr) (c c' : Nat) (p : Int) (h : Rd w k A c A' c') :
    Calls Try.prog 65 #[stv k A c A' c', .int .i64 p] w fun e w' => e = .returned (.int .i64 (k.has p)) ∧ Only w w' := by
  have H := Lib.hid h
  have b1 := h.hs.2.1
  have b2 := h.hs.2.2.1
  have hhas : ∀ x ∈ k.holders, x.2 = k.has x.1 := by
    intro x hx
    unfold Lk.holders at hx
    obtain ⟨q, _, rfl⟩ := List.mem_map.1 hx
    rfl
  have hkeys : p ∉ k.holders.map (·.1) → k.has p = 0 := by
    intro hn
    unfold Lk.has
    cases hg : aget k.holds p with
    | none => rfl
    | some v =>
      exfalso
      apply hn
      have hm : p ∈ k.holds.map (·.1) := Classical.byContradiction fun hx => by rw [aget_none.2 hx] at hg; cases hg
      unfold Lk.holders
      simp only [List.map_map]
      exact List.mem_map.2 ⟨p, (srt_perm_self _).mem_iff.2 hm, rfl⟩
  have HP := Lib.hid (And.intro hhas hkeys)
  have hO0 : Only w (w.alloc (.cells (stc k A c A' c').toArray 42)) := (Stay.refl _ w).alloc _
  have HO := Lib.hid hO0
  clear h hO0 hhas hkeys
  unfold stv
  go_enter Try.func65, Try.ntmps65
  go_wp2_with fail
  go_loopg [10] (k.holders.length) (fun kk vi wr => ∃ (i : Nat), i ≤ k.holders.length ∧ kk = k.holders.length - i ∧ vi = .int .i64 (i : Nat) ∧ Only (w.alloc (.cells (stc k A c A' c').toArray 42)) wr ∧ p ∉ (k.holders.take i).map (·.1))
  case atStart => exact ⟨0, Nat.zero_le _, rfl, rfl, Stay.refl _ _, by simp⟩
  case round =>
    obtain ⟨i, hi, hk, rfl, hO, hni⟩ := hrel
    obtain ⟨w3, rfl⟩ : ∃ w3 : World, w3 = wr := ⟨_, rfl⟩
    by_cases hlt : i < k.holders.length
    · obtain ⟨x, hx⟩ : ∃ x, k.holders[i]? = some x := ⟨_, List.getElem?_eq_getElem hlt⟩
      obtain ⟨yb, yo, rfl, hyb, hyc⟩ := (H.out.only (HO.out.trans' hO)).hs.elem hcell_length hx (by omega)
      have y0 := hyc 0 _ rfl
      have y1 := hyc 1 _ rfl
      simp only [Nat.add_zero] at y0
      have hxe := HP.out.1 x (List.mem_of_getElem? hx)
      have HX := Lib.hid (And.intro hk (And.intro hO (And.intro hni (And.intro hx hxe))))
      clear hk hO hni hyc hx hxe
      by_cases he : x.1 = p
      · have hb : (x.1 == p) = true := by simpa using he
        have HE := Lib.hid he
        clear he
        go_wp2_with fail
        go_ret
        exact ⟨by rw [← HE.out, ← HX.out.2.2.2.2]; rfl, HO.out.trans' (HX.out.2.1.trans' ((Stay.refl _ w3).alloc _))⟩
      · have hb : (x.1 == p) = false := by simpa using he
        have HE := Lib.hid he
        clear he
        go_wp2_with fail
        go_roundg (k.holders.length - (i + 1))
        case measure => have := HX.out.1; omega
        case rel =>
          refine ⟨i + 1, by omega, rfl, by go_num, HX.out.2.1.trans' ((Stay.refl _ w3).alloc _), ?_⟩
          rw [List.take_succ_eq_append_getElem hlt, (List.getElem?_eq_some_iff.1 HX.out.2.2.2.1).2, List.map_append, List.mem_append]
          rintro (h | h)
          · exact HX.out.2.2.1 h
          · simp at h
            exact HE.out h.symm
    · have hie : i = k.holders.length := by omega
      subst hie
      rw [List.take_length] at hni
      have HX := Lib.hid (And.intro hO (HP.out.2 hni))
      clear hk hO hni
      go_wp2_with fail
      go_ret
      exact ⟨by rw [HX.out.2]; rfl, HO.out.trans' HX.out.1⟩

def Tb.waitsN (t : Tb) (p : Int) : Int := match aget t.waits p with
  | some i => (i : Int) + 1
  | none => 0

set_option maxRecDepth 100000 in
set_option maxHeartbeats 4000000 in
theorem rwaits_any (w : World) (A : Option Addr) (c : Nat) (t : Tb) (p : Int) (h : StsR w A t.ls.length c t.ls) (hc : t.Cons) (hn : t.ls.length ≤ 1000000) :
    Calls Try.prog 62 #[tv A t.ls.length c, .int .i64 p] w fun e w' => e = .returned (.int .i64 (t.waitsN p)) ∧ Only w w' := by
  obtain ⟨_, b1, b2⟩ := h.bounds
  have H := Lib.hid (And.intro h hc)
  have hO0 : Only w (w.alloc (.cells #[.slice A t.ls.length c] 57)) := (Stay.refl _ w).alloc _
  have HO := Lib.hid hO0
  clear h hc hO0
  unfold tv
  go_enter Try.func62, Try.ntmps62
  go_wp2_with fail
  go_loopg [12] (t.ls.length) (fun kk vi wr => ∃ (i : Nat), i ≤ t.ls.length ∧ kk = t.ls.length - i ∧ vi = .int .i64 (i : Nat) ∧ Only (w.alloc (.cells #[.slice A t.ls.length c] 57)) wr ∧ ∀ (j : Nat) k, j < i → t.ls[j]? = some k → p ∉ k.waiting)
  case atStart => exact ⟨0, Nat.zero_le _, rfl, rfl, Stay.refl _ _, fun j k hj _ => by omega⟩
  case round =>
    obtain ⟨i, hi, hk, rfl, hO, hpre⟩ := hrel
    obtain ⟨w3, rfl⟩ : ∃ w3 : World, w3 = wr := ⟨_, rfl⟩
    by_cases hlt : i < t.ls.length
    · obtain ⟨k, hkk⟩ : ∃ k, t.ls[i]? = some k := ⟨_, List.getElem?_eq_getElem hlt⟩
      obtain ⟨xb, xo, A1, c1, A2, c2, rfl, hxb, hxc, hr1⟩ := (H.out.1.only (HO.out.trans' hO)).elem hkk
      have e0 := hxc 0 _ rfl
      have e1 := hxc 1 _ rfl
      have e2 := hxc 2 _ rfl
      have e3 := hxc 3 _ rfl
      simp only [Nat.add_zero] at e0
      have q1 := hr1.ws.2.1
      have q2 := hr1.ws.2.2.1
      have HX := Lib.hid (And.intro hk (And.intro hO (And.intro hr1 (And.intro hpre hkk))))
      have HO3 := Lib.hid (show Only w3 (w3.alloc (.cells (stc k A1 c1 A2 c2).toArray 42)) from (Stay.refl _ w3).alloc _)
      clear hk hO hr1 hxc hkk hpre
      go_wp2_with fail
      go_loopg [20] (k.waiting.length) (fun kk vq wr => ∃ (q : Nat), q ≤ k.waiting.length ∧ kk = k.waiting.length - q ∧ vq = .int .i64 (q : Nat) ∧ Only (w3.alloc (.cells (stc k A1 c1 A2 c2).toArray 42)) wr ∧ p ∉ k.waiting.take q)
      case atStart => exact ⟨0, Nat.zero_le _, rfl, rfl, Stay.refl _ _, by simp⟩
      case round =>
        obtain ⟨q, hq, hk3, rfl, hO9, hni⟩ := hrel
        by_cases hlt2 : q < k.waiting.length
        · obtain ⟨x, hx⟩ : ∃ x, k.waiting[q]? = some x := ⟨_, List.getElem?_eq_getElem hlt2⟩
          obtain ⟨yb, yo, rfl, hyb, hyc⟩ := (HX.out.2.2.1.only (HO3.out.trans' hO9)).ws.ints_at (by omega)
          have y0 := hyc q hlt2
          rw [List.getD_eq_getElem?_getD, hx] at y0
          simp only [Option.getD_some] at y0
          have HZ := Lib.hid (And.intro hk3 (And.intro hO9 (And.intro hni hx)))
          clear hk3 hO9 hyc hx hni e0 e1 e2 e3
          by_cases he : x = p
          · have hb : (x == p) = true := by simpa using he
            have HF := Lib.hid (show t.waitsN p = (i : Int) + 1 by
              have := H.out.2.c2 i k p HX.out.2.2.2.2 (by rw [← he]; exact List.mem_of_getElem? HZ.out.2.2.2)
              unfold Tb.waitsN
              rw [this])
            clear he
            go_wp2_with fail
            go_ret
            exact ⟨by rw [HF.out]; rfl, HO.out.trans' (HX.out.2.1.trans' (HO3.out.trans' HZ.out.2.1))⟩
          · have hb : (x == p) = false := by simpa using he
            have HE := Lib.hid he
            clear he
            go_wp2_with fail
            go_roundg (k.waiting.length - (q + 1))
            case measure => have := HZ.out.1; omega
            case rel =>
              refine ⟨q + 1, by omega, rfl, by go_num, HZ.out.2.1, ?_⟩
              rw [List.take_succ_eq_append_getElem hlt2, (List.getElem?_eq_some_iff.1 HZ.out.2.2.2).2, List.mem_append]
              rintro (h | h)
              · exact HZ.out.2.2.1 h
              · simp at h
                exact HE.out h.symm
        · have hqe : q = k.waiting.length := by omega
          subst hqe
          rw [List.take_length] at hni
          have HZ := Lib.hid (And.intro hO9 hni)
          clear hk3 hO9 hni e0 e1 e2 e3
          go_wp2_with fail
          go_roundg (t.ls.length - (i + 1))
          case measure => have := HX.out.1; omega
          case rel =>
            refine ⟨i + 1, by omega, rfl, by go_num, HX.out.2.1.trans' (HO3.out.trans' HZ.out.1), fun j k' hj hk' => ?_⟩
            by_cases e : j = i
            · subst e
              rw [HX.out.2.2.2.2] at hk'
              cases hk'
              exact HZ.out.2
            · exact HX.out.2.2.2.1 j k' (by omega) hk'
    · have hie : i = t.ls.length := by omega
      have HF := Lib.hid (show t.waitsN p = 0 by
        unfold Tb.waitsN
        cases hg : aget t.waits p with
        | none => rfl
        | some j =>
          obtain ⟨k, hk, hm⟩ := H.out.2.c1 p j hg
          exact absurd hm (hpre j k (by have := (List.getElem?_eq_some_iff.1 hk).1; omega) hk))
      have HX := Lib.hid hO
      clear hk hO hpre
      go_wp2_with fail
      go_ret
      exact ⟨by rw [HF.out]; rfl, HO.out.trans' HX.out⟩

/-- What State gives back. -/
def RSt (w' : World) (t : Tb) (lock : Int) (e : Ending) : Prop :=
  (t.asked lock 1 = 0 ∧ ∃ k A c A' c', t.ls[(lock - 1).toNat]? = some k ∧ e = .returned (.tuple #[stv k A c A' c', .int .i64 0]) ∧ Rd w' k A c A' c') ∨ (t.asked lock 1 = 6 ∧ e = .returned (.tuple #[zst, .int .i64 6]))

set_option maxRecDepth 100000 in
set_option maxHeartbeats 4000000 in
theorem rstate_any (w : World) (A : Option Addr) (c : Nat) (t : Tb) (lock : Int) (h : StsR w A t.ls.length c t.ls) (hn : t.ls.length ≤ 1000000) :
    Calls Try.prog 48 #[tv A t.ls.length c, .int .i64 lock] w fun e w' => RSt w' t lock e ∧ Only w w' := by
  obtain ⟨_, b1, b2⟩ := h.bounds
  have H := Lib.hid h
  have hO0 : Only w ((w.alloc (.cells #[.slice A t.ls.length c] 57)).alloc (.cells #[.int .i64 0, .int .i64 0, .slice none 0 0, .slice none 0 0] 42)) := ((Stay.refl _ w).alloc _).alloc _
  have HO := Lib.hid hO0
  have hfin : Hid (∀ W, Stay (fun k => w.heap.size ≤ k) w W → Only w W) := fun W hs => Mine.stay hs
  clear h
  unfold tv
  by_cases h1 : lock < 1
  · have HF := Lib.hid (show t.asked lock 1 = 6 by unfold Tb.asked; rw [if_neg (by omega), if_pos (by omega)])
    clear hO0
    go_enter Try.func48, Try.ntmps48
    go_wp2_with fail
    refine bodyPost_ret (v := .tuple #[zst, .int .i64 6]) (by simp [results, Try.results48, go_sem, zst]) rfl ⟨.inr ⟨HF.out, rfl⟩, hfin.out _ ?_⟩
    repeat refine Stay.put ?_ (by simp) _ _
    exact HO.out.mono (fun _ _ h => h.elim)
  · by_cases h2 : lock > (t.ls.length : Int)
    · have HF := Lib.hid (show t.asked lock 1 = 6 by unfold Tb.asked; rw [if_neg (by omega), if_pos (by omega)])
      clear hO0
      go_enter Try.func48, Try.ntmps48
      go_wp2_with fail
      refine bodyPost_ret (v := .tuple #[zst, .int .i64 6]) (by simp [results, Try.results48, go_sem, zst]) rfl ⟨.inr ⟨HF.out, rfl⟩, hfin.out _ ?_⟩
      repeat refine Stay.put ?_ (by simp) _ _
      exact HO.out.mono (fun _ _ h => h.elim)
    · have HF := Lib.hid (show t.asked lock 1 = 0 by unfold Tb.asked; rw [if_neg (by omega), if_neg (by omega)])
      obtain ⟨i, hi⟩ : ∃ i, (lock - 1).toNat = i := ⟨_, rfl⟩
      have hli : lock - 1 = (i : Int) := by omega
      have hlt : i < t.ls.length := by omega
      obtain ⟨k, hkk⟩ : ∃ k, t.ls[i]? = some k := ⟨_, List.getElem?_eq_getElem hlt⟩
      obtain ⟨xb, xo, A1, c1, A2, c2, rfl, hxb, hxc, hr1⟩ := H.out.elem hkk
      have e0 := hO0.cell (hxc 0 _ rfl)
      have e1 := hO0.cell (hxc 1 _ rfl)
      have e2 := hO0.cell (hxc 2 _ rfl)
      have e3 := hO0.cell (hxc 3 _ rfl)
      simp only [Nat.add_zero] at e0
      have HX := Lib.hid (And.intro hr1 (And.intro hkk hi))
      clear hO0 hxc hr1 hkk hi
      go_enter Try.func48, Try.ntmps48
      go_wp2_with fail
      refine bodyPost_ret (v := .tuple #[stv k A1 c1 A2 c2, .int .i64 0]) (by simp [results, Try.results48, go_sem, stv]) rfl ⟨.inl ⟨HF.out, k, A1, c1, A2, c2, by rw [HX.out.2.2]; exact HX.out.2.1, rfl, ?_⟩, hfin.out _ ?_⟩
      · exact HX.out.1.only (((Stay.refl _ w).alloc _).alloc _)
      · exact ((Stay.refl _ w).alloc _).alloc _

theorem flat_set4 {α : Type} (f : α → List Value) (hf : ∀ x, (f x).length = 4) (x : α) (a b c d : Value) (hx : f x = [a, b, c, d]) : ∀ (l : List α) (i : Nat), i < l.length →
    ((((l.flatMap f).set (i * 4) a).set (i * 4 + 1) b).set (i * 4 + 2) c).set (i * 4 + 3) d = (l.set i x).flatMap f
  | [], i, hi => by simp at hi
  | y :: l, 0, _ => by
    have h := hf y
    match e : f y, h with
    | [p, q, r, s], _ => simp [List.flatMap_cons, e, hx]
  | y :: l, i + 1, hi => by
    have h := hf y
    have ih := flat_set4 f hf x a b c d hx l i (by simpa using hi)
    simp only [List.flatMap_cons, List.set_cons_succ]
    rw [List.set_append_right _ _ (by omega), List.set_append_right _ _ (by omega), List.set_append_right _ _ (by omega), List.set_append_right _ _ (by omega), h]
    rw [show (i + 1) * 4 - 4 = i * 4 by omega, show (i + 1) * 4 + 1 - 4 = i * 4 + 1 by omega, show (i + 1) * 4 + 2 - 4 = i * 4 + 2 by omega, show (i + 1) * 4 + 3 - 4 = i * 4 + 3 by omega, ih]
theorem zip_set {α β : Type} : ∀ (l : List α) (l' : List β) (i : Nat) (x : α) (y : β), (l.set i x).zip (l'.set i y) = (l.zip l').set i (x, y)
  | [], _, _, _, _ => by simp
  | _ :: _, [], i, _, _ => by cases i <;> simp
  | _ :: l, _ :: l', 0, _, _ => by simp
  | _ :: l, _ :: l', i + 1, x, y => by simp [zip_set l l' i x y]
theorem scell_one {w : World} {ks : List Lk} {vs : List (Value × Value)} (hl : vs.length = ks.length) (h4 : ∀ (i : Nat) k hv wv, ks[i]? = some k → vs[i]? = some (hv, wv) → ∃ A c A' c', hv = .slice A k.holders.length c ∧ wv = .slice A' k.waiting.length c' ∧ Rd w k A c A' c') :
    ∀ u ∈ (ks.zip vs).flatMap scell, u.oneCell' = true := by
  intro u hu
  obtain ⟨⟨k, hv, wv⟩, hm, hu⟩ := List.mem_flatMap.1 hu
  obtain ⟨i, hi⟩ := List.getElem?_of_mem hm
  rw [List.getElem?_zip_eq_some] at hi
  obtain ⟨A, c, A', c', rfl, rfl, _⟩ := h4 i k hv wv hi.1 hi.2
  simp only [scell, List.mem_cons, List.not_mem_nil, or_false] at hu
  rcases hu with rfl | rfl | rfl | rfl <;> rfl

theorem Sl.aside {w w' : World} {S : Nat → Prop} {B : Nat} {A : Option Addr} {n cap size : Nat} {xs : List Value} (h : Sl w B A n cap size xs) (hs : Stay S w w') (hn : ∀ a, A = some a → ¬ S a.block) (hB : B ≤ w'.heap.size) : Sl w' w'.heap.size A n cap size xs := by
  refine ⟨h.1, h.2.1, h.2.2.1, h.2.2.2.1, fun h0 => ?_⟩
  obtain ⟨b, off, e, hb', hc⟩ := h.2.2.2.2 h0
  exact ⟨b, off, e, Nat.lt_of_lt_of_le hb' hB, fun j u hu => hs.cell (hc j u hu) (show ¬ S b from hn _ e)⟩

set_option maxRecDepth 100000 in
set_option maxHeartbeats 4000000 in
theorem with_any (w0 w : World) (A : Option Addr) (c : Nat) (ks : List Lk) (lock : Int) (i : Nat) (k' : Lk) (A1 : Option Addr) (c1 : Nat) (A2 : Option Addr) (c2 : Nat) (h : StsR w0 A ks.length c ks) (hOw : Only w0 w) (hi : i < ks.length) (hli : lock - 1 = (i : Int)) (hn : ks.length ≤ 16) :
    Calls Try.prog 64 #[tv A ks.length c, .int .i64 lock, stv k' A1 c1 A2 c2] w fun e w' => ∃ A' c', e = .returned (tv A' ks.length c') ∧ (∀ a, A' = some a → w.heap.size ≤ a.block) ∧ (∀ (W : World) (S : Nat → Prop), Stay S w' W → Only w0 W → (∀ a, A' = some a → ¬ S a.block) → Rd W k' A1 c1 A2 c2 → StsR W A' ks.length c' (ks.set i k')) ∧ Only w w' := by
  obtain ⟨_, b1, b2⟩ := h.bounds
  obtain ⟨il, hil0, hil1, hil2, hil3⟩ := info_parts infoL
  obtain ⟨vs, hvl, _, hsl, hvs⟩ := h
  obtain ⟨xb, xo, rfl, hxb0, hxc0⟩ := hsl.2.2.2.2 (by omega)
  have hxb : xb < w.heap.size := Nat.lt_of_lt_of_le hxb0 hOw.size
  have hxc := fun j u hu => hOw.cell (hxc0 j u hu)
  have hO0 : Only w (((w.alloc (.cells #[.slice (some ⟨xb, xo, none⟩) ks.length c] 57)).alloc (.cells (stc k' A1 c1 A2 c2).toArray 42)).alloc (.cells #[.slice none 0 0] 57)) := (((Stay.refl _ w).alloc _).alloc _).alloc _
  have BS := Lib.hid (Stay.blk (S := fun _ => False) ((Stay.refl _ _).alloc (.cells #[.slice none 0 0] 57)) (Blk.newAt (w.alloc (.cells #[.slice (some ⟨xb, xo, none⟩) ks.length c] 57)) (stc k' A1 c1 A2 c2) 42 (w.heap.size + 1) (by simp)) id)
  have BR := Lib.hid (Blk.newAt ((w.alloc (.cells #[.slice (some ⟨xb, xo, none⟩) ks.length c] 57)).alloc (.cells (stc k' A1 c1 A2 c2).toArray 42)) [.slice none 0 0] 57 (w.heap.size + 2) (by simp))
  have HO := Lib.hid hO0
  have hnl : ((ks.zip vs).flatMap scell).length = ks.length * 4 := by rw [flat_len _ _ scell_length]; simp [hvl]
  have HN := Lib.hid (And.intro hnl (And.intro (scell_one hvl hvs) (And.intro (show ∀ j u, ((ks.zip vs).flatMap scell)[j]? = some u → (((w.alloc (.cells #[.slice (some ⟨xb, xo, none⟩) ks.length c] 57)).alloc (.cells (stc k' A1 c1 A2 c2).toArray 42)).alloc (.cells #[.slice none 0 0] 57)).cell? ((⟨xb, xo, none⟩ : Addr).add j) = some u from fun j u hu => by rw [Addr.add_lit]; exact hO0.cell (hxc j u hu)) (And.intro hvl hvs))))
  clear hO0 hnl hxc hxc0 hxb0 hsl hvs hvl hOw
  unfold tv stv
  go_enter Try.func64, Try.ntmps64
  go_upto_region 3 with (at_builtin; refine wpList_append_lies _ rfl _ _ _ rfl w.heap.size 42 il _ 4 64 Try.underlying38 hil0 hil1 hil2 hil3 rfl (by omega) _ 0 [] (by rfl) (World.ownsRow_nil _ _ _ _) ⟨xb, xo, none⟩ ks.length c ((ks.zip vs).flatMap scell) (by rfl) HN.out.1 HN.out.2.2.1 HN.out.2.1 (by omega) (by simp only [maxLen]; omega) (by omega) (by simp; omega) (w.heap.size + 3) (by simp) ?_; intro g cap w3 hown hgrow hat hlt2; rw [Nat.zero_add] at hown ⊢; rw [List.nil_append] at hown)
  have hg : g = w.heap.size + 3 := by rcases hat with h | h; (simp [Value.ownBlock] at h); exact h
  have st := grown_stay hgrow
  have hs0 : Only (((w.alloc (.cells #[.slice (some ⟨xb, xo, none⟩) ks.length c] 57)).alloc (.cells (stc k' A1 c1 A2 c2).toArray 42)).alloc (.cells #[.slice none 0 0] 57)) w3 := st.mono (fun j _ h => by simp [Value.ownBlock] at h)
  have bs := hs0.blk BS.out
  have br := hs0.blk BR.out
  have s1 := bs.cell
  have s2 := bs.lt
  have r1 := br.cell
  have r2 := br.free
  have r3 := br.lt
  unfold stc at s1
  have hj : ∀ j, j < 4 → i * 4 + j < ks.length * 4 := fun j hj => by omega
  have z0 := hown.cellAt (i * 4) (by have := hj 0 (by omega); omega)
  have z1 := hown.cellAt (i * 4 + 1) (by have := hj 1 (by omega); omega)
  have z2 := hown.cellAt (i * 4 + 2) (by have := hj 2 (by omega); omega)
  have z3 := hown.cellAt (i * 4 + 3) (by have := hj 3 (by omega); omega)
  have e : ∀ j, j < ks.length * 4 → ∃ u, ((ks.zip vs).flatMap scell)[j]? = some u := fun j hj => ⟨_, List.getElem?_eq_getElem (by rw [HN.out.1]; exact hj)⟩
  obtain ⟨u0, e0⟩ := e (i * 4) (by omega)
  obtain ⟨u1, e1⟩ := e (i * 4 + 1) (by omega)
  obtain ⟨u2, e2⟩ := e (i * 4 + 2) (by omega)
  obtain ⟨u3, e3⟩ := e (i * 4 + 3) (by omega)
  rw [e0] at z0
  rw [e1] at z1
  rw [e2] at z2
  rw [e3] at z3
  have fz := hown.frozenAt
  have g1 : g ≠ w.heap.size + 2 := by omega
  have HG := Lib.hid (And.intro hown (And.intro hs0 hg))
  clear hown hgrow hat st hs0 hj bs br e0 e1 e2 e3 e hg
  go_wp2_with fail
  have hO3 : Only w w3 := HO.out.trans' HG.out.2.1
  refine bodyPost_ret (v := tv (some ⟨g, 0, none⟩) ks.length cap) (by simp [results, Try.results64, go_sem, tv, r1]) rfl ?_
  have fin : ∀ W, W = (((((w3.setCell ⟨g, i * 4, none⟩ (.int .i64 k'.permits)).setCell ⟨g, i * 4 + 1, none⟩ (.int .i64 k'.free)).setCell ⟨g, i * 4 + 2, none⟩ (.slice A1 k'.holders.length c1)).setCell ⟨g, i * 4 + 3, none⟩ (.slice A2 k'.waiting.length c2)).setCell ⟨w.heap.size + 1 + 1, 0, none⟩ (.slice (some ⟨g, 0, none⟩) ks.length cap)) →
      ∃ A' c', Ending.returned (tv (some ⟨g, 0, none⟩) ks.length cap) = Ending.returned (.agg #[.slice A' ks.length c']) ∧ (∀ a, A' = some a → w.heap.size ≤ a.block) ∧ (∀ (V : World) (S : Nat → Prop), Stay S W V → Only w0 V → (∀ a, A' = some a → ¬ S a.block) → Rd V k' A1 c1 A2 c2 → StsR V A' ks.length c' (ks.set i k')) ∧ Only w W := by
    rintro W rfl
    have hgs : w.heap.size ≤ g := by have := HG.out.2.2; omega
    have hOW : Only w (((((w3.setCell ⟨g, i * 4, none⟩ (.int .i64 k'.permits)).setCell ⟨g, i * 4 + 1, none⟩ (.int .i64 k'.free)).setCell ⟨g, i * 4 + 2, none⟩ (.slice A1 k'.holders.length c1)).setCell ⟨g, i * 4 + 3, none⟩ (.slice A2 k'.waiting.length c2)).setCell ⟨w.heap.size + 1 + 1, 0, none⟩ (.slice (some ⟨g, 0, none⟩) ks.length cap)) :=
      Mine.stay ((((((Mine.only hO3).put hgs _ _).put hgs _ _).put hgs _ _).put hgs _ _).put (by omega) _ _)
    obtain ⟨_, _, _, hvl, hvs⟩ := HN.out
    have own4 := ((((HG.out.1).stored (i * 4) (.int .i64 k'.permits)).1.stored (i * 4 + 1) (.int .i64 k'.free)).1.stored (i * 4 + 2) (.slice A1 k'.holders.length c1)).1.stored (i * 4 + 3) (.slice A2 k'.waiting.length c2)
    have own := own_set own4.1 (A := ⟨w.heap.size + 1 + 1, 0, none⟩) (.slice (some ⟨g, 0, none⟩) ks.length cap) (fun g' hg' => by
      have e : g = g' := by simpa [Value.ownBlock] using hg'
      subst e
      exact g1)
    rw [flat_set4 scell scell_length (k', (.slice A1 k'.holders.length c1, .slice A2 k'.waiting.length c2)) _ _ _ _ rfl (ks.zip vs) i (by simp [hvl]; omega), ← zip_set] at own
    refine ⟨_, _, rfl, fun a ha => by cases ha; exact hgs, fun V S hs hV hn' hr => ⟨vs.set i (.slice A1 k'.holders.length c1, .slice A2 k'.waiting.length c2), by simp [hvl], by simp, (own_sl' own).aside hs hn' hs.size, fun j k hv wv hk hv' => ?_⟩, hOW⟩
    rw [List.getElem?_set] at hk hv'
    split at hk
    · rename_i e
      subst e
      simp only [if_true, hvl, hi] at hk hv'
      cases hk
      cases hv'
      exact ⟨_, _, _, _, rfl, rfl, hr⟩
    · rename_i e
      rw [if_neg e] at hv'
      obtain ⟨a1, a2, a3, a4, e1, e2, h3⟩ := hvs j k hv wv hk hv'
      exact ⟨a1, a2, a3, a4, e1, e2, h3.only hV⟩
  exact fin _ rfl

/-- What the loop still lays down. -/
def hgo (p m : Int) : Bool → List (Int × Int) → List (Int × Int)
  | met, [] => if met then [] else [(p, m)]
  | met, x :: l =>
    if x.1 < p then x :: hgo p m met l
    else if x.1 = p then (if 0 < x.2 + m then [(p, x.2 + m)] else []) ++ hgo p m true l
    else (if met then [x] else [(p, m), x]) ++ hgo p m true l
theorem hgo_lt {p m : Int} {met : Bool} {x : Int × Int} {l : List (Int × Int)} (h : x.1 < p) : hgo p m met (x :: l) = x :: hgo p m met l := by simp [hgo, h]
theorem hgo_eq1 {p m : Int} {met : Bool} {x : Int × Int} {l : List (Int × Int)} (h : x.1 = p) (h2 : 0 < x.2 + m) : hgo p m met (x :: l) = (p, x.2 + m) :: hgo p m true l := by simp [hgo, h, h2]
theorem hgo_eq0 {p m : Int} {met : Bool} {x : Int × Int} {l : List (Int × Int)} (h : x.1 = p) (h2 : ¬ 0 < x.2 + m) : hgo p m met (x :: l) = hgo p m true l := by simp [hgo, h, h2]
theorem hgo_gt1 {p m : Int} {x : Int × Int} {l : List (Int × Int)} (h : p < x.1) : hgo p m true (x :: l) = x :: hgo p m true l := by
  have h1 : ¬ x.1 < p := by omega
  have h2 : ¬ x.1 = p := by omega
  simp [hgo, h1, h2]
theorem hgo_gt0 {p m : Int} {x : Int × Int} {l : List (Int × Int)} (h : p < x.1) : hgo p m false (x :: l) = (p, m) :: x :: hgo p m true l := by
  have h1 : ¬ x.1 < p := by omega
  have h2 : ¬ x.1 = p := by omega
  simp [hgo, h1, h2]

set_option maxRecDepth 100000 in
set_option maxHeartbeats 8000000 in
theorem rholders_any (w : World) (A : Option Addr) (c : Nat) (l : List (Int × Int)) (p m : Int) (h : Sl w w.heap.size A l.length c 2 (l.flatMap hcell)) (hn : l.length ≤ 1000) (hpos : ∀ x ∈ l, 0 < x.2 ∧ x.2 ≤ 1000) (hm : -1000 ≤ m ∧ m ≤ 1000) :
    Calls Try.prog 63 #[.slice A l.length c, .int .i64 p, .int .i64 m] w fun e w' => ∃ A' c', e = .returned (.slice A' (hgo p m false l).length c') ∧ Sl w' w'.heap.size A' (hgo p m false l).length c' 2 ((hgo p m false l).flatMap hcell) ∧ (∀ a, A' = some a → w.heap.size ≤ a.block) ∧ Only w w' := by
  have H := Lib.hid h
  have b1 := h.2.1
  have b2 := h.2.2.1
  obtain ⟨ih, hih0, hih1, hih2, hih3⟩ := info_parts infoH
  clear h
  go_enter Try.func63, Try.ntmps63
  go_wp2_with fail
  go_loopg [7, 8, 13] (l.length) (fun kk vo vm vi wr => ∃ (i : Nat) (out : List (Int × Int)) (met : Bool) (vo' : Value), vo' = vo ∧ i ≤ l.length ∧ kk = l.length - i ∧ vm = .bool met ∧ vi = .int .i64 (i : Nat) ∧ wr.ownsRow w.heap.size 44 2 vo' out.length (out.flatMap hcell) ∧ out.length ≤ 2 * i ∧ Only w wr ∧ hgo p m false l = out ++ hgo p m met (l.drop i))
  case atStart => exact ⟨0, [], false, _, rfl, Nat.zero_le _, rfl, rfl, rfl, World.ownsRow_nil _ _ _ _, by simp, Stay.refl _ _, rfl⟩
  case round =>
    obtain ⟨i, out, met, vo, rfl, hi, hk, rfl, rfl, hown, hol, hO, hgo⟩ := hrel
    obtain ⟨w3, rfl⟩ : ∃ w3 : World, w3 = wr := ⟨_, rfl⟩
    by_cases hlt : i < l.length
    · obtain ⟨x, hx⟩ : ∃ x, l[i]? = some x := ⟨_, List.getElem?_eq_getElem hlt⟩
      obtain ⟨yb, yo, rfl, hyb, hyc⟩ := (H.out.only hO).elem hcell_length hx (by omega)
      have y0 := hyc 0 _ rfl
      have y1 := hyc 1 _ rfl
      simp only [Nat.add_zero] at y0
      have hps := hpos x (List.mem_of_getElem? hx)
      have hdr : l.drop i = x :: l.drop (i + 1) := by rw [List.drop_eq_getElem_cons hlt, (List.getElem?_eq_some_iff.1 hx).2]
      rw [hdr] at hgo
      have hsz := hO.size
      have HX := Lib.hid (And.intro hk (And.intro hO (And.intro hown (And.intro hgo hol))))
      clear hk hO hyc hx hdr hown hgo
      by_cases hlt2 : x.1 < p
      · have a1 : ¬ (x.1 > p) := by omega
        have a2 : (x.1 == p) = false := by simp; omega
        have a3 : x.2 > 0 := hps.1
        go_wp2_with (at_builtin; refine wpList_append_lies _ rfl _ _ _ rfl w.heap.size 44 ih _ 2 16 Try.underlying40 hih0 hih1 hih2 hih3 rfl (by omega) _ out.length _ (by rfl) (own_alloc (own_alloc HX.out.2.2.1 _) _) ⟨w3.heap.size + 1, 0, none⟩ 1 1 (hcell x) (by rfl) (by rfl) (World.news_of_block (cs := (hcell x).toArray) (t := 44) (fr := (0, 0)) (heap_alloc_at' _ _ _ (by simp))) (by simp [hcell, Value.oneCell']) (by omega) (by simp only [maxLen]; omega) (by omega) (by simp; omega) (w3.heap.size + 2) (by simp) ?_; intro g cap w4 hown hgrow hat hlt3; have HG := Lib.hid (And.intro hown (And.intro hgrow hat)); clear hown hgrow hat hlt3)
        go_roundg (l.length - (i + 1))
        case measure => have := HX.out.1; omega
        case rel =>
          have hO4 : Only w w4 := Mine.stay ((Mine.only (HX.out.2.1.trans' (((Stay.refl _ w3).alloc _).alloc _))).trans (Stay.mono (grown_stay HG.out.2.1) (fun i _ hi => (own_lt HX.out.2.2.1 i hi).1)))
          refine ⟨i + 1, out ++ [x], met, _, rfl, by omega, rfl, rfl, by go_num, ?_, by simp; omega, hO4, ?_⟩
          · have := HG.out.1
            simpa [List.flatMap_append] using this
          · rw [HX.out.2.2.2.1, hgo_lt hlt2]; simp
      · by_cases heq : x.1 = p
        · have a1 : ¬ (x.1 > p) := by omega
          have a2 : (x.1 == p) = true := by simp; omega
          by_cases hp0 : 0 < x.2 + m
          · have a3 : x.2 + m > 0 := hp0
            go_wp2_with (at_builtin; refine wpList_append_lies _ rfl _ _ _ rfl w.heap.size 44 ih _ 2 16 Try.underlying40 hih0 hih1 hih2 hih3 rfl (by omega) _ out.length _ (by rfl) (own_alloc (own_alloc HX.out.2.2.1 _) _) ⟨w3.heap.size + 1, 0, none⟩ 1 1 (hcell (p, x.2 + m)) (by rfl) (by rfl) (World.news_of_block (cs := ((hcell (p, x.2 + m))).toArray) (t := 44) (fr := (0, 0)) (heap_alloc_at' _ _ _ (by simp))) (by simp [hcell, Value.oneCell']) (by omega) (by simp only [maxLen]; omega) (by omega) (by simp; omega) (w3.heap.size + 2) (by simp) ?_; intro g cap w4 hown hgrow hat hlt3; have HG := Lib.hid (And.intro hown (And.intro hgrow hat)); clear hown hgrow hat hlt3)
            go_roundg (l.length - (i + 1))
            case measure => have := HX.out.1; omega
            case rel =>
              have hO4 : Only w w4 := Mine.stay ((Mine.only (HX.out.2.1.trans' (((Stay.refl _ w3).alloc _).alloc _))).trans (Stay.mono (grown_stay HG.out.2.1) (fun i _ hi => (own_lt HX.out.2.2.1 i hi).1)))
              refine ⟨i + 1, out ++ [(p, x.2 + m)], true, _, rfl, by omega, rfl, rfl, by go_num, ?_, by simp; omega, hO4, ?_⟩
              · have := HG.out.1
                simpa [List.flatMap_append] using this
              · rw [HX.out.2.2.2.1, hgo_eq1 heq hp0]; simp
          · have a3 : ¬ (x.2 + m > 0) := hp0
            go_wp2_with fail
            go_roundg (l.length - (i + 1))
            case measure => have := HX.out.1; omega
            case rel => exact ⟨i + 1, out, true, _, rfl, by omega, rfl, rfl, by go_num, own_alloc HX.out.2.2.1 _, by omega, HX.out.2.1.trans' ((Stay.refl _ w3).alloc _), by rw [HX.out.2.2.2.1, hgo_eq0 heq (by omega)]⟩
        · have hgt : p < x.1 := by omega
          have a1 : x.1 > p := hgt
          have a2 : (x.1 == p) = false := by simp; omega
          have a3 : x.2 > 0 := hps.1
          cases met with
          | true =>
            go_wp2_with (at_builtin; refine wpList_append_lies _ rfl _ _ _ rfl w.heap.size 44 ih _ 2 16 Try.underlying40 hih0 hih1 hih2 hih3 rfl (by omega) _ out.length _ (by rfl) (own_alloc (own_alloc HX.out.2.2.1 _) _) ⟨w3.heap.size + 1, 0, none⟩ 1 1 (hcell x) (by rfl) (by rfl) (World.news_of_block (cs := ((hcell x)).toArray) (t := 44) (fr := (0, 0)) (heap_alloc_at' _ _ _ (by simp))) (by simp [hcell, Value.oneCell']) (by omega) (by simp only [maxLen]; omega) (by omega) (by simp; omega) (w3.heap.size + 2) (by simp) ?_; intro g cap w4 hown hgrow hat hlt3; have HG := Lib.hid (And.intro hown (And.intro hgrow hat)); clear hown hgrow hat hlt3)
            go_roundg (l.length - (i + 1))
            case measure => have := HX.out.1; omega
            case rel =>
              have hO4 : Only w w4 := Mine.stay ((Mine.only (HX.out.2.1.trans' (((Stay.refl _ w3).alloc _).alloc _))).trans (Stay.mono (grown_stay HG.out.2.1) (fun i _ hi => (own_lt HX.out.2.2.1 i hi).1)))
              refine ⟨i + 1, out ++ [x], true, _, rfl, by omega, rfl, rfl, by go_num, ?_, by simp; omega, hO4, ?_⟩
              · have := HG.out.1
                simpa [List.flatMap_append] using this
              · rw [HX.out.2.2.2.1, hgo_gt1 hgt]; simp
          | false =>
            go_upto_region 9 with (at_builtin; refine wpList_append_lies _ rfl _ _ _ rfl w.heap.size 44 ih _ 2 16 Try.underlying40 hih0 hih1 hih2 hih3 rfl (by omega) _ out.length _ (by rfl) (own_alloc (own_alloc HX.out.2.2.1 _) _) ⟨w3.heap.size + 1, 0, none⟩ 1 1 (hcell (p, m)) (by rfl) (by rfl) (World.news_of_block (cs := ((hcell (p, m))).toArray) (t := 44) (fr := (0, 0)) (heap_alloc_at' _ _ _ (by simp))) (by simp [hcell, Value.oneCell']) (by omega) (by simp only [maxLen]; omega) (by omega) (by simp; omega) (w3.heap.size + 2) (by simp) ?_; intro g cap w4 hown hgrow hat hlt3; rw [show out.flatMap hcell ++ hcell (p, m) = (out ++ [(p, m)]).flatMap hcell by simp] at hown)
            have st := grown_stay hgrow
            have hBx := st.blk ((Blk.new w3 (hcell x) 44).alloc (.cells (hcell (p, m)).toArray 44)) (fun e => by have := (own_lt HX.out.2.2.1 _ e).2; omega)
            have z0 := hBx.cell
            have z1 := hBx.lt
            unfold hcell at z0
            have hO4 : Only w w4 := Mine.stay ((Mine.only (HX.out.2.1.trans' (((Stay.refl _ w3).alloc _).alloc _))).trans (Stay.mono st (fun i _ hi => (own_lt HX.out.2.2.1 i hi).1)))
            have hsz4 := hO4.size
            have HG := Lib.hid (And.intro hown (And.intro hgrow (And.intro hat hO4)))
            clear hown hgrow hat hlt3 st hBx hO4 y0 y1
            go_wp2_with (at_builtin; refine wpList_append_lies _ rfl _ _ _ rfl w.heap.size 44 ih _ 2 16 Try.underlying40 hih0 hih1 hih2 hih3 rfl (by omega) _ (out.length + 1) _ (by rfl) (own_alloc HG.out.1 _) ⟨w4.heap.size, 0, none⟩ 1 1 (hcell x) (by rfl) (by rfl) (World.news_of_block (cs := ((hcell x)).toArray) (t := 44) (fr := (0, 0)) (heap_alloc_at' _ _ _ (by simp))) (by simp [hcell, Value.oneCell']) (by omega) (by simp only [maxLen]; omega) (by omega) (by simp; omega) (w4.heap.size + 1) (by simp) ?_; intro g2 cap2 w5 hown hgrow hat hlt3; have HG2 := Lib.hid (And.intro hown (And.intro hgrow hat)); clear hown hgrow hat hlt3)
            go_roundg (l.length - (i + 1))
            case measure => have := HX.out.1; omega
            case rel =>
              have hO5 : Only w w5 := Mine.stay ((Mine.only (HG.out.2.2.2.trans' ((Stay.refl _ w4).alloc _))).trans (Stay.mono (grown_stay HG2.out.2.1) (fun i _ hi => (own_lt HG.out.1 i hi).1)))
              refine ⟨i + 1, out ++ [(p, m), x], true, _, rfl, by omega, rfl, rfl, by go_num, ?_, by simp; omega, hO5, ?_⟩
              · have := HG2.out.1
                simpa [List.flatMap_append] using this
              · rw [HX.out.2.2.2.1, hgo_gt0 hgt]; simp
    · have hie : i = l.length := by omega
      subst hie
      rw [List.drop_length] at hgo
      obtain ⟨Ao, co, rfl⟩ := own_shape hown
      have hsz := hO.size
      have HX := Lib.hid (And.intro hO (And.intro hown hgo))
      clear hk hO hown hgo
      cases met with
      | true =>
        go_wp2_with fail
        go_ret
        have he : hgo p m false l = out := by rw [HX.out.2.2]; simp [Go.Proofs.Ytfifdgigeecfbaa.hgo]
        rw [he]
        exact ⟨_, _, rfl, own_sl' HX.out.2.1, fun a ha => (own_lt HX.out.2.1 a.block (by subst ha; rfl)).1, HX.out.1⟩
      | false =>
        go_wp2_with (at_builtin; refine wpList_append_lies _ rfl _ _ _ rfl w.heap.size 44 ih _ 2 16 Try.underlying40 hih0 hih1 hih2 hih3 rfl (by omega) _ out.length _ (by rfl) (own_alloc HX.out.2.1 _) ⟨w3.heap.size, 0, none⟩ 1 1 (hcell (p, m)) (by rfl) (by rfl) (World.news_of_block (cs := ((hcell (p, m))).toArray) (t := 44) (fr := (0, 0)) (heap_alloc_at' _ _ _ (by simp))) (by simp [hcell, Value.oneCell']) (by omega) (by simp only [maxLen]; omega) (by omega) (by simp; omega) (w3.heap.size + 1) (by simp) ?_; intro g cap w4 hown hgrow hat hlt3; have HG := Lib.hid (And.intro hown (And.intro hgrow hat)); clear hown hgrow hat hlt3)
        go_ret
        have he : hgo p m false l = out ++ [(p, m)] := by rw [HX.out.2.2]; simp [Go.Proofs.Ytfifdgigeecfbaa.hgo]
        have hO4 : Only w w4 := Mine.stay ((Mine.only (HX.out.1.trans' ((Stay.refl _ w3).alloc _))).trans (Stay.mono (grown_stay HG.out.2.1) (fun i _ hi => (own_lt HX.out.2.1 i hi).1)))
        rw [he, List.length_append]
        have := HG.out.1
        rw [show out.flatMap hcell ++ hcell (p, m) = (out ++ [(p, m)]).flatMap hcell by simp] at this
        exact ⟨_, _, rfl, own_sl' this, fun a ha => by cases ha; exact (own_lt this g rfl).1, hO4⟩

def Asc (l : List (Int × Int)) : Prop := (l.map (·.1)).Pairwise (· < ·)
theorem Asc.tail {x : Int × Int} {l : List (Int × Int)} (h : Asc (x :: l)) : Asc l := by
  unfold Asc at *
  simp only [List.map_cons, List.pairwise_cons] at h
  exact h.2
theorem Asc.lt {x : Int × Int} {l : List (Int × Int)} (h : Asc (x :: l)) : ∀ y ∈ l, x.1 < y.1 := by
  unfold Asc at h
  simp only [List.map_cons, List.pairwise_cons] at h
  exact fun y hy => h.1 y.1 (List.mem_map_of_mem hy)
theorem Asc.cons {x : Int × Int} {l : List (Int × Int)} (h : Asc l) (hx : ∀ y ∈ l, x.1 < y.1) : Asc (x :: l) := by
  unfold Asc at *
  simp only [List.map_cons, List.pairwise_cons]
  exact ⟨fun a ha => by obtain ⟨y, hy, rfl⟩ := List.mem_map.1 ha; exact hx y hy, h⟩
theorem aget_lt {l : List (Int × Int)} {p : Int} (h : ∀ y ∈ l, p < y.1) : aget l p = none := by
  rw [aget_none]
  intro hm
  obtain ⟨y, hy, e⟩ := List.mem_map.1 hm
  have := h y hy
  omega
theorem asc_ext : ∀ {a b : List (Int × Int)}, Asc a → Asc b → (∀ y, aget a y = aget b y) → a = b
  | [], [], _, _, _ => rfl
  | [], y :: b, _, _, h => by have := h y.1; simp [aget] at this
  | x :: a, [], _, _, h => by have := h x.1; simp [aget] at this
  | x :: a, y :: b, ha, hb, h => by
    have e1 : x.1 = y.1 := by
      rcases Int.lt_trichotomy x.1 y.1 with hl | he | hl
      · have h1 : aget (y :: b) x.1 = none := aget_lt (fun z hz => by
          rcases List.mem_cons.1 hz with rfl | hz
          · exact hl
          · have := hb.lt z hz; omega)
        have := h x.1
        rw [h1] at this
        simp [aget] at this
      · exact he
      · have h1 : aget (x :: a) y.1 = none := aget_lt (fun z hz => by
          rcases List.mem_cons.1 hz with rfl | hz
          · exact hl
          · have := ha.lt z hz; omega)
        have := h y.1
        rw [h1] at this
        simp [aget] at this
    have e2 : x.2 = y.2 := by
      have := h x.1
      simpa [aget, e1] using this
    have e3 : x = y := Prod.ext e1 e2
    subst e3
    congr 1
    refine asc_ext ha.tail hb.tail fun z => ?_
    by_cases hz : x.1 = z
    · rw [aget_lt (fun y hy => by have := ha.lt y hy; omega), aget_lt (fun y hy => by have := hb.lt y hy; omega)]
    · have := h z
      simpa [aget, hz] using this

theorem hgo_true {p m : Int} : ∀ {l : List (Int × Int)}, (∀ x ∈ l, p < x.1) → hgo p m true l = l
  | [], _ => by simp [hgo]
  | x :: l, h => by rw [hgo_gt1 (h x (List.mem_cons_self ..)), hgo_true fun y hy => h y (List.mem_cons_of_mem _ hy)]
theorem hgo_get {p m : Int} : ∀ {l : List (Int × Int)}, Asc l → ∀ y, aget (hgo p m false l) y = if p = y then (match aget l p with | none => some m | some v => if 0 < v + m then some (v + m) else none) else aget l y
  | [], _, y => by simp [hgo, aget]
  | x :: l, h, y => by
    rcases Int.lt_trichotomy x.1 p with hl | he | hl
    · rw [hgo_lt hl]
      simp only [aget, hgo_get h.tail y]
      by_cases e : x.1 = y
      · have e' : ¬ p = y := by omega
        simp [e, e']
      · by_cases e2 : p = y
        · subst e2
          simp [e]
        · simp [e, e2]
    · have hlt : ∀ z ∈ l, p < z.1 := fun z hz => by have := h.lt z hz; omega
      by_cases h0 : 0 < x.2 + m
      · rw [hgo_eq1 he h0, hgo_true hlt]
        simp only [aget, he, if_true, h0]
        by_cases e : p = y <;> simp [e]
      · rw [hgo_eq0 he h0, hgo_true hlt]
        simp only [aget, he, if_true, h0]
        by_cases e : p = y
        · subst e
          simp [aget_lt hlt]
        · simp [e]
    · have hlt : ∀ z ∈ l, p < z.1 := fun z hz => by have := h.lt z hz; omega
      rw [hgo_gt0 hl, hgo_true hlt]
      have e1 : ¬ x.1 = p := by omega
      simp only [aget, e1, if_false, aget_lt hlt]
theorem hgo_keys {p m : Int} : ∀ {l : List (Int × Int)}, Asc l → ∀ x ∈ hgo p m false l, x.1 = p ∨ ∃ y ∈ l, y.1 = x.1
  | [], _, x, hx => by
    simp [hgo] at hx
    subst hx
    exact .inl rfl
  | y :: l, h, x, hx => by
    rcases Int.lt_trichotomy y.1 p with hl | he | hl
    · rw [hgo_lt hl] at hx
      rcases List.mem_cons.1 hx with rfl | hx
      · exact .inr ⟨_, List.mem_cons_self .., rfl⟩
      · rcases hgo_keys h.tail x hx with e | ⟨z, hz, e⟩
        · exact .inl e
        · exact .inr ⟨z, List.mem_cons_of_mem _ hz, e⟩
    · have hlt : ∀ z ∈ l, p < z.1 := fun z hz => by have := h.lt z hz; omega
      by_cases h0 : 0 < y.2 + m
      · rw [hgo_eq1 he h0, hgo_true hlt] at hx
        rcases List.mem_cons.1 hx with rfl | hx
        · exact .inl rfl
        · exact .inr ⟨x, List.mem_cons_of_mem _ hx, rfl⟩
      · rw [hgo_eq0 he h0, hgo_true hlt] at hx
        exact .inr ⟨x, List.mem_cons_of_mem _ hx, rfl⟩
    · have hlt : ∀ z ∈ l, p < z.1 := fun z hz => by have := h.lt z hz; omega
      rw [hgo_gt0 hl, hgo_true hlt] at hx
      rcases List.mem_cons.1 hx with rfl | hx
      · exact .inl rfl
      · exact .inr ⟨x, hx, rfl⟩
theorem hgo_asc {p m : Int} : ∀ {l : List (Int × Int)}, Asc l → Asc (hgo p m false l)
  | [], _ => by simp [hgo, Asc]
  | y :: l, h => by
    rcases Int.lt_trichotomy y.1 p with hl | he | hl
    · rw [hgo_lt hl]
      refine (hgo_asc h.tail).cons fun x hx => ?_
      rcases hgo_keys h.tail x hx with e | ⟨z, hz, e⟩
      · omega
      · have := h.lt z hz; omega
    · have hlt : ∀ z ∈ l, p < z.1 := fun z hz => by have := h.lt z hz; omega
      by_cases h0 : 0 < y.2 + m
      · rw [hgo_eq1 he h0, hgo_true hlt]
        exact h.tail.cons hlt
      · rw [hgo_eq0 he h0, hgo_true hlt]
        exact h.tail
    · have hlt : ∀ z ∈ l, p < z.1 := fun z hz => by have := h.lt z hz; omega
      rw [hgo_gt0 hl, hgo_true hlt]
      exact h.cons fun x hx => by
        rcases List.mem_cons.1 hx with rfl | hx
        · exact hl
        · exact hlt x hx

/-- The holders, of what is held. -/
def HL (l : List (Int × Int)) : List (Int × Int) := (srt (l.map (·.1))).map fun p => (p, (aget l p).getD 0)
theorem holders_HL (k : Lk) : k.holders = HL k.holds := rfl
theorem HL_asc {l : List (Int × Int)} (h : (l.map (·.1)).Nodup) : Asc (HL l) := by
  unfold Asc HL
  rw [List.map_map]
  have e : (fun x : Int × Int => x.1) ∘ (fun p => (p, (aget l p).getD 0)) = id := rfl
  rw [e, List.map_id]
  exact srt_lt h
theorem aget_map (f : Int → Int) (y : Int) : ∀ l : List Int, aget (l.map fun p => (p, f p)) y = if y ∈ l then some (f y) else none
  | [] => by simp [aget]
  | x :: l => by
    simp only [List.map_cons, aget, aget_map f y l, List.mem_cons]
    by_cases e : x = y
    · subst e; simp
    · have e' : ¬ y = x := fun h => e h.symm
      simp [e, e']
theorem HL_get (l : List (Int × Int)) (y : Int) : aget (HL l) y = aget l y := by
  unfold HL
  rw [aget_map (fun p => (aget l p).getD 0)]
  by_cases hm : y ∈ l.map (·.1)
  · rw [if_pos ((srt_perm_self _).mem_iff.2 hm)]
    cases hg : aget l y with
    | none => exact absurd hm (aget_none.1 hg)
    | some v => rfl
  · rw [if_neg (fun h => hm ((srt_perm_self _).mem_iff.1 h)), aget_none.2 hm]
theorem HL_pos {l : List (Int × Int)} (h : ∀ x ∈ l, 1 ≤ x.2) (hs : sumH l ≤ 16) : ∀ x ∈ HL l, 0 < x.2 ∧ x.2 ≤ 1000 := by
  intro x hx
  unfold HL at hx
  obtain ⟨p, hp, rfl⟩ := List.mem_map.1 hx
  have hm := (srt_perm_self _).mem_iff.1 hp
  cases hg : aget l p with
  | none => exact absurd hm (aget_none.1 hg)
  | some v =>
    have := sumH_get h hg
    simp only [Option.getD_some]
    omega
theorem HL_length (l : List (Int × Int)) : (HL l).length = l.length := by simp [HL, srt_length]
/-- A permit more. -/
theorem HL_more {l : List (Int × Int)} {p : Int} (hn : (l.map (·.1)).Nodup) (hn2 : ((aset l p ((aget l p).getD 0 + 1)).map (·.1)).Nodup) (h : ∀ x ∈ l, 1 ≤ x.2) : HL (aset l p ((aget l p).getD 0 + 1)) = hgo p 1 false (HL l) := by
  refine asc_ext (HL_asc hn2) (hgo_asc (HL_asc hn)) fun y => ?_
  rw [HL_get, aget_set, hgo_get (HL_asc hn), HL_get, HL_get]
  by_cases e : p = y
  · subst e
    simp only [if_true]
    cases hg : aget l p with
    | none => rfl
    | some v =>
      have := sumH_get h hg
      simp only [Option.getD_some]
      rw [if_pos (by omega)]
  · simp [e]
/-- One less. -/
theorem HL_less {k : Lk} {d p : Int} (hk : k.Ok d) (hp : k.has p ≠ 0) : HL (k.less p) = hgo p (-1) false (HL k.holds) := by
  have hl := hk.less hp
  refine asc_ext (HL_asc hl.2.2.1) (hgo_asc (HL_asc hk.keys)) fun y => ?_
  rw [HL_get, hgo_get (HL_asc hk.keys), HL_get, HL_get]
  have hh := hk.has p
  have hg : aget k.holds p = some (k.has p) := by
    cases e : aget k.holds p with
    | none => exact absurd (by simp [Lk.has, e]) hp
    | some v => simp [Lk.has, e]
  rw [hg]
  have hns : ((aset k.holds p (k.has p - 1)).map (·.1)).Nodup := aset_nodup hk.keys _ _
  unfold Lk.less
  simp only
  split
  · rename_i h0
    rw [aget_del hns, aget_set]
    by_cases e : p = y
    · subst e
      simp; omega
    · simp [e]
  · rename_i h0
    rw [aget_set]
    by_cases e : p = y
    · subst e
      simp; omega
    · simp [e]

/-- A slice with anything in it lies beside X. -/
def Av (X : Nat → Prop) (A : Option Addr) (n : Nat) : Prop := 0 < n → ∀ a, A = some a → ¬ X a.block
theorem Sl.beside {w w' : World} {X : Nat → Prop} {B : Nat} {A : Option Addr} {n cap size : Nat} {xs : List Value} (h : Sl w B A n cap size xs) (hs : Stay X w w') (hn : Av X A n) (hB : B ≤ w'.heap.size) : Sl w' w'.heap.size A n cap size xs := by
  refine ⟨h.1, h.2.1, h.2.2.1, h.2.2.2.1, fun h0 => ?_⟩
  obtain ⟨b, off, e, hb', hc⟩ := h.2.2.2.2 h0
  exact ⟨b, off, e, Nat.lt_of_lt_of_le hb' hB, fun j u hu => hs.cell (hc j u hu) (show ¬ X b from hn h0 _ e)⟩
theorem Sl.av {w : World} {X : Nat → Prop} {B : Nat} {A : Option Addr} {n cap size : Nat} {xs : List Value} (h : Sl w B A n cap size xs) (hX : ∀ b, X b → B ≤ b) : Av X A n := fun h0 a ha hx => by
  obtain ⟨b, off, e, hb', hc⟩ := h.2.2.2.2 h0
  rw [e] at ha
  cases ha
  have := hX _ hx
  simp at this
  omega
theorem Av.or {X Y : Nat → Prop} {A : Option Addr} {n : Nat} (h : Av X A n) (h' : Av Y A n) : Av (fun b => X b ∨ Y b) A n := fun h0 a ha hx => by
  rcases hx with hx | hx
  · exact h h0 a ha hx
  · exact h' h0 a ha hx
theorem Av.sub {X Y : Nat → Prop} {A : Option Addr} {n : Nat} (h : Av X A n) (hs : ∀ b, Y b → X b) : Av Y A n := fun h0 a ha hx => h h0 a ha (hs _ hx)

structure RdX (w : World) (X : Nat → Prop) (k : Lk) (A : Option Addr) (c : Nat) (A' : Option Addr) (c' : Nat) : Prop where
  rd : Rd w k A c A' c'
  ha : Av X A k.holders.length
  wa : Av X A' k.waiting.length
theorem RdX.stay {w w' : World} {X : Nat → Prop} {k : Lk} {A A' : Option Addr} {c c' : Nat} (h : RdX w X k A c A' c') (hs : Stay X w w') : RdX w' X k A c A' c' :=
  ⟨⟨h.rd.hs.beside hs h.ha hs.size, h.rd.ws.beside hs h.wa hs.size⟩, h.ha, h.wa⟩
theorem RdX.only {w w' : World} {X : Nat → Prop} {k : Lk} {A A' : Option Addr} {c c' : Nat} (h : RdX w X k A c A' c') (hs : Only w w') : RdX w' X k A c A' c' := ⟨h.rd.only hs, h.ha, h.wa⟩
theorem RdX.more {w : World} {X Y : Nat → Prop} {k : Lk} {A A' : Option Addr} {c c' : Nat} (h : RdX w X k A c A' c') (hY : ∀ b, Y b → w.heap.size ≤ b) : RdX w (fun b => X b ∨ Y b) k A c A' c' :=
  ⟨h.rd, h.ha.or (h.rd.hs.av hY), h.wa.or (h.rd.ws.av hY)⟩
theorem RdX.sub {w : World} {X Y : Nat → Prop} {k : Lk} {A A' : Option Addr} {c c' : Nat} (h : RdX w X k A c A' c') (hY : ∀ b, Y b → X b) : RdX w Y k A c A' c' := ⟨h.rd, h.ha.sub hY, h.wa.sub hY⟩

/-- Readable states beside X. -/
def StsX (w : World) (X : Nat → Prop) (A : Option Addr) (n c : Nat) (ks : List Lk) : Prop :=
  ∃ vs : List (Value × Value), vs.length = ks.length ∧ n = ks.length ∧ Sl w w.heap.size A n c 4 ((ks.zip vs).flatMap scell) ∧ Av X A n ∧
    ∀ (i : Nat) k hv wv, ks[i]? = some k → vs[i]? = some (hv, wv) → ∃ A c A' c', hv = .slice A k.holders.length c ∧ wv = .slice A' k.waiting.length c' ∧ RdX w X k A c A' c'
theorem StsX.rd {w : World} {X : Nat → Prop} {A : Option Addr} {n c : Nat} {ks : List Lk} (h : StsX w X A n c ks) : StsR w A n c ks := by
  obtain ⟨vs, h1, h2, h3, _, h4⟩ := h
  refine ⟨vs, h1, h2, h3, fun i k hv wv hk hv' => ?_⟩
  obtain ⟨a1, a2, a3, a4, e1, e2, h5⟩ := h4 i k hv wv hk hv'
  exact ⟨a1, a2, a3, a4, e1, e2, h5.rd⟩
theorem StsX.stay {w w' : World} {X : Nat → Prop} {A : Option Addr} {n c : Nat} {ks : List Lk} (h : StsX w X A n c ks) (hs : Stay X w w') : StsX w' X A n c ks := by
  obtain ⟨vs, h1, h2, h3, h0, h4⟩ := h
  refine ⟨vs, h1, h2, h3.beside hs h0 hs.size, h0, fun i k hv wv hk hv' => ?_⟩
  obtain ⟨a1, a2, a3, a4, e1, e2, h5⟩ := h4 i k hv wv hk hv'
  exact ⟨a1, a2, a3, a4, e1, e2, h5.stay hs⟩
theorem StsX.only {w w' : World} {X : Nat → Prop} {A : Option Addr} {n c : Nat} {ks : List Lk} (h : StsX w X A n c ks) (hs : Only w w') : StsX w' X A n c ks := h.stay (hs.mono (fun _ _ h => h.elim))
theorem StsX.more {w : World} {X Y : Nat → Prop} {A : Option Addr} {n c : Nat} {ks : List Lk} (h : StsX w X A n c ks) (hY : ∀ b, Y b → w.heap.size ≤ b) : StsX w (fun b => X b ∨ Y b) A n c ks := by
  obtain ⟨vs, h1, h2, h3, h0, h4⟩ := h
  refine ⟨vs, h1, h2, h3, h0.or (h3.av hY), fun i k hv wv hk hv' => ?_⟩
  obtain ⟨a1, a2, a3, a4, e1, e2, h5⟩ := h4 i k hv wv hk hv'
  exact ⟨a1, a2, a3, a4, e1, e2, h5.more hY⟩
theorem StsX.sub {w : World} {X Y : Nat → Prop} {A : Option Addr} {n c : Nat} {ks : List Lk} (h : StsX w X A n c ks) (hY : ∀ b, Y b → X b) : StsX w Y A n c ks := by
  obtain ⟨vs, h1, h2, h3, h0, h4⟩ := h
  refine ⟨vs, h1, h2, h3, h0.sub hY, fun i k hv wv hk hv' => ?_⟩
  obtain ⟨a1, a2, a3, a4, e1, e2, h5⟩ := h4 i k hv wv hk hv'
  exact ⟨a1, a2, a3, a4, e1, e2, h5.sub hY⟩
/-- One of them. -/
theorem StsX.elem {w : World} {X : Nat → Prop} {A : Option Addr} {n c i : Nat} {ks : List Lk} {k : Lk} (h : StsX w X A n c ks) (hi : ks[i]? = some k) :
    ∃ b off A1 c1 A2 c2, A = some ⟨b, off, none⟩ ∧ b < w.heap.size ∧ (∀ j u, (stc k A1 c1 A2 c2)[j]? = some u → w.cell? ⟨b, off + i * 4 + j, none⟩ = some u) ∧ RdX w X k A1 c1 A2 c2 := by
  obtain ⟨vs, h1, h2, h3, _, h4⟩ := h
  have hil := (List.getElem?_eq_some_iff.1 hi).1
  obtain ⟨⟨hv, wv⟩, hvw⟩ : ∃ x, vs[i]? = some x := ⟨_, List.getElem?_eq_getElem (by omega)⟩
  obtain ⟨A1, c1, A2, c2, rfl, rfl, hr⟩ := h4 i k hv wv hi hvw
  have hz : (ks.zip vs)[i]? = some (k, .slice A1 k.holders.length c1, .slice A2 k.waiting.length c2) := by rw [List.getElem?_zip_eq_some]; exact ⟨hi, hvw⟩
  obtain ⟨b, off, e, hb, hc⟩ := h3.elem scell_length hz (by omega)
  exact ⟨b, off, A1, c1, A2, c2, e, hb, hc, hr⟩

set_option maxRecDepth 100000 in
set_option maxHeartbeats 4000000 in
theorem with_anyX (w : World) (X : Nat → Prop) (A : Option Addr) (c : Nat) (ks : List Lk) (lock : Int) (i : Nat) (k' : Lk) (A1 : Option Addr) (c1 : Nat) (A2 : Option Addr) (c2 : Nat) (h : StsX w X A ks.length c ks) (hX : ∀ b, X b → b < w.heap.size) (hi : i < ks.length) (hli : lock - 1 = (i : Int)) (hr : RdX w X k' A1 c1 A2 c2) (hn : ks.length ≤ 16) :
    Calls Try.prog 64 #[tv A ks.length c, .int .i64 lock, stv k' A1 c1 A2 c2] w fun e w' => ∃ A' c', e = .returned (tv A' ks.length c') ∧ StsX w' X A' ks.length c' (ks.set i k') ∧ Only w w' := by
  obtain ⟨_, b1, b2⟩ := h.rd.bounds
  obtain ⟨il, hil0, hil1, hil2, hil3⟩ := info_parts infoL
  obtain ⟨vs, hvl, _, hsl, hav, hvs⟩ := h
  have hvr : ∀ (i : Nat) k hv wv, ks[i]? = some k → vs[i]? = some (hv, wv) → ∃ A c A' c', hv = .slice A k.holders.length c ∧ wv = .slice A' k.waiting.length c' ∧ Rd w k A c A' c' := fun i k hv wv hk hv' => by
    obtain ⟨a1, a2, a3, a4, e1, e2, h5⟩ := hvs i k hv wv hk hv'
    exact ⟨a1, a2, a3, a4, e1, e2, h5.rd⟩
  obtain ⟨xb, xo, rfl, hxb, hxc⟩ := hsl.2.2.2.2 (by omega)
  have hO0 : Only w (((w.alloc (.cells #[.slice (some ⟨xb, xo, none⟩) ks.length c] 57)).alloc (.cells (stc k' A1 c1 A2 c2).toArray 42)).alloc (.cells #[.slice none 0 0] 57)) := (((Stay.refl _ w).alloc _).alloc _).alloc _
  have BS := Lib.hid (Stay.blk (S := fun _ => False) ((Stay.refl _ _).alloc (.cells #[.slice none 0 0] 57)) (Blk.newAt (w.alloc (.cells #[.slice (some ⟨xb, xo, none⟩) ks.length c] 57)) (stc k' A1 c1 A2 c2) 42 (w.heap.size + 1) (by simp)) id)
  have BR := Lib.hid (Blk.newAt ((w.alloc (.cells #[.slice (some ⟨xb, xo, none⟩) ks.length c] 57)).alloc (.cells (stc k' A1 c1 A2 c2).toArray 42)) [.slice none 0 0] 57 (w.heap.size + 2) (by simp))
  have HO := Lib.hid hO0
  have hnl : ((ks.zip vs).flatMap scell).length = ks.length * 4 := by rw [flat_len _ _ scell_length]; simp [hvl]
  have HN := Lib.hid (And.intro hnl (And.intro (scell_one hvl hvr) (And.intro (show ∀ j u, ((ks.zip vs).flatMap scell)[j]? = some u → (((w.alloc (.cells #[.slice (some ⟨xb, xo, none⟩) ks.length c] 57)).alloc (.cells (stc k' A1 c1 A2 c2).toArray 42)).alloc (.cells #[.slice none 0 0] 57)).cell? ((⟨xb, xo, none⟩ : Addr).add j) = some u from fun j u hu => by rw [Addr.add_lit]; exact hO0.cell (hxc j u hu)) (And.intro hvl (And.intro hvs (And.intro hr hX))))))
  clear hO0 hnl hxc hsl hvs hvl hvr hav hr hX
  unfold tv stv
  go_enter Try.func64, Try.ntmps64
  go_upto_region 3 with (at_builtin; refine wpList_append_lies _ rfl _ _ _ rfl w.heap.size 42 il _ 4 64 Try.underlying38 hil0 hil1 hil2 hil3 rfl (by omega) _ 0 [] (by rfl) (World.ownsRow_nil _ _ _ _) ⟨xb, xo, none⟩ ks.length c ((ks.zip vs).flatMap scell) (by rfl) HN.out.1 HN.out.2.2.1 HN.out.2.1 (by omega) (by simp only [maxLen]; omega) (by omega) (by simp; omega) (w.heap.size + 3) (by simp) ?_; intro g cap w3 hown hgrow hat hlt2; rw [Nat.zero_add] at hown ⊢; rw [List.nil_append] at hown)
  have hg : g = w.heap.size + 3 := by rcases hat with h | h; (simp [Value.ownBlock] at h); exact h
  have st := grown_stay hgrow
  have hs0 : Only (((w.alloc (.cells #[.slice (some ⟨xb, xo, none⟩) ks.length c] 57)).alloc (.cells (stc k' A1 c1 A2 c2).toArray 42)).alloc (.cells #[.slice none 0 0] 57)) w3 := st.mono (fun j _ h => by simp [Value.ownBlock] at h)
  have bs := hs0.blk BS.out
  have br := hs0.blk BR.out
  have s1 := bs.cell
  have s2 := bs.lt
  have r1 := br.cell
  have r2 := br.free
  have r3 := br.lt
  unfold stc at s1
  have hj : ∀ j, j < 4 → i * 4 + j < ks.length * 4 := fun j hj => by omega
  have z0 := hown.cellAt (i * 4) (by have := hj 0 (by omega); omega)
  have z1 := hown.cellAt (i * 4 + 1) (by have := hj 1 (by omega); omega)
  have z2 := hown.cellAt (i * 4 + 2) (by have := hj 2 (by omega); omega)
  have z3 := hown.cellAt (i * 4 + 3) (by have := hj 3 (by omega); omega)
  have e : ∀ j, j < ks.length * 4 → ∃ u, ((ks.zip vs).flatMap scell)[j]? = some u := fun j hj => ⟨_, List.getElem?_eq_getElem (by rw [HN.out.1]; exact hj)⟩
  obtain ⟨u0, e0⟩ := e (i * 4) (by omega)
  obtain ⟨u1, e1⟩ := e (i * 4 + 1) (by omega)
  obtain ⟨u2, e2⟩ := e (i * 4 + 2) (by omega)
  obtain ⟨u3, e3⟩ := e (i * 4 + 3) (by omega)
  rw [e0] at z0
  rw [e1] at z1
  rw [e2] at z2
  rw [e3] at z3
  have fz := hown.frozenAt
  have g1 : g ≠ w.heap.size + 2 := by omega
  have HG := Lib.hid (And.intro hown (And.intro hs0 hg))
  clear hown hgrow hat st hs0 hj bs br e0 e1 e2 e3 e hg
  go_wp2_with fail
  have hO3 : Only w w3 := HO.out.trans' HG.out.2.1
  refine bodyPost_ret (v := tv (some ⟨g, 0, none⟩) ks.length cap) (by simp [results, Try.results64, go_sem, tv, r1]) rfl ?_
  have fin : ∀ W, W = (((((w3.setCell ⟨g, i * 4, none⟩ (.int .i64 k'.permits)).setCell ⟨g, i * 4 + 1, none⟩ (.int .i64 k'.free)).setCell ⟨g, i * 4 + 2, none⟩ (.slice A1 k'.holders.length c1)).setCell ⟨g, i * 4 + 3, none⟩ (.slice A2 k'.waiting.length c2)).setCell ⟨w.heap.size + 1 + 1, 0, none⟩ (.slice (some ⟨g, 0, none⟩) ks.length cap)) →
      ∃ A' c', Ending.returned (tv (some ⟨g, 0, none⟩) ks.length cap) = Ending.returned (.agg #[.slice A' ks.length c']) ∧ StsX W X A' ks.length c' (ks.set i k') ∧ Only w W := by
    rintro W rfl
    have hgs : w.heap.size ≤ g := by have := HG.out.2.2; omega
    have hOW : Only w (((((w3.setCell ⟨g, i * 4, none⟩ (.int .i64 k'.permits)).setCell ⟨g, i * 4 + 1, none⟩ (.int .i64 k'.free)).setCell ⟨g, i * 4 + 2, none⟩ (.slice A1 k'.holders.length c1)).setCell ⟨g, i * 4 + 3, none⟩ (.slice A2 k'.waiting.length c2)).setCell ⟨w.heap.size + 1 + 1, 0, none⟩ (.slice (some ⟨g, 0, none⟩) ks.length cap)) :=
      Mine.stay ((((((Mine.only hO3).put hgs _ _).put hgs _ _).put hgs _ _).put hgs _ _).put (by omega) _ _)
    obtain ⟨_, _, _, hvl, hvs, hr, hX⟩ := HN.out
    have own4 := ((((HG.out.1).stored (i * 4) (.int .i64 k'.permits)).1.stored (i * 4 + 1) (.int .i64 k'.free)).1.stored (i * 4 + 2) (.slice A1 k'.holders.length c1)).1.stored (i * 4 + 3) (.slice A2 k'.waiting.length c2)
    have own := own_set own4.1 (A := ⟨w.heap.size + 1 + 1, 0, none⟩) (.slice (some ⟨g, 0, none⟩) ks.length cap) (fun g' hg' => by
      have e : g = g' := by simpa [Value.ownBlock] using hg'
      subst e
      exact g1)
    rw [flat_set4 scell scell_length (k', (.slice A1 k'.holders.length c1, .slice A2 k'.waiting.length c2)) _ _ _ _ rfl (ks.zip vs) i (by simp [hvl]; omega), ← zip_set] at own
    refine ⟨_, _, rfl, ⟨vs.set i (.slice A1 k'.holders.length c1, .slice A2 k'.waiting.length c2), by simp [hvl], by simp, own_sl' own, (fun _ a ha hx => by cases ha; have := hX _ hx; simp at this; omega), fun j k hv wv hk hv' => ?_⟩, hOW⟩
    rw [List.getElem?_set] at hk hv'
    split at hk
    · rename_i e
      subst e
      simp only [if_true, hvl, hi] at hk hv'
      cases hk
      cases hv'
      exact ⟨_, _, _, _, rfl, rfl, hr.only hOW⟩
    · rename_i e
      rw [if_neg e] at hv'
      obtain ⟨a1, a2, a3, a4, e1, e2, h3⟩ := hvs j k hv wv hk hv'
      exact ⟨a1, a2, a3, a4, e1, e2, h3.only hOW⟩
  exact fin _ rfl

end Go.Proofs.Ytfifdgigeecfbaa
