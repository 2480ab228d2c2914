/- The reference's first, Waits, without, values. -/
import Derived.Test.YtfmkdkpgehkfaaaSame
import Derived.Test.YtfmkdkpgehkfaaaWakesPure
import Derived.Deep.AppendLies
set_option linter.unusedVariables false
set_option linter.unusedSimpArgs false
namespace Go.Proofs.Ytfmkdkpgehkfaaa
open Go Go.RowKit

theorem takeW_at {p : Wt → Bool} {l : List Wt} {k : Nat} {y : Wt} (h : l[k]? = some y) (hp : p y = true) (hpre : ∀ z ∈ l.take k, p z = false) : takeW p l = some (y, l.eraseIdx k) := by
  obtain ⟨hk, rfl⟩ := List.getElem?_eq_some_iff.1 h
  have e : l = l.take k ++ l[k] :: l.drop (k + 1) := by
    rw [← List.drop_eq_getElem_cons hk, List.take_append_drop]
  have e2 := takeW_skip (pr := p) (pre := l.take k) (suf := l[k] :: l.drop (k + 1)) hpre
  rw [← e] at e2
  rw [e2]
  unfold takeW
  rw [if_pos hp, List.eraseIdx_eq_take_drop_succ]
  rfl

set_option maxRecDepth 100000 in
set_option maxHeartbeats 4000000 in
theorem first_any (w : World) (x : Value) (c : Ch) (send : Bool) (hx : Rd w x c) :
    Calls Try.prog 46 #[x, .bool send] w fun e w' => (∃ i : Int, e = .returned (.int .i64 i) ∧ ((i = -1 ∧ takeW (fun y => y.send == send) c.ws = none) ∨ ∃ (k : Nat) (y : Wt), i = (k : Int) ∧ c.ws[k]? = some y ∧ takeW (fun y => y.send == send) c.ws = some (y, c.ws.eraseIdx k))) ∧ Only w w' := by
  obtain ⟨A, cp, A', cp', rfl, s1, s2⟩ := hx
  have b3 := s2.2.1
  have b4 := s2.2.2.1
  have HS := Lib.hid s2
  clear s1 s2
  go_enter Try.func46, Try.ntmps46
  go_wp2_with fail
  go_loopg [10] (c.ws.length) (fun k i wr => ∃ j : Nat, j ≤ c.ws.length ∧ k = c.ws.length - j ∧ i = .int .i64 (j : Nat) ∧ Only w wr ∧ ∀ z ∈ c.ws.take j, (z.send == send) = false)
  case atStart => exact ⟨0, Nat.zero_le _, rfl, rfl, (Stay.refl _ w).alloc _, by simp⟩
  case round =>
    obtain ⟨j, hj, hk, rfl, hO, hpre⟩ := hrel
    by_cases hlt : j < c.ws.length
    · obtain ⟨y, hy⟩ : ∃ y, c.ws[j]? = some y := ⟨_, List.getElem?_eq_getElem hlt⟩
      obtain ⟨xb, xo, rfl, hxb, hxc⟩ := (HS.out.only hO).elem Wt.cells_length hy (by omega)
      have e0 := hxc 0 _ rfl
      simp only [Nat.add_zero] at e0
      have e1 := hxc 1 _ rfl
      have e2 := hxc 2 _ rfl
      have e3 := hxc 3 _ rfl
      have e4 := hxc 4 _ rfl
      have hxb' : xb < wr.heap.size := Nat.lt_of_lt_of_le hxb hO.size
      have HX := Lib.hid (And.intro hO (And.intro hk (And.intro hpre hy)))
      clear hO hk hpre hy hxc
      cases hp : (y.send == send) with
      | true =>
        have HP := Lib.hid hp
        go_wp2_with fail
        go_ret
        exact ⟨⟨j, rfl, .inr ⟨j, y, rfl, HX.out.2.2.2, takeW_at HX.out.2.2.2 HP.out HX.out.2.2.1⟩⟩, HX.out.1.trans' (show Only wr _ from (Stay.refl (fun _ => False) wr).alloc _)⟩
      | false =>
        have HP := Lib.hid hp
        go_wp2_with fail
        go_roundg (c.ws.length - (j + 1))
        case measure => have := HX.out.2.1; omega
        case rel => exact ⟨j + 1, hlt, rfl, rfl, HX.out.1.trans' (show Only wr _ from (Stay.refl (fun _ => False) wr).alloc _), fun z hz => by
          rw [List.take_add_one, HX.out.2.2.2] at hz
          rcases List.mem_append.1 hz with hz | hz
          · exact HX.out.2.2.1 z hz
          · simp at hz
            rw [hz]
            exact HP.out⟩
    · have hje : j = c.ws.length := by omega
      have HX := Lib.hid (And.intro hO (And.intro hpre hje))
      clear hO hk hpre hje
      go_wp2_with fail
      go_ret
      refine ⟨⟨-1, rfl, .inl ⟨rfl, takeW_none_of fun z hz => HX.out.2.1 z ?_⟩⟩, HX.out.1⟩
      rw [HX.out.2.2, List.take_length]
      exact hz

set_option maxRecDepth 100000 in
set_option maxHeartbeats 4000000 in
theorem waits_any (w : World) (x : Value) (c : Ch) (t : Int) (hx : Rd w x c) :
    Calls Try.prog 49 #[x, .int .i64 t] w fun e w' => e = .returned (.bool (c.ws.any (fun y => y.t == t))) ∧ Only w w' := by
  obtain ⟨A, cp, A', cp', rfl, s1, s2⟩ := hx
  have b3 := s2.2.1
  have b4 := s2.2.2.1
  have HS := Lib.hid s2
  clear s1 s2
  go_enter Try.func49, Try.ntmps49
  go_wp2_with fail
  go_loopg [10] (c.ws.length) (fun k i wr => ∃ j : Nat, j ≤ c.ws.length ∧ k = c.ws.length - j ∧ i = .int .i64 (j : Nat) ∧ Only w wr ∧ ∀ z ∈ c.ws.take j, (z.t == t) = false)
  case atStart => exact ⟨0, Nat.zero_le _, rfl, rfl, (Stay.refl _ w).alloc _, by simp⟩
  case round =>
    obtain ⟨j, hj, hk, rfl, hO, hpre⟩ := hrel
    by_cases hlt : j < c.ws.length
    · obtain ⟨y, hy⟩ : ∃ y, c.ws[j]? = some y := ⟨_, List.getElem?_eq_getElem hlt⟩
      obtain ⟨xb, xo, rfl, hxb, hxc⟩ := (HS.out.only hO).elem Wt.cells_length hy (by omega)
      have e0 := hxc 0 _ rfl
      simp only [Nat.add_zero] at e0
      have e1 := hxc 1 _ rfl
      have e2 := hxc 2 _ rfl
      have e3 := hxc 3 _ rfl
      have e4 := hxc 4 _ rfl
      have hxb' : xb < wr.heap.size := Nat.lt_of_lt_of_le hxb hO.size
      have HX := Lib.hid (And.intro hO (And.intro hk (And.intro hpre hy)))
      clear hO hk hpre hy hxc
      cases hp : (y.t == t) with
      | true =>
        have HP := Lib.hid hp
        have HA : Hid (c.ws.any (fun y => y.t == t) = true) := List.any_eq_true.2 ⟨y, List.mem_of_getElem? HX.out.2.2.2, hp⟩
        go_wp2_with fail
        go_ret
        exact ⟨by rw [HA.out]; rfl, HX.out.1.trans' (show Only wr _ from (Stay.refl (fun _ => False) wr).alloc _)⟩
      | false =>
        have HP := Lib.hid hp
        go_wp2_with fail
        go_roundg (c.ws.length - (j + 1))
        case measure => have := HX.out.2.1; omega
        case rel => exact ⟨j + 1, hlt, rfl, rfl, HX.out.1.trans' (show Only wr _ from (Stay.refl (fun _ => False) wr).alloc _), fun z hz => by
          rw [List.take_add_one, HX.out.2.2.2] at hz
          rcases List.mem_append.1 hz with hz | hz
          · exact HX.out.2.2.1 z hz
          · simp at hz
            rw [hz]
            exact HP.out⟩
    · have hje : j = c.ws.length := by omega
      have HX := Lib.hid (And.intro hO (And.intro hpre hje))
      clear hO hk hpre hje
      have HA : Hid (c.ws.any (fun y => y.t == t) = false) := List.any_eq_false.2 fun z hz => by
        have := HX.out.2.1 z (by rw [HX.out.2.2, List.take_length]; exact hz)
        simp [this]
      go_wp2_with fail
      go_ret
      exact ⟨by rw [HA.out]; rfl, HX.out.1⟩

theorem heap_at (w : World) (o : Obj) (k : Nat) (hk : k = w.heap.size) : (w.alloc o).heap[k]? = some o := by
  subst hk
  exact heap_alloc_new w o

theorem erase_take {l : List Wt} {j k : Nat} {y : Wt} (hy : l[j]? = some y) (hne : j ≠ k) : (l.take (j + 1)).eraseIdx k = (l.take j).eraseIdx k ++ [y] := by
  obtain ⟨hj, rfl⟩ := List.getElem?_eq_some_iff.1 hy
  rw [List.take_succ_eq_append_getElem hj]
  by_cases h : k < j
  · rw [List.eraseIdx_append_of_lt_length (by simp; omega)]
  · rw [List.eraseIdx_of_length_le (by simp; omega), List.eraseIdx_of_length_le (by simp; omega)]
theorem erase_same {l : List Wt} {j : Nat} {y : Wt} (hy : l[j]? = some y) : (l.take (j + 1)).eraseIdx j = (l.take j).eraseIdx j := by
  obtain ⟨hj, rfl⟩ := List.getElem?_eq_some_iff.1 hy
  rw [List.take_succ_eq_append_getElem hj, List.eraseIdx_append_of_length_le (by simp; omega), List.eraseIdx_of_length_le (l := l.take j) (by simp; omega)]
  have e : j - (l.take j).length = 0 := by simp; omega
  rw [e]
  simp

set_option maxRecDepth 100000 in
set_option maxHeartbeats 4000000 in
theorem without_any (w : World) (A : Option Addr) (cp : Nat) (l : List Wt) (at_ : Nat) (hs : Sl w w.heap.size A l.length cp 5 (l.flatMap Wt.cells)) (h200 : l.length ≤ 200) :
    Calls Try.prog 47 #[.slice A l.length cp, .int .i64 (at_ : Nat)] w fun e w' => (∃ A' cp', e = .returned (.slice A' (l.eraseIdx at_).length cp') ∧ Sl w' w'.heap.size A' (l.eraseIdx at_).length cp' 5 ((l.eraseIdx at_).flatMap Wt.cells) ∧ ∀ a, A' = some a → w.heap.size ≤ a.block) ∧ Only w w' := by
  have b3 := hs.2.1
  have b4 := hs.2.2.1
  have HS := Lib.hid hs
  clear hs
  obtain ⟨iw, hiw0, hiw1, hiw2, hiw3⟩ := info_parts infoW
  go_enter Try.func47, Try.ntmps47
  go_wp2_with fail
  go_loopg [5, 10] (l.length) (fun k v i wr => ∃ (j : Nat) (A' : Option Addr) (cp' : Nat), j ≤ l.length ∧ k = l.length - j ∧ i = .int .i64 (j : Nat) ∧ v = .slice A' ((l.take j).eraseIdx at_).length cp' ∧ Only w wr ∧ wr.ownsRow w.heap.size 46 5 v ((l.take j).eraseIdx at_).length (((l.take j).eraseIdx at_).flatMap Wt.cells))
  case atStart => exact ⟨0, none, 0, Nat.zero_le _, rfl, rfl, by simp, Stay.refl _ w, by simpa using World.ownsRow_nil _ _ _ _⟩
  case round =>
    obtain ⟨j, A', cp', hj, hk, rfl, rfl, hO, hown⟩ := hrel
    by_cases hlt : j < l.length
    · obtain ⟨y, hy⟩ : ∃ y, l[j]? = some y := ⟨_, List.getElem?_eq_getElem hlt⟩
      obtain ⟨xb, xo, rfl, hxb, hxc⟩ := (HS.out.only hO).elem Wt.cells_length hy (by omega)
      have e0 := hxc 0 _ rfl
      simp only [Nat.add_zero] at e0
      have e1 := hxc 1 _ rfl
      have e2 := hxc 2 _ rfl
      have e3 := hxc 3 _ rfl
      have e4 := hxc 4 _ rfl
      have hxb' : xb < wr.heap.size := Nat.lt_of_lt_of_le hxb hO.size
      have hL : ((l.take j).eraseIdx at_).length ≤ 200 := by
        have := List.length_eraseIdx_le (l.take j) at_
        simp at this ⊢
        omega
      obtain ⟨acc, hacc⟩ : ∃ acc, (l.take j).eraseIdx at_ = acc := ⟨_, rfl⟩
      rw [hacc] at hown hL ⊢
      have HX := Lib.hid (And.intro hO (And.intro hk (And.intro hown (And.intro hy hacc))))
      clear hO hk hown hy hxc hacc
      by_cases hne : j = at_
      · have hb : ((j : Int) != (at_ : Int)) = false := by simp [hne]
        have HN := Lib.hid hne
        clear hne
        go_wp2_with fail
        go_roundg (l.length - (j + 1))
        case measure => have := HX.out.2.1; omega
        case rel =>
          have hn := HN.out
          subst hn
          have es : (l.take (j + 1)).eraseIdx j = acc := (erase_same HX.out.2.2.2.1).trans HX.out.2.2.2.2
          exact ⟨j + 1, A', cp', hlt, rfl, rfl, by rw [es], HX.out.1.trans' (show Only wr _ from (Stay.refl (fun _ => False) wr).alloc _), by
            rw [es]
            exact own_only ((Stay.refl _ wr).alloc _) HX.out.2.2.1⟩
      · have hb : ((j : Int) != (at_ : Int)) = true := by simp; omega
        have HN := Lib.hid hne
        clear hne
        go_wp2_with (at_builtin; refine wpList_append_lies _ rfl _ _ _ rfl w.heap.size 46 iw _ 5 48 Try.underlying34 hiw0 hiw1 hiw2 hiw3 rfl (by omega) _ acc.length _ (by rfl) (own_only (((Stay.refl (fun _ => False) wr).alloc _).alloc _) HX.out.2.2.1) ⟨wr.heap.size + 1, 0, none⟩ 1 1 y.cells (by rfl) (by rfl) (World.news_of_block (cs := y.cells.toArray) (t := 46) (fr := (0, 0)) (heap_at _ _ _ (by simp))) (by simp [Wt.cells, Value.oneCell']) (by omega) (by simp only [maxLen]; omega) (by omega) (by have := HX.out.1.size; simp; omega) (wr.heap.size + 2) (by simp) ?_; intro gg cap w1 hown1 hgrow hat hlt1)
        go_roundg (l.length - (j + 1))
        case measure => have := HX.out.2.1; omega
        case rel =>
          have hO1 : Only w w1 := Mine.stay (Mine.trans (Mine.only HX.out.1) (Mine.grown (((Stay.refl _ wr).alloc _).alloc _) HX.out.2.2.1 (Nat.le_refl _) hgrow))
          exact ⟨j + 1, some ⟨gg, 0, none⟩, cap, hlt, rfl, rfl, by rw [erase_take HX.out.2.2.2.1 HN.out, HX.out.2.2.2.2]; simp, hO1, by
            rw [erase_take HX.out.2.2.2.1 HN.out, HX.out.2.2.2.2]
            simpa using hown1⟩
    · have hje : j = l.length := by omega
      have HX := Lib.hid (And.intro hO (And.intro hown hje))
      clear hO hk hown hje
      go_wp2_with fail
      go_ret
      have := HX.out.2.1
      rw [HX.out.2.2, List.take_length] at this
      refine ⟨⟨A', cp', by rw [HX.out.2.2, List.take_length]; rfl, own_sl this (flat_len _ _ Wt.cells_length _), fun a ha => by subst ha; exact (this.lt _ rfl).1⟩, HX.out.1⟩

end Go.Proofs.Ytfmkdkpgehkfaaa
