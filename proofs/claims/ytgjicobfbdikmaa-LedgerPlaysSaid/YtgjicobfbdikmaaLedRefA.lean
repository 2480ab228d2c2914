/- The reference's ledger in memory: held, Task, What. -/
import Derived.Test.YtgjicobfbdikmaaLedRefPure
import Derived.Test.YtgjicobfbdikmaaLedHeld
import Derived.Test.YtgjicobfbdikmaaAppZero
set_option linter.unusedVariables false
set_option linter.unusedSimpArgs false
namespace Go.Proofs.Ytgjicobfbdikmaa
open Go Go.RowKit

/-- Append of what a slice reads, none or some. -/
theorem wpList_append_sl {P : Program} (w : World) {ops : Array Oper} {rest : List Oper} {o : Oper} {a : Act} {Q : Exit → Act → World → Prop} (hgd : o.guard = none) (s x : Operand) (t : TypeId)
    (ho : o.op = .call { callee := .builtin .append, args := #[s, x], argTypes := #[t, t] })
    (base : Nat) (e : TypeId) (i : TypeInfo) (z : Value) (size bytes : Nat) (ht : P.underlying t = some (.slice e)) (hi : P.info? e = some i) (hz : i.zero = some z)
    (hsize : i.size = size) (hby : i.bytes = bytes) (hzs : z.cells.size = size) (hsz : 0 < size)
    (v : Value) (n : Nat) (xs : List Value) (hs : a.eval s = v) (hown : w.ownsRow base e size v n xs)
    (B : Nat) (A : Option Addr) (m c : Nat) (news : List Value) (hx : a.eval x = .slice A m c) (hS : Sl w B A m c size news) (h1 : ∀ u ∈ news, u.oneCell' = true)
    (h63 : n + m ≤ maxLen) (hbytes : (n + m) * bytes ≤ 140737488355328) (hbase : base ≤ w.heap.size)
    (h : ∀ A' c' w', w'.ownsRow base e size (.slice A' (n + m) c') (n + m) (xs ++ news) → Stay (fun k => v.ownBlock = some k) w w' → (∀ g, (Value.slice A' (n + m) c').ownBlock = some g → v.ownBlock = some g ∨ w.heap.size ≤ g) → wpList P ops Q rest (a.put o.dst (.slice A' (n + m) c')) w') : wpList P ops Q (o :: rest) a w := by
  by_cases hm : 0 < m
  · obtain ⟨b, off, rfl, hb, hc⟩ := hS.2.2.2.2 hm
    refine wpList_append_lies w hgd s x t ho base e i z size bytes ht hi hz hsize hby hzs hsz v n xs hs hown ⟨b, off, none⟩ m c news hx hS.1 (fun j u hu => ?_) h1 hm h63 hbytes hbase _ rfl (fun g cap w' k1 k2 k3 _ => h _ _ _ k1 (grown_stay k2) (fun g' hg' => ?_))
    · have hadd : (⟨b, off, none⟩ : Addr).add j = ⟨b, off + j, none⟩ := by unfold Addr.add; split <;> simp_all
      rw [hadd]
      exact hc j u hu
    · have e : g = g' := by simpa [Value.ownBlock] using hg'
      subst e
      rcases k3 with k3 | k3
      · exact .inl k3
      · exact .inr (by omega)
  · obtain rfl : m = 0 := by omega
    have hn : news = [] := List.eq_nil_of_length_eq_zero (by have := hS.1; omega)
    subst hn
    obtain ⟨A0, c0, rfl⟩ := own_shape hown
    refine wpList_append_zero hgd s x t ho base e i size ht hi _ n xs hs hown A c hx ?_
    exact h A0 c0 w (by simpa using hown) (Stay.refl _ _) (fun g hg => .inl hg)

theorem infoB : (Try.prog.info? 4).map (fun i => (i.zero, i.size, i.bytes)) = some (some (.bool false), 1, 1) := by kernel_rfl
abbrev bools (l : List Bool) : List Value := l.map .bool
structure RAt (w : World) (a b : Value) (R : RL) : Prop where
  er : w.ownsRow 0 36 4 a R.es.length (R.es.flatMap Ent.cells)
  br : w.ownsRow 0 4 1 b R.lkd.length (bools R.lkd)
theorem RAt.only {w w' : World} {a b : Value} {R : RL} (h : RAt w a b R) (ho : Only w w') : RAt w' a b R := ⟨own_only ho h.er, own_only ho h.br⟩
theorem RAt.stay {w w' : World} {X : Nat → Prop} {a b : Value} {R : RL} (h : RAt w a b R) (hx : Stay X w w') (ha : ∀ g, a.ownBlock = some g → ¬ X g) (hb : ∀ g, b.ownBlock = some g → ¬ X g) : RAt w' a b R := ⟨own_stay hx h.er ha, own_stay hx h.br hb⟩
/-- The ledger behind a call of the reference: its rows are the old ones, or new. -/
def RPost (w : World) (a b a' b' : Value) (R : RL) (w' : World) : Prop := RAt w' a' b' R ∧ Next w a a' ∧ Next w b b' ∧ Only w w'
theorem opn_take (t : Int) {es : List Ent} {i : Nat} {e : Ent} (h : es[i]? = some e) : opn t 0 (es.take (i + 1)) = opn t 0 (es.take i) ++ (if e.task = t ∧ e.to = 0 then [(i : Int)] else []) := by
  have hi := (List.getElem?_eq_some_iff.1 h).1
  rw [List.take_add_one, h, opn_append]
  simp only [Option.toList_some, opn, List.length_take, Nat.zero_add, List.append_nil]
  rw [Nat.min_eq_left (by omega)]
theorem opn_len (t : Int) : ∀ (es : List Ent) (i : Nat), (opn t i es).length ≤ es.length
  | [], i => by simp [opn]
  | e :: es, i => by
    have := opn_len t es (i + 1)
    simp only [opn, List.length_append, List.length_cons]
    split
    · simp; omega
    · simp; omega

set_option maxRecDepth 100000 in
set_option maxHeartbeats 2000000 in
theorem rtask_any (w : World) (t : Int) : Calls Try.prog 67 #[.int .i64 t] w fun e w' => e = .returned (.bool (decide (1 ≤ t ∧ t ≤ 64))) ∧ w' = w := by
  by_cases h1 : 1 ≤ t
  · by_cases h2 : t ≤ 64
    · rw [decide_eq_true ⟨h1, h2⟩]
      go_enter Try.func67, Try.ntmps67
      go_wp2_with fail
      go_ret
      exact ⟨rfl, rfl⟩
    · rw [decide_eq_false (fun h => h2 h.2)]
      go_enter Try.func67, Try.ntmps67
      go_wp2_with fail
      go_ret
      exact ⟨rfl, rfl⟩
  · rw [decide_eq_false (fun h => h1 h.1)]
    go_enter Try.func67, Try.ntmps67
    go_wp2_with fail
    go_ret
    exact ⟨rfl, rfl⟩
set_option maxRecDepth 100000 in
set_option maxHeartbeats 2000000 in
theorem rwhat_any (w : World) (t : Int) : Calls Try.prog 68 #[.int .i64 t] w fun e w' => e = .returned (.bool (decide (0 ≤ t ∧ t ≤ 999))) ∧ w' = w := by
  by_cases h1 : 0 ≤ t
  · by_cases h2 : t ≤ 999
    · rw [decide_eq_true ⟨h1, h2⟩]
      go_enter Try.func68, Try.ntmps68
      go_wp2_with fail
      go_ret
      exact ⟨rfl, rfl⟩
    · rw [decide_eq_false (fun h => h2 h.2)]
      go_enter Try.func68, Try.ntmps68
      go_wp2_with fail
      go_ret
      exact ⟨rfl, rfl⟩
  · rw [decide_eq_false (fun h => h1 h.1)]
    go_enter Try.func68, Try.ntmps68
    go_wp2_with fail
    go_ret
    exact ⟨rfl, rfl⟩

set_option maxRecDepth 100000 in
set_option maxHeartbeats 4000000 in
theorem rheld0_any (w : World) (a b : Value) (R : RL) (t : Int) (h : RAt w a b R) (hn : R.es.length ≤ 400) :
    Calls Try.prog 69 #[.agg #[a, b, .int .i64 R.time], .int .i64 t] w fun e w' => ∃ v, e = .returned v ∧ w'.ownsRow w.heap.size 3 1 v (opn t 0 R.es).length (ints (opn t 0 R.es)) ∧ Only w w' := by
  obtain ⟨ii, hii0, hii1, hii2, hii3⟩ := info_parts infoI
  obtain ⟨Aa, ca, rfl⟩ := own_shape h.er
  obtain ⟨Ab, cb, rfl⟩ := own_shape h.br
  have H := Lib.hid h
  clear h
  go_enter Try.func69, Try.ntmps69
  go_wp2_with fail
  go_loopg [5, 11] (R.es.length) (fun kk vt vi wr => ∃ (i : Nat), i ≤ R.es.length ∧ kk = R.es.length - i ∧ vi = .int .i64 (i : Nat) ∧ wr.ownsRow w.heap.size 3 1 vt (opn t 0 (R.es.take i)).length (ints (opn t 0 (R.es.take i))) ∧ Only w wr)
  case atStart => exact ⟨0, Nat.zero_le _, rfl, rfl, World.ownsRow_nil _ _ _ _, (Stay.refl _ w).alloc _⟩
  case round =>
    obtain ⟨i, hi, hk2, rfl, hr4, hO4⟩ := hrel
    obtain ⟨wz, rfl⟩ : ∃ wz : World, wz = wr := ⟨_, rfl⟩
    by_cases hlt2 : i < R.es.length
    · obtain ⟨x, hx⟩ : ∃ x, R.es[i]? = some x := ⟨_, List.getElem?_eq_getElem hlt2⟩
      obtain ⟨xb, xo, rfl, hxb, hxc⟩ := (own_sl H.out.er hO4).elem Ent.cells_length hx (by omega)
      have e0 := hxc 0 _ rfl
      have e1 := hxc 1 _ rfl
      have e2 := hxc 2 _ rfl
      have e3 := hxc 3 _ rfl
      have htk := opn_take t hx
      obtain ⟨xw, xt, xf, xe⟩ := x
      simp only [Nat.add_zero] at e0 e1 e2 e3
      simp only at htk
      have u1 : (0 : Int) ≤ (i : Int) := by omega
      have u2 : (i : Int) < (R.es.length : Int) := by omega
      have hz4 := hO4.size
      have ht8 : (opn t 0 (R.es.take i)).length ≤ 400 := by
        have := opn_len t (R.es.take i) 0
        rw [List.length_take] at this
        omega
      obtain ⟨tl, htl⟩ : ∃ tl, tl = opn t 0 (R.es.take i) := ⟨_, rfl⟩
      rw [← htl] at hr4 htk ht8
      obtain ⟨q, hq⟩ : ∃ q, q = tl.length := ⟨_, rfl⟩
      rw [← hq] at hr4 ht8
      obtain ⟨At, ct, rfl⟩ := own_shape hr4
      have HI := Lib.hid (And.intro hk2 (And.intro hO4 (And.intro hr4 (And.intro htk hq))))
      clear hxc hx hk2 hO4 hr4 htk htl hq
      by_cases h1 : xt = t
      · have b1 : (xt == t) = true := by simp [h1]
        by_cases h0 : xe = 0
        · have b0 : (xe == 0) = true := by simp [h0]
          have H0 := Lib.hid (And.intro h1 h0)
          clear h0 h1
          go_wp2_with (at_builtin; refine wpList_append_lies _ rfl _ _ _ rfl w.heap.size 3 ii _ 1 8 Try.underlying37 hii0 hii1 hii2 hii3 rfl (by omega) _ q _ (by rfl) (own_alloc (own_alloc HI.out.2.2.1 _) _) ⟨wz.heap.size + 1, 0, none⟩ 1 1 [.int .i64 (i : Int)] (by rfl) (by rfl) (World.news_of_block (cs := [Value.int .i64 (i : Int)].toArray) (t := 3) (fr := (0, 0)) (heap_alloc_at' _ _ _ (by simp))) (by simp [Value.oneCell']) (by omega) (by simp only [maxLen]; omega) (by omega) (by simp; omega) (wz.heap.size + 2) (by simp) ?_; intro g8 cap8 w8 hown hgrow hat hlt2; have HG8 := Lib.hid (And.intro hown (And.intro hgrow hat)); clear hown hgrow hat hlt2)
          have hx8 : Stay (fun j => (Value.slice At q ct).ownBlock = some j) wz w8 := (((Stay.refl _ wz).alloc _).alloc _).trans (grown_stay HG8.out.2.1) (fun _ _ h => h)
          go_roundg (R.es.length - (i + 1))
          case measure => have := HI.out.1; omega
          case rel =>
            refine ⟨i + 1, by omega, rfl, by go_num, ?_, HI.out.2.1.trans hx8 (fun k hk e => ?_)⟩
            · rw [HI.out.2.2.2.1, if_pos H0.out, List.length_append, ← HI.out.2.2.2.2]
              have := HG8.out.1
              simpa [ints] using this
            · have := (own_lt HI.out.2.2.1 k e).1
              omega
        · have b0 : (xe == 0) = false := by simp [h0]
          have H0 := Lib.hid h0
          clear h0 h1
          go_wp2_with fail
          go_roundg (R.es.length - (i + 1))
          case measure => have := HI.out.1; omega
          case rel =>
            refine ⟨i + 1, by omega, rfl, by go_num, ?_, HI.out.2.1.alloc _⟩
            rw [HI.out.2.2.2.1, if_neg (fun h => H0.out h.2), List.append_nil, ← HI.out.2.2.2.2]
            exact own_alloc HI.out.2.2.1 _
      · have b1 : (xt == t) = false := by simp [h1]
        have H0 := Lib.hid h1
        clear h1
        go_wp2_with fail
        go_roundg (R.es.length - (i + 1))
        case measure => have := HI.out.1; omega
        case rel =>
          refine ⟨i + 1, by omega, rfl, by go_num, ?_, HI.out.2.1.alloc _⟩
          rw [HI.out.2.2.2.1, if_neg (fun h => H0.out h.1), List.append_nil, ← HI.out.2.2.2.2]
          exact own_alloc HI.out.2.2.1 _
    · obtain rfl : i = R.es.length := by omega
      rw [List.take_length] at hr4
      have HI := Lib.hid (And.intro hO4 hr4)
      clear hk2 hO4 hr4
      go_wp2_with fail
      go_ret
      exact ⟨_, rfl, HI.out.2, HI.out.1⟩

end Go.Proofs.Ytgjicobfbdikmaa
