/- ChannelOrder: the walk. -/
import Derived.Test.YtfmkdkpgehkfaaaOwn
import Derived.Test.YtfmkdkpgehkfaaaOrderPure
import Derived.Test.YtfmkdkpgehkfaaaInts
import Derived.Deep.DeepCutAuto
import Derived.Deep.CutBlock
import Derived.Deep.RegionHeld3
import Derived.Deep.AppendLies
set_option linter.unusedVariables false
set_option linter.unusedSimpArgs false
namespace Go.Proofs.Ytfmkdkpgehkfaaa
open Go Go.RowKit

def bcell (x : Bool) : List Value := [.bool x]
theorem bcell_length (x : Bool) : (bcell x).length = 1 := rfl
theorem infoI : (Try.prog.info? 3).map (fun i => (i.zero, i.size, i.bytes)) = some (some (.int .i64 0), 1, 8) := by kernel_rfl

theorem sl_take {α : Type} {f : α → List Value} {w : World} {B : Nat} {A : Option Addr} {n cap : Nat} {xs : List α} (h : Sl w B A n cap 1 (xs.flatMap f)) (m : Nat) (hm : xs.length = n ∧ True ∨ m ≤ n) (hmn : m ≤ n) (hf : ∀ x, (f x).length = 1 := by intros; rfl) : Sl w B A m cap 1 ((xs.take m).flatMap f) := by
  have hl : (xs.flatMap f).length = n * 1 := h.1
  rw [flat_len f 1 hf] at hl
  refine ⟨by rw [flat_len f 1 hf]; simp; omega, Nat.le_trans hmn h.2.1, h.2.2.1, h.2.2.2.1, fun h0 => ?_⟩
  obtain ⟨b, off, e, hb, hc⟩ := h.2.2.2.2 (by omega)
  refine ⟨b, off, e, hb, fun j u hu => hc j u ?_⟩
  have hj : j < m := by
    have := (List.getElem?_eq_some_iff.1 hu).1
    rw [flat_len f 1 hf] at this
    simp at this
    omega
  have h1 : (xs.take m).flatMap f <+: xs.flatMap f := by
    have := List.take_append_drop m xs
    refine ⟨(xs.drop m).flatMap f, ?_⟩
    rw [← List.flatMap_append, this]
  obtain ⟨t, ht⟩ := h1
  rw [← ht, List.getElem?_append_left (List.getElem?_eq_some_iff.1 hu).1]
  exact hu

/-- What a use makes of it. -/
def Ch.use (c : Ch) (i : Int) (send : Bool) : Ch := if send then c.sends i else c.takes i

theorem own_apart {S : Nat → Prop} {a b : World} (h : Stay S a b) {base : Nat} {e : TypeId} {size n : Nat} {v : Value} {xs : List Value} (ho : a.ownsRow base e size v n xs) (hn : ∀ k, v.ownBlock = some k → ¬ S k) : b.ownsRow base e size v n xs := by
  refine ⟨ho.1, ?_⟩
  rcases ho.2 with h0 | ⟨g, cap, cur, rfl, hb, hg, rest⟩
  · exact .inl h0
  · exact .inr ⟨g, cap, cur, rfl, hb, by rw [h.block g (lt_of_block hg) (hn g rfl)]; exact hg, rest⟩

/-- The channel of a user, the numbers sent, the numbers received. -/
structure Us (w W wr : World) (b : Nat) (ns : List Nat) (c : Ch) (d : Int) (v1 v2 : Value) (sent recv : List Int) : Prop where
  own : Own w wr b ns c d
  base : w.heap.size ≤ W.heap.size
  grow : W.heap.size ≤ wr.heap.size
  r1 : wr.ownsRow W.heap.size 3 1 v1 sent.length (sent.flatMap icell)
  r2 : wr.ownsRow W.heap.size 3 1 v2 recv.length (recv.flatMap icell)
  d12 : ∀ k, v1.ownBlock = some k → v2.ownBlock ≠ some k
  dch : ∀ k ∈ b :: ns, v1.ownBlock ≠ some k ∧ v2.ownBlock ≠ some k

section
variable {w W wr w' wA w1 : World} {b : Nat} {ns ns1 : List Nat} {c c1 : Ch} {d d1 : Int} {v1 v2 v' : Value} {sent recv : List Int}
theorem Us.call (h : Us w W wr b ns c d v1 v2 sent recv) (ho : Own w w' b ns1 c1 d1) (h3 : ∀ k ∈ ns1, k ∈ ns ∨ wr.heap.size ≤ k) (hs : Stay (· ∈ b :: ns) wr w') : Us w W w' b ns1 c1 d1 v1 v2 sent recv := by
  refine ⟨ho, h.base, Nat.le_trans h.grow hs.size, own_apart hs h.r1 (fun k e hm => (h.dch k hm).1 e), own_apart hs h.r2 (fun k e hm => (h.dch k hm).2 e), h.d12, fun k hk => ?_⟩
  rcases List.mem_cons.1 hk with rfl | hk
  · exact h.dch _ (by simp)
  · rcases h3 k hk with hk | hk
    · exact h.dch k (by simp [hk])
    · exact ⟨fun e => by have := (h.r1.lt k e).2; omega, fun e => by have := (h.r2.lt k e).2; omega⟩
theorem Us.only (h : Us w W wr b ns c d v1 v2 sent recv) (ho : Only wr w') : Us w W w' b ns c d v1 v2 sent recv :=
  ⟨h.own.step ho, h.base, Nat.le_trans h.grow ho.size, own_only ho h.r1, own_only ho h.r2, h.d12, h.dch⟩
theorem Us.push1 (h : Us w W wr b ns c d v1 v2 sent recv) (hO : Only wr wA) {x : Int} {g : Nat} (hown : w1.ownsRow W.heap.size 3 1 v' (sent ++ [x]).length ((sent ++ [x]).flatMap icell)) (hg : wA.grownBy w1 v1.ownBlock)
    (hv : v'.ownBlock = some g) (hat : v1.ownBlock = some g ∨ g = wA.heap.size) : Us w W w1 b ns c d v' v2 (sent ++ [x]) recv := by
  have hst : Stay (fun k => v1.ownBlock = some k) wr w1 := hO.some.trans (Stay.of_grown hg (fun k _ e => e)) (fun _ _ h => h)
  have hsz := hO.size
  refine ⟨h.own.aside hst (fun k hk => (h.dch k hk).1) (fun k e => Nat.le_trans h.base (h.r1.lt k e).1), h.base, Nat.le_trans h.grow hst.size, hown, own_apart hst h.r2 (fun k e e' => h.d12 k e' e), fun k e e2 => ?_, fun k hk => ⟨fun e => ?_, (h.dch k hk).2⟩⟩
  · rw [hv] at e
    obtain rfl : g = k := by simpa using e
    rcases hat with hat | hat
    · exact h.d12 _ hat e2
    · have := (h.r2.lt _ e2).2
      omega
  · rw [hv] at e
    obtain rfl : g = k := by simpa using e
    rcases hat with hat | hat
    · exact (h.dch _ hk).1 hat
    · have := h.own.lies.lt _ hk
      omega
theorem Us.push2 (h : Us w W wr b ns c d v1 v2 sent recv) (hO : Only wr wA) {x : Int} {g : Nat} (hown : w1.ownsRow W.heap.size 3 1 v' (recv ++ [x]).length ((recv ++ [x]).flatMap icell)) (hg : wA.grownBy w1 v2.ownBlock)
    (hv : v'.ownBlock = some g) (hat : v2.ownBlock = some g ∨ g = wA.heap.size) : Us w W w1 b ns c d v1 v' sent (recv ++ [x]) := by
  have hst : Stay (fun k => v2.ownBlock = some k) wr w1 := hO.some.trans (Stay.of_grown hg (fun k _ e => e)) (fun _ _ h => h)
  have hsz := hO.size
  refine ⟨h.own.aside hst (fun k hk => (h.dch k hk).2) (fun k e => Nat.le_trans h.base (h.r2.lt k e).1), h.base, Nat.le_trans h.grow hst.size, own_apart hst h.r1 (fun k e e' => h.d12 k e e'), hown, fun k e e2 => ?_, fun k hk => ⟨(h.dch k hk).1, fun e => ?_⟩⟩
  · rw [hv] at e2
    obtain rfl : g = k := by simpa using e2
    rcases hat with hat | hat
    · exact h.d12 _ e hat
    · have := (h.r1.lt _ e).2
      omega
  · rw [hv] at e
    obtain rfl : g = k := by simpa using e
    rcases hat with hat | hat
    · exact (h.dch _ hk).2 hat
    · have := h.own.lies.lt _ hk
      omega
end

theorem run_cap' (c : Ch) (v : V) : (c.offer v).1.cap = c.cap ∧ (c.offer v).1.pol = c.pol := by
  unfold Ch.offer; repeat' split
  all_goals exact ⟨rfl, rfl⟩
theorem park_pol (c : Ch) (t : Int) (s : Bool) (v : V) : (c.park t s v).1.pol = c.pol := by
  unfold Ch.park; repeat' split
  all_goals rfl
theorem take_pol (c : Ch) : c.take.1.pol = c.pol := by
  unfold Ch.take; repeat' split
  all_goals rfl
theorem offer_false (c : Ch) (v : V) : (c.offer v).2.2.2 = false → (c.offer v).2.1 = [] := by
  unfold Ch.offer
  repeat' split
  all_goals simp
theorem heap_alloc_at (w : World) (o : Obj) (k : Nat) (hk : k = w.heap.size) : (w.alloc o).heap[k]? = some o := by
  subst hk
  exact heap_alloc_new w o
theorem offer_len (c : Ch) (v : V) : (c.offer v).2.1.length ≤ 1 := by
  unfold Ch.offer
  repeat' split
  all_goals simp

set_option maxRecDepth 100000 in
set_option maxHeartbeats 8000000 in
theorem user_any (w W : World) (b : Nat) (ns : List Nat) (c : Ch) (h : Own w W b ns c 0) (ho : Ord c [] [] 0) (A : Option Addr) (ca : Nat) (xs : List Bool) (hl : Sl w w.heap.size A xs.length ca 1 (xs.flatMap bcell)) (h100 : xs.length ≤ 100) :
    Calls Try.prog 20 #[.pointer (some ⟨b, 0, none⟩), .slice A xs.length ca] W fun e w' => ∃ A1 cp1 A2 cp2 ns' c' sent recv, e = .returned (.tuple #[.slice A1 sent.length cp1, .slice A2 recv.length cp2, .bool true]) ∧
      Us w W w' b ns' c' xs.length (.slice A1 sent.length cp1) (.slice A2 recv.length cp2) sent recv ∧ Ord c' sent recv xs.length ∧ c'.pol = c.pol := by
  have HH := Lib.hid (And.intro h (And.intro ho hl))
  have b1 := hl.2.1
  have b2 := hl.2.2.1
  clear h ho hl
  obtain ⟨ii, hii0, hii1, hii2, hii3⟩ := info_parts infoI
  go_enter Try.func20, Try.ntmps20
  go_wp2_with fail
  go_loopg [7, 8, 22] (xs.length) (fun k v1 v2 vi wr => ∃ (i : Nat) (A1 A2 : Option Addr) (cp1 cp2 : Nat) (ns' : List Nat) (c' : Ch) (sent recv : List Int), i ≤ xs.length ∧ k = xs.length - i ∧ vi = .int .i64 (i : Nat) ∧ v1 = .slice A1 sent.length cp1 ∧ v2 = .slice A2 recv.length cp2 ∧
    Us w W wr b ns' c' i v1 v2 sent recv ∧ Ord c' sent recv i ∧ c'.pol = c.pol)
  case atStart => exact ⟨0, none, none, 0, 0, ns, c, [], [], Nat.zero_le _, rfl, rfl, rfl, rfl, ⟨HH.out.1, HH.out.1.only.size, Nat.le_refl _, World.ownsRow_nil _ _ _ _, World.ownsRow_nil _ _ _ _, fun k e => by simp [Value.ownBlock] at e, fun k _ => by simp [Value.ownBlock]⟩, HH.out.2.1, rfl⟩
  case round =>
    obtain ⟨i, A1, A2, cp1, cp2, ns', c', sent, recv, hi, hk, rfl, rfl, rfl, hus, hord, hpol⟩ := hrel
    by_cases hlt : i < xs.length
    · obtain ⟨x, hx⟩ : ∃ x, xs[i]? = some x := ⟨_, List.getElem?_eq_getElem hlt⟩
      obtain ⟨xb, xo, rfl, hxb, hxc⟩ := (HH.out.2.2.only hus.own.only).elem bcell_length hx (by omega)
      have e0 := hxc 0 _ rfl
      simp only [Nat.add_zero, Nat.mul_one] at e0
      have hls := hord.lens
      obtain ⟨hls1, hls2⟩ := hls
      have HX := Lib.hid (And.intro hk (And.intro hus (And.intro hord hpol)))
      clear hk hus hord hpol hx hxc
      cases x with
      | true =>
        go_wp2_with (at_builtin; refine wpList_append_lies _ rfl _ _ _ rfl W.heap.size 3 ii _ 1 8 Try.underlying55 hii0 hii1 hii2 hii3 rfl (by omega) _ sent.length _ (by rfl) (own_only ((Stay.refl _ wr).alloc _) HX.out.2.1.r1) ⟨wr.heap.size, 0, none⟩ 1 1 (icell i) (by rfl) (by rfl) (World.news_of_block (cs := (icell i).toArray) (t := 3) (fr := (0, 0)) (heap_alloc_new wr _)) (by simp [icell, Value.oneCell']) (by omega) (by simp only [maxLen]; omega) (by omega) (by have := HX.out.2.1.grow; simp; omega) (wr.heap.size + 1) (by simp) ?_; intro gg cap w1 hown1 hgrow hat hlt1)
        have HU := Lib.hid (show Us w W w1 b ns' c' i (.slice (some ⟨gg, 0, none⟩) (sent.length + 1) cap) (.slice A2 recv.length cp2) (sent ++ [(i : Int)]) recv from HX.out.2.1.push1 ((Stay.refl _ wr).alloc _) (by simpa using hown1) hgrow rfl (by simpa using hat))
        clear hown1 hgrow hat hlt1 e0
        go_wp2_with fail
        refine (number_any i _).mono ?_
        rintro e w2 ⟨rfl, hO2⟩
        have HU2 := Lib.hid (HU.out.only hO2)
        clear hO2
        simp only [num, V.val]
        go_wp2_with fail
        refine (own_offer HU2.out.own (by omega) (numV i) (by simp [numV, nil_size])).mono ?_
        rintro e w3 ⟨A3, cp3, ns3, rfl, h1, h2, h3, h4⟩
        have hsend := HX.out.2.2.1.send (by omega) (by omega) HU2.out.own.ok.buf
        have hdl := offer_len c' (numV i)
        have hdlf := offer_false c' (numV i)
        obtain ⟨c1, dl, f, okk, hr⟩ : ∃ c1 dl f okk, c'.offer (numV i) = (c1, dl, f, okk) := ⟨_, _, _, _, rfl⟩
        unfold Ch.sends at hsend
        rw [hr] at h1 h2 hsend hdl hdlf ⊢
        simp only at h1 h2 hsend hdl hdlf ⊢
        obtain ⟨q1, q2, q3⟩ := hsend
        have hfk : (f.k != 0) = false := by simp [q1]
        have HU3 := Lib.hid (And.intro (HU2.out.call h1 (fun k hk => .inl (h3 k hk)) h4) (And.intro h2 (And.intro q2 q3)))
        have hb3 := h2.2.1
        have hb4 := h2.2.2.1
        have hcp : c1.pol = c'.pol := by
          have := (run_cap' c' (numV i)).2
          rw [hr] at this
          exact this
        have HCP := Lib.hid hcp
        clear h1 h2 h3 h4 q1 q2 q3 hr hcp
        unfold F.val
        cases okk with
        | true =>
          cases dl with
          | nil =>
            simp only [List.length_nil] at hb3 ⊢
            go_wp2_with fail
            go_loopg [8, 58] 0 (fun k v2 vi wz => k = 0 ∧ v2 = .slice A2 recv.length cp2 ∧ vi = .int .i64 0 ∧ wz = w3.alloc (.cells #[.int .i64 f.k, .string f.s] 42))
            case atStart => exact ⟨rfl, rfl, rfl, rfl⟩
            case round =>
            obtain ⟨hk2, rfl, rfl, rfl⟩ := hrel
            go_wp2_with fail
            go_roundg (xs.length - (i + 1))
            case measure => have := HX.out.1; omega
            case rel => exact ⟨i + 1, some ⟨gg, 0, none⟩, A2, cap, cp2, ns3, c1, sent ++ [(i : Int)], recv, hlt, rfl, rfl, by simp, rfl, by simpa using HU3.out.1.only ((Stay.refl _ w3).alloc _), by simpa using HU3.out.2.2.2, HCP.out.trans HX.out.2.2.2⟩
          | cons d t =>
            obtain rfl : t = [] := by
              cases t with
              | nil => rfl
              | cons => simp at hdl
            simp only [List.length_cons, List.length_nil] at hb3 ⊢
            obtain ⟨db, dx, rfl, hdb, hdc⟩ := HU3.out.2.1.elem D.cells_length (i := 0) rfl (by simp)
            have d0 := hdc 0 _ rfl
            have d1 := hdc 1 _ rfl
            have d2 := hdc 2 _ rfl
            have d3 := hdc 3 _ rfl
            have d4 := hdc 4 _ rfl
            have d5 := hdc 5 _ rfl
            have d6 := hdc 6 _ rfl
            simp only [Nat.zero_mul, Nat.add_zero] at d0 d1 d2 d3 d4 d5 d6
            clear hdc
            go_wp2_with fail
            go_loopg [8, 58] 1 (fun k v2 vi wz => (k = 1 ∧ v2 = .slice A2 recv.length cp2 ∧ vi = .int .i64 0 ∧ wz = w3.alloc (.cells #[.int .i64 f.k, .string f.s] 42)) ∨
              (k = 0 ∧ vi = .int .i64 1 ∧ ∃ g2 cap2, v2 = .slice (some ⟨g2, 0, none⟩) (recv.length + 1) cap2 ∧ Us w W wz b ns3 c1 (i + 1) (.slice (some ⟨gg, 0, none⟩) (sent.length + 1) cap) v2 (sent ++ [(i : Int)]) (recv ++ [d.v.n])))
            case atStart => exact .inl ⟨rfl, rfl, rfl, rfl⟩
            case round =>
            rcases hrel with ⟨hk2, rfl, rfl, rfl⟩ | ⟨hk2, rfl, g2, cap2, rfl, hus⟩
            · go_wp2_with (at_builtin; refine wpList_append_lies _ rfl _ _ _ rfl W.heap.size 3 ii _ 1 8 Try.underlying55 hii0 hii1 hii2 hii3 rfl (by omega) _ recv.length _ (by rfl) (own_only (((Stay.refl (fun _ => False) w3).alloc _).alloc _ |>.alloc _) HU3.out.1.r2) ⟨w3.heap.size + 2, 0, none⟩ 1 1 (icell d.v.n) (by rfl) (by rfl) (World.news_of_block (cs := (icell d.v.n).toArray) (t := 3) (fr := (0, 0)) (heap_alloc_at _ _ _ (by simp))) (by simp [icell, Value.oneCell']) (by omega) (by simp only [maxLen]; omega) (by omega) (by have := HU3.out.1.grow; simp; omega) (w3.heap.size + 3) (by simp) ?_; intro g2 cap2 w5 hown2 hgrow2 hat2 hlt2)
              go_roundg 0
              case measure => omega
              case rel => exact .inr ⟨rfl, rfl, g2, cap2, rfl, (HU3.out.1.only ((Stay.refl _ w3).alloc _)).push2 (((Stay.refl _ _).alloc _).alloc _) (by simpa using hown2) hgrow2 rfl (by simpa using hat2)⟩
            · have HV := Lib.hid hus
              clear hus
              go_wp2_with fail
              go_roundg (xs.length - (i + 1))
              case measure => have := HX.out.1; omega
              case rel => exact ⟨i + 1, some ⟨gg, 0, none⟩, some ⟨g2, 0, none⟩, cap, cap2, ns3, c1, sent ++ [(i : Int)], recv ++ [d.v.n], hlt, rfl, rfl, by simp, by simp, by simpa using HV.out, by simpa using HU3.out.2.2.2, HCP.out.trans HX.out.2.2.2⟩
        | false =>
          obtain rfl : dl = [] := hdlf rfl
          simp only [List.length_nil] at hb3 ⊢
          go_wp2_with fail
          refine (number_any i _).mono ?_
          rintro e w4 ⟨rfl, hO4⟩
          have HU4 := Lib.hid ((HU3.out.1.only ((Stay.refl _ w3).alloc (.cells #[.int .i64 f.k, .string f.s] 42))).only hO4)
          have f0 : w4.cell? ⟨w3.heap.size, 0, none⟩ = some (.int .i64 f.k) := hO4.cell ((Blk.newAt w3 [.int .i64 f.k, .string f.s] 42 _ rfl).at (i := 0) rfl)
          clear hO4
          simp only [num, V.val]
          go_wp2_with fail
          refine (own_park HU4.out.own (i + 1) true (numV i) (by simp [numV, nil_size])).mono ?_
          rintro e w5 ⟨ns5, rfl, h1, h2, h3⟩
          have hp0 := HU3.out.2.2.1 trivial
          have f1 := Stay.cell h3 f0 (fun hm => absurd (HU3.out.1.own.lies.lt _ hm) (Nat.lt_irrefl _))
          have l1 : w3.heap.size < w5.heap.size := block_lt_of_cell f1
          rw [hp0]
          have HU5 := Lib.hid (HU4.out.call h1 h2 h3)
          clear h1 h2 h3 hp0 f0
          go_wp2_with fail
          go_loopg [8, 58] 0 (fun k v2 vi wz => k = 0 ∧ v2 = .slice A2 recv.length cp2 ∧ vi = .int .i64 0 ∧ wz = w5)
          case atStart => exact ⟨rfl, rfl, rfl, rfl⟩
          case round =>
          obtain ⟨hk2, rfl, rfl, rfl⟩ := hrel
          clear f1
          go_wp2_with fail
          go_roundg (xs.length - (i + 1))
          case measure => have := HX.out.1; omega
          case rel => exact ⟨i + 1, some ⟨gg, 0, none⟩, A2, cap, cp2, ns5, _, sent ++ [(i : Int)], recv, hlt, rfl, rfl, by simp, rfl, by simpa using HU5.out, by simpa using HU3.out.2.2.2, (park_pol _ _ _ _).trans (HCP.out.trans HX.out.2.2.2)⟩
      | false =>
        go_wp2_with fail
        refine (own_take HX.out.2.1.own).mono ?_
        rintro e w3 ⟨A3, cp3, ns3, rfl, h1, h2, h3, h4⟩
        have htake := HX.out.2.2.1.take (by omega) (by omega)
        obtain ⟨c1, v, dl, f, okk, hr⟩ : ∃ c1 v dl f okk, c'.take = (c1, v, dl, f, okk) := ⟨_, _, _, _, _, rfl⟩
        have hcp : c1.pol = c'.pol := by
          have := take_pol c'
          rw [hr] at this
          exact this
        unfold Ch.takes at htake
        rw [hr] at h1 h2 htake ⊢
        simp only at h1 h2 htake ⊢
        obtain ⟨q1, q2, q3⟩ := htake
        have hfk : (f.k != 0) = false := by simp [q1]
        have HU3 := Lib.hid (And.intro (HX.out.2.1.call h1 (fun k hk => .inl (h3 k hk)) h4) (And.intro q2 (And.intro q3 hcp)))
        clear h1 h2 h3 h4 q1 q2 q3 hr hcp e0
        unfold F.val V.val
        cases okk with
        | true =>
          go_wp2_with (at_builtin; refine wpList_append_lies _ rfl _ _ _ rfl W.heap.size 3 ii _ 1 8 Try.underlying55 hii0 hii1 hii2 hii3 rfl (by omega) _ recv.length _ (by rfl) (own_only (((Stay.refl (fun _ => False) w3).alloc _).alloc _ |>.alloc _) HU3.out.1.r2) ⟨w3.heap.size + 2, 0, none⟩ 1 1 (icell v.n) (by rfl) (by rfl) (World.news_of_block (cs := (icell v.n).toArray) (t := 3) (fr := (0, 0)) (heap_alloc_at _ _ _ (by simp))) (by simp [icell, Value.oneCell']) (by omega) (by simp only [maxLen]; omega) (by omega) (by have := HU3.out.1.grow; simp; omega) (w3.heap.size + 3) (by simp) ?_; intro g2 cap2 w5 hown2 hgrow2 hat2 hlt2)
          go_roundg (xs.length - (i + 1))
          case measure => have := HX.out.1; omega
          case rel => exact ⟨i + 1, A1, some ⟨g2, 0, none⟩, cp1, cap2, ns3, c1, sent, recv ++ [v.n], hlt, rfl, rfl, rfl, by simp, by
            have := HU3.out.1.push2 (((Stay.refl _ w3).alloc _).alloc _ |>.alloc _) (by simpa using hown2) hgrow2 rfl (by simpa using hat2)
            simpa using this, by simpa using HU3.out.2.2.1, HU3.out.2.2.2.trans HX.out.2.2.2⟩
        | false =>
          go_wp2_with fail
          have HW := Lib.hid (HU3.out.1.only (((Stay.refl (fun _ => False) w3).alloc (.cells #[.int .i64 v.k, .int .i64 v.n, .string v.s] 29)).alloc (.cells #[.int .i64 f.k, .string f.s] 42)))
          refine (own_park HW.out.own (i + 1) false V.nil (by simp [V.nil, nil_size])).mono ?_
          rintro e w5 ⟨ns5, rfl, h1, h2, h3⟩
          have hp0 := HU3.out.2.1 trivial
          rw [hp0]
          have HU5 := Lib.hid (HW.out.call h1 h2 h3)
          clear h1 h2 h3 hp0
          go_wp2_with fail
          go_roundg (xs.length - (i + 1))
          case measure => have := HX.out.1; omega
          case rel => exact ⟨i + 1, A1, A2, cp1, cp2, ns5, _, sent, recv, hlt, rfl, rfl, rfl, rfl, by simpa using HU5.out, by simpa using HU3.out.2.2.1, (park_pol _ _ _ _).trans (HU3.out.2.2.2.trans HX.out.2.2.2)⟩
    · obtain rfl : i = xs.length := by omega
      have HX := Lib.hid (And.intro hus (And.intro hord hpol))
      clear hus hord hpol hk
      go_wp2_with fail
      refine bodyPost_ret (v := .tuple #[.slice A1 sent.length cp1, .slice A2 recv.length cp2, .bool true]) (by simp [results, Try.results20, go_sem]) rfl ?_
      exact ⟨A1, cp1, A2, cp2, ns', c', sent, recv, rfl, HX.out.1, HX.out.2.1, HX.out.2.2⟩

theorem Ord.start {cap pol : Int} (h : newOk cap pol = true) : Ord (Ch.new cap pol) [] [] 0 :=
  ⟨rfl, fun h => absurd rfl h, by simp [Ch.new], by simp [Ch.new], by simp [line, Ch.new], by simp [line, Ch.new], by simp [line, Ch.new], fun _ => by simp [line, Ch.new], fun h => absurd rfl h, by simp [Ch.new], by simp⟩

set_option maxRecDepth 100000 in
set_option maxHeartbeats 8000000 in
theorem order_any (w : World) (cap pol : Int) (A : Option Addr) (n ca : Nat) (xs : List Bool) (hl : Sl w w.heap.size A n ca 1 (xs.flatMap bcell)) (hlen : xs.length = n) :
    Calls Try.prog 5 #[.int .i64 cap, .int .i64 pol, .slice A n ca] w fun e w' => e = .returned (.bool true) ∧ Only w w' := by
  cases hnew : newOk cap pol with
  | false =>
    go_enter Try.func5, Try.ntmps5
    go_wp2_with fail
    refine (new_bad cap pol w hnew).mono ?_
    rintro e w1 ⟨rfl, hO⟩
    have HO := Lib.hid hO
    clear hO hl
    go_wp2_with fail
    refine (awake_any _).mono ?_
    rintro e w2 ⟨rfl, hO2⟩
    have HO2 := Lib.hid hO2
    clear hO2
    go_wp2_with fail
    go_ret
    exact ⟨rfl, HO.out.trans' HO2.out⟩
  | true =>
    have HL := Lib.hid (And.intro hl hlen)
    have hnc := hl.2.1
    have hcm := hl.2.2.1
    clear hl hlen
    go_enter Try.func5, Try.ntmps5
    go_wp2_with fail
    refine (own_new w w (Stay.refl _ w) hnew).mono ?_
    rintro e w1 ⟨rfl, hch, hO⟩
    have HO := Lib.hid hch
    clear hO hch
    go_upto_region 4 with fail
    go_cut [9, 10, 11] from 26 to 36 (fun a b x wc => ∃ (m : Nat) (A1 : Option Addr) (cp1 : Nat) (A2 : Option Addr) (cp2 : Nat) (ns' : List Nat) (c' : Ch) (sent recv : List Int), a = .slice A1 sent.length cp1 ∧ b = .slice A2 recv.length cp2 ∧ x = .bool true ∧ m ≤ 100 ∧
      Us w w1 wc w.heap.size ns' c' m (.slice A1 sent.length cp1) (.slice A2 recv.length cp2) sent recv ∧ Ord c' sent recv m ∧ c'.pol = pol)
    case first =>
      go_wp2_with fail
      · have h80 : 100 < (n : Int) := by assumption
        have hn : (xs.take 100).length = 100 := by have := HL.out.2; simp; omega
        have hu := user_any w w1 w.heap.size [] (Ch.new cap pol) HO.out (Ord.start hnew) A ca (xs.take 100) (by
          rw [hn]
          exact sl_take HL.out.1 100 (.inr (by omega)) (by omega)) (by omega)
        rw [hn] at hu
        refine hu.mono ?_
        rintro e w2 ⟨A1, cp1, A2, cp2, ns', c', sent, recv, rfl, h1, h2, h3⟩
        have HU := Lib.hid (And.intro h1 (And.intro h2 h3))
        clear h1 h2 h3 hu hn
        go_wp2_with fail
        go_meet
        case rel => exact ⟨100, A1, cp1, A2, cp2, ns', c', sent, recv, rfl, rfl, rfl, Nat.le_refl _, HU.out.1, HU.out.2.1, HU.out.2.2⟩
      · have h80 : (n : Int) ≤ 100 := by assumption
        have hn : xs.length = n := HL.out.2
        have hu := user_any w w1 w.heap.size [] (Ch.new cap pol) HO.out (Ord.start hnew) A ca xs (by rw [hn]; exact HL.out.1) (by omega)
        rw [hn] at hu
        refine hu.mono ?_
        rintro e w2 ⟨A1, cp1, A2, cp2, ns', c', sent, recv, rfl, h1, h2, h3⟩
        have HU := Lib.hid (And.intro h1 (And.intro h2 h3))
        clear h1 h2 h3 hu hn
        go_wp2_with fail
        go_meet
        case rel => exact ⟨n, A1, cp1, A2, cp2, ns', c', sent, recv, rfl, rfl, rfl, by omega, HU.out.1, HU.out.2.1, HU.out.2.2⟩
    case rest =>
    obtain ⟨m, A1, cp1, A2, cp2, ns', c', sent, recv, rfl, rfl, rfl, hm, hus, hord, hpol⟩ := hcut
    rename World => wc
    have s1 := own_sl hus.r1 (flat_len _ _ icell_length _)
    have s2 := own_sl hus.r2 (flat_len _ _ icell_length _)
    have hb1 := s1.2.1
    have hb2 := s1.2.2.1
    have hb3 := s2.2.1
    have hb4 := s2.2.2.1
    obtain ⟨hls1, hls2⟩ := hord.lens
    have hsort : recv.Pairwise (· ≤ ·) := by
      have h1 := hord.sorted
      unfold line at h1
      exact ((List.pairwise_append.1 h1).1).imp (fun h => Int.le_of_lt h)
    have HU := Lib.hid (And.intro hus (And.intro hord (And.intro hpol (And.intro s1 s2))))
    have hd0 := hord.drop0
    have hd1 := hus.own.ok.drop1
    have hct := hord.count
    have hll : recv.length ≤ (line c' recv).length := by simp [line]
    have hdp : c'.drop ≠ 0 → pol ≠ 0 := by rw [← hpol]; exact hord.drop
    clear hus hord hpol s1 s2
    go_wp2_with fail
    refine (sorted_any _ A2 cp2 recv HU.out.2.2.2.2 hsort).mono ?_
    rintro e w2 ⟨rfl, hO2⟩
    have HO2 := Lib.hid hO2
    clear hO2 hsort
    go_wp2_with fail
    refine (own_state (HU.out.1.own.step HO2.out)).mono ?_
    rintro e w3 ⟨⟨B1, cq1, B2, cq2, rfl, t1, t2⟩, hO3⟩
    have HO3 := Lib.hid hO3
    clear hO3 t1 t2
    by_cases hdz : c'.drop = 0
    · have hle : recv.length ≤ sent.length := by omega
      have HD := Lib.hid hdz
      have hdz' : ¬ 0 < c'.drop := by omega
      have htk : sent.take recv.length = recv := by
        rw [← HU.out.2.1.same HD.out]
        simp [line]
      have HT := Lib.hid htk
      clear hdz hdp hct hll htk
      have hs1 : ∀ {W : World}, Only w3 W → Sl W W.heap.size A1 recv.length cp1 1 (recv.flatMap icell) := fun hW => by
        have hO := (HO2.out.trans' HO3.out).trans' hW
        have := sl_take (f := icell) ((HU.out.2.2.2.1.only hO).up hO.size) recv.length (.inr hle) hle
        rw [HT.out] at this
        exact this
      have hs2 : ∀ {W : World}, Only w3 W → Sl W W.heap.size A2 recv.length cp2 1 (recv.flatMap icell) := fun hW => by
        have hO := (HO2.out.trans' HO3.out).trans' hW
        exact (HU.out.2.2.2.2.only hO).up hO.size
      have HS := Lib.hid (And.intro @hs1 @hs2)
      clear hs1 hs2
      go_wp2_with fail
      all_goals first | (have e : sent.length = recv.length := by omega
                         rw [e]
                         clear e) | skip
      all_goals (
        refine (equal_any _ A1 A2 cp1 cp2 recv (HS.out.1 ((Stay.refl _ w3).alloc _)) (HS.out.2 ((Stay.refl _ w3).alloc _))).mono ?_
        rintro e w4 ⟨rfl, hO4⟩
        have HO4 := Lib.hid hO4
        clear hO4
        go_wp2_with fail
        refine (awake_any _).mono ?_
        rintro e w5 ⟨rfl, hO5⟩
        have HO5 := Lib.hid hO5
        clear hO5
        go_wp2_with fail
        go_ret
        exact ⟨rfl, ((((HU.out.1.own.only.trans' HO2.out).trans' HO3.out).trans' HO4.out.behind).trans' HO5.out)⟩)
    · have hdz' : 0 < c'.drop := by omega
      have hp' : (pol != 0) = true := by simp [hdp hdz]
      have HD := Lib.hid hdz
      have hge : (recv.length : Int) + c'.drop ≤ sent.length := by omega
      clear hdz hdp hct hll
      go_wp2_with fail
      refine (awake_any _).mono ?_
      rintro e w5 ⟨rfl, hO5⟩
      have HO5 := Lib.hid hO5
      clear hO5
      go_wp2_with fail
      go_ret
      exact ⟨rfl, ((HU.out.1.own.only.trans' HO2.out).trans' HO3.out).trans' HO5.out.behind⟩

end Go.Proofs.Ytfmkdkpgehkfaaa
