/- A race in memory: who owns which block, what an actor's next step is. -/
import Derived.Test.YtfohaijdhgcneaaStealLoc
set_option linter.unusedVariables false
set_option linter.unusedSimpArgs false
namespace Go.Proofs.Ytfohaijdhgcneaa
open Go Go.RowKit

abbrev pt (k : Nat) : Value := .pointer (some ⟨k, 0, none⟩)
abbrev fnv (f : Nat) (l : List Nat) : Value := .func (.func f) #[] (l.map pt).toArray
/-- The variables of a push. -/
structure PushB (w : World) (L : Nat → Nat) (b i ab : Nat) (x : Int) (br ba bx bl bw : Nat) : Prop where
  r : Blk w br 26 [pt b]
  a : Blk w ba 87 [pt ab]
  x : Blk w bx 3 [.int .i64 x]
  l : Blk w bl 83 [fnv 81 [br, ba, bx]]
  w : Blk w bw 83 [fnv 82 [bx, br, bl]]
  lr : L br = 16 * i + 19
  la : L ba = 16 * i + 20
  lx : L bx = 16 * i + 21
  ll : L bl = 16 * i + 22
  lw : L bw = 16 * i + 23
/-- The variables of a take. -/
structure TakeB (w : World) (L : Nat → Nat) (b i ab : Nat) (t x : Int) (br ba bt bx bs bd bk : Nat) : Prop where
  r : Blk w br 26 [pt b]
  a : Blk w ba 87 [pt ab]
  t : Blk w bt 3 [.int .i64 t]
  x : Blk w bx 3 [.int .i64 x]
  s : Blk w bs 83 [fnv 76 [br, bt, bx, ba]]
  d : Blk w bd 83 [fnv 78 [br, bx, bs]]
  k : Blk w bk 83 [fnv 79 [br, bt, ba, bd]]
  lr : L br = 16 * i + 19
  la : L ba = 16 * i + 20
  lt : L bt = 16 * i + 21
  lx : L bx = 16 * i + 22
  ls : L bs = 16 * i + 23
  ld : L bd = 16 * i + 24
  lk : L bk = 16 * i + 25
/-- The variables of a steal. -/
structure StealB (w : World) (L : Nat → Nat) (b i ab : Nat) (t x : Int) (br ba bt bx bs bd bk : Nat) : Prop where
  r : Blk w br 26 [pt b]
  a : Blk w ba 87 [pt ab]
  t : Blk w bt 3 [.int .i64 t]
  x : Blk w bx 3 [.int .i64 x]
  s : Blk w bs 83 [fnv 84 [br, bt, ba, bx]]
  d : Blk w bd 83 [fnv 85 [br, bt, bx, bs]]
  k : Blk w bk 83 [fnv 86 [bt, br, ba, bd]]
  lr : L br = 16 * i + 19
  la : L ba = 16 * i + 20
  lt : L bt = 16 * i + 21
  lx : L bx = 16 * i + 22
  ls : L bs = 16 * i + 23
  ld : L bd = 16 * i + 24
  lk : L bk = 16 * i + 25
def PushN (w : World) (L : Nat → Nat) (b i ab : Nat) (x : Int) (n : Nat) (nx : Value) : Prop := ∃ br ba bx bl bw, PushB w L b i ab x br ba bx bl bw ∧ nx = (if n = 0 then fnv 83 [br, ba, bw] else if n = 1 then fnv 82 [bx, br, bl] else fnv 81 [br, ba, bx])
def TakeN (w : World) (L : Nat → Nat) (b i ab : Nat) (a : Act) (n : Nat) (nx : Value) : Prop := ∃ t x br ba bt bx bs bd bk, (2 ≤ n → t = a.t) ∧ (3 ≤ n → x = a.x) ∧ TakeB w L b i ab t x br ba bt bx bs bd bk ∧ nx = (if n = 0 then fnv 80 [br, bk] else if n = 1 then fnv 79 [br, bt, ba, bd] else if n = 2 then fnv 78 [br, bx, bs] else fnv 76 [br, bt, bx, ba])
def StealN (w : World) (L : Nat → Nat) (b i ab : Nat) (a : Act) (n : Nat) (nx : Value) : Prop := ∃ t x br ba bt bx bs bd bk, (1 ≤ n → t = a.t) ∧ (3 ≤ n → x = a.x) ∧ StealB w L b i ab t x br ba bt bx bs bd bk ∧ nx = (if n = 0 then fnv 87 [br, bt, bk] else if n = 1 then fnv 86 [bt, br, ba, bd] else if n = 2 then fnv 85 [br, bt, bx, bs] else fnv 84 [br, bt, ba, bx])
/-- The next step of an actor that is in an operation (or has just begun one). -/
def NowAt (w : World) (L : Nat → Nat) (b : Nat) (own : List Int) (i ab : Nat) (a : Act) (nx : Value) : Prop :=
  if i = 0 then (if own.getD a.got.length 0 = 0 then TakeN w L b i ab a a.step nx else PushN w L b i ab (own.getD a.got.length 0) a.step nx) else StealN w L b i ab a a.step nx
def PendAt (w : World) (L : Nat → Nat) (b : Nat) (own : List Int) (i ab : Nat) (a : Act) (nx : Value) : Prop :=
  if a.step = 0 then nx = .nilFunc else NowAt w L b own i ab a nx
def LX (i : Nat) (L : Nat → Nat) (k : Nat) : Prop := L k = 1 ∨ L k = 2 ∨ (16 * i + 16 ≤ L k ∧ L k < 16 * i + 32 ∧ L k ≠ 16 * i + 18)
section
variable {w w' : World} {X : Nat → Prop} {L : Nat → Nat} {b i ab : Nat} {t x : Int} {br ba bt bx bl bw bs bd bk : Nat}
theorem PushB.stay (h : PushB w L b i ab x br ba bx bl bw) (hx : Stay X w w') (hX : ∀ k, X k → L k < 16 * i + 19 ∨ 16 * i + 32 ≤ L k) : PushB w' L b i ab x br ba bx bl bw := by
  have q : ∀ {k T vs}, Blk w k T vs → 16 * i + 19 ≤ L k → L k < 16 * i + 32 → Blk w' k T vs := fun hb h1 h2 => hx.blk hb (fun h => by have := hX _ h; omega)
  obtain ⟨h1, h2, h3, h4, h5, l1, l2, l3, l4, l5⟩ := h
  exact ⟨q h1 (by omega) (by omega), q h2 (by omega) (by omega), q h3 (by omega) (by omega), q h4 (by omega) (by omega), q h5 (by omega) (by omega), l1, l2, l3, l4, l5⟩
/-- All but the two variables. -/
theorem TakeB.two (h : TakeB w L b i ab t x br ba bt bx bs bd bk) (hx : Stay X w w') (hX : ∀ k, X k → L k < 16 * i + 19 ∨ 16 * i + 32 ≤ L k ∨ k = bt ∨ k = bx) {t' x' : Int} (ht : Blk w' bt 3 [.int .i64 t']) (hxx : Blk w' bx 3 [.int .i64 x']) : TakeB w' L b i ab t' x' br ba bt bx bs bd bk := by
  obtain ⟨h1, h2, h3, h4, h5, h6, h7, l1, l2, l3, l4, l5, l6, l7⟩ := h
  have q : ∀ {k T vs}, Blk w k T vs → 16 * i + 19 ≤ L k → L k < 16 * i + 32 → L k ≠ 16 * i + 21 → L k ≠ 16 * i + 22 → Blk w' k T vs := fun hb h1 h2 h3 h4 => hx.blk hb (fun h => by rcases hX _ h with e | e | e | e; omega; omega; (rw [e] at h3; exact h3 l3); (rw [e] at h4; exact h4 l4))
  exact ⟨q h1 (by omega) (by omega) (by omega) (by omega), q h2 (by omega) (by omega) (by omega) (by omega), ht, hxx, q h5 (by omega) (by omega) (by omega) (by omega), q h6 (by omega) (by omega) (by omega) (by omega), q h7 (by omega) (by omega) (by omega) (by omega), l1, l2, l3, l4, l5, l6, l7⟩
theorem StealB.two (h : StealB w L b i ab t x br ba bt bx bs bd bk) (hx : Stay X w w') (hX : ∀ k, X k → L k < 16 * i + 19 ∨ 16 * i + 32 ≤ L k ∨ k = bt ∨ k = bx) {t' x' : Int} (ht : Blk w' bt 3 [.int .i64 t']) (hxx : Blk w' bx 3 [.int .i64 x']) : StealB w' L b i ab t' x' br ba bt bx bs bd bk := by
  obtain ⟨h1, h2, h3, h4, h5, h6, h7, l1, l2, l3, l4, l5, l6, l7⟩ := h
  have q : ∀ {k T vs}, Blk w k T vs → 16 * i + 19 ≤ L k → L k < 16 * i + 32 → L k ≠ 16 * i + 21 → L k ≠ 16 * i + 22 → Blk w' k T vs := fun hb h1 h2 h3 h4 => hx.blk hb (fun h => by rcases hX _ h with e | e | e | e; omega; omega; (rw [e] at h3; exact h3 l3); (rw [e] at h4; exact h4 l4))
  exact ⟨q h1 (by omega) (by omega) (by omega) (by omega), q h2 (by omega) (by omega) (by omega) (by omega), ht, hxx, q h5 (by omega) (by omega) (by omega) (by omega), q h6 (by omega) (by omega) (by omega) (by omega), q h7 (by omega) (by omega) (by omega) (by omega), l1, l2, l3, l4, l5, l6, l7⟩
theorem TakeB.stay (h : TakeB w L b i ab t x br ba bt bx bs bd bk) (hx : Stay X w w') (hX : ∀ k, X k → L k < 16 * i + 19 ∨ 16 * i + 32 ≤ L k) : TakeB w' L b i ab t x br ba bt bx bs bd bk :=
  h.two hx (fun k hk => (hX k hk).imp id .inl) (hx.blk h.t (fun e => by have := hX _ e; have := h.lt; omega)) (hx.blk h.x (fun e => by have := hX _ e; have := h.lx; omega))
theorem StealB.stay (h : StealB w L b i ab t x br ba bt bx bs bd bk) (hx : Stay X w w') (hX : ∀ k, X k → L k < 16 * i + 19 ∨ 16 * i + 32 ≤ L k) : StealB w' L b i ab t x br ba bt bx bs bd bk :=
  h.two hx (fun k hk => (hX k hk).imp id .inl) (hx.blk h.t (fun e => by have := hX _ e; have := h.lt; omega)) (hx.blk h.x (fun e => by have := hX _ e; have := h.lx; omega))
theorem NowAt.stay {own : List Int} {a : Act} {nx : Value} (h : NowAt w L b own i ab a nx) (hx : Stay X w w') (hX : ∀ k, X k → L k < 16 * i + 19 ∨ 16 * i + 32 ≤ L k) : NowAt w' L b own i ab a nx := by
  unfold NowAt at h ⊢
  split at h
  · rw [if_pos (by assumption)]
    split at h
    · rw [if_pos (by assumption)]
      obtain ⟨t, x, br, ba, bt, bx, bs, bd, bk, e1, e2, h1, h2⟩ := h
      exact ⟨t, x, br, ba, bt, bx, bs, bd, bk, e1, e2, h1.stay hx hX, h2⟩
    · rw [if_neg (by assumption)]
      obtain ⟨br, ba, bx, bl, bw, h1, h2⟩ := h
      exact ⟨br, ba, bx, bl, bw, h1.stay hx hX, h2⟩
  · rw [if_neg (by assumption)]
    obtain ⟨t, x, br, ba, bt, bx, bs, bd, bk, e1, e2, h1, h2⟩ := h
    exact ⟨t, x, br, ba, bt, bx, bs, bd, bk, e1, e2, h1.stay hx hX, h2⟩
theorem PendAt.stay {own : List Int} {a : Act} {nx : Value} (h : PendAt w L b own i ab a nx) (hx : Stay X w w') (hX : ∀ k, X k → L k < 16 * i + 19 ∨ 16 * i + 32 ≤ L k) : PendAt w' L b own i ab a nx := by
  unfold PendAt at h ⊢
  split at h
  · rw [if_pos (by assumption)]; exact h
  · rw [if_neg (by assumption)]; exact h.stay hx hX
end
end Go.Proofs.Ytfohaijdhgcneaa
