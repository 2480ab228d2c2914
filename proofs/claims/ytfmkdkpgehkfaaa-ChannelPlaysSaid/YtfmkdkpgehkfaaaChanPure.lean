/- A channel as a plain value: its state, and what each call makes of it. No program in sight. -/
import Derived.WalkKit
set_option linter.unusedVariables false
set_option linter.unusedSimpArgs false
namespace Go.Proofs.Ytfmkdkpgehkfaaa
open Go Go.RowKit

/-- A value: its kind, its number, its text. -/
structure V where
  k : Int
  n : Int
  s : ByteArray
def V.nil : V := ⟨0, 0, ⟨#[]⟩⟩
def V.cells (v : V) : List Value := [.int .i64 v.k, .int .i64 v.n, .string v.s]
def V.val (v : V) : Value := .agg #[.int .i64 v.k, .int .i64 v.n, .string v.s]
/-- A waiter. -/
structure Wt where
  t : Int
  send : Bool
  v : V
def Wt.cells (x : Wt) : List Value := [.int .i64 x.t, .bool x.send, .int .i64 x.v.k, .int .i64 x.v.n, .string x.v.s]
def Wt.val (x : Wt) : Value := .agg #[.int .i64 x.t, .bool x.send, .int .i64 x.v.k, .int .i64 x.v.n, .string x.v.s]
/-- A fault. -/
structure F where
  k : Int
  s : ByteArray
def F.nil : F := ⟨0, ⟨#[]⟩⟩
def F.val (f : F) : Value := .agg #[.int .i64 f.k, .string f.s]
def closedText : ByteArray := ⟨#[99, 108, 111, 115, 101, 100]⟩
def F.closed : F := ⟨1, closedText⟩
/-- A deal. -/
structure D where
  who : Int
  i : Int
  v : V
  f : F
def D.cells (d : D) : List Value := [.int .i64 d.who, .int .i64 d.i, .int .i64 d.v.k, .int .i64 d.v.n, .string d.v.s, .int .i64 d.f.k, .string d.f.s]
def D.val (d : D) : Value := .agg #[.int .i64 d.who, .int .i64 d.i, .int .i64 d.v.k, .int .i64 d.v.n, .string d.v.s, .int .i64 d.f.k, .string d.f.s]

/-- May a text be? -/
def textOk (s : ByteArray) : Bool := decide (s.size ≤ 60) && s.data.toList.all fun c => decide (32 ≤ c.toNat) && decide (c.toNat ≤ 126)
/-- May a value be? -/
def valid (v : V) : Bool :=
  if v.k = 0 then decide (v.n = 0) && v.s.toList.isEmpty
  else if v.k = 1 then v.s.toList.isEmpty && decide (-1000000000000 ≤ v.n) && decide (v.n ≤ 1000000000000)
  else if v.k = 2 then v.s.toList.isEmpty && (decide (v.n = 0) || decide (v.n = 1))
  else if v.k = 3 then decide (v.n = 0) && textOk v.s
  else if v.k = 4 ∨ v.k = 5 ∨ v.k = 6 then v.s.toList.isEmpty && decide (1 ≤ v.n) && decide (v.n ≤ 1000000000000)
  else false

/-- A channel. -/
structure Ch where
  cap : Int
  pol : Int
  closed : Bool
  buf : List V
  ws : List Wt
  drop : Int

/-- The first waiter of a kind, and the others. -/
def takeW (p : Wt → Bool) : List Wt → Option (Wt × List Wt)
  | [] => none
  | x :: l => if p x then some (x, l) else (takeW p l).map fun y => (y.1, x :: y.2)

def deal (t : Int) (v : V) : D := ⟨t, 0, v, F.nil⟩

def Ch.offer (c : Ch) (v : V) : Ch × List D × F × Bool :=
  if valid v = false then (c, [], F.nil, false)
  else if c.closed = true then (c, [], F.closed, true)
  else match takeW (fun x => !x.send) c.ws with
    | some (x, l) => ({ c with ws := l }, [deal x.t v], F.nil, true)
    | none =>
      if (c.buf.length : Int) < c.cap then ({ c with buf := c.buf ++ [v] }, [], F.nil, true)
      else if c.pol = 0 then (c, [], F.nil, false)
      else if c.pol = 1 ∧ 0 < c.cap then ({ c with buf := c.buf.tail ++ [v], drop := c.drop + 1 }, [], F.nil, true)
      else ({ c with drop := c.drop + 1 }, [], F.nil, true)

def Ch.take (c : Ch) : Ch × V × List D × F × Bool :=
  match c.buf with
  | v :: l => match takeW (fun x => x.send) c.ws with
    | none => ({ c with buf := l }, v, [], F.nil, true)
    | some (x, r) => ({ c with buf := l ++ [x.v], ws := r }, v, [deal x.t V.nil], F.nil, true)
  | [] => match takeW (fun x => x.send) c.ws with
    | some (x, r) => ({ c with ws := r }, x.v, [deal x.t V.nil], F.nil, true)
    | none => if c.closed = true then (c, V.nil, [], F.closed, true) else (c, V.nil, [], F.nil, false)

def Ch.park (c : Ch) (t : Int) (send : Bool) (v : V) : Ch × Int :=
  if t < 1 ∨ (send = true ∧ valid v = false) then (c, 2)
  else if c.ws.any (fun x => x.t == t) then (c, 21)
  else if 200 ≤ c.ws.length then (c, 5)
  else ({ c with ws := c.ws ++ [⟨t, send, if send then v else V.nil⟩] }, 0)

def Ch.withdraw (c : Ch) (t : Int) : Ch × Bool :=
  match takeW (fun x => x.t == t) c.ws with
  | some (_, l) => ({ c with ws := l }, true)
  | none => (c, false)

def Ch.close (c : Ch) : Ch × List D :=
  if c.closed = true then (c, []) else ({ c with closed := true, ws := [] }, c.ws.map fun x => ⟨x.t, 0, V.nil, F.closed⟩)

theorem takeW_length {p : Wt → Bool} : ∀ {l : List Wt} {x : Wt} {r : List Wt}, takeW p l = some (x, r) → r.length + 1 = l.length
  | [], _, _, h => by simp [takeW] at h
  | y :: l, x, r, h => by
    unfold takeW at h
    split at h
    · simp only [Option.some.injEq, Prod.mk.injEq] at h
      obtain ⟨_, rfl⟩ := h
      rfl
    · simp only [Option.map_eq_some_iff, Prod.mk.injEq] at h
      obtain ⟨⟨a, b⟩, hb, _, rfl⟩ := h
      have := takeW_length hb
      simp at this ⊢
      omega

/-- What holds of each channel that calls have made: d calls at most so far. -/
structure Ch.Ok (c : Ch) (d : Int) : Prop where
  cap0 : 0 ≤ c.cap
  cap1 : c.cap ≤ 16
  pol0 : 0 ≤ c.pol
  pol1 : c.pol ≤ 2
  buf : (c.buf.length : Int) ≤ c.cap
  ws : c.ws.length ≤ 200
  drop0 : 0 ≤ c.drop
  drop1 : c.drop ≤ d

theorem Ch.Ok.mono {c : Ch} {d d' : Int} (h : c.Ok d) (hd : d ≤ d') : c.Ok d' := { h with drop1 := Int.le_trans h.drop1 hd }

theorem Ch.Ok.offer {c : Ch} {d : Int} (h : c.Ok d) (v : V) : (c.offer v).1.Ok (d + 1) := by
  obtain ⟨h1, h2, h3, h4, h5, h6, h7, h8⟩ := h
  unfold Ch.offer
  split
  · exact ⟨h1, h2, h3, h4, h5, h6, h7, by show c.drop ≤ d + 1; omega⟩
  split
  · exact ⟨h1, h2, h3, h4, h5, h6, h7, by show c.drop ≤ d + 1; omega⟩
  split
  · rename_i x l e
    have := takeW_length e
    exact ⟨h1, h2, h3, h4, h5, by simp; omega, h7, by simp; omega⟩
  split
  · exact ⟨h1, h2, h3, h4, by simp; omega, h6, h7, by simp; omega⟩
  split
  · exact ⟨h1, h2, h3, h4, h5, h6, h7, by show c.drop ≤ d + 1; omega⟩
  split
  · exact ⟨h1, h2, h3, h4, by simp; omega, h6, by simp; omega, by simp; omega⟩
  · exact ⟨h1, h2, h3, h4, h5, h6, by simp; omega, by simp; omega⟩

theorem Ch.Ok.take {c : Ch} {d : Int} (h : c.Ok d) : c.take.1.Ok d := by
  obtain ⟨h1, h2, h3, h4, h5, h6, h7, h8⟩ := h
  unfold Ch.take
  split
  · rename_i v l e
    rw [e] at h5
    simp at h5
    split
    · exact ⟨h1, h2, h3, h4, by simp; omega, h6, h7, h8⟩
    · rename_i x r e
      have := takeW_length e
      exact ⟨h1, h2, h3, h4, by simp; omega, by simp; omega, h7, h8⟩
  · split
    · rename_i x r e
      have := takeW_length e
      exact ⟨h1, h2, h3, h4, h5, by simp; omega, h7, h8⟩
    · split <;> exact ⟨h1, h2, h3, h4, h5, h6, h7, h8⟩

theorem Ch.Ok.park {c : Ch} {d : Int} (h : c.Ok d) (t : Int) (send : Bool) (v : V) : (c.park t send v).1.Ok d := by
  obtain ⟨h1, h2, h3, h4, h5, h6, h7, h8⟩ := h
  unfold Ch.park
  split
  · exact ⟨h1, h2, h3, h4, h5, h6, h7, h8⟩
  split
  · exact ⟨h1, h2, h3, h4, h5, h6, h7, h8⟩
  split
  · exact ⟨h1, h2, h3, h4, h5, h6, h7, h8⟩
  · exact ⟨h1, h2, h3, h4, h5, by simp; omega, h7, h8⟩

theorem Ch.Ok.withdraw {c : Ch} {d : Int} (h : c.Ok d) (t : Int) : (c.withdraw t).1.Ok d := by
  obtain ⟨h1, h2, h3, h4, h5, h6, h7, h8⟩ := h
  unfold Ch.withdraw
  split
  · rename_i x l e
    have := takeW_length e
    exact ⟨h1, h2, h3, h4, h5, by simp; omega, h7, h8⟩
  · exact ⟨h1, h2, h3, h4, h5, h6, h7, h8⟩

theorem Ch.Ok.close {c : Ch} {d : Int} (h : c.Ok d) : c.close.1.Ok d := by
  obtain ⟨h1, h2, h3, h4, h5, h6, h7, h8⟩ := h
  unfold Ch.close
  split
  · exact ⟨h1, h2, h3, h4, h5, h6, h7, h8⟩
  · exact ⟨h1, h2, h3, h4, h5, by simp, h7, h8⟩

end Go.Proofs.Ytfmkdkpgehkfaaa
