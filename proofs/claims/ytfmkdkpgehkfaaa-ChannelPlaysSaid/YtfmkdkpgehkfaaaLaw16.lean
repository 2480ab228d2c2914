/- What the laws of the channel share: number, run, awake. -/
import Derived.Test.YtfmkdkpgehkfaaaChanTake
import Derived.Test.YtfmkdkpgehkfaaaChanPark
import Derived.Test.YtfmkdkpgehkfaaaChanClose
set_option linter.unusedVariables false
set_option linter.unusedSimpArgs false
namespace Go.Proofs.Ytfmkdkpgehkfaaa
open Go Go.RowKit

def num (n : Int) : V := ⟨1, n, ⟨#[]⟩⟩

set_option maxRecDepth 100000 in
theorem number_any (n : Int) (w : World) : Calls Try.prog 18 #[.int .i64 n] w fun e w' => e = .returned (num n).val ∧ Only w w' := by
  go_enter Try.func18, Try.ntmps18
  go_wp2
  exact bodyPost_ret (v := (num n).val) (by simp [results, Try.results18, num, V.val, go_sem]) rfl ⟨rfl, (Stay.refl _ w).alloc _⟩

/-- A call of a law's list. -/
structure Op1 where
  kind : Int
  t : Int
  send : Bool
  v : V
def Op1.cells (o : Op1) : List Value := [.int .i64 o.kind, .int .i64 o.t, .bool o.send, .int .i64 o.v.k, .int .i64 o.v.n, .string o.v.s]
def Op1.val (o : Op1) : Value := .agg #[.int .i64 o.kind, .int .i64 o.t, .bool o.send, .int .i64 o.v.k, .int .i64 o.v.n, .string o.v.s]

def Ch.run (c : Ch) (o : Op1) : Ch :=
  if o.kind = 0 then (c.offer o.v).1 else if o.kind = 1 then c.take.1 else if o.kind = 2 then (c.park o.t o.send o.v).1 else if o.kind = 3 then (c.withdraw o.t).1 else if o.kind = 4 then c.close.1 else c
theorem Ch.Ok.run {c : Ch} {d : Int} (h : c.Ok d) (o : Op1) : (c.run o).Ok (d + 1) := by
  unfold Ch.run
  split
  · exact h.offer _
  split
  · exact h.take.mono (by omega)
  split
  · exact (h.park _ _ _).mono (by omega)
  split
  · exact (h.withdraw _).mono (by omega)
  split
  · exact h.close.mono (by omega)
  · exact h.mono (by omega)

/-- From c to c' in memory. -/
def ChStep (w : World) (b : Nat) (ns : List Nat) (c' : Ch) (w' : World) : Prop := ∃ ns', ChAt w' b ns' c' ∧ (∀ k ∈ ns', k ∈ ns ∨ w.heap.size ≤ k) ∧ Stay (· ∈ b :: ns) w w'

theorem ChStep.behind {w : World} {o : Obj} {b : Nat} {ns : List Nat} {c' : Ch} {w' : World} (h : ChStep (w.alloc o) b ns c' w') : ChStep w b ns c' w' := by
  obtain ⟨ns', h1, h2, h3⟩ := h
  refine ⟨ns', h1, fun k hk => (h2 k hk).imp id (fun h => ?_), ((Stay.refl _ w).alloc o).trans h3 (fun _ _ h => h)⟩
  simp at h
  omega

set_option maxRecDepth 100000 in
set_option maxHeartbeats 2000000 in
theorem run_any (w : World) (b : Nat) (ns : List Nat) (c : Ch) (o : Op1) (d : Int) (h : ChAt w b ns c) (hok : c.Ok d) (hd : d ≤ 1000000) (hs : o.v.s.size ≤ 9223372036854775807) :
    Calls Try.prog 12 #[.pointer (some ⟨b, 0, none⟩), o.val] w fun e w' => e = .returned (.tuple #[]) ∧ ChStep w b ns (c.run o) w' := by
  have H := fun ob => h.only ((Stay.refl (fun _ => False) w).alloc ob)
  have HH := Lib.hid (And.intro h (And.intro hok H))
  clear h hok H
  obtain ⟨kind, t, send, v⟩ := o
  unfold Op1.val
  by_cases h0 : kind = 0
  · subst h0
    go_enter Try.func12, Try.ntmps12
    go_wp2_with fail
    refine (offer_any _ b ns c v d (HH.out.2.2 _) HH.out.2.1 hd hs).mono ?_
    rintro e w1 ⟨dv, ns', rfl, h1, h2, h3, h4⟩
    have HR := Lib.hid (show ChStep _ b ns (c.run ⟨0, t, send, v⟩) w1 from ⟨ns', by simpa [Ch.run] using h1, fun k hk => .inl (h3 k hk), h4⟩)
    clear h1 h2 h3 h4
    go_wp2_with fail
    first | go_end0 | refine bodyPost_ret (results_none rfl _ _ _) rfl ?_
    exact ⟨rfl, HR.out.behind⟩
  by_cases h1 : kind = 1
  · subst h1
    go_enter Try.func12, Try.ntmps12
    go_wp2_with fail
    refine (take_any _ b ns c d (HH.out.2.2 _) HH.out.2.1).mono ?_
    rintro e w1 ⟨dv, ns', rfl, h1, h2, h3, h4⟩
    have HR := Lib.hid (show ChStep _ b ns (c.run ⟨1, t, send, v⟩) w1 from ⟨ns', by simpa [Ch.run] using h1, fun k hk => .inl (h3 k hk), h4⟩)
    clear h1 h2 h3 h4
    go_wp2_with fail
    first | go_end0 | refine bodyPost_ret (results_none rfl _ _ _) rfl ?_
    exact ⟨rfl, HR.out.behind⟩
  by_cases h2 : kind = 2
  · subst h2
    go_enter Try.func12, Try.ntmps12
    go_wp2_with fail
    refine (park_any _ b ns c t send v d (HH.out.2.2 _) HH.out.2.1 hs).mono ?_
    rintro e w1 ⟨ns', rfl, h1, h2, h3⟩
    have HR := Lib.hid (show ChStep _ b ns (c.run ⟨2, t, send, v⟩) w1 from ⟨ns', by simpa [Ch.run] using h1, h2, h3⟩)
    clear h1 h2 h3
    go_wp2_with fail
    first | go_end0 | refine bodyPost_ret (results_none rfl _ _ _) rfl ?_
    exact ⟨rfl, HR.out.behind⟩
  by_cases h3 : kind = 3
  · subst h3
    go_enter Try.func12, Try.ntmps12
    go_wp2_with fail
    refine (withdraw_any _ b ns c t d (HH.out.2.2 _) HH.out.2.1).mono ?_
    rintro e w1 ⟨ns', rfl, h1, h2, h3⟩
    have HR := Lib.hid (show ChStep _ b ns (c.run ⟨3, t, send, v⟩) w1 from ⟨ns', by simpa [Ch.run] using h1, fun k hk => .inl (h2 k hk), h3⟩)
    clear h1 h2 h3
    go_wp2_with fail
    first | go_end0 | refine bodyPost_ret (results_none rfl _ _ _) rfl ?_
    exact ⟨rfl, HR.out.behind⟩
  by_cases h4 : kind = 4
  · subst h4
    go_enter Try.func12, Try.ntmps12
    go_wp2_with fail
    refine (close_any _ b ns c d (HH.out.2.2 _) HH.out.2.1).mono ?_
    rintro e w1 ⟨dv, ns', rfl, h1, h2, h3, h4⟩
    have HR := Lib.hid (show ChStep _ b ns (c.run ⟨4, t, send, v⟩) w1 from ⟨ns', by simpa [Ch.run] using h1, fun k hk => .inl (h3 k hk), h4⟩)
    clear h1 h2 h3 h4
    go_wp2_with fail
    first | go_end0 | refine bodyPost_ret (results_none rfl _ _ _) rfl ?_
    exact ⟨rfl, HR.out.behind⟩
  · have HR := Lib.hid (show c.run ⟨kind, t, send, v⟩ = c by simp [Ch.run, h0, h1, h2, h3, h4])
    have g0 : (kind == 0) = false := by simp [h0]
    have g1 : (kind == 1) = false := by simp [h1]
    have g2 : (kind == 2) = false := by simp [h2]
    have g3 : (kind == 3) = false := by simp [h3]
    have g4 : (kind == 4) = false := by simp [h4]
    clear h0 h1 h2 h3 h4
    go_enter Try.func12, Try.ntmps12
    go_wp2_with fail
    first | go_end0 | refine bodyPost_ret (results_none rfl _ _ _) rfl ?_
    exact ⟨rfl, ns, by rw [HR.out]; exact HH.out.2.2 _, fun k hk => .inl hk, (Stay.refl _ w).alloc _⟩

end Go.Proofs.Ytfmkdkpgehkfaaa
