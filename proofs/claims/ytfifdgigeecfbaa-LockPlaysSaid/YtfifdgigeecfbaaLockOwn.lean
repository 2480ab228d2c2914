/- A table of a law's own; awake. -/
import Derived.Test.YtfifdgigeecfbaaLockFree
set_option linter.unusedVariables false
set_option linter.unusedSimpArgs false
namespace Go.Proofs.Ytfifdgigeecfbaa
open Go Go.RowKit

/-- Since the world w a table has been made; nothing that was there has changed. -/
structure OwnT (w W : World) (b : Nat) (t : Tb) (d : Int) : Prop where
  lies : TabAt W (From w.heap.size W) b t
  ok : t.Ok d
  only : Only w W

section
variable {w W W' w' : World} {b : Nat} {t t' : Tb} {d d' : Int}
theorem OwnT.step (h : OwnT w W b t d) (ho : Only W W') : OwnT w W' b t d :=
  ⟨(h.lies.only ho).wide (fun j hj => ⟨hj.1, Nat.lt_of_lt_of_le hj.2 ho.size⟩) (fun j hj => hj.2), h.ok, h.only.trans' ho⟩
theorem OwnT.post (h : OwnT w W b t d) {res : Value} {e : Ending} (hp : TbPost W (From w.heap.size W) b res t' e w') (hok : t'.Ok d') : e = .returned res ∧ OwnT w w' b t' d' := by
  obtain ⟨h1, h2, h3⟩ := hp
  rw [From.grow h3.size h.only.size] at h2
  exact ⟨h1, h2, hok, Mine.stay (Stay.trans (S := fun k => w.heap.size ≤ k) (Mine.only h.only) h3 (fun _ _ hi => hi.1))⟩
theorem own_newT (w0 W : World) (hO : Only w0 W) (hd : 0 ≤ d) : Calls Try.prog 10 #[] W fun e w' => e = .returned (.pointer (some ⟨W.heap.size + 1, 0, none⟩)) ∧ OwnT w0 w' (W.heap.size + 1) Tb.new d ∧ Only W w' :=
  (new_any W).mono fun e w' ⟨h1, h2, h3⟩ => ⟨h1, ⟨h2.wide (fun j hj => ⟨Nat.le_trans hO.size hj.1, hj.2⟩) (fun j hj => hj.2), Tb.new_ok hd, hO.trans' h3⟩, h3⟩
theorem own_make (h : OwnT w W b t d) (p : Int) : Calls Try.prog 11 #[.pointer (some ⟨b, 0, none⟩), .int .i64 p] W fun e w' => e = .returned (.tuple #[.int .i64 (t.make p).2.1, .int .i64 (t.make p).2.2]) ∧ OwnT w w' b (t.make p).1 d :=
  (make_any W _ b t d p h.lies h.ok).mono fun e w' hp => h.post hp (h.ok.make p)
theorem own_hold (h : OwnT w W b t d) (hd : d ≤ 1000000) (l p : Int) : Calls Try.prog 13 #[.pointer (some ⟨b, 0, none⟩), .int .i64 l, .int .i64 p] W fun e w' => e = .returned (.tuple #[.bool (t.hold l p).2.1, .int .i64 (t.hold l p).2.2]) ∧ OwnT w w' b (t.hold l p).1 (d + 1) :=
  (hold_any W _ b t d l p h.lies h.ok hd).mono fun e w' hp => h.post hp (h.ok.hold l p)
theorem own_free (h : OwnT w W b t d) (hd : d ≤ 1000000) (l p : Int) : Calls Try.prog 14 #[.pointer (some ⟨b, 0, none⟩), .int .i64 l, .int .i64 p] W fun e w' => e = .returned (.tuple #[.int .i64 (t.free l p).2.1, .int .i64 (t.free l p).2.2]) ∧ OwnT w w' b (t.free l p).1 d :=
  (free_any W _ b t d l p h.lies h.ok hd).mono fun e w' hp => h.post hp (h.ok.free l p)
end

def aw1 : Tb := ⟨[Lk.new 1], []⟩
def aw2 : Tb := ⟨[⟨1, 0, [(7, 1)], []⟩], []⟩
def aw3 : Tb := ⟨[⟨1, 0, [(7, 1)], [8]⟩], [(8, 0)]⟩
theorem aw_1 : Tb.new.make 1 = (aw1, 1, 0) := rfl
theorem aw_2 : aw1.hold 1 7 = (aw2, true, 0) := rfl
theorem aw_3 : aw2.hold 1 8 = (aw3, false, 0) := rfl
theorem aw_4 : (aw3.free 1 7).2 = (8, 0) := rfl

set_option maxRecDepth 100000 in
set_option maxHeartbeats 2000000 in
theorem awake_any (w : World) : Calls Try.prog 12 #[] w fun e w' => e = .returned (.bool true) ∧ Only w w' := by
  go_enter Try.func12, Try.ntmps12
  go_wp2_with fail
  refine (own_newT w w (Stay.refl _ w) (d := 0) (by omega)).mono ?_
  rintro e w1 ⟨rfl, hT, _⟩
  have HT := Lib.hid hT
  clear hT
  go_wp2_with fail
  refine (own_make HT.out 1).mono ?_
  rintro e w2 ⟨rfl, hT⟩
  rw [aw_1] at hT ⊢
  have HT2 := Lib.hid hT
  clear hT
  simp only
  go_wp2_with fail
  refine (own_hold HT2.out (by omega) 1 7).mono ?_
  rintro e w3 ⟨rfl, hT⟩
  simp only [aw_2] at hT ⊢
  have HT3 := Lib.hid hT
  clear hT
  go_wp2_with fail
  refine (own_hold HT3.out (by omega) 1 8).mono ?_
  rintro e w4 ⟨rfl, hT⟩
  simp only [aw_3] at hT ⊢
  have HT4 := Lib.hid hT
  clear hT
  go_wp2_with fail
  refine (own_free HT4.out (by omega) 1 7).mono ?_
  rintro e w5 ⟨rfl, hT⟩
  rw [aw_4]
  have HT5 := Lib.hid hT
  clear hT
  simp only
  go_wp2_with fail
  go_ret
  exact ⟨rfl, HT5.out.only⟩

end Go.Proofs.Ytfifdgigeecfbaa
