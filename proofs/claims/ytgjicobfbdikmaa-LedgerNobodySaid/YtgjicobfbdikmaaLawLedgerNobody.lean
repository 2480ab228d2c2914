/- LedgerNobody: the walk. -/
import Derived.Test.YtgjicobfbdikmaaLedOwn
set_option linter.unusedVariables false
set_option linter.unusedSimpArgs false
namespace Go.Proofs.Ytgjicobfbdikmaa
open Go Go.RowKit Go.Proofs Go.Shelf
attribute [local go_sem] Oper.semAt_some

section
set_option maxRecDepth 100000
theorem bad_nil (t x : Int) (w : World) : Calls Try.prog 31 #[.pointer none, .int .i64 t, .int .i64 x] w fun e w' => e = .returned (.bool true) ∧ Only w w' := by
  go_enter Try.func31, Try.ntmps31
  go_wp2_with fail
  go_ret
  exact ⟨rfl, Stay.refl _ w⟩
theorem acquire_nil (t x : Int) (w : World) : Calls Try.prog 12 #[.pointer none, .int .i64 t, .int .i64 x] w fun e w' => e = .returned (.int .i64 2) ∧ Only w w' := by
  go_enter Try.func12, Try.ntmps12
  go_wp2_with fail
  refine (bad_nil t x w).mono ?_
  rintro e w1 ⟨rfl, hO⟩
  have HO := Lib.hid hO
  clear hO
  go_wp2_with fail
  go_ret
  exact ⟨rfl, HO.out⟩
theorem end_nil (t : Int) (w : World) : Calls Try.prog 29 #[.pointer none, .int .i64 t] w fun e w' => e = .returned (.tuple #[.slice none 0 0, .int .i64 2]) ∧ Only w w' := by
  go_enter Try.func29, Try.ntmps29
  go_wp2_with fail
  refine (bad_nil t 0 w).mono ?_
  rintro e w1 ⟨rfl, hO⟩
  have HO := Lib.hid hO
  clear hO
  go_wp2_with fail
  go_ret2
  exact ⟨rfl, HO.out⟩
theorem held_nil (t : Int) (w : World) : Calls Try.prog 20 #[.pointer none, .int .i64 t] w fun e w' => e = .returned (.tuple #[.slice none 0 0, .int .i64 2]) ∧ Only w w' := by
  go_enter Try.func20, Try.ntmps20
  go_wp2_with fail
  refine (bad_nil t 0 w).mono ?_
  rintro e w1 ⟨rfl, hO⟩
  have HO := Lib.hid hO
  clear hO
  go_wp2_with fail
  go_ret2
  exact ⟨rfl, HO.out⟩
theorem crossed_nil (w : World) : Calls Try.prog 19 #[.pointer none] w fun e w' => e = .returned (.slice none 0 0) ∧ Only w w' := by
  go_enter Try.func19, Try.ntmps19
  go_wp2_with fail
  go_ret
  exact ⟨rfl, Stay.refl _ w⟩
theorem leaks_nil (w : World) : Calls Try.prog 21 #[.pointer none] w fun e w' => e = .returned (.slice none 0 0) ∧ Only w w' := by
  go_enter Try.func21, Try.ntmps21
  go_wp2_with fail
  go_ret
  exact ⟨rfl, Stay.refl _ w⟩
theorem copy_nil (w : World) : Calls Try.prog 25 #[.pointer none] w fun e w' => e = .returned (.pointer none) ∧ Only w w' := by
  go_enter Try.func25, Try.ntmps25
  go_wp2_with fail
  go_ret
  exact ⟨rfl, Stay.refl _ w⟩
set_option maxHeartbeats 2000000 in
theorem release_nil (t x : Int) (w : World) : Calls Try.prog 13 #[.pointer none, .int .i64 t, .int .i64 x] w fun e w' => e = .returned (.int .i64 2) ∧ Only w w' := by
  obtain ⟨w0, hw0⟩ : ∃ w0 : World, w0 = ((w.alloc (.cells #[.pointer none] 22)).alloc (.cells #[.int .i64 x] 3)).alloc (.cells #[.int .i64 0] 25) := ⟨_, rfl⟩
  have hO0 : Only w w0 := by rw [hw0]; exact (((Stay.refl _ w).alloc _).alloc _).alloc _
  have hB3 : Blk w0 w.heap.size 22 [.pointer none] := by rw [hw0]; exact ((Blk.newAt w [.pointer none] _ _ rfl).alloc _).alloc _
  have hB5 : Blk w0 (w.heap.size + 1) 3 [.int .i64 x] := by rw [hw0]; exact (Blk.newAt (w.alloc (.cells #[.pointer none] 22)) [.int .i64 x] 3 (w.heap.size + 1) (by simp)).alloc _
  have hB6 : Blk w0 (w.heap.size + 2) 25 [.int .i64 0] := by rw [hw0]; exact Blk.newAt ((w.alloc (.cells #[.pointer none] 22)).alloc (.cells #[.int .i64 x] 3)) [.int .i64 0] 25 (w.heap.size + 2) (by simp)
  have H0 := Lib.hid (And.intro hO0 (And.intro hB3 (And.intro hB5 hB6)))
  clear hO0 hB3 hB5 hB6
  refine (callsIn_wide (n := 8)).1 ?_
  refine callsIn_of_wp_marks Try.func13 rfl trivial ?_ rfl
  simp only [Try.ntmps13, List.size_toArray, List.length_cons, List.length_nil, Nat.reduceAdd, Nat.reduceSub, Array.replicate_succ, Array.replicate_zero, List.push_toArray, List.append_toArray, List.nil_append, List.cons_append]
  gi_upto_region 1 with fail
  rw [← hw0]
  clear hw0
  have k3 := H0.out.2.1.cell
  have k5 := H0.out.2.2.1.cell
  have l3 := H0.out.2.1.lt
  have l5 := H0.out.2.2.1.lt
  gi_wp2_with fail
  refine ⟨trivial, ?_⟩
  refine (callsIn_wide.2 (bad_nil t x w0)).mono ?_
  rintro e w1 ⟨rfl, hO1⟩
  have q6 := hO1.blk H0.out.2.2.2
  have j6 := q6.cell
  have m6 := q6.lt
  have g6 := q6.free
  have HO := Lib.hid (And.intro (H0.out.1.trans' hO1) q6)
  clear hO1 q6 k3 k5 l3 l5
  gi_wp2_with fail
  refine ⟨.int .i64 2, by simp [results, Try.f13, go_sem, j6], rfl, HO.out.1.new (by omega) _ _⟩
set_option maxHeartbeats 8000000 in
theorem ledgerNobody_any (w : World) (t x : Int) : Calls Try.prog 9 #[.int .i64 t, .int .i64 x] w fun e w' => e = .returned (.bool true) ∧ Only w w' := by
  go_enter Try.func9, Try.ntmps9
  go_wp2_with fail
  refine (end_nil t w).mono ?_
  rintro e w1 ⟨rfl, o1⟩
  have H1 := Lib.hid o1
  clear o1
  go_wp2_with fail
  refine (held_nil t w1).mono ?_
  rintro e w2 ⟨rfl, o2⟩
  have H2 := Lib.hid (H1.out.trans' o2)
  clear o2
  go_wp2_with fail
  refine (acquire_nil t x w2).mono ?_
  rintro e w3 ⟨rfl, o3⟩
  have H3 := Lib.hid (H2.out.trans' o3)
  clear o3
  go_wp2_with fail
  refine (release_nil t x w3).mono ?_
  rintro e w4 ⟨rfl, o4⟩
  have H4 := Lib.hid (H3.out.trans' o4)
  clear o4
  go_wp2_with fail
  refine (log_nil w4).mono ?_
  rintro e w5 ⟨rfl, o5⟩
  have H5 := Lib.hid (H4.out.trans' o5)
  clear o5
  go_wp2_with fail
  refine (crossed_nil w5).mono ?_
  rintro e w6 ⟨rfl, o6⟩
  have H6 := Lib.hid (H5.out.trans' o6)
  clear o6
  go_wp2_with fail
  refine (leaks_nil w6).mono ?_
  rintro e w7 ⟨rfl, o7⟩
  have H7 := Lib.hid (H6.out.trans' o7)
  clear o7
  go_wp2_with fail
  refine (sound_nil w7).mono ?_
  rintro e w8 ⟨rfl, o8⟩
  have H8 := Lib.hid (H7.out.trans' o8)
  clear o8
  go_wp2_with fail
  refine (copy_nil w8).mono ?_
  rintro e w9 ⟨rfl, o9⟩
  have H9 := Lib.hid (H8.out.trans' o9)
  clear o9
  go_wp2_with fail
  refine (awake_any w9).mono ?_
  rintro e w10 ⟨rfl, o10⟩
  have H10 := Lib.hid (H9.out.trans' o10)
  clear o10
  go_wp2_with fail
  go_ret
  exact ⟨rfl, H10.out⟩
end

end Go.Proofs.Ytgjicobfbdikmaa
