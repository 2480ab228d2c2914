/- LockPlays: the walk. -/
import Derived.Test.YtfifdgigeecfbaaRefLC
import Derived.Test.YtfifdgigeecfbaaLaw18Row
set_option linter.unusedVariables false
set_option linter.unusedSimpArgs false
namespace Go.Proofs.Ytfifdgigeecfbaa
open Go Go.RowKit

theorem PL.only {w W W' : World} {S X : Nat → Prop} {b : Nat} {t : Tb} {d : Int} {A : Option Addr} {c : Nat} (h : PL w W S X b t d A c) (ho : Only W W') : PL w W' S X b t d A c := ⟨h.ot.step ho, h.cons, h.st.only ho⟩

set_option maxRecDepth 100000 in
set_option maxHeartbeats 8000000 in
theorem lockPlays_any (w : World) (A : Option Addr) (n ca : Nat) (ops : List Op3) (hl : Sl w w.heap.size A n ca 3 (ops.flatMap Op3.cells)) (hlen : ops.length = n) :
    Calls Try.prog 7 #[.slice A n ca] w fun e w' => e = .returned (.bool true) ∧ Only w w' := by
  have HL := Lib.hid (And.intro hl hlen)
  have hnc := hl.2.1
  have hcm := hl.2.2.1
  clear hl hlen
  go_enter Try.func7, Try.ntmps7
  go_wp2_with fail
  refine (own_newT w w (Stay.refl _ w) (d := 0) (by omega)).mono ?_
  rintro e w1 ⟨rfl, hT, hO01⟩
  have hO1 : Only w1 (w1.alloc (.cells #[.slice none 0 0] 57)) := (Stay.refl _ w1).alloc _
  have HT := Lib.hid (And.intro (show PL w (w1.alloc (.cells #[.slice none 0 0] 57)) (From w.heap.size w1) (fun k => k = w1.heap.size) (w.heap.size + 1) Tb.new 0 none 0 from
    ⟨OT.step ⟨hT.lies, fun k hk => hk.1, hT.ok, hT.only⟩ hO1, Tb.new_cons, ⟨[], rfl, rfl, Sl.zero _ _ _, (fun h => absurd h (by simp [Tb.new])), (fun i k hv wv hk => by simp [Tb.new] at hk)⟩⟩) (And.intro (Blk.new w1 [.slice none 0 0] 57) hO01.size))
  clear hT hO01 hO1
  go_upto_region 2 with fail
  go_cut [12, 16, 17, 18] (fun a a' b i wc => ∃ m : Nat, m = min n 80 ∧ a' = .slice A m ca ∧ b = .int .i64 (m : Nat) ∧ i = .int .i64 0 ∧ w1.alloc (.cells #[.slice none 0 0] 57) = wc)
  case first =>
    go_wp2_with fail
    go_meet
    case rel => exact ⟨min n 80, rfl, congrArg (fun x => Value.slice A x ca) (by omega), congrArg (Value.int .i64) (by omega), rfl, rfl⟩
  case rest =>
    obtain ⟨m, hm, rfl, rfl, rfl, rfl⟩ := hcut
    have hmn : m ≤ n := by omega
    have hm80 : m ≤ 80 := by omega
    have hmc : m ≤ ca := by omega
    have HM := Lib.hid hm
    clear hm
    go_wp2_with fail
    go_loopg [3, 18] m (fun kk vt vj wr => ∃ (j : Nat) (t : Tb) (S : Nat → Prop) (b : Nat) (A' : Option Addr) (c' : Nat), j ≤ m ∧ kk = m - j ∧ vj = .int .i64 (j : Nat) ∧ vt = .pointer (some ⟨b, 0, none⟩) ∧ PL w wr S (fun k => k = w1.heap.size) b t j A' c' ∧ Blk wr w1.heap.size 57 [.slice A' t.ls.length c'] ∧ (∀ k, S k → k ≠ w1.heap.size))
    case atStart => exact ⟨0, _, _, _, none, 0, Nat.zero_le _, rfl, rfl, rfl, HT.out.1, HT.out.2.1, fun k hk => by have := hk.2; omega⟩
    case round =>
      obtain ⟨j, t, S, b, A', c', hj, hk, rfl, rfl, hP, hB, hS⟩ := hrel
      obtain ⟨w2, rfl⟩ : ∃ w2 : World, w2 = wr := ⟨_, rfl⟩
      have k4 := hB.cell
      have l4 := hB.lt
      by_cases hlt : j < m
      · obtain ⟨o, ho⟩ : ∃ o, ops[j]? = some o := ⟨_, List.getElem?_eq_getElem (by have := HL.out.2; omega)⟩
        obtain ⟨ab, ao, rfl, hab, hcells⟩ := (HL.out.1.only hP.ot.only).elem Op3.cells_length ho (by omega)
        have g0 := hcells 0 _ rfl
        simp only [Nat.add_zero] at g0
        have g1 := hcells 1 _ rfl
        have g2 := hcells 2 _ rfl
        have HX := Lib.hid (And.intro hP (And.intro hB (And.intro hS hk)))
        clear hP hB hS hcells ho hk
        go_wp2_with fail
        have hOa : Only w2 (w2.alloc (.cells #[.int .i64 o.kind, .int .i64 o.lock, .int .i64 o.party] 31)) := (Stay.refl _ w2).alloc _
        refine (play_any (HX.out.1.only hOa) (fun k hk => by have := HX.out.2.1.lt; simp; omega) (by omega) o).mono ?_
        rintro e w3 ⟨S', b', t', A3, c3, rfl, hP3, hs3, hS3⟩
        have hz := hOa.size
        have hB3 := hs3.blk (hOa.blk HX.out.2.1) (fun h => HX.out.2.2.1 _ h rfl)
        have hS3' : ∀ k, S' k → k ≠ w1.heap.size := fun k hk e => by
          have := HX.out.2.1.lt
          rcases hS3 k hk with h | h
          · exact HX.out.2.2.1 _ h e
          · omega
        clear k4 l4 hz
        have k4 := hB3.cell
        have l4 := hB3.lt
        have f4 := hB3.free
        have H3 := Lib.hid (And.intro hP3 (And.intro hB3 hS3'))
        clear hP3 hs3 hS3 hB3 hS3' hOa g0 g1 g2
        unfold tv
        go_wp2_with fail
        go_roundg (m - (j + 1))
        case measure => have := HX.out.2.2.2; omega
        case rel =>
          have hst : Stay (fun k => k = w1.heap.size) w3 ((w3.setCell ⟨w1.heap.size, 0, none⟩ (.slice A3 t'.ls.length c3)).alloc (.cells #[.slice A3 t'.ls.length c3] 57)) := ((Stay.refl (fun k => k = w1.heap.size) w3).put rfl _ _).alloc _
          have hwz := HT.out.2.2
          refine ⟨j + 1, t', S', b', A3, c3, by omega, rfl, by go_num, rfl, ⟨?_, H3.out.1.cons, H3.out.1.st.stay (hst.mono (fun _ _ h => .inr h))⟩, ?_, H3.out.2.2⟩
          · exact (H3.out.1.ot.more (by omega)).aside hst (fun k hk => by omega) (fun k hk e => H3.out.2.2 k hk e)
          · have := (H3.out.2.1.set 0 (.slice A3 t'.ls.length c3)).alloc (.cells #[.slice A3 t'.ls.length c3] 57)
            exact this
      · have HX := Lib.hid hP
        clear hP hB hS hk
        go_wp2_with fail
        refine (agree_any HX.out.ot HX.out.cons (by omega) A' c' HX.out.st.rd).mono ?_
        rintro e w3 ⟨rfl, hO3⟩
        have H3 := Lib.hid (HX.out.ot.only.trans' hO3)
        clear hO3
        go_wp2_with fail
        refine (awake_any _).mono ?_
        rintro e w4 ⟨rfl, hO4⟩
        have H4 := Lib.hid (H3.out.trans' hO4)
        clear hO4
        go_wp2_with fail
        go_ret
        exact ⟨rfl, H4.out⟩

end Go.Proofs.Ytfifdgigeecfbaa
