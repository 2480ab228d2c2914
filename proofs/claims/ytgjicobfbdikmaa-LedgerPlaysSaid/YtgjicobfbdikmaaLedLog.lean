/- slices.Clone and slices.Equal on entries; Log. -/
import Derived.Test.YtgjicobfbdikmaaLedRelease
import Derived.Test.YtgjicobfbdikmaaShelf
import Derived.Laws.StructEq
import Derived.Shelf.SlicesE.Clone
set_option linter.unusedVariables false
set_option linter.unusedSimpArgs false
namespace Go.Proofs
open Go.RowKit Go.Lib
def Try.cloneEnt_ren : Go.Shelf.Ren := ⟨fun | 41 => 36 | n => n, fun | 22 => 27 | 23 => 36 | 4 => 4 | n => n, fun | n => n⟩
theorem Try.cloneEnt : Go.Proofs.SlLaysE0.n41 Try.prog Try.cloneEnt_ren := {
  mixed := by kernel_rfl
  f41 := ⟨Try.f36.name, by decide, Try.func36.trans (congrArg some (by kernel_rfl))⟩
  t4 := Try.underlying4
  a4 := Try.isAgg4
  z4 := Try.sizeOf4
  v4 := Try.zeroValue4
  t22 := Try.underlying27
  a22 := Try.isAgg27
  z22 := Try.sizeOf27
  v22 := Try.zeroValue27 }
end Go.Proofs
namespace Go.Proofs.Ytgjicobfbdikmaa
open Go Go.RowKit Go.Sort

theorem cloneE_any (w : World) (v : Value) (es : List Ent) (h : w.ownsRow 0 36 4 v es.length (es.flatMap Ent.cells)) (hn : es.length ≤ 1000000) :
    Calls Try.prog 36 #[v] w fun e w' => ∃ v', e = .returned v' ∧ w'.ownsRow w.heap.size 36 4 v' es.length (es.flatMap Ent.cells) ∧ Only w w' := by
  obtain ⟨ie, hie0, hie1, hie2, hie3⟩ := info_parts infoE
  rcases h.2 with ⟨rfl, h0⟩ | ⟨g, cap, cur, rfl, _, _⟩
  · have e1 : es = [] := List.eq_nil_of_length_eq_zero h0
    subst e1
    refine (AnyE.slices_Clone_nil Try.cloneEnt 0 0 w).mono ?_
    rintro e w' ⟨rfl, rfl⟩
    exact ⟨_, rfl, World.ownsRow_nil _ _ _ _, Stay.refl _ _⟩
  · refine (AnyE.slices_Clone Try.cloneEnt ie _ 4 32 hie0 hie1 hie2 hie3 rfl (by omega) (fun w => Try.sizeOf36 w) g 0 es.length cap (es.flatMap Ent.cells) w (by rw [ents_length]) (by simp only [maxLen]; omega) (by omega) (fun j u hu => ?_) (fun u hu => ?_)).mono ?_
    · rw [Nat.zero_add]
      have := h.cellAt j (by have := (List.getElem?_eq_some_iff.1 hu).1; rw [ents_length] at this; exact this)
      rw [this, hu]
    · obtain ⟨x, _, hx⟩ := List.mem_flatMap.1 hu
      simp only [Ent.cells, List.mem_cons, List.not_mem_nil, or_false] at hx
      rcases hx with rfl | rfl | rfl | rfl <;> rfl
    · rintro e w' ⟨v', rfl, h1, _, h2⟩
      exact ⟨v', rfl, h1, Stay.of_below h2⟩

set_option maxRecDepth 100000 in
set_option maxHeartbeats 4000000 in
theorem log_any (w : World) (S : Nat → Prop) (b : Nat) (L : Lg) (h : LgAt w S b L) (hok : L.Ok) :
    Calls Try.prog 14 #[.pointer (some ⟨b, 0, none⟩)] w fun e w' => ∃ v', e = .returned v' ∧ w'.ownsRow w.heap.size 36 4 v' L.es.length (L.es.flatMap Ent.cells) ∧ Only w w' := by
  obtain ⟨m, ev, cv, kv, hs, hT⟩ := h
  have hn := hok.n
  have c := hT.blk.cell
  have l := hT.blk.lt
  have H := Lib.hid hT
  clear hT
  go_enter Try.func14, Try.ntmps14
  go_wp2_with fail
  refine (cloneE_any w ev L.es H.out.er (by omega)).mono ?_
  rintro e w1 ⟨v', rfl, h1, h2⟩
  have H1 := Lib.hid (And.intro h1 h2)
  clear h1 h2 c l
  go_wp2_with fail
  go_ret
  exact ⟨_, rfl, H1.out⟩

set_option maxRecDepth 100000 in
set_option maxHeartbeats 4000000 in
theorem log_nil (w : World) : Calls Try.prog 14 #[.pointer none] w fun e w' => e = .returned (.slice none 0 0) ∧ Only w w' := by
  go_enter Try.func14, Try.ntmps14
  go_wp2_with fail
  go_ret
  exact ⟨rfl, Stay.refl _ _⟩

theorem Ent.parts {x y : Ent} (h : ¬ x = y) : ¬ x.what = y.what ∨ (x.what = y.what ∧ ¬ x.task = y.task) ∨ (x.what = y.what ∧ x.task = y.task ∧ ¬ x.fr = y.fr) ∨ (x.what = y.what ∧ x.task = y.task ∧ x.fr = y.fr ∧ ¬ x.to = y.to) := by
  by_cases h1 : x.what = y.what
  · by_cases h2 : x.task = y.task
    · by_cases h3 : x.fr = y.fr
      · refine .inr (.inr (.inr ⟨h1, h2, h3, fun h4 => h ?_⟩))
        cases x; cases y
        simp_all
      · exact .inr (.inr (.inl ⟨h1, h2, h3⟩))
    · exact .inr (.inl ⟨h1, h2⟩)
  · exact .inl h1

set_option maxRecDepth 100000 in
set_option maxHeartbeats 4000000 in
theorem equalE_any (w : World) (A B : Option Addr) (ca cb : Nat) (xs ys : List Ent) (hx : Sl w w.heap.size A xs.length ca 4 (xs.flatMap Ent.cells)) (hy : Sl w w.heap.size B ys.length cb 4 (ys.flatMap Ent.cells)) :
    Calls Try.prog 26 #[.slice A xs.length ca, .slice B ys.length cb] w fun e w' => e = .returned (.bool (decide (xs = ys))) ∧ Only w w' := by
  have b1 := hx.2.1
  have b2 := hx.2.2.1
  have b3 := hy.2.1
  have b4 := hy.2.2.1
  have H := Lib.hid (And.intro hx hy)
  clear hx hy
  by_cases hl : xs.length = ys.length
  · have hl1 : ((xs.length : Int) != (ys.length : Int)) = false := by simp [hl]
    have HL := Lib.hid hl
    clear hl
    go_enter Try.func26, Try.ntmps26
    go_wp2_with fail
    go_loopg [13] (xs.length) (fun kk vi wr => ∃ (i : Nat), i ≤ xs.length ∧ kk = xs.length - i ∧ vi = .int .i64 (i : Nat) ∧ xs.take i = ys.take i ∧ Only w wr)
    case atStart => exact ⟨0, Nat.zero_le _, rfl, rfl, rfl, Stay.refl _ _⟩
    case round =>
      obtain ⟨i, hi, hk, rfl, ht, hO⟩ := hrel
      by_cases hlt : i < xs.length
      · obtain ⟨x, hx⟩ : ∃ x, xs[i]? = some x := ⟨_, List.getElem?_eq_getElem hlt⟩
        obtain ⟨y, hy⟩ : ∃ y, ys[i]? = some y := ⟨_, List.getElem?_eq_getElem (by have := HL.out; omega)⟩
        obtain ⟨xb, xo, rfl, hxb, hxc⟩ := (H.out.1.only hO).elem Ent.cells_length hx (by omega)
        obtain ⟨yb, yo, rfl, hyb, hyc⟩ := (H.out.2.only hO).elem Ent.cells_length hy (by have := HL.out; omega)
        have e0 := hxc 0 _ rfl
        have e1 := hxc 1 _ rfl
        have e2 := hxc 2 _ rfl
        have e3 := hxc 3 _ rfl
        have g0 := hyc 0 _ rfl
        have g1 := hyc 1 _ rfl
        have g2 := hyc 2 _ rfl
        have g3 := hyc 3 _ rfl
        simp only [Nat.add_zero] at e0 g0
        have u1 : (0 : Int) ≤ (i : Int) := by omega
        have u2 : (i : Int) < (xs.length : Int) := by omega
        have u3 : (i : Int) < (ys.length : Int) := by have := HL.out; omega
        have HX := Lib.hid (And.intro hk (And.intro ht (And.intro hO (And.intro hx hy))))
        clear hk ht hO hxc hyc hx hy
        go_upto_region 6 with fail
        go_cut [13, 24] from 13 (fun v13 v wx => v13 = .int .i64 (i : Nat) ∧ v = .bool (!decide (x = y)) ∧ wx = wr.drew)
        case first =>
          by_cases exy : x = y
          · subst exy
            go_region
            all_goals
              go_wp2_with fail
              go_meet
              case rel => exact ⟨rfl, by simp, rfl⟩
          · have hF : decide (x = y) = false := decide_eq_false exy
            rcases Ent.parts exy with q1 | ⟨q1, q2⟩ | ⟨q1, q2, q3⟩ | ⟨q1, q2, q3, q4⟩
            all_goals
              clear exy
              go_region
              all_goals
                go_wp2_with fail
                go_meet
                case rel => exact ⟨rfl, by rw [hF]; rfl, rfl⟩
        case rest =>
          obtain ⟨rfl, rfl, rfl⟩ := hcut
          by_cases exy : x = y
          · have HE := Lib.hid exy
            have hT : (!decide (x = y)) = false := by rw [decide_eq_true exy]; rfl
            rw [hT]
            clear exy hT e0 e1 e2 e3 g0 g1 g2 g3
            go_wp2_with fail
            go_roundg (xs.length - (i + 1))
            case measure => have := HX.out.1; omega
            case rel =>
              refine ⟨i + 1, by omega, rfl, by go_num, ?_, HX.out.2.2.1.drew⟩
              have h1 := HX.out.2.2.2.1
              have h2 := HX.out.2.2.2.2
              rw [HE.out] at h1
              rw [List.take_add_one, List.take_add_one, h1, h2, HX.out.2.1]
          · have HE := Lib.hid exy
            have hT : (!decide (x = y)) = true := by rw [decide_eq_false exy]; rfl
            rw [hT]
            clear exy hT e0 e1 e2 e3 g0 g1 g2 g3
            go_wp2_with fail
            go_ret
            refine ⟨?_, HX.out.2.2.1.drew⟩
            rw [decide_eq_false (fun e => HE.out (by
              have h1 := HX.out.2.2.2.1
              have h2 := HX.out.2.2.2.2
              rw [e, h2] at h1
              exact (Option.some.inj h1).symm))]
            rfl
      · have HX := Lib.hid (And.intro ht hO)
        clear hk ht hO
        go_wp2_with fail
        go_ret
        refine ⟨?_, HX.out.2⟩
        have h1 := HX.out.1
        rw [List.take_of_length_le (by omega), List.take_of_length_le (by have := HL.out; omega)] at h1
        rw [decide_eq_true h1]
        rfl
  · have hl1 : ((xs.length : Int) != (ys.length : Int)) = true := by simp; omega
    have hF := Lib.hid (show decide (xs = ys) = false from decide_eq_false (fun e => hl (by rw [e])))
    go_enter Try.func26, Try.ntmps26
    go_wp2_with fail
    go_ret
    exact ⟨by rw [hF.out]; rfl, Stay.refl _ _⟩

end Go.Proofs.Ytgjicobfbdikmaa
