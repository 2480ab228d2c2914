/- LockOrder: the walk. -/
import Derived.Test.YtfifdgigeecfbaaLaw18Row
import Derived.Test.YtfifdgigeecfbaaIntEq
import Derived.Deep.DeepCutAuto
import Derived.Deep.CutBlock
import Derived.Outline
set_option linter.unusedVariables false
set_option linter.unusedSimpArgs false
namespace Go.Proofs.Ytfifdgigeecfbaa
open Go Go.RowKit

/-- One lock; who asked are those who got a permit, and then those who wait. -/
def Inv (t : Tb) (asked got : List Int) : Prop := ∃ k, t.ls = [k] ∧ asked = got ++ k.waiting
theorem inv_hold {t : Tb} {a g : List Int} (h : Inv t a g) (p : Int) :
    ((t.hold 1 p).2.2 = 0 → (t.hold 1 p).2.1 = true → Inv (t.hold 1 p).1 (a ++ [p]) (g ++ [p])) ∧ ((t.hold 1 p).2.2 = 0 → (t.hold 1 p).2.1 = false → Inv (t.hold 1 p).1 (a ++ [p]) g) ∧ ((t.hold 1 p).2.2 ≠ 0 → Inv (t.hold 1 p).1 a g) := by
  obtain ⟨k, hk, ha⟩ := h
  by_cases hz : t.asked 1 p = 0
  · have hi : t.ls[((1 : Int) - 1).toNat]? = some k := by rw [hk]; rfl
    cases hw : aget t.waits p with
    | some j =>
      rw [Tb.hold_twice hz (by rw [hw]; rfl)]
      exact ⟨by simp, by simp, fun _ => ⟨k, hk, ha⟩⟩
    | none =>
      by_cases h1 : k.waiting = [] ∧ 0 < k.free
      · rw [Tb.hold_take hz hw hi h1.1 h1.2]
        refine ⟨fun _ _ => ⟨k.take p, by simp [hk], ?_⟩, by simp, by simp⟩
        rw [ha, h1.1]
        simp [Lk.take, h1.1]
      · rw [Tb.hold_park hz hw hi h1]
        refine ⟨by simp, fun _ _ => ⟨k.park p, by simp [hk], ?_⟩, by simp⟩
        rw [ha]
        simp [Lk.park]
  · rw [Tb.hold_bad rfl hz]
    exact ⟨fun h => absurd h hz, fun h => absurd h hz, fun _ => ⟨k, hk, ha⟩⟩
theorem inv_free {t : Tb} {a g : List Int} {d : Int} (h : Inv t a g) (hok : t.Ok d) (p : Int) :
    ((t.free 1 p).2.2 = 0 ∧ 0 < (t.free 1 p).2.1 → Inv (t.free 1 p).1 a (g ++ [(t.free 1 p).2.1])) ∧ (¬ ((t.free 1 p).2.2 = 0 ∧ 0 < (t.free 1 p).2.1) → Inv (t.free 1 p).1 a g) := by
  obtain ⟨k, hk, ha⟩ := h
  by_cases hz : t.asked 1 p = 0
  · have hi : t.ls[0]? = some k := by rw [hk]; rfl
    have hkok := hok.lk k (List.mem_of_getElem? hi)
    by_cases h0 : k.has p = 0
    · rw [Tb.free_none hz rfl hi h0]
      exact ⟨by simp, fun _ => ⟨k, hk, ha⟩⟩
    · rw [Tb.free_good hz rfl hi h0]
      cases hw : k.waiting with
      | nil =>
        rw [Lk.give_nil hw]
        refine ⟨by simp, fun _ => ⟨{ k with free := k.free + 1, holds := k.less p }, by simp [hk], ha⟩⟩
      | cons q l =>
        rw [Lk.give_cons hw]
        have hq := (hkok.wone q (by rw [hw]; simp)).1
        refine ⟨fun _ => ⟨{ k with holds := aset (k.less p) q ((aget (k.less p) q).getD 0 + 1), waiting := l }, by simp [hk], ?_⟩, fun h => absurd ⟨rfl, by show 0 < q; omega⟩ h⟩
        rw [ha, hw]
        simp
  · rw [Tb.free_bad rfl hz]
    exact ⟨fun h => absurd h.1 hz, fun _ => ⟨k, hk, ha⟩⟩

/-- A table in S, made since w0. -/
structure OT (w0 W : World) (S : Nat → Prop) (b : Nat) (t : Tb) (d : Int) : Prop where
  lies : TabAt W S b t
  new : ∀ k, S k → w0.heap.size ≤ k
  ok : t.Ok d
  only : Only w0 W
theorem OT.post {w0 W w' : World} {S : Nat → Prop} {b : Nat} {t t' : Tb} {d d' : Int} (h : OT w0 W S b t d) {res : Value} {e : Ending} (hp : TbPost W S b res t' e w') (hok : t'.Ok d') : e = .returned res ∧ OT w0 w' (grow S W w') b t' d' ∧ Stay S W w' := by
  obtain ⟨h1, h2, h3⟩ := hp
  refine ⟨h1, ⟨h2, fun k hk => ?_, hok, Mine.stay (Stay.trans (S := fun k => w0.heap.size ≤ k) (Mine.only h.only) h3 (fun k _ hk => h.new k hk))⟩, h3⟩
  rcases hk with hk | hk
  · exact h.new k hk
  · exact Nat.le_trans h.only.size hk.1
theorem OT.step {w0 W w' : World} {S : Nat → Prop} {b : Nat} {t : Tb} {d : Int} (h : OT w0 W S b t d) (ho : Only W w') : OT w0 w' S b t d := ⟨h.lies.only ho, h.new, h.ok, h.only.trans' ho⟩
theorem OT.aside {w0 W w' : World} {S X : Nat → Prop} {b : Nat} {t : Tb} {d : Int} (h : OT w0 W S b t d) (ho : Stay X W w') (hX : ∀ k, X k → w0.heap.size ≤ k) (hS : ∀ k, S k → ¬ X k) : OT w0 w' S b t d :=
  ⟨h.lies.stay ho hS (fun _ h => h) (fun k hk => Nat.lt_of_lt_of_le (h.lies.lt k hk) ho.size), h.new, h.ok, Mine.stay (Stay.trans (S := fun k => w0.heap.size ≤ k) (Mine.only h.only) ho (fun k _ hk => hX k hk))⟩
section
variable {w W : World} {S : Nat → Prop} {b : Nat} {t : Tb} {d : Int}
theorem ot_make (h : OT w W S b t d) (p : Int) : Calls Try.prog 11 #[.pointer (some ⟨b, 0, none⟩), .int .i64 p] W fun e w' => e = .returned (.tuple #[.int .i64 (t.make p).2.1, .int .i64 (t.make p).2.2]) ∧ OT w w' (grow S W w') b (t.make p).1 d ∧ Stay S W w' :=
  (make_any W _ b t d p h.lies h.ok).mono fun e w' hp => h.post hp (h.ok.make p)
theorem ot_hold (h : OT w W S b t d) (hd : d ≤ 1000000) (l p : Int) : Calls Try.prog 13 #[.pointer (some ⟨b, 0, none⟩), .int .i64 l, .int .i64 p] W fun e w' => e = .returned (.tuple #[.bool (t.hold l p).2.1, .int .i64 (t.hold l p).2.2]) ∧ OT w w' (grow S W w') b (t.hold l p).1 (d + 1) ∧ Stay S W w' :=
  (hold_any W _ b t d l p h.lies h.ok hd).mono fun e w' hp => h.post hp (h.ok.hold l p)
theorem ot_free (h : OT w W S b t d) (hd : d ≤ 1000000) (l p : Int) : Calls Try.prog 14 #[.pointer (some ⟨b, 0, none⟩), .int .i64 l, .int .i64 p] W fun e w' => e = .returned (.tuple #[.int .i64 (t.free l p).2.1, .int .i64 (t.free l p).2.2]) ∧ OT w w' (grow S W w') b (t.free l p).1 d ∧ Stay S W w' :=
  (free_any W _ b t d l p h.lies h.ok hd).mono fun e w' hp => h.post hp (h.ok.free l p)
theorem OT.more {d' : Int} (h : OT w W S b t d) (hd : d ≤ d') : OT w W S b t d' := ⟨h.lies, h.new, h.ok.mono hd, h.only⟩
theorem OT.alloc (h : OT w W S b t d) (o : Obj) : OT w (W.alloc o) S b t d := h.step ((Stay.refl _ W).alloc o)
end
/-- A row of ints of a law's own, beside S. -/
structure Rw (B : Nat) (W : World) (S : Nat → Prop) (v : Value) (xs : List Int) : Prop where
  row : W.ownsRow B 3 1 v xs.length (ints xs)
  off : ∀ g, v.ownBlock = some g → ¬ S g
theorem Rw.nil (B : Nat) (W : World) (S : Nat → Prop) : Rw B W S (.slice none 0 0) [] := ⟨World.ownsRow_nil _ _ _ _, fun g hg => by simp [Value.ownBlock] at hg⟩
theorem Rw.post {B : Nat} {W w' : World} {S : Nat → Prop} {v : Value} {xs : List Int} (h : Rw B W S v xs) (hs : Stay S W w') : Rw B w' (grow S W w') v xs :=
  ⟨own_stay hs h.row h.off, fun g hg hn => by
    rcases hn with hn | hn
    · exact h.off g hg hn
    · have := (own_lt h.row g hg).2; omega⟩
theorem Rw.only {B : Nat} {W w' : World} {S : Nat → Prop} {v : Value} {xs : List Int} (h : Rw B W S v xs) (hs : Only W w') : Rw B w' S v xs := ⟨own_only hs h.row, h.off⟩
theorem Rw.aside {B : Nat} {W w' : World} {S X : Nat → Prop} {v : Value} {xs : List Int} (h : Rw B W S v xs) (hs : Stay X W w') (hX : ∀ g, v.ownBlock = some g → ¬ X g) : Rw B w' S v xs := ⟨own_stay hs h.row hX, h.off⟩
/-- Two rows apart. -/
def Apart (u v : Value) : Prop := ∀ g, u.ownBlock = some g → v.ownBlock ≠ some g
theorem Apart.symm {u v : Value} (h : Apart u v) : Apart v u := fun g hg hu => h g hu hg
theorem Apart.nil (v : Value) : Apart (.slice none 0 0) v := fun g hg => by simp [Value.ownBlock] at hg
/-- Behind an append. -/
theorem Rw.push {B : Nat} {W wA w' : World} {S : Nat → Prop} {v : Value} {xs : List Int} {x : Int} {g cap : Nat} (h : Rw B W S v xs) (hA : Only W wA) (hS : ∀ k, S k → k < W.heap.size)
    (hown : w'.ownsRow B 3 1 (.slice (some ⟨g, 0, none⟩) (xs.length + 1) cap) (xs.length + 1) (ints xs ++ [.int .i64 x])) (hat : v.ownBlock = some g ∨ g = wA.heap.size) :
    Rw B w' S (.slice (some ⟨g, 0, none⟩) (xs.length + 1) cap) (xs ++ [x]) := by
  refine ⟨by simpa [ints] using hown, fun g' hg' hn => ?_⟩
  have e : g = g' := by simpa [Value.ownBlock] using hg'
  subst e
  rcases hat with e | e
  · exact h.off g e hn
  · have := hS g hn; have := hA.size; omega
theorem Apart.push {B : Nat} {W wA : World} {S : Nat → Prop} {u v : Value} {us : List Int} {g n cap : Nat} (h : Apart u v) (hu : Rw B W S u us) (hA : Only W wA) (hat : v.ownBlock = some g ∨ g = wA.heap.size) : Apart u (.slice (some ⟨g, 0, none⟩) n cap) := by
  intro g' hg' e
  have e2 : g = g' := by simpa [Value.ownBlock] using e
  subst e2
  rcases hat with e | e
  · exact h g hg' e
  · have := (own_lt hu.row g hg').2; have := hA.size; omega

theorem Sl.head {w : World} {B : Nat} {A : Option Addr} {n cap : Nat} {xs ys : List Int} (h : Sl w B A n cap 1 (ints (xs ++ ys))) : Sl w B A xs.length cap 1 (ints xs) := by
  have hn : n = xs.length + ys.length := by have := h.1; simp at this; omega
  refine ⟨by simp, by have := h.2.1; omega, h.2.2.1, h.2.2.2.1, fun h0 => ?_⟩
  obtain ⟨b, off, e, hb, hc⟩ := h.2.2.2.2 (by omega)
  refine ⟨b, off, e, hb, fun j u hu => hc j u ?_⟩
  rw [ints, List.map_append, List.getElem?_append_left (by have := (List.getElem?_eq_some_iff.1 hu).1; simpa using this)]
  exact hu

set_option maxRecDepth 100000 in
set_option maxHeartbeats 8000000 in
theorem lockOrder_any (w : World) (p : Int) (A : Option Addr) (n ca : Nat) (ops : List Op3) (hl : Sl w w.heap.size A n ca 3 (ops.flatMap Op3.cells)) (hlen : ops.length = n) :
    Calls Try.prog 3 #[.int .i64 p, .slice A n ca] w fun e w' => e = .returned (.bool true) ∧ Only w w' := by
  have HL := Lib.hid (And.intro hl hlen)
  have hnc := hl.2.1
  have hcm := hl.2.2.1
  clear hl hlen
  by_cases hp : p < 1 ∨ 16 < p
  · have hF := Lib.hid (show Tb.new.make p = (Tb.new, 0, 2) by unfold Tb.make; rw [if_pos hp])
    rcases hp with hp | hp
    · go_enter Try.func3, Try.ntmps3
      go_wp2_with fail
      refine (own_newT w w (Stay.refl _ w) (d := 0) (by omega)).mono ?_
      rintro e w1 ⟨rfl, hT, _⟩
      have HT := Lib.hid hT
      clear hT
      go_wp2_with fail
      refine (own_make HT.out p).mono ?_
      rintro e w2 ⟨rfl, hT⟩
      rw [hF.out] at hT ⊢
      have HT2 := Lib.hid hT
      clear hT
      simp only
      go_wp2_with fail
      refine (awake_any _).mono ?_
      rintro e w3 ⟨rfl, hO⟩
      have HO := Lib.hid hO
      clear hO
      go_wp2_with fail
      go_ret
      exact ⟨rfl, HT2.out.only.trans' HO.out⟩
    · have hp2 : 1 ≤ p := by omega
      go_enter Try.func3, Try.ntmps3
      go_wp2_with fail
      refine (own_newT w w (Stay.refl _ w) (d := 0) (by omega)).mono ?_
      rintro e w1 ⟨rfl, hT, _⟩
      have HT := Lib.hid hT
      clear hT
      go_wp2_with fail
      refine (own_make HT.out p).mono ?_
      rintro e w2 ⟨rfl, hT⟩
      rw [hF.out] at hT ⊢
      have HT2 := Lib.hid hT
      clear hT
      simp only
      go_wp2_with fail
      refine (awake_any _).mono ?_
      rintro e w3 ⟨rfl, hO⟩
      have HO := Lib.hid hO
      clear hO
      go_wp2_with fail
      go_ret
      exact ⟨rfl, HT2.out.only.trans' HO.out⟩
  · have hF := Lib.hid (show Tb.new.make p = (({ ls := [Lk.new p], waits := [] } : Tb), (1 : Int), (0 : Int)) by unfold Tb.make; rw [if_neg hp, if_neg (by simp [Tb.new])]; rfl)
    obtain ⟨ii, hii0, hii1, hii2, hii3⟩ := info_parts infoI
    clear hp
    go_enter Try.func3, Try.ntmps3
    go_wp2_with fail
    refine (own_newT w w (Stay.refl _ w) (d := 0) (by omega)).mono ?_
    rintro e w1 ⟨rfl, hT, _⟩
    have HT := Lib.hid hT
    clear hT
    go_wp2_with fail
    refine (own_make HT.out p).mono ?_
    rintro e w2 ⟨rfl, hT⟩
    rw [hF.out] at hT ⊢
    have HT2 := Lib.hid (show OT w w2 (From w.heap.size w2) (w.heap.size + 1) _ 0 from ⟨hT.lies, fun k hk => hk.1, hT.ok, hT.only⟩)
    clear hT
    simp only
    go_upto_region 6 with fail
    go_cut [42, 43, 44] from 38 to 41 (fun a b i wc => ∃ m : Nat, m = min n 100 ∧ a = .slice A m ca ∧ b = .int .i64 (m : Nat) ∧ i = .int .i64 0 ∧ w2 = wc)
    case first =>
      go_wp2_with fail
      go_meet
      case rel => exact ⟨min n 100, rfl, congrArg (fun x => Value.slice A x ca) (by omega), congrArg (Value.int .i64) (by omega), rfl, rfl⟩
    case rest =>
      obtain ⟨m, hm, rfl, rfl, rfl, rfl⟩ := hcut
      have hmn : m ≤ n := by omega
      have hm80 : m ≤ 100 := by omega
      have hmc : m ≤ ca := by omega
      have HM := Lib.hid hm
      clear hm
      go_wp2_with fail
      go_loopg [8, 9, 44] m (fun k va vg vj wr => ∃ (j : Nat) (t : Tb) (asked got : List Int) (S : Nat → Prop), j ≤ m ∧ k = m - j ∧ vj = .int .i64 (j : Nat) ∧ asked.length ≤ j ∧ got.length ≤ j ∧ Inv t asked got ∧
        OT w wr S (w.heap.size + 1) t j ∧ Rw w.heap.size wr S va asked ∧ Rw w.heap.size wr S vg got ∧ Apart va vg)
      case atStart => exact ⟨0, _, [], [], _, Nat.zero_le _, rfl, rfl, by simp, by simp, ⟨Lk.new p, rfl, rfl⟩, HT2.out, Rw.nil _ _ _, Rw.nil _ _ _, Apart.nil _⟩
      case round =>
        obtain ⟨j, t, asked, got, S, hj, hk, rfl, ha1, hg1, hinv, hOT, hra, hrg, hap⟩ := hrel
        by_cases hlt : j < m
        · obtain ⟨o, ho⟩ : ∃ o, ops[j]? = some o := ⟨_, List.getElem?_eq_getElem (by have := HL.out.2; omega)⟩
          obtain ⟨ab, ao, rfl, hab, hcells⟩ := (HL.out.1.only hOT.only).elem Op3.cells_length ho (by omega)
          have g0 := hcells 0 _ rfl
          simp only [Nat.add_zero] at g0
          have g1 := hcells 1 _ rfl
          have g2 := hcells 2 _ rfl
          obtain ⟨Aa, cpa, rfl⟩ := own_shape hra.row
          obtain ⟨Ag, cpg, rfl⟩ := own_shape hrg.row
          have HX := Lib.hid (And.intro hinv (And.intro hOT (And.intro hra (And.intro hrg (And.intro hap hk)))))
          have hszw : w.heap.size ≤ wr.heap.size := hOT.only.size
          clear hinv hOT hra hrg hap hcells ho hk
          by_cases h0 : o.kind = 2
          · have h0' : (o.kind != 2) = false := by simp [h0]
            have H0 := Lib.hid h0
            clear h0
            go_wp2_with fail
            refine (ot_free (HX.out.2.1.alloc _) (by omega) 1 o.party).mono ?_
            rintro e w4 ⟨rfl, hT4, hs4⟩
            have hi := inv_free HX.out.1 HX.out.2.1.ok o.party
            obtain ⟨t', who, er, hr⟩ : ∃ t' who er, t.free 1 o.party = (t', who, er) := ⟨_, _, _, rfl⟩
            rw [hr] at hT4 hi ⊢
            simp only at hT4 hi ⊢
            have HY := Lib.hid (And.intro hi (And.intro hT4 (And.intro ((HX.out.2.2.1.only ((Stay.refl _ wr).alloc _)).post hs4) ((HX.out.2.2.2.1.only ((Stay.refl _ wr).alloc _)).post hs4))))
            have hsz4 : wr.heap.size < w4.heap.size := by have := hs4.size; simp at this; omega
            clear hi hT4 hs4 hr
            by_cases hc : er = 0 ∧ 0 < who
            · obtain ⟨rfl, hw0⟩ := hc
              have HI := Lib.hid (HY.out.1.1 ⟨rfl, hw0⟩)
              go_wp2_with (at_builtin; refine wpList_append_lies _ rfl _ _ _ rfl w.heap.size 3 ii _ 1 8 Try.underlying29 hii0 hii1 hii2 hii3 rfl (by omega) _ got.length _ (by rfl) (own_alloc HY.out.2.2.2.row _) ⟨w4.heap.size, 0, none⟩ 1 1 [.int .i64 who] (by rfl) (by rfl) (World.news_of_block (cs := [Value.int .i64 who].toArray) (t := 3) (fr := (0, 0)) (heap_alloc_at' _ _ _ (by simp))) (by simp [Value.oneCell']) (by omega) (by simp only [maxLen]; omega) (by omega) (by simp; omega) (w4.heap.size + 1) (by simp) ?_; intro g cap w5 hown hgrow hat hlt2; have HG := Lib.hid (And.intro hown (And.intro hgrow hat)); clear hown hgrow hat hlt2)
              go_roundg (m - (j + 1))
              case measure =>
                have := HX.out.2.2.2.2.2
                omega
              case rel =>
                obtain ⟨k1, k2, k3⟩ := HG.out
                obtain ⟨y1, y2, y3, y4⟩ := HY.out
                have hS4 := y2.lies.lt
                have x1 := grown_stay k2
                have hO4 : Only w4 (w4.alloc (.cells #[.int .i64 who] 3)) := (Stay.refl _ w4).alloc _
                refine ⟨j + 1, t', asked, got ++ [who], _, by omega, rfl, rfl, by omega, by simp; omega, HI.out, (OT.aside (y2.alloc _) x1 (fun k e => (own_lt y4.row k e).1) (fun k hk e => y4.off k e hk)).more (by omega), (y3.only hO4).aside x1 (fun g' hg' e => HX.out.2.2.2.2.1 g' hg' e), Rw.push y4 hO4 hS4 k1 (k3.imp id (fun e => by simpa using e)), Apart.push HX.out.2.2.2.2.1 y3 hO4 (k3.imp id (fun e => by simpa using e))⟩
            · have HI := Lib.hid (HY.out.1.2 hc)
              have hcs : (er == 0) = false ∨ ((er == 0) = true ∧ who ≤ 0) := by
                by_cases e : er = 0
                · exact .inr ⟨by simp [e], Int.not_lt.1 (fun h => hc ⟨e, h⟩)⟩
                · exact .inl (by simp [e])
              clear hc
              rcases hcs with hc1 | ⟨hc1, hc2⟩
              all_goals
                go_wp2_with fail
                go_roundg (m - (j + 1))
                case measure =>
                  have := HX.out.2.2.2.2.2
                  omega
                case rel =>
                  obtain ⟨y1, y2, y3, y4⟩ := HY.out
                  exact ⟨j + 1, t', asked, got, _, by omega, rfl, rfl, by omega, by omega, HI.out, y2.more (by omega), y3, y4, HX.out.2.2.2.2.1⟩
          · have h0' : (o.kind != 2) = true := by simp [h0]
            have H0 := Lib.hid h0
            clear h0
            go_wp2_with fail
            refine (ot_hold (HX.out.2.1.alloc _) (by omega) 1 o.party).mono ?_
            rintro e w4 ⟨rfl, hT4, hs4⟩
            have hi := inv_hold HX.out.1 o.party
            obtain ⟨t', has, er, hr⟩ : ∃ t' has er, t.hold 1 o.party = (t', has, er) := ⟨_, _, _, rfl⟩
            rw [hr] at hT4 hi ⊢
            simp only at hT4 hi ⊢
            have hO0 : Only wr (wr.alloc (.cells #[.int .i64 o.kind, .int .i64 o.lock, .int .i64 o.party] 31)) := (Stay.refl _ wr).alloc _
            have HY := Lib.hid (And.intro hi (And.intro hT4 (And.intro ((HX.out.2.2.1.only hO0).post hs4) ((HX.out.2.2.2.1.only hO0).post hs4))))
            have hb4 := hs4.blk (Blk.new wr [.int .i64 o.kind, .int .i64 o.lock, .int .i64 o.party] 31) (fun h => by have := HX.out.2.1.lies.lt _ h; omega)
            have c4 := hb4.cell
            have l4 := hb4.lt
            have HB4 := Lib.hid hb4
            have hsz4 : wr.heap.size < w4.heap.size := by have := hs4.size; simp at this; omega
            clear hi hT4 hs4 hr hb4
            by_cases hc : er = 0
            · obtain rfl := hc
              have hg1' : got.length ≤ 100 := by omega
              have ha1' : asked.length ≤ 100 := by omega
              cases has with
              | true =>
                have HI := Lib.hid (HY.out.1.1 rfl rfl)
                go_upto_region 13 with (at_builtin; refine wpList_append_lies _ rfl _ _ _ rfl w.heap.size 3 ii _ 1 8 Try.underlying29 hii0 hii1 hii2 hii3 rfl (by omega) _ asked.length _ (by rfl) (own_alloc HY.out.2.2.1.row _) ⟨w4.heap.size, 0, none⟩ 1 1 [.int .i64 o.party] (by rfl) (by rfl) (World.news_of_block (cs := [Value.int .i64 o.party].toArray) (t := 3) (fr := (0, 0)) (heap_alloc_at' _ _ _ (by simp))) (by simp [Value.oneCell']) (by omega) (by simp only [maxLen]; omega) (by omega) (by simp; omega) (w4.heap.size + 1) (by simp) ?_; intro g cap1 w5 hown hgrow hat hlt2; have hb5 := (grown_stay hgrow).blk (HB4.out.alloc _) (fun e => own_ne_blk HY.out.2.2.1.row HB4.out (by decide) _ e rfl); have c5 := hb5.cell; have HB5 := Lib.hid hb5; have l5 := hb5.lt; have HG := Lib.hid (And.intro hown (And.intro hgrow (And.intro hat hlt2))); clear hown hgrow hat hlt2 hb5 c4 l4)
                have HZ := Lib.hid (by
                  obtain ⟨k1, k2, k3, k4⟩ := HG.out
                  obtain ⟨y1, y2, y3, y4⟩ := HY.out
                  have hS4 := y2.lies.lt
                  have x1 := grown_stay k2
                  have hO4 : Only w4 (w4.alloc (.cells #[.int .i64 o.party] 3)) := (Stay.refl _ w4).alloc _
                  have z2 := (OT.aside (y2.alloc _) x1 (fun k e => (own_lt y3.row k e).1) (fun k hk e => y3.off k e hk))
                  have z4 := (y4.only hO4).aside x1 (fun g' hg' e => HX.out.2.2.2.2.1 g' e hg')
                  have z3 := Rw.push y3 hO4 hS4 k1 (k3.imp id (fun e => by simpa using e))
                  have zap := Apart.push HX.out.2.2.2.2.1.symm y4 hO4 (n := asked.length + 1) (cap := cap1) (k3.imp id (fun e => by simpa using e))
                  exact And.intro z2 (And.intro z3 (And.intro z4 zap)))
                have hsz5 : w4.heap.size < w5.heap.size := by have := HG.out.2.1.size; simp at this; omega
                go_wp2_with (at_builtin; refine wpList_append_lies _ rfl _ _ _ rfl w.heap.size 3 ii _ 1 8 Try.underlying29 hii0 hii1 hii2 hii3 rfl (by omega) _ got.length _ (by rfl) (own_alloc HZ.out.2.2.1.row _) ⟨w5.heap.size, 0, none⟩ 1 1 [.int .i64 o.party] (by rfl) (by rfl) (World.news_of_block (cs := [Value.int .i64 o.party].toArray) (t := 3) (fr := (0, 0)) (heap_alloc_at' _ _ _ (by simp))) (by simp [Value.oneCell']) (by omega) (by simp only [maxLen]; omega) (by omega) (by simp; omega) (w5.heap.size + 1) (by simp) ?_; intro g2 cap2 w6 hown hgrow hat hlt2; have HG2 := Lib.hid (And.intro hown (And.intro hgrow (And.intro hat hlt2))); clear hown hgrow hat hlt2)
                go_roundg (m - (j + 1))
                case measure =>
                  have := HX.out.2.2.2.2.2
                  omega
                case rel =>
                  obtain ⟨z2, z3, z4, zap⟩ := HZ.out
                  obtain ⟨k1, k2, k3, k4⟩ := HG2.out
                  have hS5 := z2.lies.lt
                  have x1 := grown_stay k2
                  have hO5 : Only w5 (w5.alloc (.cells #[.int .i64 o.party] 3)) := (Stay.refl _ w5).alloc _
                  refine ⟨j + 1, t', asked ++ [o.party], got ++ [o.party], _, by omega, rfl, by simp, by simp; omega, by simp; omega, HI.out, (OT.aside (z2.alloc _) x1 (fun k e => (own_lt z4.row k e).1) (fun k hk e => z4.off k e hk)).more (by omega), ?_, Rw.push z4 hO5 hS5 k1 (k3.imp id (fun e => by simpa using e)), ?_⟩
                  · have := (z3.only hO5).aside x1 (fun g' hg' e => zap.symm g' hg' e)
                    simpa using this
                  · have := Apart.push zap.symm z3 hO5 (n := got.length + 1) (cap := cap2) (k3.imp id (fun e => by simpa using e))
                    simpa using this
              | false =>
                have HI := Lib.hid (HY.out.1.2.1 rfl rfl)
                go_upto_region 13 with (at_builtin; refine wpList_append_lies _ rfl _ _ _ rfl w.heap.size 3 ii _ 1 8 Try.underlying29 hii0 hii1 hii2 hii3 rfl (by omega) _ asked.length _ (by rfl) (own_alloc HY.out.2.2.1.row _) ⟨w4.heap.size, 0, none⟩ 1 1 [.int .i64 o.party] (by rfl) (by rfl) (World.news_of_block (cs := [Value.int .i64 o.party].toArray) (t := 3) (fr := (0, 0)) (heap_alloc_at' _ _ _ (by simp))) (by simp [Value.oneCell']) (by omega) (by simp only [maxLen]; omega) (by omega) (by simp; omega) (w4.heap.size + 1) (by simp) ?_; intro g cap1 w5 hown hgrow hat hlt2; have hb5 := (grown_stay hgrow).blk (HB4.out.alloc _) (fun e => own_ne_blk HY.out.2.2.1.row HB4.out (by decide) _ e rfl); have c5 := hb5.cell; have HB5 := Lib.hid hb5; have l5 := hb5.lt; have HG := Lib.hid (And.intro hown (And.intro hgrow (And.intro hat hlt2))); clear hown hgrow hat hlt2 hb5 c4 l4)
                go_wp2_with fail
                go_roundg (m - (j + 1))
                case measure =>
                  have := HX.out.2.2.2.2.2
                  omega
                case rel =>
                  obtain ⟨k1, k2, k3, k4⟩ := HG.out
                  obtain ⟨y1, y2, y3, y4⟩ := HY.out
                  have hS4 := y2.lies.lt
                  have x1 := grown_stay k2
                  have hO4 : Only w4 (w4.alloc (.cells #[.int .i64 o.party] 3)) := (Stay.refl _ w4).alloc _
                  have z2 := (OT.aside (y2.alloc _) x1 (fun k e => (own_lt y3.row k e).1) (fun k hk e => y3.off k e hk))
                  have z4 := (y4.only hO4).aside x1 (fun g' hg' e => HX.out.2.2.2.2.1 g' e hg')
                  have z3 := Rw.push y3 hO4 hS4 k1 (k3.imp id (fun e => by simpa using e))
                  have zap := Apart.push HX.out.2.2.2.2.1.symm y4 hO4 (n := asked.length + 1) (cap := cap1) (k3.imp id (fun e => by simpa using e))
                  exact ⟨j + 1, t', asked ++ [o.party], got, _, by omega, rfl, by simp, by simp; omega, by omega, HI.out, z2.more (by omega), by simpa using z3, z4, by simpa using zap.symm⟩
            · have hcb : (er == 0) = false := by simp [hc]
              have HI := Lib.hid (HY.out.1.2.2 hc)
              clear hc
              go_wp2_with fail
              go_roundg (m - (j + 1))
              case measure =>
                have := HX.out.2.2.2.2.2
                omega
              case rel =>
                obtain ⟨y1, y2, y3, y4⟩ := HY.out
                exact ⟨j + 1, t', asked, got, _, by omega, rfl, rfl, by omega, by omega, HI.out, y2.more (by omega), y3, y4, HX.out.2.2.2.2.1⟩
        · have hje : j = m := by omega
          subst hje
          obtain ⟨k, hk1, rfl⟩ := hinv
          obtain ⟨Aa, cpa, rfl⟩ := own_shape hra.row
          obtain ⟨Ag, cpg, rfl⟩ := own_shape hrg.row
          have hla : (got ++ k.waiting).length = got.length + k.waiting.length := by simp
          have hle : (got.length : Int) ≤ (got ++ k.waiting).length := by omega
          have s1 := own_sl' hrg.row
          have s2 := (own_sl' hra.row).head
          have b1 := s1.2.1
          have b2 := s2.2.1
          have b3 := s2.2.2.1
          have b4 := s1.2.2.1
          have HX := Lib.hid (And.intro hOT.only (And.intro s1 s2))
          clear hOT hra hrg hap hk hk1 s1 s2
          go_wp2_with fail
          refine (eqI_any _ Ag Aa cpg cpa got got HX.out.2.1 HX.out.2.2).mono ?_
          rintro e w4 ⟨rfl, hO⟩
          have HO := Lib.hid hO
          have hbt : (got == got) = true := by simp
          rw [hbt]
          clear hO hbt
          go_wp2_with fail
          refine (awake_any _).mono ?_
          rintro e w5 ⟨rfl, hO⟩
          have HO2 := Lib.hid hO
          clear hO
          go_wp2_with fail
          go_ret
          exact ⟨rfl, HX.out.1.trans' (HO.out.trans' HO2.out)⟩

end Go.Proofs.Ytfifdgigeecfbaa
