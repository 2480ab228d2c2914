/- alike: two lists of states that read as the same locks. -/
import Derived.Test.YtfifdgigeecfbaaLockSame
import Derived.Test.YtfifdgigeecfbaaLockClosed
set_option linter.unusedVariables false
set_option linter.unusedSimpArgs false
namespace Go.Proofs.Ytfifdgigeecfbaa
open Go Go.RowKit

/-- Readable states. -/
def StsR (w : World) (A : Option Addr) (n c : Nat) (ks : List Lk) : Prop :=
  ∃ vs : List (Value × Value), vs.length = ks.length ∧ n = ks.length ∧ Sl w w.heap.size A n c 4 ((ks.zip vs).flatMap scell) ∧
    ∀ (i : Nat) k hv wv, ks[i]? = some k → vs[i]? = some (hv, wv) → ∃ A c A' c', hv = .slice A k.holders.length c ∧ wv = .slice A' k.waiting.length c' ∧ Rd w k A c A' c'
theorem StsR.only {w w' : World} {A : Option Addr} {n c : Nat} {ks : List Lk} (h : StsR w A n c ks) (ho : Only w w') : StsR w' A n c ks := by
  obtain ⟨vs, h1, h2, h3, h4⟩ := h
  refine ⟨vs, h1, h2, h3.later ho ho.size, fun i k hv wv hk hv' => ?_⟩
  obtain ⟨A1, c1, A2, c2, e1, e2, hr⟩ := h4 i k hv wv hk hv'
  exact ⟨A1, c1, A2, c2, e1, e2, hr.only ho⟩
theorem Sts.rd {w : World} {B : Nat} {v : Value} {ks : List Lk} (h : Sts w B v ks) : ∃ A c, v = .slice A ks.length c ∧ StsR w A ks.length c ks := by
  obtain ⟨vs, h1, h2, h3⟩ := h
  obtain ⟨A, c, rfl⟩ := own_shape h2
  refine ⟨A, c, rfl, vs, h1, rfl, own_sl' h2, fun i k hv wv hk hv' => ?_⟩
  obtain ⟨r1, r2⟩ := h3 i k hv wv hk hv'
  obtain ⟨A1, c1, rfl⟩ := own_shape r1
  obtain ⟨A2, c2, rfl⟩ := own_shape r2
  exact ⟨A1, c1, A2, c2, rfl, rfl, own_sl' r1, own_sl' r2⟩
/-- One of them. -/
theorem StsR.elem {w : World} {A : Option Addr} {n c i : Nat} {ks : List Lk} {k : Lk} (h : StsR w A n c ks) (hi : ks[i]? = some k) :
    ∃ b off A1 c1 A2 c2, A = some ⟨b, off, none⟩ ∧ b < w.heap.size ∧ (∀ j u, (stc k A1 c1 A2 c2)[j]? = some u → w.cell? ⟨b, off + i * 4 + j, none⟩ = some u) ∧ Rd w k A1 c1 A2 c2 := by
  obtain ⟨vs, h1, h2, h3, h4⟩ := h
  have hil := (List.getElem?_eq_some_iff.1 hi).1
  obtain ⟨⟨hv, wv⟩, hvw⟩ : ∃ x, vs[i]? = some x := ⟨_, List.getElem?_eq_getElem (by omega)⟩
  obtain ⟨A1, c1, A2, c2, rfl, rfl, hr⟩ := h4 i k hv wv hi hvw
  have hz : (ks.zip vs)[i]? = some (k, .slice A1 k.holders.length c1, .slice A2 k.waiting.length c2) := by rw [List.getElem?_zip_eq_some]; exact ⟨hi, hvw⟩
  obtain ⟨b, off, e, hb, hc⟩ := h3.elem scell_length hz (by omega)
  exact ⟨b, off, A1, c1, A2, c2, e, hb, hc, hr⟩

set_option maxRecDepth 100000 in
set_option maxHeartbeats 4000000 in
theorem eqFn_any (w : World) (A B : Option Addr) (ca cb : Nat) (ks : List Lk) (h1 : StsR w A ks.length ca ks) (h2 : StsR w B ks.length cb ks) (hn : ks.length ≤ 1000000) :
    Calls Try.prog 49 #[.slice A ks.length ca, .slice B ks.length cb, .func (.func 20) #[] #[]] w fun e w' => e = .returned (.bool true) ∧ Only w w' := by
  have hb : ks.length ≤ ca ∧ ca ≤ 9223372036854775807 ∧ ks.length ≤ cb := by
    obtain ⟨_, _, _, s1, _⟩ := h1
    obtain ⟨_, _, _, s2, _⟩ := h2
    exact ⟨s1.2.1, s1.2.2.1, s2.2.1⟩
  obtain ⟨b1, b2, b3⟩ := hb
  have H := Lib.hid (And.intro h1 h2)
  clear h1 h2
  go_enter Try.func49, Try.ntmps49
  go_wp2_with fail
  go_loopg [17] (ks.length) (fun kk vi wr => ∃ (i : Nat), i ≤ ks.length ∧ kk = ks.length - i ∧ vi = .int .i64 (i : Nat) ∧ Only w wr)
  case atStart => exact ⟨0, Nat.zero_le _, rfl, rfl, Stay.refl _ _⟩
  case round =>
    obtain ⟨i, hi, hk, rfl, hO⟩ := hrel
    by_cases hlt : i < ks.length
    · obtain ⟨k, hkk⟩ : ∃ k, ks[i]? = some k := ⟨_, List.getElem?_eq_getElem hlt⟩
      obtain ⟨xb, xo, A1, c1, A2, c2, rfl, hxb, hxc, hr1⟩ := (H.out.1.only hO).elem hkk
      obtain ⟨yb, yo, B1, d1, B2, d2, rfl, hyb, hyc, hr2⟩ := (H.out.2.only hO).elem hkk
      have e0 := hxc 0 _ rfl
      have e1 := hxc 1 _ rfl
      have e2 := hxc 2 _ rfl
      have e3 := hxc 3 _ rfl
      have g0 := hyc 0 _ rfl
      have g1 := hyc 1 _ rfl
      have g2 := hyc 2 _ rfl
      have g3 := hyc 3 _ rfl
      simp only [Nat.add_zero] at e0 g0
      have HX := Lib.hid (And.intro hk (And.intro hO (And.intro hr1 hr2)))
      clear hk hO hr1 hr2 hxc hyc hkk
      obtain ⟨w3, rfl⟩ : ∃ w3 : World, w3 = wr := ⟨_, rfl⟩
      go_wp2_with fail
      have hO2 : Only w3 ((w3.alloc (.cells (stc k A1 c1 A2 c2).toArray 42)).alloc (.cells (stc k B1 d1 B2 d2).toArray 42)) := ((Stay.refl _ w3).alloc _).alloc _
      refine (show Calls _ _ _ ((w3.alloc (.cells (stc k A1 c1 A2 c2).toArray 42)).alloc (.cells (stc k B1 d1 B2 d2).toArray 42)) _ from same_any _ k A1 A2 B1 B2 c1 c2 d1 d2 (HX.out.2.2.1.only hO2) (HX.out.2.2.2.only hO2)).mono ?_
      rintro e w4 ⟨rfl, hO4⟩
      have HO4 := Lib.hid (Only.trans' hO2 hO4)
      clear hO4 hO2
      go_wp2_with fail
      go_roundg (ks.length - (i + 1))
      case measure => have := HX.out.1; omega
      case rel => exact ⟨i + 1, by omega, rfl, by go_num, HX.out.2.1.trans' HO4.out⟩
    · have HX := Lib.hid hO
      clear hk hO
      go_wp2_with fail
      go_ret
      exact ⟨rfl, HX.out⟩

set_option maxRecDepth 100000 in
theorem alike_any (w : World) (A B : Option Addr) (ca cb : Nat) (ks : List Lk) (h1 : StsR w A ks.length ca ks) (h2 : StsR w B ks.length cb ks) (hn : ks.length ≤ 1000000) :
    Calls Try.prog 28 #[.slice A ks.length ca, .slice B ks.length cb] w fun e w' => e = .returned (.bool true) ∧ Only w w' := by
  have H := Lib.hid (And.intro h1 h2)
  clear h1 h2
  go_enter Try.func28, Try.ntmps28
  go_wp2_with fail
  refine (eqFn_any w A B ca cb ks H.out.1 H.out.2 hn).mono ?_
  rintro e w4 ⟨rfl, hO4⟩
  have HO4 := Lib.hid hO4
  clear hO4
  go_wp2_with fail
  go_ret
  exact ⟨rfl, HO4.out⟩

/-! ### Two tables with the same locks -/
theorem same_get {t u : Tb} (h : t.ls = u.ls) (ht : t.Cons) (hu : u.Cons) (p : Int) : aget t.waits p = aget u.waits p := by
  cases e : aget t.waits p with
  | none =>
    cases e2 : aget u.waits p with
    | none => rfl
    | some i =>
      obtain ⟨k, hk, hm⟩ := hu.c1 p i e2
      rw [← h] at hk
      rw [ht.c2 i k p hk hm] at e
      cases e
  | some i =>
    obtain ⟨k, hk, hm⟩ := ht.c1 p i e
    rw [h] at hk
    rw [hu.c2 i k p hk hm]
theorem run_same {t u : Tb} (h : t.ls = u.ls) (ht : t.Cons) (hu : u.Cons) (o : Op3) : (t.run o).1.ls = (u.run o).1.ls := by
  have hg := same_get h ht hu
  have ha : ∀ l p, t.asked l p = u.asked l p := fun l p => by unfold Tb.asked; rw [h]
  unfold Tb.run
  split
  · show (t.make o.lock).1.ls = (u.make o.lock).1.ls
    unfold Tb.make
    rw [h]
    split
    · exact h
    split
    · exact h
    · rfl
  split
  · show (t.hold o.lock o.party).1.ls = (u.hold o.lock o.party).1.ls
    unfold Tb.hold
    rw [ha, hg, h]
    split
    · exact h
    split
    · exact h
    split
    · exact h
    split
    · simp [Tb.upd, h]
    · simp [Tb.upd, h]
  split
  · show (t.free o.lock o.party).1.ls = (u.free o.lock o.party).1.ls
    unfold Tb.free
    rw [ha, h]
    split
    · exact h
    split
    · exact h
    split
    · exact h
    · simp [Tb.upd, h]
  split
  · show (t.withdraw o.party).1.ls = (u.withdraw o.party).1.ls
    unfold Tb.withdraw
    rw [hg, h]
    split
    · exact h
    split
    · exact h
    · rfl
  · exact h
theorem closed_same {t u : Tb} (h : t.ls = u.ls) (ht : t.Cons) (hu : u.Cons) {X : Int → Prop} (hc : t.Closed X) : u.Closed X := by
  intro x hx
  obtain ⟨i, k, h1, h2, h3⟩ := hc x hx
  exact ⟨i, k, by rw [← same_get h ht hu]; exact h1, by rw [← h]; exact h2, h3⟩
theorem stuck_same {t u : Tb} {d d' : Int} (h : t.ls = u.ls) (ht : t.Cons) (hu : u.Cons) (ot : t.Ok d) (ou : u.Ok d') : t.stuck = u.stuck := by
  have hp : (t.copy.nf.waits.map (·.1)).Perm (u.copy.nf.waits.map (·.1)) := by
    refine (List.perm_ext_iff_of_nodup (nf_all (copy_ok ot ht) (copy_cons ht)).1.c4 (nf_all (copy_ok ou hu) (copy_cons hu)).1.c4).2 fun x => ?_
    have e1 : x ∈ t.copy.nf.waits.map (·.1) ↔ x ∈ t.stuck := ((srt_perm_self _).mem_iff).symm
    have e2 : x ∈ u.copy.nf.waits.map (·.1) ↔ x ∈ u.stuck := ((srt_perm_self _).mem_iff).symm
    rw [e1, e2]
    exact ⟨fun hx => stuck_max ou hu (closed_same h ht hu (stuck_closed ot ht)) hx, fun hx => stuck_max ot ht (closed_same h.symm hu ht (stuck_closed ou hu)) hx⟩
  exact srt_perm hp

end Go.Proofs.Ytfifdgigeecfbaa
