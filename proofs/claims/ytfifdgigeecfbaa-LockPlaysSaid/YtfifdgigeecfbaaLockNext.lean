/- next: the party that holds a permit and does not wait, out of the states. -/
import Derived.Test.YtfifdgigeecfbaaLockAlike
import Derived.Test.YtfifdgigeecfbaaLockFrees
import Derived.Test.YtfifdgigeecfbaaIntHas
set_option linter.unusedVariables false
set_option linter.unusedSimpArgs false
namespace Go.Proofs.Ytfifdgigeecfbaa
open Go Go.RowKit

set_option maxRecDepth 100000 in
theorem isWait_any (w : World) (k : Lk) (A A' : Option Addr) (c c' B : Nat) (p : Int) (h : Rd w k A c A' c') (hB : w.cell? ⟨B, 0, none⟩ = some (.int .i64 p)) :
    Calls Try.prog 51 #[stv k A c A' c', .pointer (some ⟨B, 0, none⟩)] w fun e w' => e = .returned (.bool (k.waiting.contains p)) ∧ Only w w' := by
  have H := Lib.hid h
  have hBl : B < w.heap.size := World.block_lt_of_cell? w ⟨B, 0, none⟩ hB
  have hO0 : Only w (w.alloc (.cells (stc k A c A' c').toArray 42)) := (Stay.refl _ w).alloc _
  have HO := Lib.hid hO0
  clear h hO0
  unfold stv
  go_enter Try.func51, Try.ntmps51
  go_wp2_with fail
  refine (show Calls _ _ _ (w.alloc (.cells (stc k A c A' c').toArray 42)) _ from hasI_any _ A' c' k.waiting p (H.out.ws.later HO.out HO.out.size)).mono ?_
  rintro e w2 ⟨rfl, hO2⟩
  have H2 := Lib.hid (HO.out.trans' hO2)
  clear hO2
  go_wp2_with fail
  go_ret
  exact ⟨by simp, H2.out⟩

def anyWaits (ks : List Lk) (p : Int) : Bool := ks.any fun k => k.waiting.contains p

set_option maxRecDepth 100000 in
set_option maxHeartbeats 4000000 in
theorem idxF_any (w : World) (A : Option Addr) (c B : Nat) (ks : List Lk) (p : Int) (h : StsR w A ks.length c ks) (hB : w.cell? ⟨B, 0, none⟩ = some (.int .i64 p)) (hn : ks.length ≤ 1000000) :
    Calls Try.prog 67 #[.slice A ks.length c, .func (.func 51) #[] #[.pointer (some ⟨B, 0, none⟩)]] w fun e w' => ∃ r : Int, e = .returned (.int .i64 r) ∧ ((anyWaits ks p = true ∧ 0 ≤ r) ∨ (anyWaits ks p = false ∧ r = -1)) ∧ Only w w' := by
  have hb : ks.length ≤ c ∧ c ≤ 9223372036854775807 := by
    obtain ⟨_, _, _, s1, _⟩ := h
    exact ⟨s1.2.1, s1.2.2.1⟩
  obtain ⟨b1, b2⟩ := hb
  have H := Lib.hid (And.intro h hB)
  clear h hB
  go_enter Try.func67, Try.ntmps67
  go_wp2_with fail
  go_loopg [8] (ks.length) (fun kk vi wr => ∃ (i : Nat), i ≤ ks.length ∧ kk = ks.length - i ∧ vi = .int .i64 (i : Nat) ∧ Only w wr ∧ anyWaits ks p = anyWaits (ks.drop i) p)
  case atStart => exact ⟨0, Nat.zero_le _, rfl, rfl, Stay.refl _ _, rfl⟩
  case round =>
    obtain ⟨i, hi, hk, rfl, hO, ha⟩ := hrel
    by_cases hlt : i < ks.length
    · obtain ⟨k, hkk⟩ : ∃ k, ks[i]? = some k := ⟨_, List.getElem?_eq_getElem hlt⟩
      obtain ⟨xb, xo, A1, c1, A2, c2, rfl, hxb, hxc, hr1⟩ := (H.out.1.only hO).elem hkk
      have e0 := hxc 0 _ rfl
      have e1 := hxc 1 _ rfl
      have e2 := hxc 2 _ rfl
      have e3 := hxc 3 _ rfl
      simp only [Nat.add_zero] at e0
      have hdr : ks.drop i = k :: ks.drop (i + 1) := by rw [List.drop_eq_getElem_cons hlt, (List.getElem?_eq_some_iff.1 hkk).2]
      have ha2 : anyWaits ks p = (k.waiting.contains p || anyWaits (ks.drop (i + 1)) p) := by rw [ha, hdr]; rfl
      have HX := Lib.hid (And.intro hk (And.intro hO (And.intro hr1 ha2)))
      clear hk hO hr1 hxc hkk hdr ha ha2
      obtain ⟨w3, rfl⟩ : ∃ w3 : World, w3 = wr := ⟨_, rfl⟩
      go_wp2_with fail
      refine (show Calls _ _ _ w3 _ from isWait_any w3 k A1 A2 c1 c2 B p HX.out.2.2.1 (HX.out.2.1.cell H.out.2)).mono ?_
      rintro e w4 ⟨rfl, hO4⟩
      have HO4 := Lib.hid hO4
      clear hO4 e0 e1 e2 e3
      cases hct : k.waiting.contains p with
      | true =>
        have HC := Lib.hid hct
        clear hct
        go_wp2_with fail
        go_ret
        exact ⟨_, rfl, .inl ⟨by rw [HX.out.2.2.2, HC.out]; rfl, by omega⟩, HX.out.2.1.trans' HO4.out⟩
      | false =>
        have HC := Lib.hid hct
        clear hct
        go_wp2_with fail
        go_roundg (ks.length - (i + 1))
        case measure => have := HX.out.1; omega
        case rel => exact ⟨i + 1, by omega, rfl, by go_num, HX.out.2.1.trans' HO4.out, by rw [HX.out.2.2.2, HC.out]; rfl⟩
    · have hie : i = ks.length := by omega
      have HX := Lib.hid (And.intro hO (show anyWaits ks p = false by rw [ha, hie, List.drop_length]; rfl))
      clear hk hO ha
      go_wp2_with fail
      go_ret
      exact ⟨_, rfl, .inr ⟨HX.out.2, rfl⟩, HX.out.1⟩

set_option maxRecDepth 100000 in
theorem contF_any (w : World) (A : Option Addr) (c B : Nat) (ks : List Lk) (p : Int) (h : StsR w A ks.length c ks) (hB : w.cell? ⟨B, 0, none⟩ = some (.int .i64 p)) (hn : ks.length ≤ 1000000) :
    Calls Try.prog 50 #[.slice A ks.length c, .func (.func 51) #[] #[.pointer (some ⟨B, 0, none⟩)]] w fun e w' => e = .returned (.bool (anyWaits ks p)) ∧ Only w w' := by
  have H := Lib.hid (And.intro h hB)
  clear h hB
  go_enter Try.func50, Try.ntmps50
  go_wp2_with fail
  refine (idxF_any w A c B ks p H.out.1 H.out.2 hn).mono ?_
  rintro e w4 ⟨r, rfl, hr, hO4⟩
  have HO4 := Lib.hid hO4
  clear hO4
  rcases hr with ⟨ha, hr⟩ | ⟨ha, rfl⟩
  · have hr' : (r ≥ 0) := hr
    have HA := Lib.hid ha
    clear ha
    go_wp2_with fail
    go_ret
    exact ⟨by rw [HA.out]; simp [hr], HO4.out⟩
  · have HA := Lib.hid ha
    clear ha
    go_wp2_with fail
    go_ret
    exact ⟨by rw [HA.out]; rfl, HO4.out⟩

/-- Who waits, by the list. -/
theorem anyWaits_get {t : Tb} (hc : t.Cons) (p : Int) : anyWaits t.ls p = (aget t.waits p).isSome := by
  cases hg : aget t.waits p with
  | some i =>
    obtain ⟨k, hk, hm⟩ := hc.c1 p i hg
    simp only [anyWaits, List.any_eq_true, Option.isSome_some]
    exact ⟨k, List.mem_of_getElem? hk, by simpa using hm⟩
  | none =>
    simp only [anyWaits, List.any_eq_false, Option.isSome_none]
    intro k hk hm
    obtain ⟨i, hi⟩ := List.getElem?_of_mem hk
    have := hc.c2 i k p hi (by simpa using hm)
    rw [hg] at this
    cases this

def Tb.nextP (t : Tb) : Int := (t.pick.map (·.2)).getD 0
def Tb.nextN (t : Tb) : Int := (t.pick.map fun x => (x.1 : Int) + 1).getD 0

set_option maxRecDepth 100000 in
set_option maxHeartbeats 8000000 in
theorem next_any (w : World) (A : Option Addr) (c : Nat) (t : Tb) (h : StsR w A t.ls.length c t.ls) (hc : t.Cons) (hn : t.ls.length ≤ 1000000) :
    Calls Try.prog 29 #[.slice A t.ls.length c] w fun e w' => e = .returned (.tuple #[.int .i64 t.nextP, .int .i64 t.nextN]) ∧ Only w w' := by
  have hb : t.ls.length ≤ c ∧ c ≤ 9223372036854775807 := by
    obtain ⟨_, _, _, s1, _⟩ := h
    exact ⟨s1.2.1, s1.2.2.1⟩
  obtain ⟨b1, b2⟩ := hb
  have H := Lib.hid (And.intro h hc)
  clear h hc
  go_enter Try.func29, Try.ntmps29
  go_wp2_with fail
  go_loopg [10] (t.ls.length) (fun kk vi wr => ∃ (i : Nat), i ≤ t.ls.length ∧ kk = t.ls.length - i ∧ vi = .int .i64 (i : Nat) ∧ Only w wr ∧ t.pick = pickFrom t.waits (t.ls.drop i) i)
  case atStart => exact ⟨0, Nat.zero_le _, rfl, rfl, Stay.refl _ _, rfl⟩
  case round =>
    obtain ⟨i, hi, hk, rfl, hO, hpk⟩ := hrel
    obtain ⟨w3, rfl⟩ : ∃ w3 : World, w3 = wr := ⟨_, rfl⟩
    by_cases hlt : i < t.ls.length
    · obtain ⟨k, hkk⟩ : ∃ k, t.ls[i]? = some k := ⟨_, List.getElem?_eq_getElem hlt⟩
      obtain ⟨xb, xo, A1, c1, A2, c2, rfl, hxb, hxc, hr1⟩ := (H.out.1.only hO).elem hkk
      have e0 := hxc 0 _ rfl
      have e1 := hxc 1 _ rfl
      have e2 := hxc 2 _ rfl
      have e3 := hxc 3 _ rfl
      simp only [Nat.add_zero] at e0
      have hdr : t.ls.drop i = k :: t.ls.drop (i + 1) := by rw [List.drop_eq_getElem_cons hlt, (List.getElem?_eq_some_iff.1 hkk).2]
      rw [hdr] at hpk
      have hsl : (srt (k.holds.map (·.1))).length = k.holders.length := by simp [Lk.holders]
      have q1 := hr1.hs.2.1
      have q2 := hr1.hs.2.2.1
      have HX := Lib.hid (And.intro hk (And.intro hO (And.intro hr1 (And.intro hpk hsl))))
      have HO0 := Lib.hid (show Only w (w3.alloc (.cells (stc k A1 c1 A2 c2).toArray 42)) from hO.trans' ((Stay.refl _ w3).alloc _))
      clear hk hO hr1 hxc hkk hdr hpk hsl
      go_wp2_with fail
      go_loopg [18] (k.holders.length) (fun kk vq wr => ∃ (q : Nat), q ≤ k.holders.length ∧ kk = k.holders.length - q ∧ vq = .int .i64 (q : Nat) ∧ Only (w3.alloc (.cells (stc k A1 c1 A2 c2).toArray 42)) wr ∧ pickL t.waits (srt (k.holds.map (·.1))) = pickL t.waits ((srt (k.holds.map (·.1))).drop q))
      case atStart => exact ⟨0, Nat.zero_le _, rfl, rfl, Stay.refl _ _, rfl⟩
      case round =>
        obtain ⟨q, hq, hk3, rfl, hO9, hpl⟩ := hrel
        obtain ⟨w5, rfl⟩ : ∃ w5 : World, w5 = wr := ⟨_, rfl⟩
        by_cases hlt2 : q < k.holders.length
        · obtain ⟨p, hp⟩ : ∃ p, (srt (k.holds.map (·.1)))[q]? = some p := ⟨_, List.getElem?_eq_getElem (by rw [HX.out.2.2.2.2]; exact hlt2)⟩
          have hph : k.holders[q]? = some (p, k.has p) := by simp only [Lk.holders, List.getElem?_map, hp]; rfl
          have hO35 : Only w3 w5 := Only.trans' ((Stay.refl _ w3).alloc _) hO9
          obtain ⟨yb, yo, rfl, hyb, hyc⟩ := (HX.out.2.2.1.only hO35).hs.elem hcell_length hph (by omega)
          have y0 := hyc 0 _ rfl
          have y1 := hyc 1 _ rfl
          simp only [Nat.add_zero] at y0
          have hdr : (srt (k.holds.map (·.1))).drop q = p :: (srt (k.holds.map (·.1))).drop (q + 1) := by rw [List.drop_eq_getElem_cons (by rw [HX.out.2.2.2.2]; exact hlt2), (List.getElem?_eq_some_iff.1 hp).2]
          rw [hdr] at hpl
          have hB := Blk.new w5 (hcell (p, k.has p)) 44
          have hO57 : Only w5 (w5.alloc (.cells (hcell (p, k.has p)).toArray 44)) := (Stay.refl _ w5).alloc _
          have HZ := Lib.hid (And.intro hk3 (And.intro (HO0.out.trans' hO9) (And.intro hpl (And.intro hB (And.intro hO57 hO9)))))
          clear hk3 hO9 hpl hdr hp hph hO35 hyc hB hO57 e0 e1 e2 e3
          go_wp2_with fail
          refine (show Calls _ _ _ (w5.alloc (.cells (hcell (p, k.has p)).toArray 44)) _ from contF_any _ _ c w5.heap.size t.ls p (H.out.1.only (HZ.out.2.1.trans' HZ.out.2.2.2.2.1)) (HZ.out.2.2.2.1.at rfl) hn).mono ?_
          rintro e w6 ⟨rfl, hO6⟩
          have hB6 := hO6.blk HZ.out.2.2.2.1
          have z0 := hB6.cell
          have z1 := hB6.lt
          rw [anyWaits_get H.out.2]
          have H6 := Lib.hid (HZ.out.2.1.trans' (HZ.out.2.2.2.2.1.trans' hO6))
          have H7 := Lib.hid (HZ.out.2.2.2.2.2.trans' (HZ.out.2.2.2.2.1.trans' hO6))
          clear hO6 hB6 y0 y1
          unfold hcell at z0
          cases hw : aget t.waits p with
          | some j =>
            have HW := Lib.hid hw
            clear hw
            simp only [Option.isSome_some]
            go_wp2_with fail
            go_roundg (k.holders.length - (q + 1))
            case measure => have := HZ.out.1; omega
            case rel => exact ⟨q + 1, by omega, rfl, by go_num, H7.out, by rw [HZ.out.2.2.1]; simp [pickL, HW.out]⟩
          | none =>
            have HF := Lib.hid (show t.pick = some (i, p) by rw [HX.out.2.2.2.1]; simp only [pickFrom]; rw [HZ.out.2.2.1]; simp [pickL, hw])
            clear hw
            simp only [Option.isSome_none]
            go_wp2_with fail
            go_ret2
            exact ⟨by simp only [Tb.nextP, Tb.nextN, HF.out, Option.map_some, Option.getD_some]; rfl, H6.out⟩
        · have hqe : q = k.holders.length := by omega
          have hnone : pickL t.waits (srt (k.holds.map (·.1))) = none := by rw [hpl, hqe, ← HX.out.2.2.2.2, List.drop_length]; rfl
          have HZ := Lib.hid (And.intro (HO0.out.trans' hO9) (show t.pick = pickFrom t.waits (t.ls.drop (i + 1)) (i + 1) by rw [HX.out.2.2.2.1]; simp only [pickFrom]; rw [hnone]))
          clear hk3 hO9 hpl hnone e0 e1 e2 e3
          go_wp2_with fail
          go_roundg (t.ls.length - (i + 1))
          case measure => have := HX.out.1; omega
          case rel => exact ⟨i + 1, by omega, rfl, by go_num, HZ.out.1, HZ.out.2⟩
    · have hie : i = t.ls.length := by omega
      have HF := Lib.hid (show t.pick = none by rw [hpk, hie, List.drop_length]; rfl)
      have HX := Lib.hid hO
      clear hk hO hpk
      go_wp2_with fail
      go_ret2
      exact ⟨by simp only [Tb.nextP, Tb.nextN, HF.out, Option.map_none, Option.getD_none]; rfl, HX.out⟩

end Go.Proofs.Ytfifdgigeecfbaa
