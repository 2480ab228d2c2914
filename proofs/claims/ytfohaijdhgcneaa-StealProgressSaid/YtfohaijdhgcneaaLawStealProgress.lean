/- StealProgress: the walk. -/
import Derived.Test.YtfohaijdhgcneaaStealSaid
set_option linter.unusedVariables false
set_option linter.unusedSimpArgs false
namespace Go.Proofs.Ytfohaijdhgcneaa
open Go Go.RowKit

set_option maxRecDepth 100000 in
set_option maxHeartbeats 4000000 in
theorem stealProgress_any (w : World) (room : Int) (own thv order : List Int) (A B C : Option Addr) (ca cb cc : Nat) (hA : Sl w w.heap.size A own.length ca 1 (ints own)) (hB : Sl w w.heap.size B thv.length cb 1 (ints thv)) (hC : Sl w w.heap.size C order.length cc 1 (ints order)) :
    Calls Try.prog 5 #[.agg #[.int .i64 room, .slice A own.length ca, .slice B thv.length cb], .slice C order.length cc] w fun e w' => e = .returned (.bool true) ∧ Only w w' := by
  have HS := Lib.hid (And.intro hA (And.intro hB hC))
  clear hA hB hC
  go_enter Try.func5, Try.ntmps5
  go_wp2_with fail
  obtain ⟨w1, hw1⟩ : ∃ w1, w1 = w.alloc (.cells #[.int .i64 room, .slice A own.length ca, .slice B thv.length cb] 24) := ⟨_, rfl⟩
  rw [← hw1]
  have hO1 : Only w w1 := by rw [hw1]; exact (Stay.refl _ w).alloc _
  have H1 := Lib.hid hO1
  clear hw1 hO1
  by_cases hv : Valid room (own.take 62) (thv.take 10)
  · refine (made_ok w w1 H1.out room own thv A B ca cb (Sl.up HS.out.1 H1.out) (Sl.up HS.out.2.1 H1.out) hv).mono ?_
    rintro e w2 ⟨b, L, rfl, h2, _, _⟩
    obtain ⟨rm, rfl⟩ : ∃ rm : Nat, room = (rm : Int) := ⟨room.toNat, by have := hv.r1; omega⟩
    simp only [Int.toNat_natCast] at h2
    have hT := play_tr hv order
    have H2 := Lib.hid (And.intro h2 hT)
    clear h2 hT
    go_wp2_with fail
    refine (played_any H2.out.1 (start_got rm _ _) C cc order HS.out.2.2).mono ?_
    rintro e w3 ⟨L3, ov, rfl, h3, hr3, _⟩
    obtain ⟨n, hn⟩ : ∃ n, n = ((Rc.start rm (own.take 62) (thv.take 10) ((thv.take 10).map Int.toNat)).play order).2.length := ⟨_, rfl⟩
    have hn1 := play_len (Rc.start rm (own.take 62) (thv.take 10) ((thv.take 10).map Int.toNat)) order
    have hT := H2.out.2
    obtain ⟨out, hout⟩ : ∃ out, out = ((Rc.start rm (own.take 62) (thv.take 10) ((thv.take 10).map Int.toNat)).play order).2 := ⟨_, rfl⟩
    rw [← hout] at hn hr3 hn1 hT
    rw [← hn] at hn1
    obtain ⟨Ao, co, rfl⟩ := own_shape hr3
    have H3 := Lib.hid (And.intro h3 (And.intro hr3 (And.intro hT (And.intro hn h3.only))))
    rw [← hn]
    clear h3 hr3 hT hn hout
    go_wp2_with fail
    go_loopg [35] n (fun kk vi wr => ∃ i : Nat, i ≤ n ∧ kk = n - i ∧ vi = .int .i64 (i : Nat) ∧ Only w3 wr)
    case atStart => exact ⟨0, by omega, rfl, rfl, Stay.refl _ _⟩
    case round =>
      obtain ⟨i, hi, hk, rfl, hO⟩ := hrel
      obtain ⟨wt, hwt⟩ : ∃ wt, wt = wr := ⟨_, rfl⟩
      rw [← hwt] at hO ⊢
      clear hwt
      by_cases hp : i < n
      · have hnl := H3.out.2.2.2.1
        obtain ⟨g, co2, e1, _, _⟩ := H3.out.2.1.form (by omega)
        have e1' : Ao = some ⟨g, 0, none⟩ ∧ co = co2 := by simpa using e1
        obtain ⟨rfl, rfl⟩ := e1'
        have hrow := own_only hO H3.out.2.1
        have hgl := (own_lt hrow g rfl).2
        have hcs : ∀ k, k < n → wt.cell? ⟨g, k * 2, none⟩ = some (.int .i64 (said out k).1) ∧ wt.cell? ⟨g, k * 2 + 1, none⟩ = some (.int .i64 (said out k).2) := fun k hk => row_two hrow (by omega)
        obtain ⟨x, hx⟩ : ∃ x, x = (said out i).1 := ⟨_, rfl⟩
        obtain ⟨y, hy⟩ : ∃ y, y = (said out i).2 := ⟨_, rfl⟩
        have q1 := (hcs i hp).1
        have q2 := (hcs i hp).2
        rw [← hx] at q1
        rw [← hy] at q2
        have HX := Lib.hid (And.intro hO (And.intro hk (And.intro hx (And.intro hy hcs))))
        clear hO hk hrow hcs hx hy e1 hnl
        go_upto_region 10 with fail
        obtain ⟨wz, hwz⟩ : ∃ wz, wz = wt.alloc (.cells #[.int .i64 x, .int .i64 y] 34) := ⟨_, rfl⟩
        have hOz : Only wt wz := by rw [hwz]; exact (Stay.refl _ wt).alloc _
        have hBz : Blk wz wt.heap.size 34 [.int .i64 x, .int .i64 y] := by rw [hwz]; exact Blk.newAt wt [_, _] _ _ rfl
        rw [← hwz]
        have cz := hBz.cell
        have lz := hBz.lt
        have HZ := Lib.hid (And.intro hOz hBz)
        clear hwz hOz hBz q1 q2
        have next : ∀ W, Only wz W → Only w3 W := fun W h => (HX.out.1.trans' HZ.out.1).trans' h
        have HN := Lib.hid next
        clear next
        by_cases hx0 : x = 0
        · subst hx0
          go_wp2_with fail
          go_roundg (n - (i + 1))
          case measure => have := HX.out.2.1; omega
          case rel => exact ⟨i + 1, by omega, rfl, by go_num, HN.out _ (Stay.refl _ _)⟩
        have bx : (x == 0) = false := by simp [hx0]
        by_cases hy1 : y = -1
        · have by1 : (y != -1) = false := by simp [hy1]
          obtain ⟨m, hm1, hm2, hm3⟩ := H3.out.2.2.1.missed (i := i) (by have := H3.out.2.2.2.1; omega) (by rw [← HX.out.2.2.1]; exact hx0) (by rw [← HX.out.2.2.2.1]; exact hy1)
          rw [← HX.out.2.2.1] at hm3
          have HM := Lib.hid (And.intro hm1 (And.intro hm2 hm3))
          have hi1 : 1 ≤ i := by omega
          clear hm1 hm2 hm3 hx0 hy1
          have hcz : ∀ k, k < n → wz.cell? ⟨g, k * 2, none⟩ = some (.int .i64 (said out k).1) ∧ wz.cell? ⟨g, k * 2 + 1, none⟩ = some (.int .i64 (said out k).2) := fun k hk => ⟨HZ.out.1.cell (HX.out.2.2.2.2 k hk).1, HZ.out.1.cell (HX.out.2.2.2.2 k hk).2⟩
          have HC := Lib.hid hcz
          clear hcz
          go_wp2_with fail
          have hw : IntKind.i64.wrap ((i : Int) - 1) = (i : Int) - 1 := by rw [IntKind.wrap_i64]; omega
          try rw [hw]
          go_loopg [11, 12] i (fun kk vg vk wr => ∃ (k : Nat) (gt : Bool), k ≤ i ∧ kk = k ∧ vg = .bool gt ∧ vk = .int .i64 ((k : Int) - 1) ∧ Only wz wr ∧ (gt = false → ∀ c, k ≤ c → c < i → ¬ 0 < (said out c).2))
          case atStart => exact ⟨i, false, Nat.le_refl _, rfl, rfl, rfl, Stay.refl _ _, fun _ c h1 h2 => by omega⟩
          case round =>
            obtain ⟨k, gt, hki, hkk, rfl, rfl, hOr, hgf⟩ := hrel
            obtain ⟨wv, hwv⟩ : ∃ wv, wv = wr := ⟨_, rfl⟩
            rw [← hwv] at hOr ⊢
            clear hwv
            obtain ⟨v, hv2⟩ : ∃ v : Int, v = (k : Int) - 1 := ⟨_, rfl⟩
            rw [← hv2]
            cases gt with
            | true =>
              have HR := Lib.hid (And.intro hOr hkk)
              clear hOr hgf hkk hv2 hki
              by_cases hv0 : v ≥ 0
              · have b1 : decide (v ≥ 0) = true := decide_eq_true hv0
                go_upto_region 13 with fail
                go_big_region
                all_goals
                  go_wp2_with fail
                  go_roundg (n - (i + 1))
                  case measure => have := HX.out.2.1; omega
                  case rel => exact ⟨i + 1, by omega, rfl, by go_num, HN.out _ (HR.out.1.drew)⟩
              · have b1 : decide (v ≥ 0) = false := decide_eq_false hv0
                go_upto_region 13 with fail
                go_big_region
                all_goals
                  go_wp2_with fail
                  go_roundg (n - (i + 1))
                  case measure => have := HX.out.2.1; omega
                  case rel => exact ⟨i + 1, by omega, rfl, by go_num, HN.out _ (HR.out.1.drew)⟩
            | false =>
              obtain ⟨m, hm1, hm2, hm3⟩ : ∃ m, m < i ∧ 0 < (said out m).2 ∧ ∀ c, m ≤ c → c < i → (said out c).1 ≠ x := ⟨m, HM.out⟩
              by_cases hk0 : k = 0
              · exact absurd hm2 (hgf rfl m (by omega) hm1)
              obtain ⟨p, hp2⟩ : ∃ p, p = k - 1 := ⟨_, rfl⟩
              obtain rfl : v = (p : Int) := by omega
              have q1 := hOr.cell (HC.out p (by omega)).1
              have q2 := hOr.cell (HC.out p (by omega)).2
              obtain ⟨a, ha⟩ : ∃ a, a = (said out p).1 := ⟨_, rfl⟩
              obtain ⟨z, hz⟩ : ∃ z, z = (said out p).2 := ⟨_, rfl⟩
              rw [← ha] at q1
              rw [← hz] at q2
              by_cases hax : a = x
              · exfalso
                by_cases hmp : m ≤ p
                · exact hm3 p hmp (by omega) (by rw [← ha]; exact hax)
                · exact hgf rfl m (by omega) hm1 hm2
              have b2 : (a != x) = true := by simp [hax]
              have b1 : decide ((p : Int) ≥ 0) = true := decide_eq_true (by omega)
              have u1 : (0 : Int) ≤ (p : Int) := by omega
              have u2 : (p : Int) < (n : Int) := by omega
              have lg := Nat.lt_of_lt_of_le (Nat.lt_of_lt_of_le hgl HZ.out.1.size) hOr.size
              have cz2 := (hOr.blk HZ.out.2).cell
              have lz2 := (hOr.blk HZ.out.2).lt
              have HR := Lib.hid (And.intro hOr (And.intro hgf (And.intro hkk (And.intro ha (And.intro hz (And.intro hp2 hv2))))))
              clear hOr hgf hkk ha hz hm1 hm2 hm3 hax cz lz hgl hp2 hv2
              go_upto_region 13 with fail
              go_big_region
              all_goals
                go_wp2_with fail
                go_roundg p
                case measure => have := HR.out.2.2.1; have := HR.out.2.2.2.2.2.1; omega
                case rel =>
                  obtain ⟨r1, r2, r3, r4, r5, r6, r7⟩ := HR.out
                  refine ⟨p, decide (z > 0), by omega, rfl, rfl, ?_, r1.drew, fun hz c h1 h2 => ?_⟩
                  · refine congrArg (Value.int .i64) ?_
                    try rw [IntKind.wrap_i64]
                    omega
                  · by_cases hcp : c = p
                    · subst hcp
                      have := of_decide_eq_false hz
                      omega
                    · have := r2 trivial c (by omega) h2
                      omega
        · have by1 : (y != -1) = true := by simp [hy1]
          go_wp2_with fail
          go_roundg (n - (i + 1))
          case measure => have := HX.out.2.1; omega
          case rel => exact ⟨i + 1, by omega, rfl, by go_num, HN.out _ (Stay.refl _ _)⟩
      · obtain rfl : i = n := by omega
        have HX := Lib.hid (H3.out.2.2.2.2.trans' hO)
        clear hO hk
        go_wp2_with fail
        refine (awake_any wt).mono ?_
        rintro e w8 ⟨rfl, h8⟩
        have H8 := Lib.hid (HX.out.trans' h8)
        clear h8
        go_wp2_with fail
        go_ret
        exact ⟨rfl, H8.out⟩
  · refine (made_no w w1 H1.out room own thv A B ca cb (Sl.up HS.out.1 H1.out) (Sl.up HS.out.2.1 H1.out) hv).mono ?_
    rintro e w2 ⟨rfl, h2⟩
    have H2 := Lib.hid (H1.out.trans' h2)
    clear h2
    go_wp2_with fail
    refine (awake_any w2).mono ?_
    rintro e w8 ⟨rfl, h8⟩
    have H8 := Lib.hid (H2.out.trans' h8)
    clear h8
    go_wp2_with fail
    go_ret
    exact ⟨rfl, H8.out⟩
end Go.Proofs.Ytfohaijdhgcneaa
