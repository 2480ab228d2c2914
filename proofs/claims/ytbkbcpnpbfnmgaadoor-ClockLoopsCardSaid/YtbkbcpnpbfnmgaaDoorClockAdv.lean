/- Advance: the walk. -/
import Derived.Test.YtbkbcpnpbfnmgaaDoorClockDis
import Derived.Test.YtbkbcpnpbfnmgaaDoorIntSort
import Derived.Test.YtbkbcpnpbfnmgaaDoorAppSl
set_option linter.unusedVariables false
set_option linter.unusedSimpArgs false
namespace Go.Proofs.YtbkbcpnpbfnmgaaDoor
open Go Go.RowKit

set_option maxRecDepth 100000 in
set_option maxHeartbeats 4000000 in
theorem adv_bad {w : World} {S : Nat → Prop} {b : Nat} {C : Ck} (h : CkAt w S b C) (d : Int) (hd : d < C.now ∨ d > 1000000000000) :
    Calls Tryd.prog 20 #[.pointer (some ⟨b, 0, none⟩), .int .i64 d] w fun e w' => e = .returned (.tuple #[.slice none 0 0, .int .i64 2]) ∧ Only w w' := by
  have c0 := h.now
  have lb := h.lt h.inb
  clear h
  go_enter Tryd.func20, Tryd.ntmps20
  by_cases h1 : d < (C.now : Int)
  · have b1 : decide (d < (C.now : Int)) = true := decide_eq_true h1
    clear hd
    go_wp2_with fail
    go_ret2
    exact ⟨rfl, Stay.refl _ _⟩
  · have h2 : d > 1000000000000 := by omega
    have b1 : decide (d < (C.now : Int)) = false := decide_eq_false h1
    have b2 : decide (d > 1000000000000) = true := decide_eq_true h2
    clear hd
    go_wp2_with fail
    go_ret2
    exact ⟨rfl, Stay.refl _ _⟩
/-- The numbers, as they are said. -/
def zs (l : List Tm) : List Int := l.map Tm.z
theorem srt_zs {l : List Tm} {d : Nat} (h : ∀ t ∈ l, t.due = d) : srt (zs l) = (tsort l).map Tm.z := by
  unfold srt
  refine List.Perm.eq_of_pairwise (le := fun a b => a ≤ b) (fun a b _ _ h k => Int.le_antisymm h k) ?_ (ids_sorted h) ?_
  · have := List.pairwise_mergeSort (le := fun x y : Int => decide (x ≤ y)) (fun a b c => by simp; omega) (fun a b => by simp; omega) (zs l)
    exact this.imp (fun h => by simpa using h)
  · exact (List.mergeSort_perm _ _).trans ((tsort_perm l).symm.map _)
/-- What a round of Advance begins with. -/
structure Mid (w wr : World) (S : Nat → Prop) (b m : Nat) (C : Ck) (tu : Nat) (C1 : Ck) (W' : Wheel) (wv' : List Value) (fs' : List Nat) (vf : Value) (F : List Int) : Prop where
  ck : CkIn wr b m C1.now C1.made (keyed C1.ts) W' wv' fs'
  wk : WOk C1.now W'
  pm : W'.flatten.Perm C1.ts
  ok : C1.Ok
  le : C1.now ≤ tu
  fired : wr.ownsRow w.heap.size 3 1 vf F.length (ints F)
  off : ∀ k, vf.ownBlock = some k → ¬ CBlk b m wv' k
  st : Stay S w wr
  sub : ∀ k, CBlk b m wv' k → S k ∨ w.heap.size ≤ k
  due : F ++ C1.dues tu = C.dues tu
  adv : C1.adv tu = C.adv tu
  tab : Tab wr
/-- What Advance leaves. -/
def AdvPost (w : World) (S : Nat → Prop) (b : Nat) (C : Ck) (tu : Nat) (v : Value) (w' : World) : Prop :=
  ∃ S', w'.ownsRow w.heap.size 3 1 v (C.dues tu).length (ints (C.dues tu)) ∧ CkAt w' S' b (C.adv tu) ∧ (∀ k, S' k → S k ∨ w.heap.size ≤ k) ∧ Stay S w w' ∧ ∀ k, v.ownBlock = some k → ¬ S' k
theorem Mid.done {w wt w1 w2 : World} {S : Nat → Prop} {b m : Nat} {C C1 : Ck} {tu : Nat} {W1 W2 : Wheel} {wv1 wv2 : List Value} {fs1 fs2 : List Nat} {vf : Value} {F : List Int} (h : Mid w wt S b m C tu C1 W1 wv1 fs1 vf F) (h2 : tu ≤ maxT) (ho : Only wt w1)
    (hl : ∀ u ∈ W1.flatten, tu < u.due) (hW2 : WOk tu W2) (hp2 : W2.flatten.Perm W1.flatten) (hC2 : CkIn w2 b m tu C1.made (keyed C1.ts) W2 wv2 fs2) (hL : Lk b m wv1 w1 wv2 w2) : AdvPost w S b C tu vf w2 := by
  have hL1 : Lk b m wv1 wt wv2 w2 := ((Lk.refl b m wv1 wt).only ho).trans hL
  obtain ⟨e1, e2⟩ := Ck.adv_none (C := C1) (show ∀ u ∈ C1.ts, tu < u.due from fun u hu => hl u (h.pm.mem_iff.2 hu))
  have hd := h.due
  rw [e1, List.append_nil] at hd
  have ha := h.adv
  rw [e2] at ha
  have hr : w2.ownsRow w.heap.size 3 1 vf (C.dues tu).length (ints (C.dues tu)) := by
    rw [← hd]
    exact own_stay hL1.1 h.fired (fun k hk hk2 => h.off k hk hk2)
  refine ⟨CBlk b m wv2, hr, ?_, fun k hk => ?_, h.st.trans hL1.1 (fun i hi hk => ?_), fun k hk hk2 => ?_⟩
  · rw [← ha]
    exact ⟨m, W2, wv2, fs2, hC2, hW2, hp2.trans h.pm, ⟨h2, h.ok.asc, h.ok.idr, fun u hu => ⟨Nat.le_of_lt (hl u (h.pm.mem_iff.2 hu)), (h.ok.due u hu).2⟩, h.ok.len, h.ok.few⟩, fun _ hk => hk, fun k hk => hC2.lt hk⟩
  · rcases hL1.2 k hk with h1 | h1
    · exact h.sub k h1
    · exact .inr (Nat.le_trans h.st.size h1)
  · rcases h.sub i hk with h1 | h1
    · exact h1
    · omega
  · rcases hL1.2 k hk2 with h1 | h1
    · exact h.off k hk h1
    · have := (own_lt h.fired k hk).2; omega
/-- Those that are due at the time itself, out of the wheel. -/
theorem due_row {C1 : Ck} {t : Nat} {W2 : Wheel} (hW : WOk t W2) (hp : W2.flatten.Perm C1.ts) (hok : C1.Ok) (hle : ∀ y ∈ C1.ts, t ≤ y.due) :
    srt (zs (W2.at (slot t 0))) = C1.dues t ∧ keyed (C1.ts.filter fun u => decide (u.id ∉ (W2.at (slot t 0)).map (·.id))) = keyed (C1.adv t).ts ∧ WOk t (W2.set (slot t 0) []) ∧ (W2.set (slot t 0) []).flatten.Perm (C1.adv t).ts := by
  have hsl := slot_lt t 0
  have hlen : slot t 0 < W2.length := by rw [hW.len]; omega
  obtain ⟨e1, e2⟩ := Ck.adv_next hle
  have hd : ∀ u ∈ W2.at (slot t 0), u.due = t := fun u hu => ((hW.due u).1 hu).2
  have hnd0 : C1.ts.Nodup := hok.asc.imp (fun h e => by rw [e] at h; omega)
  have hsplit := (wflat_take hlen).symm.trans hp
  have hnd1 : (W2.at (slot t 0) ++ (W2.set (slot t 0) []).flatten).Nodup := hsplit.nodup_iff.2 hnd0
  have hperm : (W2.at (slot t 0)).Perm (C1.at' t) := by
    refine (List.perm_ext_iff_of_nodup (List.nodup_append.1 hnd1).1 (hnd0.sublist List.filter_sublist)).2 (fun u => ?_)
    rw [hW.due u, hp.mem_iff]
    simp [Ck.at']
  have hmem : ∀ u ∈ C1.ts, (u.id ∈ (W2.at (slot t 0)).map (·.id)) ↔ u.due = t := fun u hu => by
    rw [List.mem_map]
    constructor
    · rintro ⟨v, hv, e⟩
      have hv2 := (hW.due v).1 hv
      rw [← hok.one (hp.mem_iff.1 hv2.1) hu e]
      exact hv2.2
    · intro e
      exact ⟨u, (hW.due u).2 ⟨hp.mem_iff.2 hu, e⟩, rfl⟩
  have hfil : (C1.ts.filter fun u => decide (u.id ∉ (W2.at (slot t 0)).map (·.id))) = (C1.adv t).ts := by
    rw [e2]
    refine List.filter_congr fun u hu => ?_
    by_cases h : u.due = t
    · simp [h, (hmem u hu).2 h]
    · have : u.id ∉ (W2.at (slot t 0)).map (·.id) := fun h2 => h ((hmem u hu).1 h2)
      simp only [this, h, not_false_iff, decide_true, decide_false, Bool.not_false]
  refine ⟨?_, by rw [hfil], hW.take _ (by omega), ?_⟩
  · rw [srt_zs hd, e1, tsort_congr hperm]
  · rw [e2]
    have h2 := hsplit.filter (fun u => !decide (u.due = t))
    rw [List.filter_append, List.filter_eq_nil_iff.2 (fun u hu => by simp [hd u hu]), List.nil_append] at h2
    rw [List.filter_eq_self.2 (fun u hu => ?_)] at h2
    · exact h2
    · have h3 : u ∈ W2.flatten := (wflat_take hlen).mem_iff.2 (List.mem_append_right _ hu)
      by_cases h : u.due = t
      · have h4 := (hW.due u).2 ⟨h3, h⟩
        exact absurd rfl ((List.nodup_append.1 hnd1).2.2 u h4 u hu)
      · simp [h]
set_option maxRecDepth 100000 in
set_option maxHeartbeats 4000000 in
theorem adv_ok {w : World} {S : Nat → Prop} {b : Nat} {C : Ck} (h : CkAt w S b C) (tu : Nat) (h1 : C.now ≤ tu) (h2 : tu ≤ maxT) (hT : Tab w) (hg : ¬ S 0) :
    Calls Tryd.prog 20 #[.pointer (some ⟨b, 0, none⟩), .int .i64 tu] w fun e w' => ∃ v, e = .returned (.tuple #[v, .int .i64 0]) ∧ AdvPost w S b C tu v w' := by
  obtain ⟨ii, hii0, hii1, hii2, hii3⟩ := info_parts infoI
  obtain ⟨m, W, wv, fs, hC, hW, hp, hok, hs, hlt⟩ := h
  have c0 := hC.blk.at (ck_at0 C.now C.made wv fs m)
  have lb := hC.blk.lt
  have b1 : decide ((tu : Int) < (C.now : Int)) = false := decide_eq_false (by omega)
  have b1' : ¬ (tu : Int) < (C.now : Int) := by omega
  have b2 : decide ((tu : Int) > 1000000000000) = false := decide_eq_false (by unfold maxT at h2; omega)
  have b2' : ¬ (tu : Int) > 1000000000000 := by unfold maxT at h2; omega
  have ht42 : tu < 2 ^ 42 := Nat.lt_of_le_of_lt h2 maxT_lt
  have H := Lib.hid (And.intro hC (And.intro hW (And.intro hp (And.intro hok (And.intro hs (And.intro hT (And.intro h1 h2)))))))
  have HG := Lib.hid hg
  clear hC hW hp hok hs hlt hT h1 h2 hg
  go_enter Tryd.func20, Tryd.ntmps20
  go_wp2_with fail
  go_loopg [6] C.ts.length (fun kk vf wr => ∃ (C1 : Ck) (W' : Wheel) (wv' : List Value) (fs' : List Nat) (F : List Int), kk = C1.ts.length ∧ Mid w wr S b m C tu C1 W' wv' fs' vf F)
  case atStart => exact ⟨C, W, wv, fs, [], rfl, H.out.1, H.out.2.1, H.out.2.2.1, H.out.2.2.2.1, H.out.2.2.2.2.2.2.1, World.ownsRow_nil _ _ _ _, fun k hk => by simp [Value.ownBlock] at hk, Stay.refl _ _, fun k hk => .inl (H.out.2.2.2.2.1 k hk), rfl, rfl, H.out.2.2.2.2.2.1⟩
  case round =>
    obtain ⟨C1, W1, wv1, fs1, F, hk, hM⟩ := hrel
    obtain ⟨wt, hwt⟩ : ∃ wt, wt = wr := ⟨_, rfl⟩
    rw [← hwt] at hM ⊢
    clear hwt
    obtain ⟨Af, cf, rfl⟩ := own_shape hM.fired
    obtain ⟨nF, hnF⟩ : ∃ nF, nF = F.length := ⟨_, rfl⟩
    rw [← hnF]
    have HK := Lib.hid (And.intro hk (And.intro hM hnF))
    clear hk hM c0 lb hnF
    go_wp2_with fail
    refine (next_any HK.out.2.1.ck HK.out.2.1.wk (flat1000 HK.out.2.1.pm HK.out.2.1.ok) HK.out.2.1.tab).mono ?_
    rintro e w1 ⟨o1, hend⟩
    have H1 := Lib.hid o1
    clear o1
    rcases hend with ⟨hnil, rfl⟩ | ⟨t, hN, rfl⟩
    · have HE := Lib.hid hnil
      clear hnil
      go_wp2_with fail
      have hgt : ∀ u ∈ W1.flatten, tu < u.due := fun u hu => by rw [HE.out] at hu; simp at hu
      refine (turn_any (HK.out.2.1.ck.only H1.out) HK.out.2.1.wk tu HK.out.2.1.le ht42 (fun u hu => Nat.le_of_lt (hgt u hu)) (flat1000 HK.out.2.1.pm HK.out.2.1.ok)).mono ?_
      rintro e w2 ⟨rfl, W2, wv2, fs2, hW2, hp2, hC2, hL2⟩
      have H2 := Lib.hid (HK.out.2.1.done H.out.2.2.2.2.2.2.2 H1.out hgt hW2 hp2 hC2 hL2)
      clear hgt hW2 hp2 hC2 hL2
      go_wp2_with fail
      go_ret2
      have hA := H2.out
      rw [← HK.out.2.2] at hA
      exact ⟨_, rfl, hA⟩
    · by_cases htu : tu < t
      · have b3 : decide ((t : Int) > (tu : Int)) = true := decide_eq_true (by omega)
        have b3' : (t : Int) > (tu : Int) := by omega
        have HE := Lib.hid hN
        clear hN
        go_wp2_with fail
        have hgt : ∀ u ∈ W1.flatten, tu < u.due := fun u hu => Nat.lt_of_lt_of_le htu (HE.out.2 u hu)
        refine (turn_any (HK.out.2.1.ck.only H1.out) HK.out.2.1.wk tu HK.out.2.1.le ht42 (fun u hu => Nat.le_of_lt (hgt u hu)) (flat1000 HK.out.2.1.pm HK.out.2.1.ok)).mono ?_
        rintro e w2 ⟨rfl, W2, wv2, fs2, hW2, hp2, hC2, hL2⟩
        have H2 := Lib.hid (HK.out.2.1.done H.out.2.2.2.2.2.2.2 H1.out hgt hW2 hp2 hC2 hL2)
        clear hgt hW2 hp2 hC2 hL2
        go_wp2_with fail
        go_ret2
        have hA := H2.out
        rw [← HK.out.2.2] at hA
        exact ⟨_, rfl, hA⟩
      · have b3 : decide ((t : Int) > (tu : Int)) = false := decide_eq_false (by omega)
        have b3' : ¬ (t : Int) > (tu : Int) := by omega
        have HE := Lib.hid hN
        clear hN
        go_wp2_with fail
        have ht42' : t < 2 ^ 42 := by omega
        have hC1t : C1.now ≤ t := by
          obtain ⟨x, hx, rfl⟩ := HE.out.1
          exact (HK.out.2.1.ok.due x (HK.out.2.1.pm.mem_iff.1 hx)).1
        refine (turn_any (HK.out.2.1.ck.only H1.out) HK.out.2.1.wk t hC1t ht42' (fun u hu => HE.out.2 u hu) (flat1000 HK.out.2.1.pm HK.out.2.1.ok)).mono ?_
        rintro e w2 ⟨rfl, W2, wv2, fs2, hW2, hp2, hC2, hL2⟩
        have H2 := Lib.hid (And.intro hW2 (And.intro (hp2.trans HK.out.2.1.pm) (And.intro hC2 (((Lk.refl b m wv1 wt).only H1.out).trans hL2))))
        clear hW2 hp2 hC2 hL2
        go_wp2_with fail
        refine (place_any w2 b t t ht42' ht42' (H2.out.2.2.1.blk.at (ck_at0 _ _ _ _ _))).mono ?_
        rintro e w3 ⟨rfl, o3⟩
        have H3 := Lib.hid o3
        clear o3
        have e0 : lvl t t = 0 := by
          have := (lvl_spec ht42' ht42').1.one (m := 0) ⟨rfl, .inl rfl⟩
          exact this
        rw [e0]
        clear e0
        obtain ⟨sl, hsl⟩ : ∃ sl, sl = slot t 0 := ⟨_, rfl⟩
        have hs64 : sl < 64 := by rw [hsl]; exact slot_lt _ _
        rw [← hsl]
        have HS := Lib.hid hsl
        clear hsl
        go_wp2_with fail
        refine (take_any (H2.out.2.2.1.only H3.out) 0 sl (by omega) hs64).mono ?_
        rintro e w4 ⟨v, wv4, fs4, rfl, hrow, hC4, hst4, hsub4, hap4⟩
        rw [Nat.zero_mul, Nat.zero_add] at hrow hC4
        obtain ⟨r, hr⟩ : ∃ r, r = W2.at sl := ⟨_, rfl⟩
        rw [← hr] at hrow
        obtain ⟨n, hn⟩ : ∃ n, n = r.length := ⟨_, rfl⟩
        rw [← hn] at hrow
        obtain ⟨Av, cv, rfl⟩ := own_shape hrow
        have hrn : n ≤ 400 := by
          rw [hn, hr]
          have := flat_len_at (W := W2) sl
          have := H2.out.2.1.length_eq
          have := HK.out.2.1.ok.len
          omega
        have hL4 : Lk b m wv1 wt wv4 w4 := (H2.out.2.2.2.only H3.out).trans ⟨hst4, hsub4⟩
        have H4 := Lib.hid (And.intro hrow (And.intro hC4 (And.intro hL4 (And.intro (fun k hk => (hap4 k hk).2) (And.intro hr hn)))))
        clear hrow hC4 hst4 hsub4 hap4 hr hn hL4
        go_wp2_with fail
        go_loopg [9, 49] n (fun kk vi vc wr => ∃ i : Nat, i ≤ n ∧ kk = n - i ∧ vc = .int .i64 (i : Nat) ∧ wr.ownsRow w4.heap.size 3 1 vi i (ints (zs (r.take i))) ∧ IMap wr m (vmap dv (keyed (C1.ts.filter fun u => decide (u.id ∉ (r.take i).map (·.id))))) ∧ Stay (fun k => k = m) w4 wr)
        case atStart =>
          refine ⟨0, Nat.zero_le _, rfl, rfl, World.ownsRow_nil _ _ _ _, ?_, Stay.refl _ _⟩
          have e : (C1.ts.filter fun u => decide (u.id ∉ (r.take 0).map (·.id))) = C1.ts := List.filter_eq_self.2 (fun u hu => by simp)
          rw [e]
          exact H4.out.2.1.mp
        case round =>
          obtain ⟨i, hi, hki, rfl, hids, hmp, hS5⟩ := hrel
          obtain ⟨wq, hwq⟩ : ∃ wq, wq = wr := ⟨_, rfl⟩
          rw [← hwq] at hids hmp hS5 ⊢
          clear hwq
          have hrl := H4.out.2.2.2.2.2
          have hrow := own_stay hS5 H4.out.1 (fun g hg e => H4.out.2.2.2.1 g hg (.inr (.inl e)))
          have hBq := hS5.blk H4.out.2.1.blk (fun e => H4.out.2.1.mb e.symm)
          have cmq := hBq.at (ck_atm t C1.made m H4.out.2.1.vl H4.out.2.1.full.1)
          have lbq := hBq.lt
          have hzq := hS5.size
          obtain ⟨Ai, ci, rfl⟩ := own_shape hids
          by_cases hin : i < n
          · obtain ⟨u, hu⟩ : ∃ u, r[i]? = some u := ⟨_, List.getElem?_eq_getElem (by omega)⟩
            obtain ⟨g, c2, e1, _, hg⟩ := hrow.form (by omega)
            have e1' : Av = some ⟨g, 0, none⟩ ∧ cv = c2 := by simpa using e1
            obtain ⟨rfl, rfl⟩ := e1'
            obtain ⟨z0, z1⟩ := row_cells hrow hrl.symm hu
            obtain ⟨ud, hud⟩ : ∃ ud, ud = u.due := ⟨_, rfl⟩
            obtain ⟨ui, hui⟩ : ∃ ui, ui = u.id := ⟨_, rfl⟩
            rw [← hui] at z0
            rw [← hud] at z1
            have hsucc : r.take (i + 1) = r.take i ++ [u] := by
              obtain ⟨hi, rfl⟩ := List.getElem?_eq_some_iff.1 hu
              exact List.take_succ_eq_append_getElem hi
            have HQ := Lib.hid (And.intro hids (And.intro hmp (And.intro hS5 (And.intro hki (And.intro hsucc (And.intro hui (And.intro hud hBq)))))))
            clear hids hmp hS5 hki hu hui hud e1 hrl hrow hsucc hBq
            go_upto_region 12 with (at_builtin; refine wpList_append_lies _ rfl _ _ _ rfl w4.heap.size 3 ii _ 1 8 Tryd.underlying42 hii0 hii1 hii2 hii3 rfl (by omega) _ i _ (by rfl) (own_alloc (own_alloc HQ.out.1 _) _) ⟨wq.heap.size + 1, 0, none⟩ 1 1 [.int .i64 ui] (by rfl) (by rfl) (World.news_of_block (cs := [Value.int .i64 ui].toArray) (t := 3) (fr := (0, 0)) (heap_alloc_at' _ _ _ (by simp))) (by simp [Value.oneCell']) (by omega) (by simp only [maxLen]; omega) (by omega) (by simp; omega) (wq.heap.size + 1 + 1) (by simp) ?_; intro g5 cap5 w5 hown5 hgrow5 hat5 hlt5; have st5 := grown_stay hgrow5; have HG5 := Lib.hid (And.intro hown5 (And.intro st5 hat5)); clear hown5 hgrow5 hat5 hlt5 st5)
            have hX5 : Blk w5 wq.heap.size 39 [.int .i64 ui, .int .i64 ud] := HG5.out.2.1.blk ((Blk.new wq [.int .i64 ui, .int .i64 ud] _).alloc _) (fun e => by have := (own_lt HQ.out.1 _ e).2; omega)
            have hB5 := HG5.out.2.1.blk ((HQ.out.2.2.2.2.2.2.2.alloc (.cells #[.int .i64 ui, .int .i64 ud] 39)).alloc (.cells #[.int .i64 ui] 3)) (fun e => own_ne_blk HQ.out.1 HQ.out.2.2.2.2.2.2.2 (by decide) _ e rfl)
            have hm5 := ((HQ.out.2.1.alloc (.cells #[.int .i64 ui, .int .i64 ud] 39)).alloc (.cells #[.int .i64 ui] 3)).stay HG5.out.2.1 (fun e => own_ne_map HQ.out.1 HQ.out.2.1 _ e rfl)
            have x0 := hX5.cell 0
            simp only [List.getElem?_cons_zero] at x0
            have lx := hX5.lt
            have cm5 := hB5.at (ck_atm t C1.made m H4.out.2.1.vl H4.out.2.1.full.1)
            have lb5 := hB5.lt
            have H5 := Lib.hid hm5
            clear hX5 hB5 hm5 z0 z1 hg cmq lbq
            go_region_law (refine step_delete_v _ (by rfl) _ _ _ _ (by rfl) 3 Tryd.underlying65 Tryd.underlying3 m _ (by rfl) (show IMap w5.drew m (vmap dv _) from H5.out) ui (by rfl) ?_; intro w6 hm6 hs6 hz6)
            all_goals
              have H6 := Lib.hid (And.intro hm6 (And.intro hs6 hz6))
              clear hm6 hs6 hz6
              go_wp2_with fail
              go_roundg (n - (i + 1))
              case measure => have := HQ.out.2.2.2.1; omega
              case rel =>
                have hres : Stay (fun k => k = m) w4 w6 := by
                  have h0 : Stay (fun k => (Value.slice Ai i ci).ownBlock = some k) wq w5 := (((Stay.refl (fun k => (Value.slice Ai i ci).ownBlock = some k) wq).alloc _).alloc _).trans HG5.out.2.1 (fun _ _ e => e)
                  exact (HQ.out.2.2.1.trans h0 (fun k hk e => by have := (own_lt HQ.out.1 k e).1; omega)).drew.trans H6.out.2.1 (fun _ _ e => e)
                refine ⟨i + 1, by omega, rfl, by go_num, ?_, ?_, hres⟩
                · have h1 : zs (r.take (i + 1)) = zs (r.take i) ++ [(ui : Int)] := by
                    rw [HQ.out.2.2.2.2.1, HQ.out.2.2.2.2.2.1]
                    unfold zs
                    rw [List.map_append]
                    rfl
                  rw [h1]
                  have h2 := own_stay H6.out.2.1 (show w5.drew.ownsRow w4.heap.size 3 1 (.slice (some ⟨g5, 0, none⟩) (i + 1) cap5) (i + 1) (ints (zs (r.take i)) ++ [.int .i64 ui]) from HG5.out.1) (fun g hg e => own_ne_map HG5.out.1 H5.out g hg e)
                  unfold ints at h2 ⊢
                  rw [List.map_append]
                  exact h2
                · have h1 : keyed (C1.ts.filter fun u => decide (u.id ∉ (r.take (i + 1)).map (·.id))) = adel (keyed (C1.ts.filter fun u => decide (u.id ∉ (r.take i).map (·.id)))) ui := by
                    rw [adel_keyed (HK.out.2.1.ok.asc.sublist List.filter_sublist), List.filter_filter]
                    congr 1
                    refine List.filter_congr fun x _ => ?_
                    rw [HQ.out.2.2.2.2.1, HQ.out.2.2.2.2.2.1, List.map_append]
                    by_cases h1 : x.id = u.id <;> by_cases h2 : x.id ∈ (r.take i).map (·.id) <;> simp [h1, h2]
                  rw [h1]
                  exact H6.out.1
          · obtain rfl : i = n := by omega
            have HQ := Lib.hid (And.intro hids (And.intro hmp (And.intro hS5 hrl)))
            clear hids hmp hS5 hki hrl hrow hBq cmq lbq
            go_wp2_with fail
            have hC1le : ∀ y ∈ C1.ts, t ≤ y.due := fun y hy => HE.out.2 y (HK.out.2.1.pm.mem_iff.2 hy)
            have hDR := due_row H2.out.1 H2.out.2.1 HK.out.2.1.ok hC1le
            rw [← HS.out, ← H4.out.2.2.2.2.1] at hDR
            have htk : r.take i = r := List.take_of_length_le (by have := HQ.out.2.2.2; omega)
            have hzl : (zs r).length = i := by unfold zs; rw [List.length_map]; exact HQ.out.2.2.2.symm
            have hids := HQ.out.1
            rw [htk] at hids
            have hso := sortI_any wq w4.heap.size (.slice Ai i ci) (zs r) (by rw [hzl]; exact hids) (by rw [hzl]; omega)
            refine hso.mono ?_
            clear hso
            rintro e w7 ⟨rfl, hr7, hs7⟩
            rw [hzl, hDR.1] at hr7
            have hdl : (C1.dues t).length = i := by rw [← hDR.1, srt_length, hzl]
            obtain ⟨dl, hdl2⟩ : ∃ dl, dl = C1.dues t := ⟨_, rfl⟩
            rw [← hdl2] at hr7 hdl hDR
            have hS7 : Stay (fun k => k = m) w4 w7 := HQ.out.2.2.1.trans hs7 (fun k hk e => by have := (own_lt hids k e).1; omega)
            have hf4 : w4.ownsRow w.heap.size 3 1 (.slice Af F.length cf) F.length (ints F) := own_stay H4.out.2.2.1.1 HK.out.2.1.fired (fun k hk hk2 => HK.out.2.1.off k hk hk2)
            have hf7 : w7.ownsRow w.heap.size 3 1 (.slice Af F.length cf) F.length (ints F) := own_stay hS7 hf4 (fun k hk e => HK.out.2.1.off k hk (.inr (.inl e)))
            rw [← HK.out.2.2] at hf7
            have hnF : nF + i ≤ 400 := by
              have h1 := HK.out.2.1.due
              rw [← Ck.dues_dues (show t ≤ tu by omega), ← hdl2] at h1
              have h2 := congrArg List.length h1
              have h3 : (C.dues tu).length ≤ 400 := by
                unfold Ck.dues
                rw [List.length_map]
                refine Nat.le_trans (List.length_filter_le _ _) ?_
                unfold Ck.all
                rw [tsort_length]
                exact H.out.2.2.2.1.len
              simp only [List.length_append] at h2
              have := HK.out.2.2
              omega
            have hz7 : w.heap.size ≤ w7.heap.size := Nat.le_trans HK.out.2.1.st.size (Nat.le_trans H4.out.2.2.1.1.size hS7.size)
            have hm7 := HQ.out.2.1.stay hs7 (fun e => own_ne_map hids HQ.out.2.1 _ e rfl)
            rw [htk, hDR.2.1] at hm7
            have H7 := Lib.hid (And.intro hr7 (And.intro hS7 (And.intro hf7 (And.intro hDR (And.intro hdl (And.intro hdl2 (And.intro hC1le hm7)))))))
            clear hr7 hs7 hS7 hf7 hf4 hDR hdl hdl2 hC1le htk hzl hids hm7
            go_wp2_with (at_builtin; refine wpList_append_sl _ rfl _ _ _ rfl w.heap.size 3 ii _ 1 8 Tryd.underlying42 hii0 hii1 hii2 hii3 rfl (by omega) _ nF _ (by rfl) H7.out.2.2.1 _ Ai i ci (ints dl) (by rfl) (own_sl H7.out.1 (Stay.refl _ _)) (fun u hu => by obtain ⟨y, _, rfl⟩ := List.mem_map.1 hu; rfl) (by simp only [maxLen]; omega) (by omega) (by omega) ?_; intro A9 c9 w9 hown9 hst9 hnx9; have H9 := Lib.hid (And.intro hown9 (And.intro hst9 hnx9)); clear hown9 hst9 hnx9)
            go_roundg (C1.adv t).ts.length
            case measure =>
              rw [HK.out.1]
              obtain ⟨x, hx, hxt⟩ := HE.out.1
              have hx1 := HK.out.2.1.pm.mem_iff.1 hx
              unfold Ck.adv
              simp only
              rw [List.length_filter_lt_length_iff_exists]
              exact ⟨x, hx1, by simp [hxt]⟩
            case rel =>
              obtain ⟨hr7, hS7, hf7, hDR, hdl, hdl2, hC1le, hm7⟩ := H7.out
              have hK := HK.out.2.1
              have hst9 := H9.out.2.1
              have hm9 : ¬ (Value.slice Af nF cf).ownBlock = some m := fun e => by
                rw [HK.out.2.2] at e
                exact hK.off m e (.inr (.inl rfl))
              have hC7 : CkIn w7 b m t C1.made (keyed (C1.adv t).ts) (W2.set sl []) wv4 fs4 := by
                exact ⟨hS7.blk H4.out.2.1.blk (fun e => H4.out.2.1.mb e.symm), hm7, H4.out.2.1.wl, H4.out.2.1.vl, H4.out.2.1.full, fun j v hv => own_stay hS7 (H4.out.2.1.row j v hv) (fun g hg e => H4.out.2.1.ne_m hv g hg e), H4.out.2.1.off⟩
              have hC9 : CkIn w9 b m t C1.made (keyed (C1.adv t).ts) (W2.set sl []) wv4 fs4 := hC7.stay hst9 (fun k hk e => by
                rw [HK.out.2.2] at e
                rcases H4.out.2.2.1.2 k hk with h1 | h1
                · exact hK.off k e h1
                · have := (own_lt hK.fired k e).2; omega)
              have hLk : ∀ k, CBlk b m wv4 k → S k ∨ w.heap.size ≤ k := fun k hk => by
                rcases H4.out.2.2.1.2 k hk with h1 | h1
                · exact hK.sub k h1
                · exact .inr (Nat.le_trans hK.st.size h1)
              have hmS : S m ∨ w.heap.size ≤ m := hK.sub m (.inr (.inl rfl))
              have hSt4 : Stay S w w4 := hK.st.trans H4.out.2.2.1.1 (fun i hi hk => by
                rcases hK.sub i hk with h1 | h1
                · exact h1
                · omega)
              have hSt7 : Stay S w w7 := hSt4.trans hS7 (fun i hi e => by
                rcases hmS with h1 | h1
                · rw [e]; exact h1
                · omega)
              have hSt9 : Stay S w w9 := hSt7.trans hst9 (fun i hi e => by
                rw [HK.out.2.2] at e
                have := (own_lt hK.fired i e).1
                omega)
              refine ⟨C1.adv t, _, wv4, fs4, F ++ dl, rfl, hC9, hDR.2.2.1, hDR.2.2.2, hK.ok.adv hC1t (by have := H.out.2.2.2.2.2.2.2; omega), by show t ≤ tu; omega, ?_, fun k hk hk2 => ?_, hSt9, hLk, ?_, ?_, H.out.2.2.2.2.2.1.stay hSt9 HG.out⟩
              · have h1 := H9.out.1
                rw [List.length_append, hdl, ← HK.out.2.2]
                unfold ints at h1 ⊢
                rw [List.map_append]
                exact h1
              · rcases H9.out.2.2 k hk with h1 | h1
                · rw [HK.out.2.2] at h1
                  rcases H4.out.2.2.1.2 k hk2 with h3 | h3
                  · exact hK.off k h1 h3
                  · have := (own_lt hK.fired k h1).2; omega
                · have := hC7.lt hk2; omega
              · rw [List.append_assoc, hdl2, Ck.dues_dues (show t ≤ tu by omega)]
                exact hK.due
              · rw [Ck.adv_adv (show t ≤ tu by omega)]
                exact hK.adv
end Go.Proofs.YtbkbcpnpbfnmgaaDoor
