/- A clock in memory, as its callers hold it; Arm. -/
import Derived.Test.YtbkbcpnpbfnmgaaDoorClockNext
import Derived.Deep.RegionLaw
set_option linter.unusedVariables false
set_option linter.unusedSimpArgs false
namespace Go.Proofs.YtbkbcpnpbfnmgaaDoor
open Go Go.RowKit

def keyed (l : List Tm) : List (Int × Nat) := l.map fun t => ((t.id : Int), t.due)
theorem keyed_keys (l : List Tm) : (keyed l).map (·.1) = l.map fun t => (t.id : Int) := by simp [keyed, List.map_map, Function.comp_def]
theorem keyed_nodup {C : Ck} (h : C.Ok) : ((keyed C.ts).map (·.1)).Nodup := by
  rw [keyed_keys, List.Nodup, List.pairwise_map]
  exact h.asc.imp (fun h => by omega)
theorem aget_keyed_some {C : Ck} (h : C.Ok) {t : Tm} (ht : t ∈ C.ts) : aget (keyed C.ts) t.id = some t.due := aget_of_mem (keyed_nodup h) (List.mem_map.2 ⟨t, ht, rfl⟩)
theorem aget_keyed_none {l : List Tm} {i : Int} (h : ∀ t ∈ l, (t.id : Int) ≠ i) : aget (keyed l) i = none := by
  rw [aget_none, keyed_keys, List.mem_map]
  rintro ⟨t, ht, e⟩
  exact h t ht e
theorem aset_new {l : List Tm} {i d : Nat} (h : ∀ t ∈ l, t.id ≠ i) : aset (keyed l) (i : Int) d = keyed (l ++ [⟨i, d⟩]) := by
  induction l with
  | nil => rfl
  | cons t l ih =>
    have h1 := h t (List.mem_cons_self ..)
    have h2 := ih (fun u hu => h u (List.mem_cons_of_mem _ hu))
    simp only [keyed, List.map_cons, aset, List.cons_append] at h2 ⊢
    rw [if_neg (by omega), h2]
theorem adel_keyed {l : List Tm} {i : Nat} (h : l.Pairwise (fun a b => a.id < b.id)) : adel (keyed l) (i : Int) = keyed (l.filter fun t => decide (t.id ≠ i)) := by
  induction l with
  | nil => rfl
  | cons t l ih =>
    rw [List.pairwise_cons] at h
    have h2 := ih h.2
    by_cases e : t.id = i
    · subst e
      have e2 : l.filter (fun u => decide (u.id ≠ t.id)) = l := List.filter_eq_self.2 (fun u hu => by have := h.1 u hu; simp; omega)
      simp only [keyed, List.map_cons, adel, if_true]
      rw [List.filter_cons_of_neg (by simp), e2]
    · simp only [keyed, List.map_cons, adel] at h2 ⊢
      rw [if_neg (by omega), h2, List.filter_cons_of_pos (by simpa using e)]
      rfl
/-- A clock with its blocks in S. -/
def CkAt (w : World) (S : Nat → Prop) (b : Nat) (C : Ck) : Prop :=
  ∃ m W wv fs, CkIn w b m C.now C.made (keyed C.ts) W wv fs ∧ WOk C.now W ∧ W.flatten.Perm C.ts ∧ C.Ok ∧ (∀ k, CBlk b m wv k → S k) ∧ ∀ k, S k → k < w.heap.size
section
variable {w w' : World} {S : Nat → Prop} {b : Nat} {C : Ck} {X : Nat → Prop}
theorem CkAt.lt (h : CkAt w S b C) {k : Nat} (hk : S k) : k < w.heap.size := by
  obtain ⟨m, W, wv, fs, h1, h2, h3, h4, h5, h6⟩ := h
  exact h6 k hk
theorem CkAt.ok (h : CkAt w S b C) : C.Ok := by
  obtain ⟨m, W, wv, fs, h1, h2, h3, h4, h5, h6⟩ := h
  exact h4
theorem CkAt.inb (h : CkAt w S b C) : S b := by
  obtain ⟨m, W, wv, fs, h1, h2, h3, h4, h5, h6⟩ := h
  exact h5 b (.inl rfl)
theorem CkAt.stay (h : CkAt w S b C) (hx : Stay X w w') (hX : ∀ k, S k → ¬ X k) : CkAt w' S b C := by
  obtain ⟨m, W, wv, fs, h1, h2, h3, h4, h5, h6⟩ := h
  exact ⟨m, W, wv, fs, h1.stay hx (fun k hk => hX k (h5 k hk)), h2, h3, h4, h5, fun k hk => Nat.lt_of_lt_of_le (h6 k hk) hx.size⟩
theorem CkAt.only (h : CkAt w S b C) (ho : Only w w') : CkAt w' S b C := h.stay ho (fun _ _ h => h)
theorem CkAt.now (h : CkAt w S b C) : w.cell? ⟨b, 0, none⟩ = some (.int .i64 C.now) := by
  obtain ⟨m, W, wv, fs, h1, h2, h3, h4, h5, h6⟩ := h
  exact h1.blk.at (ck_at0 _ _ _ _ _)
/-- A clock behind a call. -/
def CkThen (w : World) (S : Nat → Prop) (b : Nat) (C : Ck) (w' : World) : Prop := ∃ S', CkAt w' S' b C ∧ (∀ k, S' k → S k ∨ w.heap.size ≤ k) ∧ Stay S w w'
/-- Out of an inner call. -/
theorem CkThen.mk' {m : Nat} {wv wv' : List Value} {W' : Wheel} {fs' : List Nat} {C' : Ck} (hL : Lk b m wv w wv' w') (hC : CkIn w' b m C'.now C'.made (keyed C'.ts) W' wv' fs') (hW : WOk C'.now W') (hp : W'.flatten.Perm C'.ts) (hok : C'.Ok) (hs : ∀ k, CBlk b m wv k → S k) : CkThen w S b C' w' :=
  ⟨CBlk b m wv', ⟨m, W', wv', fs', hC, hW, hp, hok, fun _ h => h, fun k hk => hC.lt hk⟩, fun k hk => (hL.2 k hk).imp (hs k) id, hL.1.mono (fun k _ hk => hs k hk)⟩
end
/-- The clock's map is the one that it had. -/
def SameMap (w w' : World) (b : Nat) : Prop := ∃ m, w.cell? ⟨b, 457, none⟩ = some (.map (some m)) ∧ w'.cell? ⟨b, 457, none⟩ = some (.map (some m))
theorem CkIn.same {w w' : World} {b m now made now' made' : Nat} {l l' : List (Int × Nat)} {W W' : Wheel} {wv wv' : List Value} {fs fs' : List Nat} (h : CkIn w b m now made l W wv fs) (h' : CkIn w' b m now' made' l' W' wv' fs') : SameMap w w' b :=
  ⟨m, h.blk.at (ck_atm _ _ m h.vl h.full.1), h'.blk.at (ck_atm _ _ m h'.vl h'.full.1)⟩
theorem SameMap.of_only {w w' : World} {S : Nat → Prop} {b : Nat} {C : Ck} (h : CkAt w S b C) (ho : Only w w') : SameMap w w' b := by
  obtain ⟨m, W, wv, fs, h1, h2, h3, h4, h5, h6⟩ := h
  exact h1.same (h1.stay ho (fun _ _ h => h))
theorem maxT_lt : maxT < 2 ^ 42 := by decide
theorem flat1000 {W : Wheel} {C : Ck} (hp : W.flatten.Perm C.ts) (h : C.Ok) : W.flatten.length ≤ 1000 := by
  have := hp.length_eq
  have := h.len
  omega
/-! ### Arm -/
def Ck.armE (C : Ck) (d : Int) : Int := if d < C.now ∨ d > maxT then 2 else if 400 ≤ C.ts.length then 5 else 0
set_option maxRecDepth 100000 in
set_option maxHeartbeats 4000000 in
theorem arm_bad {w : World} {S : Nat → Prop} {b : Nat} {C : Ck} (h : CkAt w S b C) (d : Int) (hd : d < C.now ∨ d > 1000000000000) :
    Calls Tryd.prog 12 #[.pointer (some ⟨b, 0, none⟩), .int .i64 d] w fun e w' => e = .returned (.tuple #[.int .i64 0, .int .i64 2]) ∧ Only w w' := by
  have c0 := h.now
  have lb := h.lt h.inb
  clear h
  go_enter Tryd.func12, Tryd.ntmps12
  by_cases h1 : d < (C.now : Int)
  · have b1 : decide (d < (C.now : Int)) = true := decide_eq_true h1
    clear hd
    go_wp2_with fail
    go_ret2
    exact ⟨rfl, Stay.refl _ _⟩
  · have h2 : d > 1000000000000 := by omega
    have b1 : decide (d < (C.now : Int)) = false := decide_eq_false h1
    have b2 : decide (d > 1000000000000) = true := decide_eq_true h2
    clear hd
    go_wp2_with fail
    go_ret2
    exact ⟨rfl, Stay.refl _ _⟩
set_option maxRecDepth 100000 in
set_option maxHeartbeats 4000000 in
theorem arm_full {w : World} {S : Nat → Prop} {b : Nat} {C : Ck} (h : CkAt w S b C) (d : Int) (h1 : ¬ d < C.now) (h2 : ¬ d > 1000000000000) (hf : 400 ≤ C.ts.length) :
    Calls Tryd.prog 12 #[.pointer (some ⟨b, 0, none⟩), .int .i64 d] w fun e w' => e = .returned (.tuple #[.int .i64 0, .int .i64 5]) ∧ Only w w' := by
  obtain ⟨m, W, wv, fs, hC, hW, hp, hok, hs, hlt⟩ := h
  have c0 := hC.blk.at (ck_at0 C.now C.made wv fs m)
  have cm := hC.blk.at (ck_atm C.now C.made m hC.vl hC.full.1)
  have lb := hC.blk.lt
  have hM := Lib.hid hC.mp
  clear hC hW hp hs hlt hok
  have b1 : decide (d < (C.now : Int)) = false := decide_eq_false h1
  have b2 : decide (d > 1000000000000) = false := decide_eq_false h2
  have hl : (keyed C.ts).length = C.ts.length := by simp [keyed]
  obtain ⟨n, hn⟩ : ∃ n, n = C.ts.length := ⟨_, rfl⟩
  rw [← hn] at hf hl
  clear hn
  have b3 : (n : Int) ≥ 400 := by omega
  have b4 : decide ((n : Int) ≥ 400) = true := decide_eq_true b3
  have hlen := hM.out.len (P := Tryd.prog) (t := 65) (k := 3) (e := 3) Tryd.underlying65 3
  rw [vmap_length, hl] at hlen
  clear hl
  go_enter Tryd.func12, Tryd.ntmps12
  go_wp2_with fail
  go_ret2
  exact ⟨rfl, Stay.refl _ _⟩
set_option maxRecDepth 100000 in
set_option maxHeartbeats 4000000 in
theorem arm_okM {w : World} {S : Nat → Prop} {b : Nat} {C : Ck} (h : CkAt w S b C) (d : Nat) (h1 : C.now ≤ d) (h2 : d ≤ maxT) (hf : C.ts.length < 400) (hmd : C.made < maxT) :
    Calls Tryd.prog 12 #[.pointer (some ⟨b, 0, none⟩), .int .i64 d] w fun e w' => e = .returned (.tuple #[.int .i64 ((C.made : Int) + 1), .int .i64 0]) ∧ CkThen w S b (C.arm d) w' ∧ SameMap w w' b := by
  obtain ⟨m, W, wv, fs, hC, hW, hp, hok, hs, hlt⟩ := h
  have c0 := hC.blk.at (ck_at0 C.now C.made wv fs m)
  have c1 := hC.blk.at (ck_at1 C.now C.made wv fs m)
  have f1 := hC.blk.free 1
  have cm := hC.blk.at (ck_atm C.now C.made m hC.vl hC.full.1)
  have lb := hC.blk.lt
  have hM := Lib.hid hC.mp
  have b1 : decide ((d : Int) < (C.now : Int)) = false := decide_eq_false (by omega)
  have b1' : ¬ (d : Int) < (C.now : Int) := by omega
  have b2 : decide ((d : Int) > 1000000000000) = false := decide_eq_false (by unfold maxT at h2; omega)
  have b2' : ¬ (d : Int) > 1000000000000 := by unfold maxT at h2; omega
  have hl : (keyed C.ts).length = C.ts.length := by simp [keyed]
  have H := Lib.hid (And.intro hC (And.intro hW (And.intro hp (And.intro hok (And.intro hs hlt)))))
  clear hC hW hp hs hlt hok
  obtain ⟨n, hn⟩ : ∃ n, n = C.ts.length := ⟨_, rfl⟩
  rw [← hn] at hf hl
  have b3 : ¬ (n : Int) ≥ 400 := by omega
  have b4 : decide ((n : Int) ≥ 400) = false := decide_eq_false b3
  have hlen := hM.out.len (P := Tryd.prog) (t := 65) (k := 3) (e := 3) Tryd.underlying65 3
  rw [vmap_length, hl] at hlen
  have HN := Lib.hid (And.intro hl hn)
  obtain ⟨mk, hmk⟩ : ∃ mk, mk = C.made := ⟨_, rfl⟩
  obtain ⟨nw, hnw⟩ : ∃ nw, nw = C.now := ⟨_, rfl⟩
  rw [← hmk] at c1 hmd
  rw [← hnw] at c0 b1 b1'
  have HM := Lib.hid (And.intro hmk hnw)
  have h1' := h1
  have h2' := h2
  clear hl hn h1 h2
  have hmT : maxT = 1000000000000 := rfl
  have w1e : IntKind.i64.wrap ((mk : Int) + 1) = ((mk + 1 : Nat) : Int) := IntWalk.i64_in _ (by omega)
  have HE := Lib.hid hmk
  clear hmk hnw
  go_enter Tryd.func12, Tryd.ntmps12
  go_upto_region 6 with fail
  obtain ⟨w1, hw1⟩ : ∃ w1, w1 = w.setCell ⟨b, 1, none⟩ (.int .i64 ((mk : Int) + 1)) := ⟨_, rfl⟩
  rw [← hw1]
  have hB1 : Blk w1 b 71 (ckCells C.now (mk + 1) wv fs m) := by
    rw [hw1, ← ck_set1 C.now C.made]
    exact H.out.1.blk.set 1 _
  have hM1 : IMap w1.drew m (vmap dv (keyed C.ts)) := by
    have := hM.out.set (a := ⟨b, 1, none⟩) (fun e => H.out.1.mb e.symm) (.int .i64 ((mk : Int) + 1))
    rw [← hw1] at this
    exact this
  have k1 : w1.cell? ⟨b, 1, none⟩ = some (.int .i64 ((mk : Int) + 1)) := hB1.at (ck_at1 C.now (mk + 1) wv fs m)
  have km := hB1.at (ck_atm C.now (mk + 1) m H.out.1.vl H.out.1.full.1)
  have kb := hB1.lt
  obtain ⟨w2, hrun, hm2, hs2, hz2⟩ := IMap.update (P := Tryd.prog) (t := 65) (k := 3) (e := 3) hM1 Tryd.underlying65 Tryd.underlying3 ((mk : Int) + 1) (.int .i64 d)
  have hB2 := hs2.blk (hB1.drew) (fun e => H.out.1.mb e.symm)
  have hst2 : Stay (fun k => k = b ∨ k = m) w w2 := by
    have h0 : Stay (fun k => k = b ∨ k = m) w w1 := by rw [hw1]; exact (Stay.refl _ w).put (.inl rfl) _ _
    exact h0.drew.trans hs2 (fun k _ e => .inr e)
  have hC2 : CkIn w2 b m C.now (mk + 1) (keyed (C.arm d).ts) W wv fs := by
    refine ⟨hB2, ?_, H.out.1.wl, H.out.1.vl, H.out.1.full, fun i v hv => own_stay hst2 (H.out.1.row i v hv) (fun g hg e => ?_), H.out.1.off⟩
    · have e1 : keyed (C.arm d).ts = aset (keyed C.ts) ((mk + 1 : Nat) : Int) d := by
        rw [aset_new (fun t ht => ?_), HE.out]
        · rfl
        · have := (H.out.2.2.2.1.idr t ht).2
          have := HE.out
          omega
      rw [e1, ← aset_vmap]
      exact hm2
    · rcases e with e | e
      · exact H.out.1.ne_b hv g hg e
      · exact H.out.1.ne_m hv g hg e
  have hL2 : Lk b m wv w wv w2 := ⟨hst2.mono (fun k _ e => by
    rcases e with e | e
    · exact .inl e
    · exact .inr (.inl e)), fun k hk => .inl hk⟩
  have j1 : w2.cell? ⟨b, 1, none⟩ = some (.int .i64 ((mk : Int) + 1)) := hB2.at (ck_at1 C.now (mk + 1) wv fs m)
  have jb := hB2.lt
  have H2 := Lib.hid (And.intro hC2 hL2)
  clear hC2 hL2 hst2 hB2 hB1 hM1 hm2 hs2 hz2 hw1 c0 c1 f1 cm lb hlen
  go_big_region
  clear k1 km kb hrun
  go_wp2_with fail
  have hrow : (W.at (place C.now (⟨C.made + 1, d⟩ : Tm).due)).length ≤ 100000 := by
    have := flat_len_at (W := W) (place C.now (⟨C.made + 1, d⟩ : Tm).due)
    have := flat1000 H.out.2.2.1 H.out.2.2.2.1
    omega
  have hd42 : d < 2 ^ 42 := Nat.lt_of_le_of_lt h2' maxT_lt
  have hn42 : C.now < 2 ^ 42 := H.out.2.1.now42
  have hput := put_any H2.out.1 ⟨C.made + 1, d⟩ hn42 hd42 hrow
  have e5 : (((⟨C.made + 1, d⟩ : Tm).id : Nat) : Int) = (mk : Int) + 1 := by
    have := HE.out
    simp only
    omega
  rw [e5] at hput
  refine hput.mono ?_
  clear hput e5 hrow hd42 hn42
  rintro e w3 ⟨rfl, wv3, fs3, hC3, hst3, hsub3⟩
  have p1 := hC3.blk.at (ck_at1 C.now (mk + 1) wv3 fs3 m)
  have p1b := hC3.blk.lt
  have H3 := Lib.hid (And.intro hC3 (And.intro hst3 hsub3))
  clear hC3 hst3 hsub3
  go_wp2_with fail
  go_ret2
  refine ⟨?_, CkThen.mk' (C' := C.arm d) (H2.out.2.trans ⟨H3.out.2.1, H3.out.2.2⟩) (by have := H3.out.1; rw [HE.out] at this; exact this) (H.out.2.1.put (h1') (Nat.lt_of_le_of_lt h2' maxT_lt)) ?_ (H.out.2.2.2.1.arm h1' h2' (by have := HN.out.2; omega) (by have := HE.out; omega)) H.out.2.2.2.2.1, H.out.1.same H3.out.1⟩
  · rw [HE.out]
    rfl
  · refine (Wheel.put_flat ?_).trans ?_
    · rw [H.out.1.wl]
      exact place_lt H.out.2.1.now42 (Nat.lt_of_le_of_lt h2' maxT_lt)
    · exact (H.out.2.2.1.cons _).trans (List.perm_append_singleton _ _).symm
theorem arm_ok {w : World} {S : Nat → Prop} {b : Nat} {C : Ck} (h : CkAt w S b C) (d : Nat) (h1 : C.now ≤ d) (h2 : d ≤ maxT) (hf : C.ts.length < 400) (hmd : C.made < maxT) :
    Calls Tryd.prog 12 #[.pointer (some ⟨b, 0, none⟩), .int .i64 d] w fun e w' => e = .returned (.tuple #[.int .i64 ((C.made : Int) + 1), .int .i64 0]) ∧ CkThen w S b (C.arm d) w' :=
  (arm_okM h d h1 h2 hf hmd).mono fun e w' h => ⟨h.1, h.2.1⟩
end Go.Proofs.YtbkbcpnpbfnmgaaDoor
