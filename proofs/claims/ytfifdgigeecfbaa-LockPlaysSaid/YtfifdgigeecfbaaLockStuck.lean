/- Stuck: who waits for ever. -/
import Derived.Test.YtfifdgigeecfbaaLockFrees
set_option linter.unusedVariables false
set_option linter.unusedSimpArgs false
namespace Go.Proofs.Ytfifdgigeecfbaa
open Go Go.RowKit

def Lk.meas (k : Lk) : Nat := (sumH k.holds).toNat + k.waiting.length
def Tb.meas (t : Tb) : Nat := (t.ls.map Lk.meas).sum
theorem give_meas {k : Lk} {d p : Int} (h : k.Ok d) (hp : k.has p ≠ 0) : (k.give p).1.meas + 1 = k.meas := by
  obtain ⟨h1, h2, _, _⟩ := h.less hp
  have h3 := sumH_nonneg h2
  unfold Lk.meas
  cases hw : k.waiting with
  | nil =>
    rw [Lk.give_nil hw]
    simp only [h1, hw, List.length_nil]
    omega
  | cons q l =>
    rw [Lk.give_cons hw]
    simp only [sumH_set, h1, List.length_cons]
    omega
theorem sum_set {l : List Nat} {i a : Nat} {x : Nat} (h : l[i]? = some a) : (l.set i x).sum + a = l.sum + x := by
  induction l generalizing i with
  | nil => simp at h
  | cons y l ih =>
    cases i with
    | zero => simp at h; subst h; simp; omega
    | succ i => simp at h; have := ih h; simp; omega
theorem frees_meas {t u : Tb} {d : Int} (h : t.Ok d) (hf : t.frees = some u) : u.meas + 1 = t.meas := by
  unfold Tb.frees at hf
  obtain ⟨⟨i, p⟩, hp, rfl⟩ := Option.map_eq_some_iff.1 hf
  obtain ⟨k, hk, hm, _⟩ := pick_some hp
  have hkok := h.lk k (List.mem_of_getElem? hk)
  have h1 := give_meas hkok (has_of_mem hkok hm)
  rw [Tb.gives_eq hk]
  unfold Tb.meas
  simp only [List.map_set]
  have := sum_set (l := t.ls.map Lk.meas) (i := i) (a := k.meas) (x := (k.give p).1.meas) (by rw [List.getElem?_map, hk]; rfl)
  omega
/-- Permits are given back as long as there is one that can be. -/
def Tb.norm : Nat → Tb → Tb
  | 0, t => t
  | n + 1, t => match t.frees with
    | none => t
    | some u => Tb.norm n u
theorem norm_more {d : Int} : ∀ (n m : Nat) (t : Tb), t.Ok d → t.meas ≤ n → t.meas ≤ m → t.norm n = t.norm m
  | 0, 0, t, _, _, _ => rfl
  | 0, m + 1, t, h, h1, h2 => by
    simp only [Tb.norm]
    cases hf : t.frees with
    | none => rfl
    | some u => have := frees_meas h hf; omega
  | n + 1, 0, t, h, h1, h2 => by
    simp only [Tb.norm]
    cases hf : t.frees with
    | none => rfl
    | some u => have := frees_meas h hf; omega
  | n + 1, m + 1, t, h, h1, h2 => by
    simp only [Tb.norm]
    cases hf : t.frees with
    | none => rfl
    | some u =>
      have := frees_meas h hf
      exact norm_more n m u (frees_ok h hf) (by omega) (by omega)
def Tb.nf (t : Tb) : Tb := t.norm t.meas
theorem nf_step {t u : Tb} {d : Int} (h : t.Ok d) (hf : t.frees = some u) : t.nf = u.nf := by
  have h1 := frees_meas h hf
  unfold Tb.nf
  rw [← h1]
  simp only [Tb.norm, hf]
theorem nf_none {t : Tb} (hf : t.frees = none) : t.nf = t := by
  unfold Tb.nf
  cases t.meas with
  | zero => rfl
  | succ n => simp only [Tb.norm, hf]
/-- Along the way to the end. -/
theorem nf_ind {d : Int} {P : Tb → Prop} (hs : ∀ t u, t.Ok d → P t → t.frees = some u → P u) : ∀ (n : Nat) (t : Tb), t.meas ≤ n → t.Ok d → P t → P t.nf ∧ t.nf.Ok d ∧ t.nf.frees = none
  | n, t, hn, h, hp => by
    cases hf : t.frees with
    | none => rw [nf_none hf]; exact ⟨hp, h, hf⟩
    | some u =>
      have h1 := frees_meas h hf
      rw [nf_step h hf]
      match n, hn with
      | 0, hn => omega
      | n + 1, hn => exact nf_ind hs n u (by omega) (frees_ok h hf) (hs t u h hp hf)
theorem nf_all {t : Tb} {d : Int} (h : t.Ok d) (hc : t.Cons) : t.nf.Cons ∧ t.nf.Ok d ∧ t.nf.frees = none :=
  nf_ind (P := Tb.Cons) (fun t u h hc hf => frees_cons h hc hf) t.meas t (Nat.le_refl _) h hc

def Tb.stuck (t : Tb) : List Int := srt (t.copy.nf.waits.map (·.1))
theorem keys_wf {t : Tb} {d : Int} (h : t.Ok d) (hc : t.Cons) : ∀ x ∈ t.waits, 1 ≤ x.1 ∧ x.1 ≤ 1000000 := by
  intro x hx
  have := aget_of_mem hc.c4 (k := x.1) (v := x.2) hx
  obtain ⟨k, hk, hm⟩ := hc.c1 _ _ this
  exact (h.lk k (List.mem_of_getElem? hk)).wone _ hm

set_option maxRecDepth 100000 in
set_option maxHeartbeats 8000000 in
theorem stuck_any (w : World) (S : Nat → Prop) (b : Nat) (t : Tb) (d : Int) (h : TabAt w S b t) (hok : t.Ok d) (hc : t.Cons) (hd : d ≤ 1000000) :
    Calls Try.prog 22 #[.pointer (some ⟨b, 0, none⟩)] w fun e w' => ∃ v, e = .returned v ∧ w'.ownsRow w.heap.size 3 1 v t.stuck.length (ints t.stuck) ∧ Only w w' := by
  have HC := Lib.hid (And.intro (copy_ok hok hc) (copy_cons hc))
  have HH := Lib.hid (And.intro h hok)
  clear h hok hc
  go_enter Try.func22, Try.ntmps22
  go_wp2_with fail
  refine (copy_any w S b t d HH.out.1 HH.out.2 hd).mono ?_
  rintro e w1 ⟨b', rfl, hT1, hO1⟩
  have HN := Lib.hid (And.intro hT1 hO1)
  clear hT1 hO1
  go_wp2_with fail
  go_loopg [] (t.copy.meas) (fun kk wr => ∃ (u : Tb), kk = u.meas ∧ TabAt wr (From w.heap.size wr) b' u ∧ Only w wr ∧ u.Ok d ∧ u.Cons ∧ u.nf = t.copy.nf)
  case atStart => exact ⟨t.copy, rfl, HN.out.1, HN.out.2, HC.out.1, HC.out.2, rfl⟩
  case round =>
    obtain ⟨u, hk, hT, hO, hok, hc, hnf⟩ := hrel
    have HX := Lib.hid (And.intro hk (And.intro hT (And.intro hO (And.intro hok (And.intro hc hnf)))))
    clear hk hT hO hok hc hnf
    go_wp2_with fail
    refine (frees_any wr _ b' u d HX.out.2.1 HX.out.2.2.2.1 hd).mono ?_
    rintro e w2 ⟨rfl, hT2, hs2⟩
    rw [From.grow hs2.size HX.out.2.2.1.size] at hT2
    have hO2 : Only w w2 := Mine.stay (Stay.trans (S := fun k => w.heap.size ≤ k) (Mine.only HX.out.2.2.1) hs2 (fun _ _ hi => hi.1))
    cases hf : u.frees with
    | some u' =>
      rw [hf] at hT2
      have HY := Lib.hid (And.intro hT2 (And.intro hO2 hf))
      clear hT2 hs2 hO2 hf
      simp only [Option.isSome_some]
      go_wp2_with fail
      go_roundg (u'.meas)
      case measure => have := HX.out.1; have := frees_meas HX.out.2.2.2.1 HY.out.2.2; omega
      case rel => exact ⟨u', rfl, HY.out.1, HY.out.2.1, frees_ok HX.out.2.2.2.1 HY.out.2.2, frees_cons HX.out.2.2.2.1 HX.out.2.2.2.2.1 HY.out.2.2, by rw [← nf_step HX.out.2.2.2.1 HY.out.2.2]; exact HX.out.2.2.2.2.2⟩
    | none =>
      rw [hf] at hT2
      obtain ⟨m, lv, bs, hs, vs, hT3⟩ := hT2
      simp only [Option.getD_none] at hT3
      have hst : t.stuck = srt (u.waits.map (·.1)) := by unfold Tb.stuck; rw [← HX.out.2.2.2.2.2, nf_none hf]
      have c1 := hT3.blk.cell
      have hwf : ∀ p ∈ wmap bs u.waits, (Lit.int .i64 p.1).wf = true := by
        intro p hp
        obtain ⟨q, hq, rfl⟩ := List.mem_map.1 hp
        have := keys_wf HX.out.2.2.2.1 HX.out.2.2.2.2.1 q hq
        exact WalkArith.wf_i64 (by omega)
      have hml : (wmap bs u.waits).length ≤ 1000000 := by rw [vmap_length]; have := HX.out.2.2.2.1.wlen; omega
      have HY := Lib.hid (And.intro hT3 (And.intro hO2 (And.intro hst (And.intro hwf hml))))
      clear hT3 hs2 hO2 hf hst hwf hml
      simp only [Option.isSome_none]
      go_wp2_with fail
      refine (keysB_any (some m) _).mono ?_
      rintro e w6 ⟨rfl, rfl⟩
      go_wp2_with fail
      refine (sortedB_any _ w2.heap.size m (wmap bs u.waits) ((Blk.new w2 [.map (some m)] 65).at rfl) (HY.out.1.wm.alloc _) HY.out.2.2.2.1 HY.out.2.2.2.2).mono ?_
      rintro e w7 ⟨sv, rfl, hsv, hO7⟩
      rw [vmap_length, vmap_keys] at hsv
      have HS := Lib.hid (And.intro hsv hO7)
      clear hsv hO7
      go_wp2_with fail
      go_ret
      refine ⟨_, rfl, ?_, HY.out.2.1.trans' HS.out.2.behind⟩
      rw [HY.out.2.2.1]
      have := HS.out.1
      have hl : (srt (u.waits.map (·.1))).length = u.waits.length := by simp [srt_length]
      rw [hl]
      exact owns_base this (by have := HY.out.2.1.size; simp; omega)

end Go.Proofs.Ytfifdgigeecfbaa
