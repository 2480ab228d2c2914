/- NewRace. -/
import Derived.Test.YtfohaijdhgcneaaStealNew
import Derived.Test.YtfohaijdhgcneaaIntClone
import Derived.Laws.OwnMore
import Derived.Laws.EntriesVeiled
import Derived.Deep.CutRange
set_option linter.unusedVariables false
set_option linter.unusedSimpArgs false
namespace Go.Proofs.Ytfohaijdhgcneaa
open Go Go.RowKit

theorem sc_size (w : World) (a : Addr) (v : Value) : (w.setCell a v).heap.size = w.heap.size := by simp [World.setCell]
theorem dr_heap (w : World) : w.drew.heap = w.heap := rfl
theorem madeI (n : Nat) : madeCells (Value.int .i64 0).cells n = (ints (List.replicate n 0)).toArray := by
  apply Array.ext'
  rw [show (Value.int .i64 0).cells = #[Value.int .i64 0] from rfl, toList_madeCells_one]
  simp [ints]
/-- A race that has just been laid: nobody takes part yet. -/
def NewB (w : World) (room : Nat) (own thv : List Int) (v : Value) (W : World) : Prop :=
  ∃ L b rb cv ov tv, v = pt rb ∧ RaceM W L b ⟨room, List.replicate room 0, 0, 0, [], own, thv, []⟩ cv (.slice none 0 0) ov tv (.slice none 0 0) rb [] ∧ Only w W ∧ ∀ k, L k ≠ 0 → w.heap.size ≤ k
theorem owns_ar {ar : Array Value} {xs : List Value} (har : ar = xs.toArray) (w : World) (e : TypeId) (n k : Nat) (hk : k = w.heap.size) (hl : xs.length = n) (hn : n ≤ maxLen) {base : Nat} (hb : base ≤ w.heap.size) : (w.alloc (.cells ar e)).ownsRow base e 1 (.slice (some ⟨k, 0, none⟩) n n) n xs := by
  subst har
  exact owns_newAt w xs e 1 n k hk (by simpa using hl) hn hb
theorem newB_mk {w W : World} {room b rb : Nat} {own thv : List Int} {cv ov tv : Value}
    (hb : Blk W b 81 [.int .i64 room, cv, .int .i64 0, .int .i64 0, .slice none 0 0, ov, tv, .slice none 0 0])
    (hr : Blk W rb 26 [pt b]) (hc : W.ownsRow w.heap.size 3 1 cv room (ints (List.replicate room 0)))
    (ho : W.ownsRow w.heap.size 3 1 ov own.length (ints own)) (ht : W.ownsRow w.heap.size 3 1 tv thv.length (ints thv))
    (hbb : w.heap.size ≤ b) (hrr : w.heap.size ≤ rb) (n1 : Off cv ov) (n2 : Off cv tv) (n3 : Off ov tv) (only : Only w W) : NewB w room own thv (pt rb) W := by
  have hne : b ≠ rb := fun e => by
    subst e
    exact absurd (hb.inj hr).1 (by decide)
  have c1 := own_ne_blk hc hb (by decide)
  have o1 := own_ne_blk ho hb (by decide)
  have t1 := own_ne_blk ht hb (by decide)
  have c2 := own_ne_blk hc hr (by decide)
  have o2 := own_ne_blk ho hr (by decide)
  have t2 := own_ne_blk ht hr (by decide)
  have hL : ∀ (k : Nat), (if k = b then 1 else if cv.ownBlock = some k then 2 else if ov.ownBlock = some k then 3 else if tv.ownBlock = some k then 4 else if k = rb then 7 else 0) ≠ 0 → w.heap.size ≤ k ∧ k < W.heap.size := fun k hk => by
    split at hk
    · rename_i e; subst e; exact ⟨hbb, hb.lt⟩
    split at hk
    · rename_i e; exact own_lt hc k e
    split at hk
    · rename_i e; exact own_lt ho k e
    split at hk
    · rename_i e; exact own_lt ht k e
    split at hk
    · rename_i e; subst e; exact ⟨hrr, hr.lt⟩
    · exact absurd rfl hk
  refine ⟨fun k => if k = b then 1 else if cv.ownBlock = some k then 2 else if ov.ownBlock = some k then 3 else if tv.ownBlock = some k then 4 else if k = rb then 7 else 0, b, rb, cv, ov, tv, rfl, ?_, only, fun k hk => (hL k hk).1⟩
  refine ⟨⟨hb, owns_base hc (Nat.zero_le _)⟩, owns_base ho (Nat.zero_le _), owns_base ht (Nat.zero_le _), World.ownsRow_nil _ _ _ _, World.ownsRow_nil _ _ _ _, hr, rfl, fun i ab a h => by simp at h, if_pos rfl, fun g hg => ?_, fun g hg => ?_, fun g hg => ?_, fun g hg => by simp [Value.ownBlock] at hg, fun g hg => by simp [Value.ownBlock] at hg, ?_, fun k hk => (hL k hk).2⟩
  · show (if g = b then 1 else if cv.ownBlock = some g then 2 else _) = 2
    rw [if_neg (c1 g hg), if_pos hg]
  · show (if g = b then 1 else if cv.ownBlock = some g then 2 else if ov.ownBlock = some g then 3 else _) = 3
    rw [if_neg (o1 g hg), if_neg (n1.symm g hg), if_pos hg]
  · show (if g = b then 1 else if cv.ownBlock = some g then 2 else if ov.ownBlock = some g then 3 else if tv.ownBlock = some g then 4 else _) = 4
    rw [if_neg (t1 g hg), if_neg (n2.symm g hg), if_neg (n3.symm g hg), if_pos hg]
  · show (if rb = b then 1 else if cv.ownBlock = some rb then 2 else if ov.ownBlock = some rb then 3 else if tv.ownBlock = some rb then 4 else if rb = rb then 7 else 0) = 7
    rw [if_neg (fun e => hne e.symm), if_neg (fun e => c2 rb e rfl), if_neg (fun e => o2 rb e rfl), if_neg (fun e => t2 rb e rfl), if_pos rfl]

section
variable {w w' w2 w5 : World} {L : Nat → Nat} {b rb s ob n g cap : Nat} {R : Rc} {cv av ov tv pv : Value} {abs : List Nat}
theorem RaceM.only (h : RaceM w L b R cv av ov tv pv rb abs) (ho : Only w w') : RaceM w' L b R cv av ov tv pv rb abs :=
  ⟨h.core.only ho, own_only ho h.orow, own_only ho h.trow, own_only ho h.prow, own_only ho h.arow, ho.blk h.rbox, h.len, fun i ab a h1 h2 => by
    obtain ⟨ob, nx, gv, h3⟩ := h.acts i ab a h1 h2
    exact ⟨ob, nx, gv, h3.stay ho (fun _ h => h.elim)⟩, h.lb, h.lc, h.lo, h.lt, h.lp, h.la, h.lr, fun k hk => Nat.lt_of_lt_of_le (h.lab k hk) ho.size⟩
/-- One actor more, as the code has it. -/
theorem RaceM.grow (h : RaceM w L b R cv av ov tv pv rb abs) (hO2 : Only w w2) (hs : w.heap.size ≤ s) (ho : w.heap.size ≤ ob) (hso : s ≠ ob)
    (hac : AcB w2 s n [] (.func (.func (opF R.acts.length)) #[] #[.pointer (some ⟨rb, 0, none⟩), .pointer (some ⟨ob, 0, none⟩)]) .nilFunc (.slice none 0 0)) (hbx : Blk w2 ob 87 [pt s])
    (hx : Stay (fun k => av.ownBlock = some k) w2 w5) (hr : w5.ownsRow 0 87 1 (.slice (some ⟨g, 0, none⟩) (abs.length + 1) cap) (abs.length + 1) ((abs ++ [s]).map pt)) (hnx : av.ownBlock = some g ∨ w2.heap.size ≤ g) :
    ∃ L', RaceM (w5.setCell ⟨b, 4, none⟩ (.slice (some ⟨g, 0, none⟩) (abs.length + 1) cap)) L' b { R with acts := R.acts ++ [⟨n, 0, 0, 0, []⟩] } cv (.slice (some ⟨g, 0, none⟩) (abs.length + 1) cap) ov tv pv rb (abs ++ [s]) ∧ (∀ k, k < w.heap.size → L' k = L k) ∧ Stay (fun k => k = b ∨ av.ownBlock = some k) w (w5.setCell ⟨b, 4, none⟩ (.slice (some ⟨g, 0, none⟩) (abs.length + 1) cap)) := by
  have hst2 : Stay (fun k => k = b ∨ av.ownBlock = some k) w2 (w5.setCell ⟨b, 4, none⟩ (.slice (some ⟨g, 0, none⟩) (abs.length + 1) cap)) := (hx.mono (fun _ _ h => .inr h)).put (.inl rfl) _ _
  have hst : Stay (fun k => k = b ∨ av.ownBlock = some k) w (w5.setCell ⟨b, 4, none⟩ (.slice (some ⟨g, 0, none⟩) (abs.length + 1) cap)) := Stay.trans (hO2.mono (fun _ _ h => h.elim)) hst2 (fun _ _ h => h)
  have hav : ∀ k, av.ownBlock = some k → k < w.heap.size := fun k hk => h.lab k (by rw [h.la k hk]; simp)
  have hbl : b < w.heap.size := h.core.blk.lt
  have hsl := hac.blk.lt
  have hol := hbx.lt
  have hsz := hO2.size
  have hgb : ∀ k, (Value.slice (some ⟨g, 0, none⟩) (abs.length + 1) cap).ownBlock = some k → k = g := fun k hk => by simpa [Value.ownBlock] using hk.symm
  have hb5 := hx.blk (hO2.blk h.core.blk) (fun e => by have := h.la b e; have := h.lb; omega)
  have hgne : g ≠ b := fun e => by
    rcases hnx with h1 | h1
    · have := h.la g h1
      rw [e, h.lb] at this
      omega
    · omega
  have hcr : ∀ k, cv.ownBlock = some k → ¬ av.ownBlock = some k := fun k hk e => by have := h.lc k hk; have := h.la k e; omega
  obtain ⟨L', h1, h2⟩ := h.add (s := s) (ob := ob) (n := n) hst ⟨hb5.set 4 _, own_set (own_stay hx (own_only hO2 h.core.row) hcr) _ (fun k hk e => by have := h.lc k hk; have := h.lb; simp only at e; subst e; omega)⟩
    (own_set hr _ (fun k hk => by rw [hgb k hk]; exact hgne)) (fun k hk => by rw [hgb k hk]; rcases hnx with e | e; exact .inl e; exact .inr (by omega)) hs ho hso
    (fun e => by
      have := hgb s e
      subst this
      rcases hnx with e2 | e2
      · have := hav _ e2; omega
      · omega)
    (fun e => by
      have := hgb ob e
      subst this
      rcases hnx with e2 | e2
      · have := hav _ e2; omega
      · omega)
    (hac.stay hst2 (fun e => by
      rcases e with e | e
      · omega
      · have := hav _ e; omega) (fun k hk => by simp [Value.ownBlock] at hk))
    (hst2.blk hbx (fun e => by
      rcases e with e | e
      · omega
      · have := hav _ e; omega))
  exact ⟨L', h1, h2, hst⟩
end
theorem infoP : (Try.prog.info? 87).map (fun i => (i.zero, i.size, i.bytes)) = some (some (.pointer none), 1, 8) := by kernel_rfl
/-- A race that grows: those that take part so far. -/
def Grown (w : World) (b rb room : Nat) (own thv : List Int) (ts : List Nat) (W : World) : Prop :=
  ∃ L cv av ov tv abs, RaceM W L b (Rc.start room own thv ts) cv av ov tv (.slice none 0 0) rb abs ∧ Only w W ∧ ∀ k, L k ≠ 0 → w.heap.size ≤ k
theorem RaceM.next {w w2 w5 W : World} {L : Nat → Nat} {b rb s ob n g cap room : Nat} {own thv : List Int} {ts : List Nat} {R : Rc} {cv av ov tv : Value} {abs : List Nat}
    (h : RaceM w L b R cv av ov tv (.slice none 0 0) rb abs) (hR : { R with acts := R.acts ++ [⟨n, 0, 0, 0, []⟩] } = Rc.start room own thv ts) (hW : Only W w) (hB : ∀ k, L k ≠ 0 → W.heap.size ≤ k) (hO2 : Only w w2) (hs : w.heap.size ≤ s) (ho : w.heap.size ≤ ob) (hso : s ≠ ob)
    (hac : AcB w2 s n [] (.func (.func (opF R.acts.length)) #[] #[.pointer (some ⟨rb, 0, none⟩), .pointer (some ⟨ob, 0, none⟩)]) .nilFunc (.slice none 0 0)) (hbx : Blk w2 ob 87 [pt s])
    (hx : Stay (fun k => av.ownBlock = some k) w2 w5) (hr : w5.ownsRow 0 87 1 (.slice (some ⟨g, 0, none⟩) (abs.length + 1) cap) (abs.length + 1) ((abs ++ [s]).map pt)) (hnx : av.ownBlock = some g ∨ w2.heap.size ≤ g) :
    Grown W b rb room own thv ts (w5.setCell ⟨b, 4, none⟩ (.slice (some ⟨g, 0, none⟩) (abs.length + 1) cap)) := by
  obtain ⟨L', h1, h2, h3⟩ := h.grow hO2 hs ho hso hac hbx hx hr hnx
  rw [hR] at h1
  refine ⟨L', cv, _, ov, tv, _, h1, hW.trans h3 (fun i hi e => ?_), fun k hk => ?_⟩
  · rcases e with e | e
    · subst e
      have := hB _ (by rw [h.lb]; simp)
      omega
    · have := hB i (by rw [h.la i e]; simp)
      omega
  · by_cases hkw : k < w.heap.size
    · rw [h2 k hkw] at hk
      exact hB k hk
    · have := hW.size
      omega
theorem Sl.up {w w' : World} {A : Option Addr} {n c : Nat} {xs : List Value} (h : Sl w w.heap.size A n c 1 xs) (ho : Only w w') : Sl w' w'.heap.size A n c 1 xs := h.later ho ho.size
set_option maxRecDepth 100000 in
set_option maxHeartbeats 4000000 in
theorem newrace_any (w : World) (room : Nat) (own thv : List Int) (A B : Option Addr) (ca cb : Nat) (hA : Sl w w.heap.size A own.length ca 1 (ints own)) (hB : Sl w w.heap.size B thv.length cb 1 (ints thv)) (h1 : 1 ≤ room) (h2 : room ≤ 16) (h3 : own.length ≤ 60) (h4 : thv.length ≤ 8) (h5 : ∀ x ∈ own, 0 ≤ x ∧ x ≤ 1000000) (h6 : ∀ x ∈ thv, 0 ≤ x ∧ x ≤ 60) :
    Calls Try.prog 38 #[.int .i64 room, .slice A own.length ca, .slice B thv.length cb] w fun e w' => ∃ b L, e = .returned (.tuple #[.pointer (some ⟨b, 0, none⟩), .int .i64 0]) ∧ RaceOk w' L b (Rc.start room own thv (thv.map Int.toNat)) ∧ Only w w' ∧ ∀ k, L k ≠ 0 → w.heap.size ≤ k := by
  obtain ⟨ii, hii0, hii1, hii2, hii3⟩ := info_parts infoI
  obtain ⟨ip, hip0, hip1, hip2, hip3⟩ := info_parts infoP
  obtain ⟨ar, har⟩ : ∃ ar, ar = (ints (List.replicate room 0)).toArray := ⟨_, rfl⟩
  have hmk : ∀ (W : World), (Instr.makeSlice 22 (.int .i64 room) (.int .i64 room)).run Try.prog W = .ok (.slice (some ⟨W.heap.size, 0, none⟩) room room) (W.alloc (.cells ar 3)) := fun W => by
    have h := run_makeSlice (P := Try.prog) W 22 3 ii (.int .i64 0) (by rfl) hii0 hii1 .i64 .i64 room room (by omega) (by omega) (by rw [hii2]; omega) (by rw [hii3]; omega) (by omega)
    rw [hii2] at h
    simp only [Int.toNat_natCast, Nat.mul_one] at h
    rw [madeI, ← har] at h
    simpa using h
  clear hii0 hii1 hii2 hii3
  have HS := Lib.hid (And.intro hA (And.intro hB (And.intro h5 (And.intro h6 har))))
  clear hA hB h5 h6 har
  go_enter Try.func38, Try.ntmps38
  go_wp2_with fail
  go_loopg [35] (own.length) (fun k vi wr => ∃ i : Nat, i ≤ own.length ∧ k = own.length - i ∧ vi = .int .i64 (i : Nat) ∧ Only w wr)
  case atStart => exact ⟨0, by omega, by omega, rfl, Stay.refl _ w⟩
  case round =>
    obtain ⟨i, hi, hk, rfl, hO⟩ := hrel
    by_cases hp : i < own.length
    · obtain ⟨xb, xo, rfl, hxb, hxc⟩ := (HS.out.1.only hO).ints_at (by omega)
      have hx5 := HS.out.2.2.1 (own.getD i 0) (by rw [List.getD_eq_getElem?_getD, List.getElem?_eq_getElem hp]; exact List.getElem_mem hp)
      have e0 := hxc i hp
      obtain ⟨x, hxe⟩ : ∃ x, x = own.getD i 0 := ⟨_, rfl⟩
      rw [← hxe] at e0 hx5
      have hlt : xb < wr.heap.size := Nat.lt_of_lt_of_le hxb hO.size
      have HX := Lib.hid (And.intro hO hk)
      clear hO hk hxc hxe
      go_wp2_with fail
      go_roundg (own.length - (i + 1))
      case measure => have := HX.out.2; omega
      case rel => exact ⟨i + 1, hp, rfl, rfl, HX.out.1⟩
    · have HX := Lib.hid hO
      clear hO hk
      obtain ⟨w0, hw0⟩ : ∃ w0, w0 = wr := ⟨_, rfl⟩
      rw [← hw0] at HX ⊢
      clear hw0
      go_wp2_with fail
      go_loopg [48] (thv.length) (fun k vi wr => ∃ i : Nat, i ≤ thv.length ∧ k = thv.length - i ∧ vi = .int .i64 (i : Nat) ∧ Only w wr)
      case atStart => exact ⟨0, by omega, by omega, rfl, HX.out⟩
      case round =>
        obtain ⟨i2, hi2, hk, rfl, hO⟩ := hrel
        by_cases hp2 : i2 < thv.length
        · obtain ⟨xb, xo, rfl, hxb, hxc⟩ := (HS.out.2.1.only hO).ints_at (by omega)
          have hx5 := HS.out.2.2.2.1 (thv.getD i2 0) (by rw [List.getD_eq_getElem?_getD, List.getElem?_eq_getElem hp2]; exact List.getElem_mem hp2)
          have e0 := hxc i2 hp2
          obtain ⟨x, hxe⟩ : ∃ x, x = thv.getD i2 0 := ⟨_, rfl⟩
          rw [← hxe] at e0 hx5
          have hlt : xb < wr.heap.size := Nat.lt_of_lt_of_le hxb hO.size
          have HX2 := Lib.hid (And.intro hO hk)
          clear hO hk hxc hxe
          go_wp2_with fail
          go_roundg (thv.length - (i2 + 1))
          case measure => have := HX2.out.2; omega
          case rel => exact ⟨i2 + 1, hp2, rfl, rfl, HX2.out.1⟩
        · have HX2 := Lib.hid hO
          clear hO hk HX
          obtain ⟨w1, hw1⟩ : ∃ w1, w1 = wr := ⟨_, rfl⟩
          rw [← hw1] at HX2 ⊢
          clear hw1
          go_upto_region 15 with fail
          go_cut [12] from 59 to 67 (fun v12 wc => NewB w1 room own thv v12 wc)
          case first =>
            go_region_with (first | (go_at_call_of 37 (Value.slice A own.length ca); refine (cloneI_any _ A ca own (Sl.up HS.out.1 (by first | exact (Stay.drew HX2.out) | exact ((Stay.drew HX2.out).alloc _) | exact (((Stay.drew HX2.out).alloc _).alloc _) | exact aB | exact aB.alloc _ | exact (aB.alloc _).alloc _)) (by omega)).mono ?_; rintro e wA ⟨vA, rfl, hvA, oA⟩; obtain ⟨PA, dA, rfl⟩ := own_shape hvA; have aA : Only w wA := Only.trans' (by first | exact (Stay.drew HX2.out) | exact ((Stay.drew HX2.out).alloc _) | exact (((Stay.drew HX2.out).alloc _).alloc _) | exact aB | exact aB.alloc _ | exact (aB.alloc _).alloc _) oA; have pA : Only w1 wA := Only.trans' (by first | exact (Stay.refl _ w1).drew | exact ((Stay.refl _ w1).drew).alloc _ | exact (((Stay.refl _ w1).drew).alloc _).alloc _) oA; (first | (have bM := own_only oA (owns_ar HS.out.2.2.2.2 w1.drew 3 room w1.heap.size rfl (by simp [ints]) (by simp only [maxLen]; omega) (base := w1.heap.size) (by (try simp only [World.size_alloc, World.heap_drewN, dr_heap, sc_size]); have := pA.size; omega))) | (have bM := own_only oA (own_alloc (owns_ar HS.out.2.2.2.2 w1.drew 3 room w1.heap.size rfl (by simp [ints]) (by simp only [maxLen]; omega) (base := w1.heap.size) (by (try simp only [World.size_alloc, World.heap_drewN, dr_heap, sc_size]); have := pA.size; omega)) _)) | (have bM := own_only oA (owns_ar HS.out.2.2.2.2 (w1.drew.alloc _) 3 room (w1.heap.size + 1) (by simp) (by simp [ints]) (by simp only [maxLen]; omega) (base := w1.heap.size) (by (try simp only [World.size_alloc, World.heap_drewN, dr_heap, sc_size]); have := pA.size; omega))) | (have bM := own_only oA (own_alloc (owns_ar HS.out.2.2.2.2 (w1.drew.alloc _) 3 room (w1.heap.size + 1) (by simp) (by simp [ints]) (by simp only [maxLen]; omega) (base := w1.heap.size) (by (try simp only [World.size_alloc, World.heap_drewN, dr_heap, sc_size]); have := pA.size; omega)) _)) | (have bM := own_only oA (owns_ar HS.out.2.2.2.2 wB 3 room wB.heap.size rfl (by simp [ints]) (by simp only [maxLen]; omega) (base := w1.heap.size) (by (try simp only [World.size_alloc, World.heap_drewN, dr_heap, sc_size]); have := pA.size; omega))) | (have bM := own_only oA (own_alloc (owns_ar HS.out.2.2.2.2 wB 3 room wB.heap.size rfl (by simp [ints]) (by simp only [maxLen]; omega) (base := w1.heap.size) (by (try simp only [World.size_alloc, World.heap_drewN, dr_heap, sc_size]); have := pA.size; omega)) _)) | (have bM := own_only oA (owns_ar HS.out.2.2.2.2 (wB.alloc _) 3 room (wB.heap.size + 1) (by simp) (by simp [ints]) (by simp only [maxLen]; omega) (base := w1.heap.size) (by (try simp only [World.size_alloc, World.heap_drewN, dr_heap, sc_size]); have := pA.size; omega))) | (have bM := own_only oA (own_alloc (owns_ar HS.out.2.2.2.2 (wB.alloc _) 3 room (wB.heap.size + 1) (by simp) (by simp [ints]) (by simp only [maxLen]; omega) (base := w1.heap.size) (by (try simp only [World.size_alloc, World.heap_drewN, dr_heap, sc_size]); have := pA.size; omega)) _)) | (have bM := own_only oA bM) | (have bM := own_only oA (own_alloc bM _)) | skip); (first | (have bT := oA.blk (Blk.newAt w1.drew [.pointer none] 26 w1.heap.size rfl); have qT := bT.cell 0; have fT := bT.free 0; have lT := bT.lt) | (have bT := oA.blk ((Blk.newAt w1.drew [.pointer none] 26 w1.heap.size rfl).alloc _); have qT := bT.cell 0; have fT := bT.free 0; have lT := bT.lt) | (have bT := oA.blk (Blk.newAt (w1.drew.alloc _) [.pointer none] 26 (w1.heap.size + 1) (by simp)); have qT := bT.cell 0; have fT := bT.free 0; have lT := bT.lt) | (have bT := oA.blk (Blk.newAt wB [.pointer none] 26 wB.heap.size rfl); have qT := bT.cell 0; have fT := bT.free 0; have lT := bT.lt) | (have bT := oA.blk ((Blk.newAt wB [.pointer none] 26 wB.heap.size rfl).alloc _); have qT := bT.cell 0; have fT := bT.free 0; have lT := bT.lt) | (have bT := oA.blk (Blk.newAt (wB.alloc _) [.pointer none] 26 (wB.heap.size + 1) (by simp)); have qT := bT.cell 0; have fT := bT.free 0; have lT := bT.lt) | (have bT := oA.blk bT; have qT := bT.cell 0; have fT := bT.free 0; have lT := bT.lt) | (have bT := oA.blk (bT.alloc _); have qT := bT.cell 0; have fT := bT.free 0; have lT := bT.lt) | skip)) | (go_at_call_of 37 (Value.slice B thv.length cb); refine (cloneI_any _ B cb thv (Sl.up HS.out.2.1 (by first | exact (Stay.drew HX2.out) | exact ((Stay.drew HX2.out).alloc _) | exact (((Stay.drew HX2.out).alloc _).alloc _) | exact aA | exact aA.alloc _ | exact (aA.alloc _).alloc _)) (by omega)).mono ?_; rintro e wB ⟨vB, rfl, hvB, oB⟩; obtain ⟨PB, dB, rfl⟩ := own_shape hvB; have aB : Only w wB := Only.trans' (by first | exact (Stay.drew HX2.out) | exact ((Stay.drew HX2.out).alloc _) | exact (((Stay.drew HX2.out).alloc _).alloc _) | exact aA | exact aA.alloc _ | exact (aA.alloc _).alloc _) oB; have pB : Only w1 wB := Only.trans' (by first | exact pA | exact pA.alloc _ | exact (pA.alloc _).alloc _) oB; (first | (have bM := own_only oB (owns_ar HS.out.2.2.2.2 w1.drew 3 room w1.heap.size rfl (by simp [ints]) (by simp only [maxLen]; omega) (base := w1.heap.size) (by (try simp only [World.size_alloc, World.heap_drewN, dr_heap, sc_size]); have := pA.size; omega))) | (have bM := own_only oB (own_alloc (owns_ar HS.out.2.2.2.2 w1.drew 3 room w1.heap.size rfl (by simp [ints]) (by simp only [maxLen]; omega) (base := w1.heap.size) (by (try simp only [World.size_alloc, World.heap_drewN, dr_heap, sc_size]); have := pA.size; omega)) _)) | (have bM := own_only oB (owns_ar HS.out.2.2.2.2 (w1.drew.alloc _) 3 room (w1.heap.size + 1) (by simp) (by simp [ints]) (by simp only [maxLen]; omega) (base := w1.heap.size) (by (try simp only [World.size_alloc, World.heap_drewN, dr_heap, sc_size]); have := pA.size; omega))) | (have bM := own_only oB (own_alloc (owns_ar HS.out.2.2.2.2 (w1.drew.alloc _) 3 room (w1.heap.size + 1) (by simp) (by simp [ints]) (by simp only [maxLen]; omega) (base := w1.heap.size) (by (try simp only [World.size_alloc, World.heap_drewN, dr_heap, sc_size]); have := pA.size; omega)) _)) | (have bM := own_only oB (owns_ar HS.out.2.2.2.2 wA 3 room wA.heap.size rfl (by simp [ints]) (by simp only [maxLen]; omega) (base := w1.heap.size) (by (try simp only [World.size_alloc, World.heap_drewN, dr_heap, sc_size]); have := pA.size; omega))) | (have bM := own_only oB (own_alloc (owns_ar HS.out.2.2.2.2 wA 3 room wA.heap.size rfl (by simp [ints]) (by simp only [maxLen]; omega) (base := w1.heap.size) (by (try simp only [World.size_alloc, World.heap_drewN, dr_heap, sc_size]); have := pA.size; omega)) _)) | (have bM := own_only oB (owns_ar HS.out.2.2.2.2 (wA.alloc _) 3 room (wA.heap.size + 1) (by simp) (by simp [ints]) (by simp only [maxLen]; omega) (base := w1.heap.size) (by (try simp only [World.size_alloc, World.heap_drewN, dr_heap, sc_size]); have := pA.size; omega))) | (have bM := own_only oB (own_alloc (owns_ar HS.out.2.2.2.2 (wA.alloc _) 3 room (wA.heap.size + 1) (by simp) (by simp [ints]) (by simp only [maxLen]; omega) (base := w1.heap.size) (by (try simp only [World.size_alloc, World.heap_drewN, dr_heap, sc_size]); have := pA.size; omega)) _)) | (have bM := own_only oB bM) | (have bM := own_only oB (own_alloc bM _)) | skip); (first | (have bT := oB.blk (Blk.newAt w1.drew [.pointer none] 26 w1.heap.size rfl); have qT := bT.cell 0; have fT := bT.free 0; have lT := bT.lt) | (have bT := oB.blk ((Blk.newAt w1.drew [.pointer none] 26 w1.heap.size rfl).alloc _); have qT := bT.cell 0; have fT := bT.free 0; have lT := bT.lt) | (have bT := oB.blk (Blk.newAt (w1.drew.alloc _) [.pointer none] 26 (w1.heap.size + 1) (by simp)); have qT := bT.cell 0; have fT := bT.free 0; have lT := bT.lt) | (have bT := oB.blk (Blk.newAt wA [.pointer none] 26 wA.heap.size rfl); have qT := bT.cell 0; have fT := bT.free 0; have lT := bT.lt) | (have bT := oB.blk ((Blk.newAt wA [.pointer none] 26 wA.heap.size rfl).alloc _); have qT := bT.cell 0; have fT := bT.free 0; have lT := bT.lt) | (have bT := oB.blk (Blk.newAt (wA.alloc _) [.pointer none] 26 (wA.heap.size + 1) (by simp)); have qT := bT.cell 0; have fT := bT.free 0; have lT := bT.lt) | (have bT := oB.blk bT; have qT := bT.cell 0; have fT := bT.free 0; have lT := bT.lt) | (have bT := oB.blk (bT.alloc _); have qT := bT.cell 0; have fT := bT.free 0; have lT := bT.lt) | skip)))
            all_goals
              go_wp2_with fail
              go_meet
              case rel =>
                have sA := pA.size
                have sB := pB.size
                have sAB := oB.size
                have sOA := oA.size
                have dA := own_lt hvA
                have dB := own_lt hvB
                have qAB : Only wA wB := by first | exact oB | exact Only.trans' ((Stay.refl _ wA).alloc _) oB | exact Only.trans' (((Stay.refl _ wA).alloc _).alloc _) oB
                have xA : wB.ownsRow w1.heap.size 3 1 _ own.length (ints own) := own_only qAB (owns_base hvA (by (try simp only [World.size_alloc, World.heap_drewN, dr_heap, sc_size]); have := pA.size; omega))
                have xB : wB.ownsRow w1.heap.size 3 1 _ thv.length (ints thv) := owns_base hvB (by (try simp only [World.size_alloc, World.heap_drewN, dr_heap, sc_size]); have := pA.size; omega)
                (try simp only [World.size_alloc, World.heap_drewN, dr_heap, sc_size] at dA); (try simp only [World.size_alloc, World.heap_drewN, dr_heap, sc_size] at dB); (try simp only [World.size_alloc, World.heap_drewN, dr_heap, sc_size] at sAB); (try simp only [World.size_alloc, World.heap_drewN, dr_heap, sc_size] at sOA)
                apply newB_mk
                rotate_left 1
                · (repeat (first | exact Blk.newAt _ _ _ _ (by simp only [World.size_alloc, sc_size]) | exact Blk.newAt _ _ _ _ rfl | exact bT.set 0 _ | refine Blk.alloc ?_ _ | refine Blk.set_other ?_ (by (try simp only [World.size_alloc, World.heap_drewN, dr_heap, sc_size]); omega) _))
                rotate_right 1
                · (repeat (first | exact Blk.newAt _ _ _ _ (by simp only [World.size_alloc, sc_size]) | exact Blk.newAt _ _ _ _ rfl | exact bT.set 0 _ | refine Blk.alloc ?_ _ | refine Blk.set_other ?_ (by (try simp only [World.size_alloc, World.heap_drewN, dr_heap, sc_size]); omega) _))
                · (repeat (first | exact bM | exact owns_ar HS.out.2.2.2.2 _ 3 room _ rfl (by simp [ints]) (by simp only [maxLen]; omega) (by (try simp only [World.size_alloc, World.heap_drewN, dr_heap, sc_size]); have := pA.size; omega) | exact owns_ar HS.out.2.2.2.2 _ 3 room _ (by simp) (by simp [ints]) (by simp only [maxLen]; omega) (by (try simp only [World.size_alloc, World.heap_drewN, dr_heap, sc_size]); have := pA.size; omega) | refine own_alloc ?_ _ | refine own_set ?_ _ (own_ne_blk bM bT (by decide))))
                · (repeat (first | exact xA | exact owns_ar HS.out.2.2.2.2 _ 3 room _ rfl (by simp [ints]) (by simp only [maxLen]; omega) (by (try simp only [World.size_alloc, World.heap_drewN, dr_heap, sc_size]); have := pA.size; omega) | exact owns_ar HS.out.2.2.2.2 _ 3 room _ (by simp) (by simp [ints]) (by simp only [maxLen]; omega) (by (try simp only [World.size_alloc, World.heap_drewN, dr_heap, sc_size]); have := pA.size; omega) | refine own_alloc ?_ _ | refine own_set ?_ _ (own_ne_blk xA bT (by decide))))
                · (repeat (first | exact xB | exact owns_ar HS.out.2.2.2.2 _ 3 room _ rfl (by simp [ints]) (by simp only [maxLen]; omega) (by (try simp only [World.size_alloc, World.heap_drewN, dr_heap, sc_size]); have := pA.size; omega) | exact owns_ar HS.out.2.2.2.2 _ 3 room _ (by simp) (by simp [ints]) (by simp only [maxLen]; omega) (by (try simp only [World.size_alloc, World.heap_drewN, dr_heap, sc_size]); have := pA.size; omega) | refine own_alloc ?_ _ | refine own_set ?_ _ (own_ne_blk xB bT (by decide))))
                · (try simp only [World.size_alloc, World.heap_drewN, dr_heap, sc_size]); have := pA.size; omega
                · (try simp only [World.size_alloc, World.heap_drewN, dr_heap, sc_size]); have := pA.size; omega
                · exact fun g hg hg2 => by simp [Value.ownBlock] at hg; have := dA g hg2; omega
                · exact fun g hg hg2 => by simp [Value.ownBlock] at hg; have := dB g hg2; omega
                · exact fun g hg hg2 => by have := dA g hg; have := dB g hg2; omega
                · (repeat (first | exact pB | refine Stay.alloc ?_ _ | refine Stay.set ?_ (fun h => absurd h (by (try simp only [World.size_alloc, World.heap_drewN, dr_heap, sc_size]); have := pA.size; omega)) _))
          case rest =>
            obtain ⟨L, b, rb, cv, ov, tv, rfl, hM, hO, hB⟩ := hcut
            have HM := Lib.hid (And.intro hM (And.intro hO hB))
            clear hM hO hB hmk
            go_upto_region 18 with fail
            obtain ⟨w2, hw2⟩ : ∃ w2, w2 = (wc.alloc (.cells #[.int .i64 own.length, .func (.func 57) #[] #[pt rb, .pointer (some ⟨wc.heap.size + 1, 0, none⟩)], .nilFunc, .slice none 0 0] 86)).alloc (.cells #[.pointer (some ⟨wc.heap.size, 0, none⟩)] 87) := ⟨_, rfl⟩
            rw [← hw2]
            have hO2 : Only wc w2 := by rw [hw2]; exact ((Stay.refl _ wc).alloc _).alloc _
            have hA2 : Blk w2 wc.heap.size 86 [.int .i64 own.length, .func (.func 57) #[] #[pt rb, .pointer (some ⟨wc.heap.size + 1, 0, none⟩)], .nilFunc, .slice none 0 0] := by rw [hw2]; exact (Blk.newAt wc [_, _, _, _] _ _ rfl).alloc _
            have hX2 : Blk w2 (wc.heap.size + 1) 87 [pt wc.heap.size] := by rw [hw2]; exact Blk.newAt (wc.alloc _) [_] _ _ (by simp)
            have hz2 : w2.heap.size = wc.heap.size + 2 := by rw [hw2]; simp
            have B2 := hO2.blk HM.out.1.core.blk
            have R2 := hO2.blk HM.out.1.rbox
            have cb := B2.cell
            have fb := B2.free
            have lb := B2.lt
            have cr := R2.cell
            have lr := R2.lt
            have cx := hX2.cell
            have lx := hX2.lt
            have H2 := Lib.hid (And.intro hO2 (And.intro hA2 (And.intro hX2 (And.intro hz2 (And.intro B2 R2)))))
            clear hw2 hO2 hA2 hX2 hz2 B2 R2
            go_cut [] from 76 to 85 (fun wd => Grown w1 b rb room own thv [] wd)
            case first =>
              go_region_law (refine step_append_lies _ (by rfl) _ _ _ (by rfl) 0 87 ip _ 1 8 Try.underlying79 hip0 hip1 hip2 hip3 rfl (by omega) _ 0 _ (by rfl) (World.ownsRow_nil _ _ _ _) ⟨w2.heap.size, 0, none⟩ 1 1 [pt wc.heap.size] (by rfl) (by rfl) (World.news_of_block (cs := [pt wc.heap.size].toArray) (t := 87) (fr := (0, 0)) (heap_alloc_new w2.drew _)) (by simp [Value.oneCell']) (by omega) (by simp only [maxLen]; omega) (by omega) (by simp) (w2.heap.size + 1) (by simp) ?_; intro g cap w5 hown hgrow hat hlt5; have st := grown_stay hgrow; have BT := st.blk (H2.out.2.2.2.2.1.drew.alloc _) (fun e => by simp [Value.ownBlock] at e); have BR := st.blk (H2.out.2.2.2.2.2.drew.alloc _) (fun e => by simp [Value.ownBlock] at e); have BX := st.blk (H2.out.2.2.1.drew.alloc _) (fun e => by simp [Value.ownBlock] at e); have c5 := BT.cell; have f5 := BT.free; have l5 := BT.lt; have c6 := BR.cell; have l6 := BR.lt; have c7 := BX.cell; have l7 := BX.lt; have HG := Lib.hid (And.intro hown (And.intro st (And.intro hat (And.intro BT hlt5)))); clear hown hgrow hat hlt5 st BT BR BX)
              all_goals
                go_wp2_with fail
                go_meet
                case rel =>
                  have hle := H2.out.2.2.2.1
                  exact HM.out.1.next (n := own.length) (s := wc.heap.size) (ob := wc.heap.size + 1) (ts := []) rfl HM.out.2.1 HM.out.2.2 H2.out.1 (Nat.le_refl _) (Nat.le_succ _) (by omega) ⟨H2.out.2.1, World.ownsRow_nil _ _ _ _⟩ H2.out.2.2.1 ((((Stay.refl _ w2).alloc _).drew).trans HG.out.2.1 (fun _ _ h => h)) HG.out.1 (HG.out.2.2.1.imp id (fun h => by omega))
            case rest =>
              have HG := Lib.hid hcut
              have hB2 : b < wc.heap.size := by obtain ⟨L', cv', av', ov', tv', abs', hM', _⟩ := hcut; exact hM'.core.blk.lt
              clear hcut cb fb lb cr lr cx lx
              go_wp2_with fail
              go_loopg [88] (thv.length) (fun k vi wr => ∃ i : Nat, i ≤ thv.length ∧ k = thv.length - i ∧ vi = .int .i64 (i : Nat) ∧ Grown w1 b rb room own thv ((thv.take i).map Int.toNat) wr)
              case atStart => exact ⟨0, by omega, by omega, rfl, HG.out⟩
              case round =>
                obtain ⟨i3, hi3, hk3, rfl, hG3⟩ := hrel
                obtain ⟨wt, hwt⟩ : ∃ wt, wt = wr := ⟨_, rfl⟩
                rw [← hwt] at hG3 ⊢
                clear hwt
                obtain ⟨L3, cv3, av3, ov3, tv3, abs3, hM3, hO3, hB3⟩ := hG3
                by_cases hp3 : i3 < thv.length
                · obtain ⟨xb, xo, rfl, hxb, hxc⟩ := (HS.out.2.1.only (HX2.out.trans' hO3)).ints_at (by omega)
                  have hx5 := HS.out.2.2.2.1 (thv.getD i3 0) (by rw [List.getD_eq_getElem?_getD, List.getElem?_eq_getElem hp3]; exact List.getElem_mem hp3)
                  have e0 := hxc i3 hp3
                  obtain ⟨x, hxe⟩ : ∃ x, x = thv.getD i3 0 := ⟨_, rfl⟩
                  rw [← hxe] at e0 hx5
                  obtain ⟨xn, rfl⟩ : ∃ xn : Nat, x = (xn : Int) := ⟨x.toNat, by omega⟩
                  have hlt : xb < wt.heap.size := Nat.lt_of_lt_of_le hxb (Nat.le_trans HX2.out.size hO3.size)
                  have hal : abs3.length = i3 + 1 := by
                    rw [hM3.len]
                    show (Act.fresh own.length :: (List.map Int.toNat (thv.take i3)).map Act.fresh).length = _
                    simp
                    omega
                  obtain ⟨Aa, caa, rfl⟩ := own_shape hM3.arow
                  rw [hal] at hM3
                  have hrow := hM3.arow
                  rw [hal] at hrow
                  have HR3 := Lib.hid hrow
                  clear hrow
                  have H3 := Lib.hid (And.intro hM3 (And.intro hO3 (And.intro hB3 (And.intro hxe (And.intro hal hk3)))))
                  clear hxc hM3 hO3 hB3 hxe hal hk3
                  go_upto_region 24 with fail
                  obtain ⟨w4, hw4⟩ : ∃ w4, w4 = (wt.alloc (.cells #[.int .i64 (xn : Int), .func (.func 60) #[] #[pt rb, .pointer (some ⟨wt.heap.size + 1, 0, none⟩)], .nilFunc, .slice none 0 0] 86)).alloc (.cells #[.pointer (some ⟨wt.heap.size, 0, none⟩)] 87) := ⟨_, rfl⟩
                  rw [← hw4]
                  have hO4 : Only wt w4 := by rw [hw4]; exact ((Stay.refl _ wt).alloc _).alloc _
                  have hA4 : Blk w4 wt.heap.size 86 [.int .i64 (xn : Int), .func (.func 60) #[] #[pt rb, .pointer (some ⟨wt.heap.size + 1, 0, none⟩)], .nilFunc, .slice none 0 0] := by rw [hw4]; exact (Blk.newAt wt [_, _, _, _] _ _ rfl).alloc _
                  have hX4 : Blk w4 (wt.heap.size + 1) 87 [pt wt.heap.size] := by rw [hw4]; exact Blk.newAt (wt.alloc _) [_] _ _ (by simp)
                  have hz4 : w4.heap.size = wt.heap.size + 2 := by rw [hw4]; simp
                  have B4 := hO4.blk H3.out.1.core.blk
                  have R4 := hO4.blk H3.out.1.rbox
                  have cb := B4.cell
                  have fb := B4.free
                  have lb := B4.lt
                  have cr := R4.cell
                  have lr := R4.lt
                  have cx := hX4.cell
                  have lx := hX4.lt
                  have H4 := Lib.hid (And.intro hO4 (And.intro hA4 (And.intro hX4 (And.intro hz4 (And.intro B4 R4)))))
                  clear hw4 hO4 hA4 hX4 hz4 B4 R4 e0 hlt
                  go_region_law (refine step_append_lies _ (by rfl) _ _ _ (by rfl) 0 87 ip _ 1 8 Try.underlying79 hip0 hip1 hip2 hip3 rfl (by omega) _ (i3 + 1) _ (by rfl) ((own_only ((H4.out.1).drew) HR3.out).alloc _) ⟨w4.heap.size, 0, none⟩ 1 1 [pt wt.heap.size] (by rfl) (by rfl) (World.news_of_block (cs := [pt wt.heap.size].toArray) (t := 87) (fr := (0, 0)) (heap_alloc_new w4.drew _)) (by simp [Value.oneCell']) (by omega) (by simp only [maxLen]; omega) (by omega) (by simp) (w4.heap.size + 1) (by simp) ?_; intro g cap w5 hown hgrow hat hlt5; have st := grown_stay hgrow; have BT := st.blk (H4.out.2.2.2.2.1.drew.alloc _) (fun e => own_ne_blk H3.out.1.arow H3.out.1.core.blk (by decide) _ e rfl); have BR := st.blk (H4.out.2.2.2.2.2.drew.alloc _) (fun e => own_ne_blk H3.out.1.arow H3.out.1.rbox (by decide) _ e rfl); have BX := st.blk (H4.out.2.2.1.drew.alloc _) (fun e => by have := (own_lt H3.out.1.arow _ e).2; omega); have c5 := BT.cell; have f5 := BT.free; have l5 := BT.lt; have c6 := BR.cell; have l6 := BR.lt; have c7 := BX.cell; have l7 := BX.lt; have HG5 := Lib.hid (And.intro hown (And.intro st (And.intro hat (And.intro BT hlt5)))); clear hown hgrow hat hlt5 st BT BR BX)
                  all_goals
                    go_wp2_with fail
                    go_roundg (thv.length - (i3 + 1))
                    case measure => have := H3.out.2.2.2.2.2; omega
                    case rel =>
                      refine ⟨i3 + 1, by omega, rfl, by go_num, ?_⟩
                      have hle := H4.out.2.2.2.1
                      have hal := H3.out.2.2.2.2.1
                      have hrow := HG5.out.1
                      rw [← hal] at hrow
                      rw [← hal]
                      refine H3.out.1.next (n := xn) (s := wt.heap.size) (ob := wt.heap.size + 1) ?_ H3.out.2.1 H3.out.2.2.1 H4.out.1 (Nat.le_refl _) (Nat.le_succ _) (by omega) ⟨?_, World.ownsRow_nil _ _ _ _⟩ H4.out.2.2.1 ((((Stay.refl _ w4).alloc _).drew).trans HG5.out.2.1 (fun _ _ h => h)) (by simpa using hrow) (HG5.out.2.2.1.imp id (fun h => by omega))
                      · have hxe := H3.out.2.2.2.1
                        have htk : thv.take (i3 + 1) = thv.take i3 ++ [(xn : Int)] := by
                          rw [List.take_add_one, List.getElem?_eq_getElem hp3]
                          rw [hxe, List.getD_eq_getElem?_getD, List.getElem?_eq_getElem hp3]
                          rfl
                        rw [hal, htk]
                        simp [Rc.start, Act.fresh]
                      · exact H4.out.2.1
                · obtain rfl : i3 = thv.length := by omega
                  rw [List.take_length] at hM3
                  have cr := hM3.rbox.cell
                  have lr := hM3.rbox.lt
                  have H3 := Lib.hid (And.intro hM3 (And.intro hO3 hB3))
                  clear hM3 hO3 hB3 hk3
                  go_wp2_with fail
                  go_ret2
                  exact ⟨b, L3, rfl, ⟨_, _, _, _, _, _, _, H3.out.1.at (Rc.start_ok room own thv _ h1 h2 h3 (by simpa using h4) HS.out.2.2.1 (fun n hn => by
                    obtain ⟨y, hy, rfl⟩ := List.mem_map.1 hn
                    have := HS.out.2.2.2.1 y hy
                    omega))⟩, HX2.out.trans' H3.out.2.1, fun k hk => Nat.le_trans HX2.out.size (H3.out.2.2 k hk)⟩

end Go.Proofs.Ytfohaijdhgcneaa
