/- Take. -/
import Derived.Test.YtfmkdkpgehkfaaaChanOps
set_option linter.unusedVariables false
set_option linter.unusedSimpArgs false
namespace Go.Proofs.Ytfmkdkpgehkfaaa
open Go Go.RowKit

def TakePost (w : World) (b : Nat) (ns : List Nat) (c : Ch) (e : Ending) (w' : World) : Prop :=
  ∃ dv ns', e = .returned (.tuple #[c.take.2.1.val, dv, c.take.2.2.2.1.val, .bool c.take.2.2.2.2]) ∧ ChAt w' b ns' c.take.1 ∧
    w'.ownsRow w.heap.size 44 7 dv c.take.2.2.1.length (c.take.2.2.1.flatMap D.cells) ∧ (∀ k ∈ ns', k ∈ ns) ∧ Stay (· ∈ b :: ns) w w'
theorem TakePost.mk {w w' : World} {b : Nat} {ns ns' : List Nat} {c c' : Ch} {v : V} {dl : List D} {f : F} {ok : Bool} {dv : Value} (h : c.take = (c', v, dl, f, ok)) (hch : ChAt w' b ns' c')
    (hown : w'.ownsRow w.heap.size 44 7 dv dl.length (dl.flatMap D.cells)) (hns : ∀ k ∈ ns', k ∈ ns) (hs : Stay (· ∈ b :: ns) w w') :
    TakePost w b ns c (.returned (.tuple #[v.val, dv, f.val, .bool ok])) w' := by
  unfold TakePost
  rw [h]
  exact ⟨dv, ns', rfl, hch, hown, hns, hs⟩

/-- The two boxes of Take's own frame: its first and its third result. -/
def TBox (w W : World) : Prop := Blk W w.heap.size 29 [.int .i64 0, .int .i64 0, .string ⟨#[]⟩] ∧ Blk W (w.heap.size + 1) 42 [.int .i64 0, .string ⟨#[]⟩]
theorem TBox.stay {w W W' : World} {S : Nat → Prop} (h : TBox w W) (hs : Stay S W W') (hn : ∀ k, w.heap.size ≤ k → ¬ S k) : TBox w W' := ⟨hs.blk h.1 (hn _ (Nat.le_refl _)), hs.blk h.2 (hn _ (Nat.le_succ _))⟩
theorem TBox.facts {w W : World} (h : TBox w W) : (∀ i, W.cell? ⟨w.heap.size, i, none⟩ = ([.int .i64 0, .int .i64 0, .string ⟨#[]⟩] : List Value)[i]?) ∧ (∀ i, W.frozen? ⟨w.heap.size, i, none⟩ = false) ∧
    (∀ i, W.cell? ⟨w.heap.size + 1, i, none⟩ = ([.int .i64 0, .string ⟨#[]⟩] : List Value)[i]?) ∧ (∀ i, W.frozen? ⟨w.heap.size + 1, i, none⟩ = false) ∧ w.heap.size + 1 < W.heap.size ∧ w.heap.size < W.heap.size := ⟨h.1.cell, h.1.free, h.2.cell, h.2.free, h.2.lt, h.1.lt⟩

set_option maxRecDepth 100000 in
set_option maxHeartbeats 4000000 in
theorem take_any (w : World) (b : Nat) (ns : List Nat) (c : Ch) (d : Int) (h : ChAt w b ns c) (hok : c.Ok d) :
    Calls Try.prog 19 #[.pointer (some ⟨b, 0, none⟩)] w (TakePost w b ns c) := by
  have H := Lib.hid h
  have HOK := Lib.hid hok
  have hbl := h.lt b (by simp)
  have HNS : Hid (∀ k, w.heap.size ≤ k → ¬ k ∈ b :: ns) := fun k hk hm => absurd (h.lt k hm) (Nat.not_lt.2 hk)
  have HLT : Hid (∀ k ∈ b :: ns, k < w.heap.size) := h.lt
  have HNB : Hid (∀ k, w.heap.size ≤ k → ¬ k = b) := fun k hk e => absurd hbl (by rw [← e]; exact Nat.not_lt.2 hk)
  have hcap : c.cap ≤ 16 := hok.cap1
  have hbuf : (c.buf.length : Int) ≤ c.cap := hok.buf
  have x0 : w.cell? ⟨b, 52, none⟩ = some (.int .i64 c.buf.length) := by
    obtain ⟨r, fr, p, hC, _⟩ := h
    exact hC.n_
  have x1 : w.cell? ⟨b, 2, none⟩ = some (.bool c.closed) := by
    obtain ⟨r, fr, p, hC, _⟩ := h
    exact hC.closed_
  clear h hok
  cases hb : c.buf with
  | cons v l =>
    have HB := Lib.hid hb
    have hl : l.length < 16 := by rw [hb] at hbuf; simp at hbuf; omega
    rw [hb] at x0
    simp only [List.length_cons] at x0
    clear hb hbuf
    have hpos : (0 : Int) < ((l.length + 1 : Nat) : Int) := by omega
    go_enter Try.func19, Try.ntmps19
    go_wp2_with fail
    have hO1 : Only w _ := ((Stay.refl (fun _ => False) w).alloc (.cells #[.int .i64 0, .int .i64 0, .string ⟨#[]⟩] 29)).alloc (.cells #[.int .i64 0, .string ⟨#[]⟩] 42)
    refine (pop_at _ b ns c v l (H.out.only hO1) HB.out hl).mono ?_
    rintro e w1 ⟨rfl, h1, s1'⟩
    have s1 : Stay (· = b) w w1 := (hO1.mono (S' := (· = b)) (fun _ _ h => h.elim)).trans s1' (fun _ _ h => h)
    have hT1 : TBox w w1 := ⟨s1'.blk ((Blk.newAt w [.int .i64 0, .int .i64 0, .string ⟨#[]⟩] _ _ rfl).alloc _) (HNB.out _ (Nat.le_refl _)), s1'.blk (Blk.newAt (w.alloc _) [.int .i64 0, .string ⟨#[]⟩] _ _ (by simp)) (HNB.out _ (Nat.le_succ _))⟩
    have HS1 := Lib.hid (And.intro h1 (And.intro s1 hT1))
    clear h1 s1 s1' hO1 hT1 x0 x1
    obtain ⟨a1, a2, a3, a4, a5, a6⟩ := HS1.out.2.2.facts
    unfold V.val
    go_wp2_with fail
    have hO2 : Only w1 _ := (Stay.refl (fun _ => False) w1).alloc (.cells #[.int .i64 v.k, .int .i64 v.n, .string v.s] 29)
    refine (wait_sends _ b ns { c with buf := l } (HS1.out.1.only hO2) HOK.out.ws).mono ?_
    rintro e w2 (⟨x, r, ns', ht, rfl, hch, hns, hst'⟩ | ⟨ht, rfl, hO3⟩)
    · have hst : Stay (· ∈ b :: ns) w1 w2 := hO2.some.trans hst' (fun _ _ h => h)
      have hBv : Blk w2 w1.heap.size 29 [.int .i64 v.k, .int .i64 v.n, .string v.s] := hst'.blk (Blk.newAt w1 [.int .i64 v.k, .int .i64 v.n, .string v.s] _ _ rfl) (HNS.out _ HS1.out.2.1.size)
      have HF := Lib.hid (show c.take = ({ c with buf := l ++ [x.v], ws := r }, v, [deal x.t V.nil], F.nil, true) by simp only [Ch.take, HB.out]; rw [show takeW (fun x => x.send) c.ws = some (x, r) from ht])
      have HS2 := Lib.hid (And.intro hch (And.intro hns (And.intro hst (And.intro (HS1.out.2.2.stay hst HNS.out) hBv))))
      clear ht hch hns hst' hst hO2 a1 a2 a3 a4 a5 a6 hBv
      obtain ⟨b1, b2, b3, b4, b5, b6⟩ := HS2.out.2.2.2.1.facts
      have b7 := HS2.out.2.2.2.2.cell
      have b8 := HS2.out.2.2.2.2.lt
      have b9 : w.heap.size < w1.heap.size := HS1.out.2.2.1.lt
      have b10 : w.heap.size + 1 < w1.heap.size := HS1.out.2.2.2.lt
      unfold Wt.val
      go_wp2_with fail
      have hpush := fun o => push_at (w2.alloc o) b ns' { c with buf := l, ws := r } x.v (HS2.out.1.only ((Stay.refl _ w2).alloc o)) hl
      refine (hpush _).mono ?_
      rintro e w3 ⟨rfl, h3, s3'⟩
      have s3 : Stay (· = b) w2 w3 := ((Stay.refl _ w2).alloc _).trans s3' (fun _ _ h => h)
      have hBx : Blk w3 w2.heap.size 46 [.int .i64 x.t, .bool x.send, .int .i64 x.v.k, .int .i64 x.v.n, .string x.v.s] := s3'.blk (Blk.newAt w2 [.int .i64 x.t, .bool x.send, .int .i64 x.v.k, .int .i64 x.v.n, .string x.v.s] _ _ rfl) (HNB.out _ (by omega))
      have HS3 := Lib.hid (And.intro h3 (And.intro s3 (And.intro (HS2.out.2.2.2.1.stay s3 HNB.out) (And.intro (s3.blk HS2.out.2.2.2.2 (HNB.out _ (by omega))) hBx))))
      clear hpush s3' s3 h3 hBx b1 b2 b3 b4 b7
      obtain ⟨c1, c2, c3, c4, c5, c6⟩ := HS3.out.2.2.1.facts
      have c7 := HS3.out.2.2.2.1.cell
      have c8 := HS3.out.2.2.2.1.lt
      have c9 := HS3.out.2.2.2.2.cell
      have c10 := HS3.out.2.2.2.2.lt
      go_wp2_with fail
      go_big_region
      go_wp2_with fail
      refine bodyPost_ret (v := .tuple #[v.val, .slice (some ⟨w3.heap.size, 0, none⟩) 1 1, F.nil.val, .bool true]) (by simp [results, Try.results19, F.val, F.nil, V.val, go_sem, c1, c2, c3, c4, c5, c6]) rfl (TakePost.mk HF.out
        (HS3.out.1.mine ((((((((Mine.refl w.heap.size _).put (Nat.le_refl _) _ _).put (Nat.le_refl _) _ _).put (Nat.le_refl _) _ _).put (Nat.le_succ _) _ _).put (Nat.le_succ _) _ _)).alloc _).drew (fun k hk => HLT.out k (by
            rcases List.mem_cons.1 hk with h | h
            · simp [h]
            · simp [HS2.out.2.1 k h]))) (owns_newAt _ (D.cells (deal x.t V.nil)) _ 7 1 _ (by simp) rfl (by simp [maxLen]) (by simp; omega)) HS2.out.2.1
          ((((HS1.out.2.1.mono (S' := (· ∈ b :: ns)) (fun _ _ h => by simp [h])).trans HS2.out.2.2.1 (fun _ _ h => h)).trans HS3.out.2.1 (fun _ _ h => by simp [h])).mine ((((((((Mine.refl w.heap.size _).put (Nat.le_refl _) _ _).put (Nat.le_refl _) _ _).put (Nat.le_refl _) _ _).put (Nat.le_succ _) _ _).put (Nat.le_succ _) _ _)).alloc _).drew))
    · have hO23 : Only w1 w2 := hO2.trans' hO3
      have hBv : Blk w2 w1.heap.size 29 [.int .i64 v.k, .int .i64 v.n, .string v.s] := hO3.blk (Blk.newAt w1 [.int .i64 v.k, .int .i64 v.n, .string v.s] _ _ rfl)
      have HF := Lib.hid (show c.take = ({ c with buf := l }, v, [], F.nil, true) by simp only [Ch.take, HB.out]; rw [show takeW (fun x => x.send) c.ws = none from ht])
      have HS2 := Lib.hid (And.intro (HS1.out.1.only hO23) (And.intro hO23 (And.intro (HS1.out.2.2.stay hO23 (fun _ _ => id)) hBv)))
      clear ht hO3 hO23 hO2 a1 a2 a3 a4 a5 a6 hBv
      obtain ⟨b1, b2, b3, b4, b5, b6⟩ := HS2.out.2.2.1.facts
      have b7 := HS2.out.2.2.2.cell
      have b8 := HS2.out.2.2.2.lt
      have b9 : w.heap.size < w1.heap.size := HS1.out.2.2.1.lt
      have b10 : w.heap.size + 1 < w1.heap.size := HS1.out.2.2.2.lt
      simp only [Wt.val, V.nil]
      go_wp2_with fail
      refine bodyPost_ret (v := .tuple #[v.val, .slice none 0 0, F.nil.val, .bool true]) (by simp [results, Try.results19, F.val, F.nil, V.val, go_sem, b1, b2, b3, b4, b5, b6]) rfl (TakePost.mk HF.out
        (HS2.out.1.mine ((((((((Mine.refl w.heap.size _).put (Nat.le_refl _) _ _).put (Nat.le_refl _) _ _).put (Nat.le_refl _) _ _).put (Nat.le_succ _) _ _).put (Nat.le_succ _) _ _)).alloc _) HLT.out) (World.ownsRow_nil _ _ _ _) (fun _ h => h)
          (((HS1.out.2.1.mono (S' := (· ∈ b :: ns)) (fun _ _ h => by simp [h])).trans HS2.out.2.1 (fun _ _ h => h.elim)).mine ((((((((Mine.refl w.heap.size _).put (Nat.le_refl _) _ _).put (Nat.le_refl _) _ _).put (Nat.le_refl _) _ _).put (Nat.le_succ _) _ _).put (Nat.le_succ _) _ _)).alloc _)))
  | nil =>
    have HB := Lib.hid hb
    rw [hb] at x0
    simp only [List.length_nil] at x0
    clear hb hbuf
    go_enter Try.func19, Try.ntmps19
    go_wp2_with fail
    have hO1 : Only w _ := ((Stay.refl (fun _ => False) w).alloc (.cells #[.int .i64 0, .int .i64 0, .string ⟨#[]⟩] 29)).alloc (.cells #[.int .i64 0, .string ⟨#[]⟩] 42)
    refine (wait_sends _ b ns c (H.out.only hO1) HOK.out.ws).mono ?_
    rintro e w2 (⟨x, r, ns', ht, rfl, hch, hns, hst'⟩ | ⟨ht, rfl, hO3⟩)
    · have hst : Stay (· ∈ b :: ns) w w2 := hO1.some.trans hst' (fun _ _ h => h)
      have hT1 : TBox w w2 := ⟨hst'.blk ((Blk.newAt w [.int .i64 0, .int .i64 0, .string ⟨#[]⟩] _ _ rfl).alloc _) (HNS.out _ (Nat.le_refl _)), hst'.blk (Blk.newAt (w.alloc _) [.int .i64 0, .string ⟨#[]⟩] _ _ (by simp)) (HNS.out _ (Nat.le_succ _))⟩
      have HF := Lib.hid (show c.take = ({ c with ws := r }, x.v, [deal x.t V.nil], F.nil, true) by simp only [Ch.take, HB.out]; rw [show takeW (fun x => x.send) c.ws = some (x, r) from ht])
      have HS2 := Lib.hid (And.intro hch (And.intro hns (And.intro hst hT1)))
      clear ht hch hns hst' hst hO1 x0 x1 hT1
      obtain ⟨b1, b2, b3, b4, b5, b6⟩ := HS2.out.2.2.2.facts
      unfold Wt.val
      go_wp2_with fail
      go_big_region
      go_wp2_with fail
      refine bodyPost_ret (v := .tuple #[x.v.val, .slice (some ⟨w2.heap.size + 1, 0, none⟩) 1 1, F.nil.val, .bool true]) (by simp [results, Try.results19, F.val, F.nil, V.val, go_sem, b1, b2, b3, b4, b5, b6]) rfl (TakePost.mk HF.out
        (HS2.out.1.mine (((((((((Mine.refl w.heap.size _).put (Nat.le_refl _) _ _).put (Nat.le_refl _) _ _).put (Nat.le_refl _) _ _).put (Nat.le_succ _) _ _).put (Nat.le_succ _) _ _)).alloc _).alloc _).drew (fun k hk => HLT.out k (by
            rcases List.mem_cons.1 hk with h | h
            · simp [h]
            · simp [HS2.out.2.1 k h]))) (owns_newAt _ (D.cells (deal x.t V.nil)) _ 7 1 _ (by simp) rfl (by simp [maxLen]) (by simp; omega)) HS2.out.2.1
          (HS2.out.2.2.1.mine (((((((((Mine.refl w.heap.size _).put (Nat.le_refl _) _ _).put (Nat.le_refl _) _ _).put (Nat.le_refl _) _ _).put (Nat.le_succ _) _ _).put (Nat.le_succ _) _ _)).alloc _).alloc _).drew))
    · have hO : Only w w2 := hO1.trans' hO3
      have hT1 : TBox w w2 := ⟨hO3.blk ((Blk.newAt w [.int .i64 0, .int .i64 0, .string ⟨#[]⟩] _ _ rfl).alloc _), hO3.blk (Blk.newAt (w.alloc _) [.int .i64 0, .string ⟨#[]⟩] _ _ (by simp))⟩
      have y1 := hO.cell x1
      have HS2 := Lib.hid (And.intro (H.out.only hO) (And.intro hO hT1))
      have HTK := Lib.hid ht
      clear ht hO3 hO1 hO x0 x1 hT1
      obtain ⟨b1, b2, b3, b4, b5, b6⟩ := HS2.out.2.2.facts
      have hbl2 : b < w2.heap.size := by omega
      simp only [Wt.val, V.nil]
      cases hcl : c.closed with
      | true =>
        have HF := Lib.hid (show c.take = (c, V.nil, [], F.closed, true) by simp only [Ch.take, HB.out]; rw [HTK.out]; simp [hcl])
        rw [hcl] at y1
        clear hcl
        go_wp2_with fail
        have hO4 := fun o => ((Stay.refl (fun _ => False) w2).alloc o)
        refine (throw_any _ _).mono ?_
        rintro e w3 ⟨rfl, hO5⟩
        have hO6 : Only w2 w3 := Only.trans' (hO4 _) hO5
        have HS3 := Lib.hid (And.intro (HS2.out.1.only hO6) (And.intro hO6 (HS2.out.2.2.stay hO6 (fun _ _ => id))))
        clear hO4 hO5 hO6 b1 b2 b3 b4 y1
        obtain ⟨c1, c2, c3, c4, c5, c6⟩ := HS3.out.2.2.facts
        unfold F.val
        go_wp2_with fail
        refine bodyPost_ret (v := .tuple #[V.nil.val, .slice none 0 0, F.closed.val, .bool true]) (by simp [results, Try.results19, F.val, F.closed, closedText, V.nil, V.val, go_sem, c1, c2, c3, c4, c5, c6]) rfl (TakePost.mk HF.out
          (HS3.out.1.mine (((((((Mine.refl w.heap.size _).put (Nat.le_refl _) _ _).put (Nat.le_refl _) _ _).put (Nat.le_refl _) _ _).put (Nat.le_succ _) _ _).put (Nat.le_succ _) _ _)) HLT.out) (World.ownsRow_nil _ _ _ _) (fun _ h => h)
            ((HS2.out.2.1.trans' HS3.out.2.1).some.mine (((((((Mine.refl w.heap.size _).put (Nat.le_refl _) _ _).put (Nat.le_refl _) _ _).put (Nat.le_refl _) _ _).put (Nat.le_succ _) _ _).put (Nat.le_succ _) _ _))))
      | false =>
        have HF := Lib.hid (show c.take = (c, V.nil, [], F.nil, false) by simp only [Ch.take, HB.out]; rw [HTK.out]; simp [hcl])
        rw [hcl] at y1
        clear hcl
        go_wp2_with fail
        refine bodyPost_ret (v := .tuple #[V.nil.val, .slice none 0 0, F.nil.val, .bool false]) (by simp [results, Try.results19, F.val, F.nil, V.nil, V.val, go_sem, b1, b2, b3, b4, b5, b6]) rfl (TakePost.mk HF.out
          (HS2.out.1.mine ((((((((Mine.refl w.heap.size _).put (Nat.le_refl _) _ _).put (Nat.le_refl _) _ _).put (Nat.le_refl _) _ _).put (Nat.le_succ _) _ _).put (Nat.le_succ _) _ _)).alloc _) HLT.out) (World.ownsRow_nil _ _ _ _) (fun _ h => h)
            (HS2.out.2.1.some.mine ((((((((Mine.refl w.heap.size _).put (Nat.le_refl _) _ _).put (Nat.le_refl _) _ _).put (Nat.le_refl _) _ _).put (Nat.le_succ _) _ _).put (Nat.le_succ _) _ _)).alloc _)))

end Go.Proofs.Ytfmkdkpgehkfaaa
