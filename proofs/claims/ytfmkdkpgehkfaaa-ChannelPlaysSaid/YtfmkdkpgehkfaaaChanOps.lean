/- The calls of a channel: New, Offer, Take, Park, Withdraw, Close, State, Copy. -/
import Derived.Test.YtfmkdkpgehkfaaaChanWait2
import Derived.Test.YtfmkdkpgehkfaaaValid
set_option linter.unusedVariables false
set_option linter.unusedSimpArgs false
namespace Go.Proofs.Ytfmkdkpgehkfaaa
open Go Go.RowKit

/-! ### What selects -/
theorem callf_sends (args : Array Value) (W : World) : (callFunc 34 args).run Try.prog W = .ok (.enter 34 args) W := by
  go_simp
theorem callf_receives (args : Array Value) (W : World) : (callFunc 31 args).run Try.prog W = .ok (.enter 31 args) W := by
  go_simp
theorem callf_ticket (args : Array Value) (W : World) : (callFunc 42 args).run Try.prog W = .ok (.enter 42 args) W := by
  go_simp

set_option maxRecDepth 100000 in
theorem sends_any (x : Wt) (w : World) : Calls Try.prog 34 #[x.val] w fun e w' => e = .returned (.bool x.send) ∧ Only w w' := by
  unfold Wt.val
  go_enter Try.func34, Try.ntmps34
  go_wp2
  go_ret
  exact ⟨rfl, (Stay.refl _ w).alloc _⟩

set_option maxRecDepth 100000 in
theorem receives_any (x : Wt) (w : World) : Calls Try.prog 31 #[x.val] w fun e w' => e = .returned (.bool (!x.send)) ∧ Only w w' := by
  unfold Wt.val
  go_enter Try.func31, Try.ntmps31
  go_wp2
  go_ret
  exact ⟨rfl, (Stay.refl _ w).alloc _⟩

set_option maxRecDepth 100000 in
theorem ticket_any (x : Wt) (w : World) (t : Int) (a : Addr) (ha : w.cell? a = some (.int .i64 t)) (hl : a.block < w.heap.size) : Calls Try.prog 42 #[x.val, .pointer (some a)] w fun e w' => e = .returned (.bool (x.t == t)) ∧ Only w w' := by
  unfold Wt.val
  have h2 : ∀ o, (w.alloc o).cell? a = some (.int .i64 t) := fun o => (World.cell?_alloc_lt w o a hl).trans ha
  go_enter Try.func42, Try.ntmps42
  go_wp2
  go_ret
  exact ⟨rfl, (Stay.refl _ w).alloc _⟩

theorem wait_sends (w : World) (b : Nat) (ns : List Nat) (c : Ch) (h : ChAt w b ns c) (hws : c.ws.length ≤ 200) :
    Calls Try.prog 30 #[.pointer (some ⟨b, 0, none⟩), .func (.func 34) #[] #[]] w (WaitPost w b ns c (fun x => x.send)) :=
  wait_any w b ns c _ _ #[] h hws callf_sends (fun x W _ => sends_any x W)
theorem wait_receives (w : World) (b : Nat) (ns : List Nat) (c : Ch) (h : ChAt w b ns c) (hws : c.ws.length ≤ 200) :
    Calls Try.prog 30 #[.pointer (some ⟨b, 0, none⟩), .func (.func 31) #[] #[]] w (WaitPost w b ns c (fun x => !x.send)) :=
  wait_any w b ns c _ _ #[] h hws callf_receives (fun x W _ => receives_any x W)
theorem wait_ticket (w : World) (b : Nat) (ns : List Nat) (c : Ch) (t : Int) (a : Addr) (ha : w.cell? a = some (.int .i64 t)) (h : ChAt w b ns c) (hws : c.ws.length ≤ 200) :
    Calls Try.prog 30 #[.pointer (some ⟨b, 0, none⟩), .func (.func 42) #[] #[.pointer (some a)]] w (WaitPost w b ns c (fun x => x.t == t)) :=
  wait_any w b ns c _ _ #[.pointer (some a)] h hws callf_ticket (fun x W hO => ticket_any x W t a (hO.cell ha) (World.block_lt_of_cell? W a (hO.cell ha)))

theorem push_at (w : World) (b : Nat) (ns : List Nat) (c : Ch) (v : V) (h : ChAt w b ns c) (hn : c.buf.length < 16) :
    Calls Try.prog 32 #[.pointer (some ⟨b, 0, none⟩), v.val] w fun e w' => e = .returned (.tuple #[]) ∧ ChAt w' b ns { c with buf := c.buf ++ [v] } ∧ Stay (· = b) w w' := by
  obtain ⟨r, fr, p, hC, hR, hch, hnd⟩ := h
  refine (push_any w b v c.cap c.pol c.closed r fr c.buf.length p c.ws.length c.drop hR.1 hn hC).mono ?_
  rintro e w' ⟨rfl, h1, h2⟩
  refine ⟨rfl, ⟨_, fr, p, ?_, hR.push hC.1 hn v, hch.stay h2 ?_, hnd⟩, h2⟩
  · simpa using h1
  · intro k hk e
    subst e
    exact (List.nodup_cons.1 hnd).1 hk

theorem pop_at (w : World) (b : Nat) (ns : List Nat) (c : Ch) (v : V) (l : List V) (h : ChAt w b ns c) (hb : c.buf = v :: l) (hn : l.length < 16) :
    Calls Try.prog 33 #[.pointer (some ⟨b, 0, none⟩)] w fun e w' => e = .returned v.val ∧ ChAt w' b ns { c with buf := l } ∧ Stay (· = b) w w' := by
  obtain ⟨r, fr, p, hC, hR, hch, hnd⟩ := h
  rw [hb] at hR hC
  obtain ⟨hR1, hR2⟩ := hR.pop hn V.nil
  refine (pop_any w b v c.cap c.pol c.closed r fr l.length p c.ws.length c.drop hR.1 hn hR2 hC).mono ?_
  rintro e w' ⟨rfl, h1, h2⟩
  refine ⟨rfl, ⟨_, _, p, h1, hR1, hch.stay h2 ?_, hnd⟩, h2⟩
  intro k hk e
  subst e
  exact (List.nodup_cons.1 hnd).1 hk

def OfferPost (w : World) (b : Nat) (ns : List Nat) (c : Ch) (v : V) (e : Ending) (w' : World) : Prop :=
  ∃ dv ns', e = .returned (.tuple #[dv, (c.offer v).2.2.1.val, .bool (c.offer v).2.2.2]) ∧ ChAt w' b ns' (c.offer v).1 ∧
    w'.ownsRow w.heap.size 44 7 dv (c.offer v).2.1.length ((c.offer v).2.1.flatMap D.cells) ∧ (∀ k ∈ ns', k ∈ ns) ∧ Stay (· ∈ b :: ns) w w'

theorem OfferPost.mk {w w' : World} {b : Nat} {ns ns' : List Nat} {c c' : Ch} {v : V} {dl : List D} {f : F} {ok : Bool} {dv : Value} (h : c.offer v = (c', dl, f, ok)) (hch : ChAt w' b ns' c')
    (hown : w'.ownsRow w.heap.size 44 7 dv dl.length (dl.flatMap D.cells)) (hns : ∀ k ∈ ns', k ∈ ns) (hs : Stay (· ∈ b :: ns) w w') :
    OfferPost w b ns c v (.returned (.tuple #[dv, f.val, .bool ok])) w' := by
  unfold OfferPost
  rw [h]
  exact ⟨dv, ns', rfl, hch, hown, hns, hs⟩
theorem Only.some {S : Nat → Prop} {a b : World} (h : Only a b) : Stay S a b := h.mono (fun _ _ h => h.elim)

/-- The two boxes of Offer's own frame: its value, and its second result. -/
def OBox (w : World) (v : V) (W : World) : Prop := Blk W w.heap.size 29 v.cells ∧ Blk W (w.heap.size + 1) 42 [.int .i64 0, .string ⟨#[]⟩]
theorem OBox.stay {w W W' : World} {v : V} {S : Nat → Prop} (h : OBox w v W) (hs : Stay S W W') (hn : ∀ k, w.heap.size ≤ k → ¬ S k) : OBox w v W' := ⟨hs.blk h.1 (hn _ (Nat.le_refl _)), hs.blk h.2 (hn _ (Nat.le_succ _))⟩
theorem OBox.facts {w W : World} {v : V} (h : OBox w v W) : (∀ i, W.cell? ⟨w.heap.size, i, none⟩ = ([.int .i64 v.k, .int .i64 v.n, .string v.s] : List Value)[i]?) ∧ (∀ i, W.frozen? ⟨w.heap.size, i, none⟩ = false) ∧
    (∀ i, W.cell? ⟨w.heap.size + 1, i, none⟩ = ([.int .i64 0, .string ⟨#[]⟩] : List Value)[i]?) ∧ (∀ i, W.frozen? ⟨w.heap.size + 1, i, none⟩ = false) ∧ w.heap.size + 1 < W.heap.size ∧ w.heap.size < W.heap.size := ⟨h.1.cell, h.1.free, h.2.cell, h.2.free, h.2.lt, h.1.lt⟩

set_option maxRecDepth 100000 in
set_option maxHeartbeats 4000000 in
theorem offer_any (w : World) (b : Nat) (ns : List Nat) (c : Ch) (v : V) (d : Int) (h : ChAt w b ns c) (hok : c.Ok d) (hd : d ≤ 1000000) (hs : v.s.size ≤ 9223372036854775807) :
    Calls Try.prog 17 #[.pointer (some ⟨b, 0, none⟩), v.val] w (OfferPost w b ns c v) := by
  have H := Lib.hid h
  have HOK := Lib.hid hok
  have hbl := h.lt b (by simp)
  have HNS : Hid (∀ k, w.heap.size ≤ k → ¬ k ∈ b :: ns) := fun k hk hm => absurd (h.lt k hm) (Nat.not_lt.2 hk)
  have HLT : Hid (∀ k ∈ b :: ns, k < w.heap.size) := h.lt
  clear h hok
  unfold V.val
  go_enter Try.func17, Try.ntmps17
  go_wp2_with fail
  refine (value_any v _ hs).mono ?_
  rintro e w1 ⟨rfl, hO⟩
  have hB1 : OBox w v w1 := ⟨hO.blk ((Blk.new w v.cells _).alloc _), hO.blk (Blk.newAt (w.alloc _) [.int .i64 0, .string ⟨#[]⟩] _ _ (by simp))⟩
  have HO1 := Lib.hid (hO.behind.behind)
  have HB1 := Lib.hid hB1
  clear hO hB1
  obtain ⟨a1, a2, a3, a4, a5, a6⟩ := HB1.out.facts
  have hcap : c.cap ≤ 16 := HOK.out.cap1
  have hbuf : (c.buf.length : Int) ≤ c.cap := HOK.out.buf
  have hdr : c.drop ≤ 1000000 := by have := HOK.out.drop1; omega
  have hdr0 : 0 ≤ c.drop := HOK.out.drop0
  cases hv : valid v with
  | false =>
    have HF := Lib.hid (show c.offer v = (c, [], F.nil, false) by simp [Ch.offer, hv])
    clear hv
    go_wp2_with fail
    refine bodyPost_ret (v := .tuple #[.slice none 0 0, F.nil.val, .bool false]) (by simp [results, Try.results17, F.val, F.nil, go_sem, a3]) rfl (OfferPost.mk HF.out
      ((H.out.only HO1.out).mine (((Mine.refl w.heap.size _).put (Nat.le_succ _) _ _).put (Nat.le_succ _) _ _) HLT.out) (World.ownsRow_nil _ _ _ _) (fun _ h => h) (HO1.out.some.mine (((Mine.refl w.heap.size _).put (Nat.le_succ _) _ _).put (Nat.le_succ _) _ _)))
  | true =>
    have H1 := Lib.hid (H.out.only HO1.out)
    cases hcl : c.closed with
    | true =>
      have HF := Lib.hid (show c.offer v = (c, [], F.closed, true) by simp [Ch.offer, hv, hcl])
      have x1 : w1.cell? ⟨b, 2, none⟩ = some (.bool true) := by
        obtain ⟨r, fr, p, hC, _⟩ := H1.out
        rw [← hcl]
        exact hC.closed_
      clear hv hcl
      go_wp2_with fail
      refine (throw_any _ _).mono ?_
      rintro e w2 ⟨rfl, hO⟩
      obtain ⟨b1, b2, b3, b4, b5, b6⟩ := (HB1.out.stay hO (fun _ _ => id)).facts
      have HO2 := Lib.hid hO
      clear hO a1 a2 a3 a4 a5 a6 x1
      unfold F.val
      go_wp2_with fail
      refine bodyPost_ret (v := .tuple #[.slice none 0 0, F.closed.val, .bool true]) (by simp [results, Try.results17, F.val, F.closed, closedText, go_sem, b3, b4]) rfl (OfferPost.mk HF.out
        ((H1.out.only HO2.out).mine (((Mine.refl w.heap.size _).put (Nat.le_succ _) _ _).put (Nat.le_succ _) _ _) HLT.out) (World.ownsRow_nil _ _ _ _) (fun _ h => h) ((HO1.out.trans' HO2.out).some.mine (((Mine.refl w.heap.size _).put (Nat.le_succ _) _ _).put (Nat.le_succ _) _ _)))
    | false =>
      have x1 : w1.cell? ⟨b, 2, none⟩ = some (.bool false) := by
        obtain ⟨r, fr, p, hC, _⟩ := H1.out
        rw [← hcl]
        exact hC.closed_
      have HVC := Lib.hid (And.intro hv hcl)
      clear hv hcl
      go_wp2_with fail
      refine (wait_receives _ b ns c H1.out HOK.out.ws).mono ?_
      rintro e w2 (⟨x, l, ns', ht, rfl, hch, hns, hst⟩ | ⟨ht, rfl, hO⟩)
      · have HF := Lib.hid (show c.offer v = ({ c with ws := l }, [deal x.t v], F.nil, true) by simp [Ch.offer, HVC.out, ht])
        obtain ⟨b1, b2, b3, b4, b5, b6⟩ := (HB1.out.stay hst HNS.out).facts
        have HT := Lib.hid (And.intro hch (And.intro hns hst))
        clear ht hch hns hst a1 a2 a3 a4 a5 a6 x1
        unfold Wt.val
        go_wp2_with fail
        refine bodyPost_ret (v := .tuple #[.slice (some ⟨w2.heap.size + 1, 0, none⟩) 1 1, F.nil.val, .bool true]) (by simp [results, Try.results17, F.val, F.nil, go_sem, b3, b4, b5, b6]) rfl (OfferPost.mk HF.out
          (HT.out.1.mine ((((Mine.refl w.heap.size _).put (Nat.le_succ _) _ _).put (Nat.le_succ _) _ _).alloc _ |>.alloc _) (fun k hk => HLT.out k (by
            rcases List.mem_cons.1 hk with h | h
            · simp [h]
            · simp [HT.out.2.1 k h]))) (owns_newAt _ (D.cells (deal x.t v)) _ 7 1 _ (by simp) rfl (by simp [maxLen]) (by simp; omega)) HT.out.2.1
          ((HO1.out.some.trans HT.out.2.2 (fun _ _ h => h)).mine ((((Mine.refl w.heap.size _).put (Nat.le_succ _) _ _).put (Nat.le_succ _) _ _).alloc _ |>.alloc _)))
      · have hO2 := HO1.out.trans' hO
        obtain ⟨b1, b2, b3, b4, b5, b6⟩ := (HB1.out.stay hO (fun _ _ => id)).facts
        have HT := Lib.hid (And.intro ht (And.intro hO2 (And.intro (H.out.only hO2) (HB1.out.stay hO (fun _ _ => id)))))
        clear ht hO hO2 a1 a2 a3 a4 a5 a6 x1
        obtain ⟨y1, y2, y3, y4⟩ : w2.cell? ⟨b, 52, none⟩ = some (.int .i64 c.buf.length) ∧ w2.cell? ⟨b, 0, none⟩ = some (.int .i64 c.cap) ∧ w2.cell? ⟨b, 1, none⟩ = some (.int .i64 c.pol) ∧ w2.cell? ⟨b, 55, none⟩ = some (.int .i64 c.drop) := by
          obtain ⟨r, fr, p, hC, _⟩ := HT.out.2.2.1
          exact ⟨hC.n_, hC.cap_, hC.pol_, hC.dr_⟩
        have z1 : ∀ i, w2.frozen? ⟨b, i, none⟩ = false := by
          obtain ⟨r, fr, p, hC, _⟩ := HT.out.2.2.1
          exact hC.free
        have hbl2 : b < w2.heap.size := by omega
        simp only [Wt.val, V.nil]
        by_cases hn : (c.buf.length : Int) < c.cap
        · have HF := Lib.hid (show c.offer v = ({ c with buf := c.buf ++ [v] }, [], F.nil, true) by simp [Ch.offer, HVC.out, HT.out.1, hn])
          go_wp2_with fail
          go_big_region
          go_wp2_with fail
          have hpush := fun o => push_at ((w2.alloc o).drew) b ns c v (HT.out.2.2.1.only (((Stay.refl _ w2).alloc o).drew)) (by omega)
          refine (hpush _).mono ?_
          rintro e w3 ⟨rfl, h3, s3'⟩
          have s3 : Stay (· = b) w2 w3 := (((Stay.refl _ w2).alloc _).drew).trans s3' (fun _ _ h => h)
          clear hpush s3'
          obtain ⟨c1, c2, c3, c4, c5, c6⟩ := (HT.out.2.2.2.stay s3 (fun k hk e => absurd hbl (by rw [← e]; exact Nat.not_lt.2 hk))).facts
          have HS := Lib.hid (And.intro h3 s3)
          clear h3 s3 hn b1 b2 b3 b4 b5 b6 y1 y2 y3 y4 z1
          go_wp2_with fail
          refine bodyPost_ret (v := .tuple #[.slice none 0 0, F.nil.val, .bool true]) (by simp [results, Try.results17, F.val, F.nil, go_sem, c3, c4]) rfl (OfferPost.mk HF.out
            (HS.out.1.mine (((Mine.refl w.heap.size _).put (Nat.le_succ _) _ _).put (Nat.le_succ _) _ _) HLT.out) (World.ownsRow_nil _ _ _ _) (fun _ h => h) ((HT.out.2.1.some.trans HS.out.2 (fun i _ h => by simp [h])).mine (((Mine.refl w.heap.size _).put (Nat.le_succ _) _ _).put (Nat.le_succ _) _ _)))
        · by_cases hp : c.pol = 0
          · have HF := Lib.hid (show c.offer v = (c, [], F.nil, false) by simp [Ch.offer, HVC.out, HT.out.1, hn, hp])
            have hp1 : (c.pol == 0) = true := by simp [hp]
            clear hp
            go_wp2_with fail
            go_big_region
            go_wp2_with fail
            refine bodyPost_ret (v := .tuple #[.slice none 0 0, F.nil.val, .bool false]) (by simp [results, Try.results17, F.val, F.nil, go_sem, b3, b4, b5, b6]) rfl (OfferPost.mk HF.out
              (HT.out.2.2.1.mine (((((Mine.refl w.heap.size _).put (Nat.le_succ _) _ _).put (Nat.le_succ _) _ _).alloc _).drew) HLT.out) (World.ownsRow_nil _ _ _ _) (fun _ h => h) (HT.out.2.1.some.mine (((((Mine.refl w.heap.size _).put (Nat.le_succ _) _ _).put (Nat.le_succ _) _ _).alloc _).drew)))
          · have hp1 : (c.pol == 0) = false := by simp [hp]
            by_cases hp2 : c.pol = 1 ∧ 0 < c.cap
            · obtain ⟨x0, xs, hxs⟩ : ∃ x0 xs, c.buf = x0 :: xs := by
                match hb : c.buf with
                | [] => rw [hb] at hn; simp at hn; omega
                | x0 :: xs => exact ⟨x0, xs, rfl⟩
              have HF := Lib.hid (show c.offer v = ({ c with buf := xs ++ [v], drop := c.drop + 1 }, [], F.nil, true) by
                have := hn
                simp only [hxs, List.length_cons] at this
                simp [Ch.offer, HVC.out, HT.out.1, hp2, hxs]
                omega)
              have hp3 : (c.pol == 1) = true := by simp [hp2.1]
              have hp4 : 0 < c.cap := hp2.2
              have hxl : xs.length < 16 := by have := hbuf; rw [hxs] at this; simp at this; omega
              have HXS := Lib.hid hxs
              clear hp hp2 hxs
              go_wp2_with fail
              go_big_region
              go_wp2_with fail
              have hpop := fun o => pop_at ((w2.alloc o).drew) b ns c x0 xs (HT.out.2.2.1.only (((Stay.refl _ w2).alloc o).drew)) HXS.out hxl
              refine (hpop _).mono ?_
              rintro e w3 ⟨rfl, h3, s3'⟩
              have s3 : Stay (· = b) w2 w3 := (((Stay.refl _ w2).alloc _).drew).trans s3' (fun _ _ h => h)
              clear hpop s3'
              have HS3 := Lib.hid (And.intro h3 (And.intro s3 (HT.out.2.2.2.stay s3 (fun k hk e => absurd hbl (by rw [← e]; exact Nat.not_lt.2 hk)))))
              clear h3 s3 b1 b2 b3 b4 b5 b6 y1 y2 y3 y4 z1
              obtain ⟨c1, c2, c3, c4, c5, c6⟩ := HS3.out.2.2.facts
              go_wp2_with fail
              refine (push_at _ b ns { c with buf := xs } v HS3.out.1 hxl).mono ?_
              rintro e w4 ⟨rfl, h4, s4⟩
              have HS4 := Lib.hid (And.intro h4 (And.intro s4 (HS3.out.2.2.stay s4 (fun k hk e => absurd hbl (by rw [← e]; exact Nat.not_lt.2 hk)))))
              clear c1 c2 c3 c4 c5 c6 h4 s4
              obtain ⟨c1, c2, c3, c4, c5, c6⟩ := HS4.out.2.2.facts
              obtain ⟨r, fr, p, hC, hR, hch, hnd⟩ := HS4.out.1
              have y4 := hC.dr_
              have z1 := hC.free
              have hbl4 : b < w4.heap.size := by omega
              have HC := Lib.hid (And.intro hC (And.intro hR (And.intro hch hnd)))
              clear hC hR hch hnd
              go_wp2_with fail
              refine bodyPost_ret (v := .tuple #[.slice none 0 0, F.nil.val, .bool true]) (by simp [results, Try.results17, F.val, F.nil, go_sem, c3, c4]) rfl (OfferPost.mk HF.out
                ((show ChAt (w4.setCell ⟨b, 55, none⟩ (.int .i64 (c.drop + 1))) b ns { c with buf := xs ++ [v], drop := c.drop + 1 } from
                  ⟨r, fr, p, HC.out.1.set_dr _, HC.out.2.1, HC.out.2.2.1.stay ((Stay.refl (· = b) _).put rfl _ _) (fun k hk e => by subst e; exact (List.nodup_cons.1 HC.out.2.2.2).1 hk), HC.out.2.2.2⟩).mine (((Mine.refl w.heap.size _).put (Nat.le_succ _) _ _).put (Nat.le_succ _) _ _) HLT.out)
                (World.ownsRow_nil _ _ _ _) (fun _ h => h)
                (((((HT.out.2.1.some.trans HS3.out.2.1 (fun i _ h => by simp [h])).trans HS4.out.2.1 (fun i _ h => by simp [h])).put (by simp) _ _)).mine (((Mine.refl w.heap.size _).put (Nat.le_succ _) _ _).put (Nat.le_succ _) _ _)))
            · have HF := Lib.hid (show c.offer v = ({ c with drop := c.drop + 1 }, [], F.nil, true) by simp [Ch.offer, HVC.out, HT.out.1, hn, hp, hp2])
              have hp5 : (c.pol == 1) = false ∨ ((c.pol == 1) = true ∧ ¬ 0 < c.cap) := by
                by_cases h1 : c.pol = 1
                · exact .inr ⟨by simp [h1], fun h => hp2 ⟨h1, h⟩⟩
                · exact .inl (by simp [h1])
              obtain ⟨r, fr, p, hC, hR, hch, hnd⟩ := HT.out.2.2.1
              have HC := Lib.hid (And.intro hC (And.intro hR (And.intro hch hnd)))
              clear hC hR hch hnd hp hp2
              rcases hp5 with hp6 | ⟨hp6, hp7⟩
              all_goals
                go_wp2_with fail
                go_big_region
                go_wp2_with fail
                refine bodyPost_ret (v := .tuple #[.slice none 0 0, F.nil.val, .bool true]) (by simp [results, Try.results17, F.val, F.nil, go_sem, b3, b4, b5, b6]) rfl (OfferPost.mk HF.out
                  ((show ChAt (w2.setCell ⟨b, 55, none⟩ (.int .i64 (c.drop + 1))) b ns { c with drop := c.drop + 1 } from
                    ⟨r, fr, p, HC.out.1.set_dr _, HC.out.2.1, HC.out.2.2.1.stay ((Stay.refl (· = b) _).put rfl _ _) (fun k hk e => by subst e; exact (List.nodup_cons.1 HC.out.2.2.2).1 hk), HC.out.2.2.2⟩).mine (((((Mine.refl w.heap.size _).put (Nat.le_succ _) _ _).put (Nat.le_succ _) _ _).alloc _).drew) HLT.out)
                  (World.ownsRow_nil _ _ _ _) (fun _ h => h)
                  ((HT.out.2.1.some.put (by simp) _ _).mine (((((Mine.refl w.heap.size _).put (Nat.le_succ _) _ _).put (Nat.le_succ _) _ _).alloc _).drew)))

end Go.Proofs.Ytfmkdkpgehkfaaa
