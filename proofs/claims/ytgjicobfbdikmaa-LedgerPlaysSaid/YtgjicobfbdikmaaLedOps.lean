/- The calls of a ledger: bad, of, push. -/
import Derived.Test.YtgjicobfbdikmaaLedRep
import Derived.Deep.AppendLies
import Derived.Outline
set_option linter.unusedVariables false
set_option linter.unusedSimpArgs false
namespace Go.Proofs.Ytgjicobfbdikmaa
open Go Go.RowKit

theorem infoI : (Try.prog.info? 3).map (fun i => (i.zero, i.size, i.bytes)) = some (some (.int .i64 0), 1, 8) := by kernel_rfl
theorem infoE : (Try.prog.info? 36).map (fun i => (i.zero, i.size, i.bytes)) = some (some (.agg #[.int .i64 0, .int .i64 0, .int .i64 0, .int .i64 0]), 4, 32) := by kernel_rfl
theorem zeroH (w : World) : (zeroValue 59).run Try.prog w = .ok (.pointer none) w := by
  exact Try.zeroValue59 w

set_option maxRecDepth 100000 in
set_option maxHeartbeats 2000000 in
theorem bad_any (w : World) (b : Nat) (t x : Int) : Calls Try.prog 31 #[.pointer (some ⟨b, 0, none⟩), .int .i64 t, .int .i64 x] w fun e w' => e = .returned (.bool (decide (Bad t x))) ∧ Only w w' := by
  by_cases h1 : t < 1
  · have hF := Lib.hid (show decide (Bad t x) = true from decide_eq_true (.inl h1))
    go_enter Try.func31, Try.ntmps31
    go_wp2_with fail
    go_ret
    exact ⟨by rw [hF.out]; rfl, Stay.refl _ w⟩
  by_cases h2 : 64 < t
  · have hF := Lib.hid (show decide (Bad t x) = true from decide_eq_true (.inr (.inl h2)))
    have h1' : 1 ≤ t := by omega
    go_enter Try.func31, Try.ntmps31
    go_wp2_with fail
    go_ret
    exact ⟨by rw [hF.out]; rfl, Stay.refl _ w⟩
  by_cases h3 : x < 0
  · have hF := Lib.hid (show decide (Bad t x) = true from decide_eq_true (.inr (.inr (.inl h3))))
    have h1' : 1 ≤ t := by omega
    have h2' : t ≤ 64 := by omega
    go_enter Try.func31, Try.ntmps31
    go_wp2_with fail
    go_ret
    exact ⟨by rw [hF.out]; rfl, Stay.refl _ w⟩
  have h1' : 1 ≤ t := by omega
  have h2' : t ≤ 64 := by omega
  have h3' : 0 ≤ x := by omega
  by_cases h4 : 999 < x
  · have hF := Lib.hid (show decide (Bad t x) = true from decide_eq_true (.inr (.inr (.inr h4))))
    go_enter Try.func31, Try.ntmps31
    go_wp2_with fail
    go_ret
    exact ⟨by rw [hF.out]; rfl, Stay.refl _ w⟩
  · have hF := Lib.hid (show decide (Bad t x) = false from decide_eq_false (by unfold Bad; omega))
    have h4' : x ≤ 999 := by omega
    go_enter Try.func31, Try.ntmps31
    go_wp2_with fail
    go_ret
    exact ⟨by rw [hF.out]; rfl, Stay.refl _ w⟩

section
variable {w w' : World} {S : Nat → Prop} {b m : Nat} {L : Lg} {ev cv kv : Value} {hs : List (Int × Hd)} {h : Hd} {t : Int}
/-- What 'of' leaves. -/
def OfPost (w : World) (S : Nat → Prop) (b : Nat) (L : Lg) (m : Nat) (ev cv kv : Value) (t : Int) (e : Ending) (w' : World) : Prop :=
  ∃ hs' h, e = .returned (.pointer (some ⟨h.b, 0, none⟩)) ∧ LTab w' (grow S w w') b L m ev cv kv hs' ∧ aget hs' t = some h ∧ Stay S w w'
theorem getH {l : List (Int × Hd)} {t : Int} {h : Hd} (hg : aget l t = some h) : ((aget l t).map fun h => ptr h.b).getD (.pointer none) = .pointer (some ⟨h.b, 0, none⟩) := by rw [hg]; rfl
theorem getH0 {l : List (Int × Hd)} {t : Int} (hg : aget l t = none) : ((aget l t).map fun h => ptr h.b).getD (.pointer none) = .pointer none := by rw [hg]; rfl
end

set_option maxRecDepth 100000 in
set_option maxHeartbeats 4000000 in
theorem of_any (w : World) (S : Nat → Prop) (b : Nat) (L : Lg) (m : Nat) (ev cv kv : Value) (hs : List (Int × Hd)) (t : Int) (h : LTab w S b L m ev cv kv hs) (hkb : 1 ≤ t ∧ t ≤ 64) :
    Calls Try.prog 32 #[.pointer (some ⟨b, 0, none⟩), .int .i64 t] w (OfPost w S b L m ev cv kv t) := by
  have HT := Lib.hid h
  have c := h.blk.cell
  have l := h.blk.lt
  clear h
  cases hg : aget hs t with
  | some hh =>
    have HG := Lib.hid hg
    clear hg
    go_enter Try.func32, Try.ntmps32
    go_wp2_with (first | (at_lookup; refine wpList_lookup_v _ rfl _ _ _ rfl 3 59 Try.underlying56 Try.underlying3 (.pointer none) (zeroH _) m hs (by rfl) HT.out.mp t (by rfl) (.pointer (some ⟨hh.b, 0, none⟩)) (getH HG.out) ?_))
    go_ret
    exact ⟨hs, hh, rfl, HT.out.wide (fun _ => grow.old) (fun j hj => hj.lt HT.out.lt (Nat.le_refl _)), HG.out, Stay.refl _ w⟩
  | none =>
    have HG := Lib.hid hg
    clear hg
    go_enter Try.func32, Try.ntmps32
    go_wp2_with (first | (at_lookup; refine wpList_lookup_v _ rfl _ _ _ rfl 3 59 Try.underlying56 Try.underlying3 (.pointer none) (zeroH _) m hs (by rfl) HT.out.mp t (by rfl) (.pointer none) (getH0 HG.out) ?_) | (at_mapUpdate; refine wpList_update_v (f := fun h : Hd => ptr h.b) _ rfl _ _ _ _ rfl 3 59 Try.underlying56 Try.underlying3 m hs (by rfl) (HT.out.mp.alloc _) t ⟨[], w.heap.size, .slice none 0 0⟩ (by rfl) (by rfl) ?_; intro w1 hm1 hs1 hz1))
    go_ret
    have hx : Stay (fun k => k = m) w w1 := ((Stay.refl (fun k => k = m) w).alloc _).trans hs1 (fun _ _ h => h)
    have hb : Blk w1 w.heap.size 64 [.slice none 0 0] := hs1.blk (Blk.new w [.slice none 0 0] 64) (fun e => by have := HT.out.mp.lt; omega)
    have hz : w.heap.size + 1 = w1.heap.size := by rw [hz1]; simp
    have hl : ∀ j, grow S w w1 j → j < w1.heap.size := fun j hj => hj.lt HT.out.lt hx.size
    have hT := HT.out.task (h' := ⟨[], w.heap.size, .slice none 0 0⟩) hx (fun _ => grow.old) hl hm1 ⟨hb, World.ownsRow_nil _ _ _ _, grow.new (Nat.le_refl _) (show w.heap.size < w1.heap.size by omega), InS.nil _ _⟩
      (fun e => HT.out.nb e.symm) (own_ne_map HT.out.er HT.out.mp) (own_ne_map HT.out.cw HT.out.mp) (own_ne_map HT.out.kw HT.out.mp)
      (fun x hx' _ => ⟨HT.out.hm hx', HT.out.vm hx', (fun (e : x.2.b = w.heap.size) => by have := HT.out.lt _ (HT.out.hd x hx').sb; omega), Off.nil' _ _ _⟩) (Off.nil _ _ _) (Off.nil _ _ _) hkb
    have e : fput L.stk t [] = L.stk := by
      funext q
      by_cases e : q = t
      · subst e
        rw [fput_same, HT.out.st, HG.out]
        rfl
      · rw [fput_other _ _ e]
    simp only [e] at hT
    exact ⟨_, ⟨[], w.heap.size, .slice none 0 0⟩, rfl, hT, by rw [aget_set]; simp, (hx.mono (fun k _ e => by subst e; exact HT.out.sm))⟩

/-- A thing is pushed: the struct's slice, and where it lies. -/
def PushPost (w : World) (hb : Nat) (v : Value) (l : List Int) (x : Int) (e : Ending) (w' : World) : Prop :=
  e = .returned (.tuple #[]) ∧ ∃ v', Blk w' hb 64 [v'] ∧ w'.ownsRow 0 3 1 v' (l ++ [x]).length (ints (l ++ [x])) ∧ Next w v v' ∧ Stay (fun k => k = hb ∨ v.ownBlock = some k) w w' ∧ (∀ g, v'.ownBlock = some g → g < w'.heap.size)

set_option maxRecDepth 100000 in
set_option maxHeartbeats 4000000 in
theorem push_any (w : World) (hb : Nat) (v : Value) (l : List Int) (x : Int) (h : Blk w hb 64 [v]) (hr : w.ownsRow 0 3 1 v l.length (ints l)) (hl : l.length ≤ 1000000) :
    Calls Try.prog 33 #[.pointer (some ⟨hb, 0, none⟩), .int .i64 x] w (PushPost w hb v l x) := by
  obtain ⟨ii, hii0, hii1, hii2, hii3⟩ := info_parts infoI
  obtain ⟨A, cp, rfl⟩ := own_shape hr
  have c := h.cell
  have f := h.free
  have lt := h.lt
  have H := Lib.hid (And.intro h hr)
  clear h hr
  go_enter Try.func33, Try.ntmps33
  go_wp2_with (at_builtin; refine wpList_append_lies _ rfl _ _ _ rfl 0 3 ii _ 1 8 Try.underlying37 hii0 hii1 hii2 hii3 rfl (by omega) _ l.length _ (by rfl) (own_alloc H.out.2 _) ⟨w.heap.size, 0, none⟩ 1 1 [.int .i64 x] (by rfl) (by rfl) (World.news_of_block (cs := [Value.int .i64 x].toArray) (t := 3) (fr := (0, 0)) (heap_alloc_at' _ _ _ (by simp))) (by simp [Value.oneCell']) (by omega) (by simp only [maxLen]; omega) (by omega) (by omega) (w.heap.size + 1) (by simp) ?_; intro g cap w1 hown hgrow hat hlt1; have BH := (grown_stay hgrow).blk (H.out.1.alloc _) (fun e => own_ne_blk H.out.2 H.out.1 (by decide) _ e rfl); have c1 := BH.cell; have f1 := BH.free; have l1 := BH.lt; have HG := Lib.hid (And.intro hown (And.intro hgrow (And.intro hat (And.intro hlt1 BH)))); clear hown hgrow hat hlt1 BH)
  refine bodyPost_ret (results_none rfl _ _ _) rfl ?_
  have st := grown_stay HG.out.2.1
  have hown : w1.ownsRow 0 3 1 (.slice (some ⟨g, 0, none⟩) (l ++ [x]).length cap) (l ++ [x]).length (ints (l ++ [x])) := by
    have := HG.out.1
    simpa [ints] using this
  have hgb : ∀ g', (Value.slice (some ⟨g, 0, none⟩) (l ++ [x]).length cap).ownBlock = some g' → g' ≠ hb := own_ne_blk hown HG.out.2.2.2.2 (by decide)
  have hB := HG.out.2.2.2.2.set 0 (.slice (some ⟨g, 0, none⟩) (l ++ [x]).length cap)
  have hlen : (l ++ [x]).length = l.length + 1 := by simp
  rw [hlen] at hB hown hgb
  refine ⟨rfl, .slice (some ⟨g, 0, none⟩) (l.length + 1) cap, hB, by rw [hlen]; exact own_set hown _ (fun g' hg' => hgb g' hg'), fun g' hg' => ?_, ?_, fun g' hg' => ?_⟩
  · have e : g = g' := by simpa [Value.ownBlock] using hg'
    subst e
    rcases HG.out.2.2.1 with h | h
    · exact .inl h
    · exact .inr (by omega)
  · exact ((((Stay.refl (fun k => k = hb ∨ (Value.slice A l.length cp).ownBlock = some k) w).alloc _).trans st (fun _ _ h => .inr h))).put (.inl rfl) _ _
  · have := (own_lt hown g' hg').2
    simpa using this

end Go.Proofs.Ytgjicobfbdikmaa
