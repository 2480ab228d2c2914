/- The reference's values. -/
import Derived.Test.YtfmkdkpgehkfaaaRefList
import Derived.Deep.CutBlock
set_option linter.unusedVariables false
set_option linter.unusedSimpArgs false
namespace Go.Proofs.Ytfmkdkpgehkfaaa
open Go Go.RowKit

theorem flat_drop {α : Type} (f : α → List Value) (s : Nat) (hf : ∀ x, (f x).length = s) : ∀ (l : List α) (i : Nat), (l.drop i).flatMap f = (l.flatMap f).drop (i * s)
  | l, 0 => by simp
  | [], i + 1 => by simp
  | x :: l, i + 1 => by
    simp only [List.drop_succ_cons, List.flatMap_cons]
    rw [flat_drop f s hf l i, List.drop_append, hf]
    have e1 : (i + 1) * s - s = i * s := by rw [Nat.add_mul]; omega
    have e2 : (f x).drop ((i + 1) * s) = [] := List.drop_of_length_le (by rw [hf, Nat.add_mul]; omega)
    rw [e1, e2]
    simp

theorem V.one {l : List V} : ∀ u ∈ l.flatMap V.cells, u.oneCell' = true := by
  intro u hu
  obtain ⟨v, _, hv⟩ := List.mem_flatMap.1 hu
  simp [V.cells] at hv
  rcases hv with rfl | rfl | rfl <;> rfl
theorem Wt.one {l : List Wt} : ∀ u ∈ l.flatMap Wt.cells, u.oneCell' = true := by
  intro u hu
  obtain ⟨v, _, hv⟩ := List.mem_flatMap.1 hu
  simp [Wt.cells] at hv
  rcases hv with rfl | rfl | rfl | rfl | rfl <;> rfl

def ValsPost (w : World) (l : List V) (but : Nat) (v : V) (e : Ending) (w' : World) : Prop := (∃ A' cp', e = .returned (.slice A' (l.drop but ++ [v]).length cp') ∧ Sl w' w'.heap.size A' (l.drop but ++ [v]).length cp' 3 ((l.drop but ++ [v]).flatMap V.cells) ∧ ∀ a, A' = some a → w.heap.size ≤ a.block) ∧ Only w w'
theorem ValsPost.mk {w w1 : World} {l : List V} {but : Nat} {v : V} {A' : Option Addr} {cp' n : Nat} (hn : n = (l.drop but).length + 1) (hown : w1.ownsRow w.heap.size 29 3 (.slice A' n cp') n ((l.drop but).flatMap V.cells ++ v.cells)) (hO : Only w w1) :
    ValsPost w l but v (.returned (.slice A' n cp')) w1 := by
  subst hn
  have e : (l.drop but ++ [v]).length = (l.drop but).length + 1 := by simp
  refine ⟨⟨A', cp', by rw [e], ?_, fun a ha => by subst ha; exact (hown.lt _ rfl).1⟩, hO⟩
  rw [e]
  have := own_sl hown (by rw [List.length_append, flat_len _ _ V.cells_length]; simp [V.cells, Nat.add_mul])
  simpa using this

set_option maxRecDepth 100000 in
set_option maxHeartbeats 4000000 in
theorem values_any (w : World) (A : Option Addr) (cp : Nat) (l : List V) (but : Nat) (v : V) (hb : but ≤ l.length) (hs : Sl w w.heap.size A l.length cp 3 (l.flatMap V.cells)) (h200 : l.length ≤ 200) :
    Calls Try.prog 48 #[.slice A l.length cp, .int .i64 (but : Nat), v.val] w (ValsPost w l but v) := by
  have b3 := hs.2.1
  have b4 := hs.2.2.1
  have hA0 := hs.2.2.2.1
  obtain ⟨iv, hiv0, hiv1, hiv2, hiv3⟩ := info_parts infoV
  unfold V.val
  by_cases he : but = l.length
  · have hd : l.drop but = [] := by rw [he]; simp
    have HS := Lib.hid (And.intro hs hd)
    clear hs hd
    cases A with
    | none =>
      obtain rfl : cp = 0 := hA0 rfl
      have hl0 : l.length = 0 := by omega
      obtain rfl : but = 0 := by omega
      rw [hl0]
      clear hl0 he hA0
      go_enter Try.func48, Try.ntmps48
      go_wp2_with (at_builtin; refine wpList_append_lies _ rfl _ _ _ rfl w.heap.size 29 iv _ 3 32 Try.underlying33 hiv0 hiv1 hiv2 hiv3 rfl (by omega) _ 0 [] (by rfl) (World.ownsRow_nil _ _ _ _) ⟨w.heap.size + 1, 0, none⟩ 1 1 v.cells (by rfl) (by rfl) (World.news_of_block (cs := v.cells.toArray) (t := 29) (fr := (0, 0)) (heap_at _ _ _ (by simp))) (by simp [V.cells, Value.oneCell']) (by omega) (by simp only [maxLen]; omega) (by omega) (by simp; omega) (w.heap.size + 2) (by simp) ?_; intro gg cap w1 hown1 hgrow hat hlt1)
      go_ret
      exact ValsPost.mk (by rw [HS.out.2]; rfl) (by rw [HS.out.2]; simpa using hown1) (Mine.stay (Mine.grown (((Stay.refl (fun _ => False) w).alloc _).alloc _) (World.ownsRow_nil w w.heap.size 29 3) (Nat.le_refl _) hgrow))
    | some a =>
      clear hA0
      by_cases hcp : cp = but
      · subst hcp
        rw [← he]
        clear he
        go_enter Try.func48, Try.ntmps48
        go_wp2_with (at_builtin; refine wpList_append_lies _ rfl _ _ _ rfl w.heap.size 29 iv _ 3 32 Try.underlying33 hiv0 hiv1 hiv2 hiv3 rfl (by omega) _ 0 [] (by rfl) (World.ownsRow_nil _ _ _ _) ⟨w.heap.size + 1, 0, none⟩ 1 1 v.cells (by rfl) (by rfl) (World.news_of_block (cs := v.cells.toArray) (t := 29) (fr := (0, 0)) (heap_at _ _ _ (by simp))) (by simp [V.cells, Value.oneCell']) (by omega) (by simp only [maxLen]; omega) (by omega) (by simp; omega) (w.heap.size + 2) (by simp) ?_; intro gg cap w1 hown1 hgrow hat hlt1)
        go_ret
        exact ValsPost.mk (by rw [HS.out.2]; rfl) (by rw [HS.out.2]; simpa using hown1) (Mine.stay (Mine.grown (((Stay.refl (fun _ => False) w).alloc _).alloc _) (World.ownsRow_nil w w.heap.size 29 3) (Nat.le_refl _) hgrow))
      · rw [← he]
        have hcp' : (but : Int) < (cp : Int) := by omega
        clear he
        go_enter Try.func48, Try.ntmps48
        go_wp2_with (at_builtin; refine wpList_append_lies _ rfl _ _ _ rfl w.heap.size 29 iv _ 3 32 Try.underlying33 hiv0 hiv1 hiv2 hiv3 rfl (by omega) _ 0 [] (by rfl) (World.ownsRow_nil _ _ _ _) ⟨w.heap.size + 1, 0, none⟩ 1 1 v.cells (by rfl) (by rfl) (World.news_of_block (cs := v.cells.toArray) (t := 29) (fr := (0, 0)) (heap_at _ _ _ (by simp))) (by simp [V.cells, Value.oneCell']) (by omega) (by simp only [maxLen]; omega) (by omega) (by simp; omega) (w.heap.size + 2) (by simp) ?_; intro gg cap w1 hown1 hgrow hat hlt1)
        go_ret
        exact ValsPost.mk (by rw [HS.out.2]; rfl) (by rw [HS.out.2]; simpa using hown1) (Mine.stay (Mine.grown (((Stay.refl (fun _ => False) w).alloc _).alloc _) (World.ownsRow_nil w w.heap.size 29 3) (Nat.le_refl _) hgrow))
  · obtain ⟨ab, ao, rfl, hab, hc⟩ := hs.2.2.2.2 (by omega)
    have hlt : but < l.length := by omega
    have hcp : ¬ cp = but := by omega
    have hnews : ∀ o j u, ((l.drop but).flatMap V.cells)[j]? = some u → (w.alloc o).cell? ((⟨ab, ao + but * 3, none⟩ : Addr).add j) = some u := fun o j u hu => by
      rw [flat_drop _ 3 V.cells_length, List.getElem?_drop] at hu
      have := hc _ _ hu
      rw [Addr.add_lit, World.cell?_alloc_past o _ _ hab, Nat.add_assoc]
      exact this
    have HS := Lib.hid (And.intro hs hnews)
    have hdl : (l.drop but).length = l.length - but := by simp
    have HD := Lib.hid hdl
    clear hs hc hnews he hdl
    go_enter Try.func48, Try.ntmps48
    go_upto_region 3 with (at_builtin; refine wpList_append_lies _ rfl _ _ _ rfl w.heap.size 29 iv _ 3 32 Try.underlying33 hiv0 hiv1 hiv2 hiv3 rfl (by omega) _ 0 [] (by rfl) (World.ownsRow_nil _ _ _ _) ⟨ab, ao + but * 3, none⟩ (l.length - but) (cp - but) ((l.drop but).flatMap V.cells) (by rfl) (by rw [flat_len _ _ V.cells_length, HD.out]) (HS.out.2 _) V.one (by omega) (by simp only [maxLen]; omega) (by omega) (by simp) (w.heap.size + 1) (by simp) ?_; intro gg cap w1 hown1 hgrow hat hlt1)
    simp only [Nat.zero_add, List.nil_append] at hown1
    have hB := Blk.newAt w v.cells 29 _ rfl
    have q : ∀ i, w1.cell? ⟨w.heap.size, i, none⟩ = v.cells[i]? := fun i => (hgrow.cell_far ⟨w.heap.size, i, none⟩ (by simp) (by simp [Value.ownBlock])).trans (hB.cell i)
    simp only [V.cells] at q
    have hO1 : Only w w1 := Mine.stay (Mine.grown ((Stay.refl (fun _ => False) w).alloc _) (World.ownsRow_nil w w.heap.size 29 3) (Nat.le_refl _) hgrow)
    have hl1 : w.heap.size < w1.heap.size := by have := hgrow.size; simp at this; omega
    have HG := Lib.hid (And.intro hown1 (And.intro hO1 (And.intro hgrow hat)))
    have hsz := hO1.size
    clear hown1 hgrow hat hO1 hB
    obtain ⟨n, hn⟩ : ∃ n, l.length - but = n := ⟨_, rfl⟩
    rw [hn] at HG HD ⊢
    have hn200 : n ≤ 200 := by omega
    clear hn
    go_wp2_with (at_builtin; refine wpList_append_lies _ rfl _ _ _ rfl w.heap.size 29 iv _ 3 32 Try.underlying33 hiv0 hiv1 hiv2 hiv3 rfl (by omega) _ n _ (by rfl) (own_only ((Stay.refl _ w1).alloc _) HG.out.1) ⟨w1.heap.size, 0, none⟩ 1 1 v.cells (by rfl) (by rfl) (World.news_of_block (cs := v.cells.toArray) (t := 29) (fr := (0, 0)) (heap_at _ _ _ (by simp))) (by simp [V.cells, Value.oneCell']) (by omega) (by simp only [maxLen]; omega) (by omega) (by simp; omega) (w1.heap.size + 1) (by simp) ?_; intro gg2 cap2 w2 hown2 hgrow2 hat2 hlt2)
    go_ret
    exact ValsPost.mk (by rw [HD.out]) hown2 (Mine.stay (Mine.trans (Mine.only HG.out.2.1) (Mine.grown ((Stay.refl (fun _ => False) w1).alloc _) HG.out.1 (Nat.le_refl _) hgrow2)))

end Go.Proofs.Ytfmkdkpgehkfaaa
