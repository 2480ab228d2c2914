/- Append of what a slice reads, none or some. -/
import Derived.Test.YtfohaijdhgcneaaIntSl
import Derived.Test.YtfohaijdhgcneaaAppZero
import Derived.Test.YtfohaijdhgcneaaSep
import Derived.Deep.AppendLies
set_option linter.unusedVariables false
set_option linter.unusedSimpArgs false
namespace Go.Proofs.Ytfohaijdhgcneaa
open Go Go.RowKit

/-- Append of what a slice reads, none or some. -/
theorem wpList_append_sl {P : Program} (w : World) {ops : Array Oper} {rest : List Oper} {o : Oper} {a : Act} {Q : Exit → Act → World → Prop} (hgd : o.guard = none) (s x : Operand) (t : TypeId)
    (ho : o.op = .call { callee := .builtin .append, args := #[s, x], argTypes := #[t, t] })
    (base : Nat) (e : TypeId) (i : TypeInfo) (z : Value) (size bytes : Nat) (ht : P.underlying t = some (.slice e)) (hi : P.info? e = some i) (hz : i.zero = some z)
    (hsize : i.size = size) (hby : i.bytes = bytes) (hzs : z.cells.size = size) (hsz : 0 < size)
    (v : Value) (n : Nat) (xs : List Value) (hs : a.eval s = v) (hown : w.ownsRow base e size v n xs)
    (B : Nat) (A : Option Addr) (m c : Nat) (news : List Value) (hx : a.eval x = .slice A m c) (hS : Sl w B A m c size news) (h1 : ∀ u ∈ news, u.oneCell' = true)
    (h63 : n + m ≤ maxLen) (hbytes : (n + m) * bytes ≤ 140737488355328) (hbase : base ≤ w.heap.size)
    (h : ∀ A' c' w', w'.ownsRow base e size (.slice A' (n + m) c') (n + m) (xs ++ news) → Stay (fun k => v.ownBlock = some k) w w' → (∀ g, (Value.slice A' (n + m) c').ownBlock = some g → v.ownBlock = some g ∨ w.heap.size ≤ g) → wpList P ops Q rest (a.put o.dst (.slice A' (n + m) c')) w') : wpList P ops Q (o :: rest) a w := by
  by_cases hm : 0 < m
  · obtain ⟨b, off, rfl, hb, hc⟩ := hS.2.2.2.2 hm
    refine wpList_append_lies w hgd s x t ho base e i z size bytes ht hi hz hsize hby hzs hsz v n xs hs hown ⟨b, off, none⟩ m c news hx hS.1 (fun j u hu => ?_) h1 hm h63 hbytes hbase _ rfl (fun g cap w' k1 k2 k3 _ => h _ _ _ k1 (grown_stay k2) (fun g' hg' => ?_))
    · have hadd : (⟨b, off, none⟩ : Addr).add j = ⟨b, off + j, none⟩ := by unfold Addr.add; split <;> simp_all
      rw [hadd]
      exact hc j u hu
    · have e : g = g' := by simpa [Value.ownBlock] using hg'
      subst e
      rcases k3 with k3 | k3
      · exact .inl k3
      · exact .inr (by omega)
  · obtain rfl : m = 0 := by omega
    have hn : news = [] := List.eq_nil_of_length_eq_zero (by have := hS.1; omega)
    subst hn
    obtain ⟨A0, c0, rfl⟩ := own_shape hown
    refine wpList_append_zero hgd s x t ho base e i size ht hi _ n xs hs hown A c hx ?_
    exact h A0 c0 w (by simpa using hown) (Stay.refl _ _) (fun g hg => .inl hg)

end Go.Proofs.Ytfohaijdhgcneaa
