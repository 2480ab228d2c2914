/- A channel of a law's own: each call leaves one. -/
import Derived.Test.YtfmkdkpgehkfaaaSame
import Derived.Test.YtfmkdkpgehkfaaaChanCopy
import Derived.Test.YtfmkdkpgehkfaaaLaw16b
set_option linter.unusedVariables false
set_option linter.unusedSimpArgs false
namespace Go.Proofs.Ytfmkdkpgehkfaaa
open Go Go.RowKit

/-- Since the world w a channel has been made; nothing that was there has changed. -/
structure Own (w W : World) (b : Nat) (ns : List Nat) (c : Ch) (d : Int) : Prop where
  lies : ChAt W b ns c
  new : ∀ k ∈ b :: ns, w.heap.size ≤ k
  ok : c.Ok d
  only : Only w W

section
variable {w W W' : World} {b : Nat} {ns ns' : List Nat} {c c' : Ch} {d d' : Int}
theorem Own.step (h : Own w W b ns c d) (ho : Only W W') : Own w W' b ns c d := ⟨h.lies.only ho, h.new, h.ok, h.only.trans' ho⟩
theorem Own.alloc (h : Own w W b ns c d) (o : Obj) : Own w (W.alloc o) b ns c d := h.step ((Stay.refl _ W).alloc o)
theorem Own.more (h : Own w W b ns c d) (hd : d ≤ d') : Own w W b ns c d' := ⟨h.lies, h.new, h.ok.mono hd, h.only⟩
theorem Own.aside (h : Own w W b ns c d) {S : Nat → Prop} (hs : Stay S W W') (hn : ∀ k ∈ b :: ns, ¬ S k) (hS : ∀ k, S k → w.heap.size ≤ k) : Own w W' b ns c d :=
  ⟨h.lies.stay hs hn, h.new, h.ok, Mine.stay (Stay.trans (S := fun k => w.heap.size ≤ k) (Mine.only h.only) hs (fun i _ hi => hS i hi))⟩
/-- Behind a call on it. -/
theorem Own.call (h : Own w W b ns c d) (h1 : ChAt W' b ns' c') (h2 : ∀ k ∈ ns', k ∈ ns ∨ W.heap.size ≤ k) (h3 : Stay (· ∈ b :: ns) W W') (h4 : c'.Ok d') : Own w W' b ns' c' d' := by
  refine ⟨h1, fun k hk => ?_, h4, ?_⟩
  · rcases List.mem_cons.1 hk with rfl | hk
    · exact h.new _ (by simp)
    · rcases h2 k hk with h' | h'
      · exact h.new k (by simp [h'])
      · exact Nat.le_trans h.only.size h'
  · exact Mine.stay (Stay.trans (S := fun k => w.heap.size ≤ k) (Mine.only h.only) h3 (fun i _ hi => h.new i hi))

theorem own_new {cap pol : Int} (w0 W : World) (hO : Only w0 W) (h : newOk cap pol = true) :
    Calls Try.prog 10 #[.int .i64 cap, .int .i64 pol] W fun e w' => e = .returned (.tuple #[.pointer (some ⟨W.heap.size, 0, none⟩), .int .i64 0]) ∧ Own w0 w' W.heap.size [] (Ch.new cap pol) 0 ∧ Only W w' :=
  (new_any cap pol W h).mono fun e w' ⟨h1, h2, h3⟩ => ⟨h1, ⟨h2, fun k hk => by simp at hk; rw [hk]; exact hO.size, Ch.new_ok h, hO.trans' h3⟩, h3⟩

theorem own_offer (h : Own w W b ns c d) (hd : d ≤ 1000000) (v : V) (hs : v.s.size ≤ 9223372036854775807) :
    Calls Try.prog 17 #[.pointer (some ⟨b, 0, none⟩), v.val] W fun e w' => ∃ A cp ns', e = .returned (.tuple #[.slice A (c.offer v).2.1.length cp, (c.offer v).2.2.1.val, .bool (c.offer v).2.2.2]) ∧
      Own w w' b ns' (c.offer v).1 (d + 1) ∧ Sl w' w'.heap.size A (c.offer v).2.1.length cp 7 ((c.offer v).2.1.flatMap D.cells) ∧ (∀ k ∈ ns', k ∈ ns) ∧ Stay (· ∈ b :: ns) W w' :=
  (offer_any W b ns c v d h.lies h.ok hd hs).mono fun e w' hp => by
    obtain ⟨dv, ns', rfl, h1, h2, h3, h4⟩ := hp
    obtain ⟨A, cp, rfl⟩ := own_shape h2
    exact ⟨A, cp, ns', rfl, h.call h1 (fun k hk => .inl (h3 k hk)) h4 (h.ok.offer v), own_sl h2 (flat_len _ _ D.cells_length _), h3, h4⟩

theorem own_take (h : Own w W b ns c d) :
    Calls Try.prog 19 #[.pointer (some ⟨b, 0, none⟩)] W fun e w' => ∃ A cp ns', e = .returned (.tuple #[c.take.2.1.val, .slice A c.take.2.2.1.length cp, c.take.2.2.2.1.val, .bool c.take.2.2.2.2]) ∧
      Own w w' b ns' c.take.1 (d + 1) ∧ Sl w' w'.heap.size A c.take.2.2.1.length cp 7 (c.take.2.2.1.flatMap D.cells) ∧ (∀ k ∈ ns', k ∈ ns) ∧ Stay (· ∈ b :: ns) W w' :=
  (take_any W b ns c d h.lies h.ok).mono fun e w' hp => by
    obtain ⟨dv, ns', rfl, h1, h2, h3, h4⟩ := hp
    obtain ⟨A, cp, rfl⟩ := own_shape h2
    exact ⟨A, cp, ns', rfl, h.call h1 (fun k hk => .inl (h3 k hk)) h4 (h.ok.take.mono (by omega)), own_sl h2 (flat_len _ _ D.cells_length _), h3, h4⟩

theorem own_park (h : Own w W b ns c d) (t : Int) (send : Bool) (v : V) (hs : v.s.size ≤ 9223372036854775807) :
    Calls Try.prog 25 #[.pointer (some ⟨b, 0, none⟩), .int .i64 t, .bool send, v.val] W fun e w' => ∃ ns', e = .returned (.int .i64 (c.park t send v).2) ∧
      Own w w' b ns' (c.park t send v).1 d ∧ (∀ k ∈ ns', k ∈ ns ∨ W.heap.size ≤ k) ∧ Stay (· ∈ b :: ns) W w' :=
  (park_any W b ns c t send v d h.lies h.ok hs).mono fun e w' hp => by
    obtain ⟨ns', rfl, h1, h2, h3⟩ := hp
    exact ⟨ns', rfl, h.call h1 h2 h3 (h.ok.park t send v), h2, h3⟩

theorem own_withdraw (h : Own w W b ns c d) (t : Int) :
    Calls Try.prog 26 #[.pointer (some ⟨b, 0, none⟩), .int .i64 t] W fun e w' => ∃ ns', e = .returned (.bool (c.withdraw t).2) ∧
      Own w w' b ns' (c.withdraw t).1 d ∧ (∀ k ∈ ns', k ∈ ns) ∧ Stay (· ∈ b :: ns) W w' :=
  (withdraw_any W b ns c t d h.lies h.ok).mono fun e w' hp => by
    obtain ⟨ns', rfl, h1, h2, h3⟩ := hp
    exact ⟨ns', rfl, h.call h1 (fun k hk => .inl (h2 k hk)) h3 (h.ok.withdraw t), h2, h3⟩

theorem own_close (h : Own w W b ns c d) :
    Calls Try.prog 14 #[.pointer (some ⟨b, 0, none⟩)] W fun e w' => ∃ A cp ns', e = .returned (.slice A c.close.2.length cp) ∧
      Own w w' b ns' c.close.1 d ∧ Sl w' w'.heap.size A c.close.2.length cp 7 (c.close.2.flatMap D.cells) ∧ (∀ k ∈ ns', k ∈ ns) ∧ Stay (· ∈ b :: ns) W w' :=
  (close_any W b ns c d h.lies h.ok).mono fun e w' hp => by
    obtain ⟨dv, ns', rfl, h1, h2, h3, h4⟩ := hp
    obtain ⟨A, cp, rfl⟩ := own_shape h2
    exact ⟨A, cp, ns', rfl, h.call h1 (fun k hk => .inl (h3 k hk)) h4 h.ok.close, own_sl h2 (flat_len _ _ D.cells_length _), h3, h4⟩

theorem own_run (h : Own w W b ns c d) (o : Op1) (hd : d ≤ 1000000) (hs : o.v.s.size ≤ 9223372036854775807) :
    Calls Try.prog 12 #[.pointer (some ⟨b, 0, none⟩), o.val] W fun e w' => ∃ ns', e = .returned (.tuple #[]) ∧ Own w w' b ns' (c.run o) (d + 1) ∧ (∀ k ∈ ns', k ∈ ns ∨ W.heap.size ≤ k) ∧ Stay (· ∈ b :: ns) W w' :=
  (run_any W b ns c o d h.lies h.ok hd hs).mono fun e w' ⟨he, ns', h1, h2, h3⟩ => ⟨ns', he, h.call h1 h2 h3 (h.ok.run o), h2, h3⟩

theorem own_state (h : Own w W b ns c d) :
    Calls Try.prog 13 #[.pointer (some ⟨b, 0, none⟩)] W fun e w' => (∃ A cp A' cp', e = .returned (.agg #[.int .i64 c.cap, .int .i64 c.pol, .bool c.closed, .slice A c.buf.length cp, .slice A' c.ws.length cp', .int .i64 c.drop]) ∧
      Sl w' w'.heap.size A c.buf.length cp 3 (c.buf.flatMap V.cells) ∧ Sl w' w'.heap.size A' c.ws.length cp' 5 (c.ws.flatMap Wt.cells)) ∧ Only W w' :=
  (state_any W b ns c d h.lies h.ok).mono fun e w' hp => by
    obtain ⟨⟨v, rfl, hv⟩, hO⟩ := hp
    obtain ⟨A, cp, A', cp', rfl, h1, h2⟩ := hv.rd
    exact ⟨⟨A, cp, A', cp', rfl, h1, h2⟩, hO⟩

theorem own_copy (h : Own w W b ns c d) :
    Calls Try.prog 27 #[.pointer (some ⟨b, 0, none⟩)] W fun e w' => ∃ b' ns', e = .returned (.pointer (some ⟨b', 0, none⟩)) ∧ Own w w' b' ns' c d ∧ Own W w' b' ns' c d ∧ Only W w' :=
  (copy_any W b ns c h.lies).mono fun e w' hp => by
    obtain ⟨b', ns', rfl, h1, h2, h3, h4⟩ := hp
    have hn : ∀ k ∈ b' :: ns', W.heap.size ≤ k := fun k hk => by
      rcases List.mem_cons.1 hk with rfl | hk
      · exact h2
      · exact h3 k hk
    exact ⟨b', ns', rfl, ⟨h1, fun k hk => Nat.le_trans h.only.size (hn k hk), h.ok, h.only.trans' h4⟩, ⟨h1, hn, h.ok, h4⟩, h4⟩
end

end Go.Proofs.Ytfmkdkpgehkfaaa
