/- An actor's next step, whatever it is. -/
import Derived.Test.YtfohaijdhgcneaaStealRace
import Derived.Test.YtfohaijdhgcneaaStealSteal
set_option linter.unusedVariables false
set_option linter.unusedSimpArgs false
namespace Go.Proofs.Ytfohaijdhgcneaa
open Go Go.RowKit

/-- The steps' functions. -/
def stepFns : List Nat := [81, 82, 83, 76, 78, 79, 80, 84, 85, 86, 87, 57, 60]
theorem enter_step {f : Nat} (hf : f ∈ stepFns) (args : Array Value) (w : World) : (callFunc f args).run Try.prog w = .ok (.enter f args) w := by
  unfold stepFns at hf
  simp only [List.mem_cons, List.not_mem_nil, or_false] at hf
  rcases hf with rfl | rfl | rfl | rfl | rfl | rfl | rfl | rfl | rfl | rfl | rfl | rfl | rfl <;> rfl
/-- What holds where an actor that is not done makes a step. -/
structure Rc.Due (R : Rc) (i : Nat) (a : Act) : Prop where
  got : a.got.length < 61
  bot : -1 ≤ R.bot ∧ R.bot ≤ 60
  top : 0 ≤ R.top ∧ R.top ≤ 61
  st : a.step ≤ 3
  p2 : i = 0 → R.own.getD a.got.length 0 ≠ 0 → 0 ≤ R.bot ∧ a.step ≤ 2
  t0 : i = 0 → a.step = 0 → 0 ≤ R.bot
  t2 : i = 0 → R.own.getD a.got.length 0 = 0 → 2 ≤ a.step → 0 ≤ R.bot ∧ 0 ≤ a.t ∧ a.t < 1000
  s1 : i ≠ 0 → 1 ≤ a.step → 0 ≤ a.t ∧ a.t < 1000
theorem lim_le (b : Int) (t : Bool) : b ≤ lim b t ∧ lim b t ≤ b + 1 := by cases t <;> simp [lim] <;> omega
theorem Rc.Ok.bounds {R : Rc} (h : R.Ok) : -1 ≤ R.bot ∧ R.bot ≤ 60 ∧ 0 ≤ R.top ∧ R.top ≤ 61 := by
  obtain ⟨a0, p1, p2, p3, p4, p5, p6, p7, p8⟩ := h.own
  have h1 := h.an 0 a0 p1
  have h2 := lim_le R.bot (decide (R.tak a0))
  have h3 := h.t0
  refine ⟨?_, ?_, h3, ?_⟩ <;> omega
theorem Rc.Ok.due {R : Rc} (h : R.Ok) {i : Nat} {a : Act} (hi : R.acts[i]? = some a) : R.Due i a := by
  obtain ⟨a0, p1, p2, p3, p4, p5, p6, p7, p8⟩ := h.own
  have hb := h.bounds
  have h1 := h.an i a hi
  refine ⟨by omega, ⟨hb.1, hb.2.1⟩, hb.2.2, h1.2.2.1, fun e h0 => ?_, fun e h0 => ?_, fun e h0 h2 => ?_, fun e h2 => ?_⟩
  · subst e
    rw [hi] at p1
    cases p1
    have tk : decide (R.tak a) = false := decide_eq_false (fun hk => h0 hk.2)
    rw [tk, lim_false] at p4
    exact ⟨by omega, p5 h0⟩
  · subst e
    rw [hi] at p1
    cases p1
    have tk : decide (R.tak a) = false := decide_eq_false (fun hk => by have := hk.1; omega)
    rw [tk, lim_false] at p4
    omega
  · subst e
    rw [hi] at p1
    cases p1
    have := p6 ⟨by omega, h0⟩ h2
    omega
  · have := p8 i a (by omega) hi h2
    omega
theorem NowAt.label {w : World} {L L' : Nat → Nat} {b i ab : Nat} {own : List Int} {a : Act} {nx : Value} (h : NowAt w L b own i ab a nx) (hL : ∀ k, k < w.heap.size → 16 ≤ L k → L' k = L k) : NowAt w L' b own i ab a nx := by
  have q : ∀ {k m : Nat} {T vs}, Blk w k T vs → L k = m → 16 ≤ m → L' k = m := fun hb h h16 => by rw [hL _ hb.lt (by omega)]; exact h
  unfold NowAt at h ⊢
  split at h
  · rw [if_pos (by assumption)]
    split at h
    · rw [if_pos (by assumption)]
      obtain ⟨t, x, br, ba, bt, bx, bs, bd, bk, e1, e2, ⟨h1, h2, h3, h4, h5, h6, h7, l1, l2, l3, l4, l5, l6, l7⟩, he⟩ := h
      exact ⟨t, x, br, ba, bt, bx, bs, bd, bk, e1, e2, ⟨h1, h2, h3, h4, h5, h6, h7, q h1 l1 (by omega), q h2 l2 (by omega), q h3 l3 (by omega), q h4 l4 (by omega), q h5 l5 (by omega), q h6 l6 (by omega), q h7 l7 (by omega)⟩, he⟩
    · rw [if_neg (by assumption)]
      obtain ⟨br, ba, bx, bl, bw, ⟨h1, h2, h3, h4, h5, l1, l2, l3, l4, l5⟩, he⟩ := h
      exact ⟨br, ba, bx, bl, bw, ⟨h1, h2, h3, h4, h5, q h1 l1 (by omega), q h2 l2 (by omega), q h3 l3 (by omega), q h4 l4 (by omega), q h5 l5 (by omega)⟩, he⟩
  · rw [if_neg (by assumption)]
    obtain ⟨t, x, br, ba, bt, bx, bs, bd, bk, e1, e2, ⟨h1, h2, h3, h4, h5, h6, h7, l1, l2, l3, l4, l5, l6, l7⟩, he⟩ := h
    exact ⟨t, x, br, ba, bt, bx, bs, bd, bk, e1, e2, ⟨h1, h2, h3, h4, h5, h6, h7, q h1 l1 (by omega), q h2 l2 (by omega), q h3 l3 (by omega), q h4 l4 (by omega), q h5 l5 (by omega), q h6 l6 (by omega), q h7 l7 (by omega)⟩, he⟩
theorem PendAt.label {w : World} {L L' : Nat → Nat} {b i ab : Nat} {own : List Int} {a : Act} {nx : Value} (h : PendAt w L b own i ab a nx) (hL : ∀ k, k < w.heap.size → 16 ≤ L k → L' k = L k) : PendAt w L' b own i ab a nx := by
  unfold PendAt at h ⊢
  split at h
  · rw [if_pos (by assumption)]; exact h
  rw [if_neg (by assumption)]
  exact h.label hL
theorem PendAt.form {w : World} {L : Nat → Nat} {b i ab : Nat} {own : List Int} {a : Act} {nx : Value} (h : PendAt w L b own i ab a nx) : nx = .nilFunc ∨ ∃ g D, nx = .func (.func g) #[] D := by
  unfold PendAt at h
  split at h
  · exact .inl h
  right
  unfold NowAt at h
  split at h
  · split at h
    · obtain ⟨t, x, br, ba, bt, bx, bs, bd, bk, e1, e2, _, rfl⟩ := h
      repeat' split
      all_goals exact ⟨_, _, rfl⟩
    · obtain ⟨br, ba, bx, bl, bw, _, rfl⟩ := h
      repeat' split
      all_goals exact ⟨_, _, rfl⟩
  · obtain ⟨t, x, br, ba, bt, bx, bs, bd, bk, e1, e2, _, rfl⟩ := h
    repeat' split
    all_goals exact ⟨_, _, rfl⟩
/-- An actor's labels. -/
structure Labs (L : Nat → Nat) (F : Fixed) (i : Nat) (gv : Value) : Prop where
  b : L F.b = 1
  c : ∀ g, F.cv.ownBlock = some g → L g = 2
  a : L F.ab = 16 * i + 16
  g : ∀ g, gv.ownBlock = some g → L g = 16 * i + 17
def nums (R : Rc) (a : Act) : Nums := ⟨R.room, R.cells, R.top, R.bot, a.got⟩
/-- Behind an actor's next step. -/
def NowPost (w : World) (L : Nat → Nat) (F : Fixed) (R : Rc) (i : Nat) (a : Act) (gv : Value) (e : Ending) (w' : World) : Prop :=
  ∃ nx', e = .returned nx' ∧ ∃ gv', Loc w' F (nums (opS R i a).1 (opS R i a).2) gv' ∧ PendAt w' L F.b R.own i F.ab (opS R i a).2 nx' ∧ Next w gv gv' ∧ Stay (LX i L) w w'
section
variable {w w' : World} {L : Nat → Nat} {F : Fixed} {R : Rc} {i : Nat} {a : Act} {gv nx : Value}
theorem Labs.xp (h : Labs L F i gv) : ∀ k, XP F gv k → L k = 1 ∨ L k = 2 ∨ L k = 16 * i + 16 ∨ L k = 16 * i + 17 := by
  rintro k (rfl | e | rfl | e)
  · exact .inl h.b
  · exact .inr (.inl (h.c k e))
  · exact .inr (.inr (.inl h.a))
  · exact .inr (.inr (.inr (h.g k e)))
theorem Labs.lx (h : Labs L F i gv) : ∀ k, XP F gv k → LX i L k := fun k hk => by
  rcases h.xp k hk with e | e | e | e
  · exact .inl e
  · exact .inr (.inl e)
  · exact .inr (.inr ⟨by omega, by omega, by omega⟩)
  · exact .inr (.inr ⟨by omega, by omega, by omega⟩)
theorem Labs.low (h : Labs L F i gv) : ∀ k, XP F gv k → L k < 16 * i + 19 ∨ 16 * i + 32 ≤ L k := fun k hk => by
  rcases h.xp k hk with e | e | e | e <;> omega
theorem PushN.now (h : Loc w F (nums R a) gv) (hl : Labs L F i gv) (hd : R.Due i a) (h0 : i = 0) (hx : R.own.getD a.got.length 0 ≠ 0) (hp : PushN w L F.b i F.ab (R.own.getD a.got.length 0) a.step nx) :
    ∃ f cs, nx = fnv f cs ∧ f ∈ stepFns ∧ Calls Try.prog f (cs.map pt).toArray w (NowPost w L F R i a gv) := by
  obtain ⟨br, ba, bx, bl, bw, hB, rfl⟩ := hp
  obtain ⟨d1, d2⟩ := hd.p2 h0 hx
  have hd2 := hd.bot
  have hd3 := hd.got
  have hpend : ∀ {w' : World} (a' : Act) (u : Value), Stay (XP F gv) w w' → a'.got = a.got → a'.step ≠ 0 → u = (if a'.step = 0 then fnv 83 [br, ba, bw] else if a'.step = 1 then fnv 82 [bx, br, bl] else fnv 81 [br, ba, bx]) → PendAt w' L F.b R.own i F.ab a' u := fun a' u hst hg hs hu => by
    unfold PendAt NowAt
    rw [if_neg hs, if_pos h0, hg, if_neg hx]
    exact ⟨br, ba, bx, bl, bw, hB.stay hst hl.low, hu⟩
  have hnil : ∀ {w' : World} (a' : Act), a'.step = 0 → PendAt w' L F.b R.own i F.ab a' .nilFunc := fun a' hs => by
    unfold PendAt
    rw [if_pos hs]
  have hop : opS R i a = pushS R a (R.own.getD a.got.length 0) := by unfold opS; rw [if_pos h0, if_neg hx]
  by_cases s0 : a.step = 0
  · refine ⟨83, [br, ba, bw], by rw [if_pos s0], by decide, (push3_any h hB.r hB.a hB.w (by show a.got.length < 500; omega)).mono fun e w' hp => ?_⟩
    unfold NowPost
    rw [hop]
    unfold pushS
    rw [if_pos s0]
    by_cases c1 : R.bot - R.top = R.room
    · rw [if_pos c1]
      rw [if_pos (show (nums R a).bot - (nums R a).top = (nums R a).room from c1)] at hp
      obtain ⟨rfl, gv', g1, g2, g3⟩ := hp
      exact ⟨_, rfl, gv', g1, hnil _ rfl, g2, g3.mono fun k _ hk => hl.lx k hk⟩
    · rw [if_neg c1]
      rw [if_neg (show ¬ (nums R a).bot - (nums R a).top = (nums R a).room from c1)] at hp
      obtain ⟨rfl, gv', g1, g2, g3⟩ := hp
      exact ⟨_, rfl, gv', g1, hpend _ _ g3 rfl (by simp) (by simp), g2, g3.mono fun k _ hk => hl.lx k hk⟩
  by_cases s1 : a.step = 1
  · refine ⟨82, [bx, br, bl], by rw [if_neg s0, if_pos s1], by decide, (push2_any h hB.r hB.x hB.l (show 0 ≤ R.bot from d1) (fun g hg e => by have := hl.c g hg; have := hB.lx; rw [e] at *; omega)).mono fun e w' hp => ?_⟩
    unfold NowPost
    rw [hop]
    unfold pushS
    rw [if_neg s0, if_pos s1]
    obtain ⟨rfl, gv', g1, g2, g3⟩ := hp
    exact ⟨_, rfl, gv', g1, hpend _ _ g3 rfl (by simp) (by simp), g2, g3.mono fun k _ hk => hl.lx k hk⟩
  · refine ⟨81, [br, ba, bx], by rw [if_neg s0, if_neg s1], by decide, (push1_any h hB.r hB.a hB.x (by show a.got.length < 500; omega) (show R.bot < 1000 by omega)).mono fun e w' hp => ?_⟩
    unfold NowPost
    rw [hop]
    unfold pushS
    rw [if_neg s0, if_neg s1]
    obtain ⟨rfl, gv', g1, g2, g3⟩ := hp
    exact ⟨_, rfl, gv', g1, hnil _ rfl, g2, g3.mono fun k _ hk => hl.lx k hk⟩
theorem box2 (h : Loc w F (nums R a) gv) (hl : Labs L F i gv) {bt bx : Nat} {t x : Int} (ht : Blk w bt 3 [.int .i64 t]) (hx : Blk w bx 3 [.int .i64 x]) (lt : L bt = 16 * i + 21) (lx : L bx = 16 * i + 22) : Box2 w F gv bt bx t x :=
  ⟨ht, hx, fun e => by rw [e] at lt; omega, fun g hg => ⟨fun e => by have := hl.c g hg; rw [e] at this; omega, fun e => by have := hl.c g hg; rw [e] at this; omega⟩, fun g hg => ⟨fun e => by have := hl.g g hg; rw [e] at this; omega, fun e => by have := hl.g g hg; rw [e] at this; omega⟩⟩
theorem Labs.lx2 (h : Labs L F i gv) {bt bx : Nat} (lt : L bt = 16 * i + 21) (lx : L bx = 16 * i + 22) : ∀ k, XT F gv bt bx k → LX i L k := by
  rintro k (hk | rfl | rfl)
  · exact h.lx k hk
  · exact .inr (.inr ⟨by omega, by omega, by omega⟩)
  · exact .inr (.inr ⟨by omega, by omega, by omega⟩)
theorem Labs.low2 (h : Labs L F i gv) {bt bx : Nat} : ∀ k, XT F gv bt bx k → L k < 16 * i + 19 ∨ 16 * i + 32 ≤ L k ∨ k = bt ∨ k = bx := by
  rintro k (hk | rfl | rfl)
  · exact (h.low k hk).imp id .inl
  · exact .inr (.inr (.inl rfl))
  · exact .inr (.inr (.inr rfl))
theorem TakeN.now (h : Loc w F (nums R a) gv) (hl : Labs L F i gv) (hd : R.Due i a) (h0 : i = 0) (hx : R.own.getD a.got.length 0 = 0) (hp : TakeN w L F.b i F.ab a a.step nx) :
    ∃ f cs, nx = fnv f cs ∧ f ∈ stepFns ∧ Calls Try.prog f (cs.map pt).toArray w (NowPost w L F R i a gv) := by
  obtain ⟨t, x, br, ba, bt, bx, bs, bd, bk, et, ex, hB, rfl⟩ := hp
  have hd2 := hd.bot
  have hd3 := hd.got
  have hd4 := hd.top
  have h2 := box2 h hl hB.t hB.x hB.lt hB.lx
  have hpend : ∀ {w' : World} {t' x' : Int} {gv' : Value} (a' : Act) (u : Value), Stay (XT F gv bt bx) w w' → Box2 w' F gv' bt bx t' x' → a'.got = a.got → a'.step ≠ 0 → (2 ≤ a'.step → t' = a'.t) → (3 ≤ a'.step → x' = a'.x) → u = (if a'.step = 0 then fnv 80 [br, bk] else if a'.step = 1 then fnv 79 [br, bt, ba, bd] else if a'.step = 2 then fnv 78 [br, bx, bs] else fnv 76 [br, bt, bx, ba]) → PendAt w' L F.b R.own i F.ab a' u := fun a' u hst hbx hg hs ht' hx' hu => by
    unfold PendAt NowAt
    rw [if_neg hs, if_pos h0, hg, if_pos hx]
    exact ⟨_, _, br, ba, bt, bx, bs, bd, bk, ht', hx', hB.two hst hl.low2 hbx.t hbx.x, hu⟩
  have hnil : ∀ {w' : World} (a' : Act), a'.step = 0 → PendAt w' L F.b R.own i F.ab a' .nilFunc := fun a' hs => by
    unfold PendAt
    rw [if_pos hs]
  have hlx : ∀ k, XT F gv bt bx k → LX i L k := hl.lx2 hB.lt hB.lx
  have hop : opS R i a = takeS R a := by unfold opS; rw [if_pos h0, if_pos hx]
  by_cases s0 : a.step = 0
  · refine ⟨80, [br, bk], by rw [if_pos s0], by decide, (take4_any h h2 hB.r hB.k (hd.t0 h0 s0)).mono fun e w' hp => ?_⟩
    unfold NowPost
    rw [hop]
    unfold takeS
    rw [if_pos s0]
    obtain ⟨rfl, gv', g1, g2, g3, g4⟩ := hp
    exact ⟨_, rfl, gv', g1, hpend _ _ g4 g2 rfl (by simp) (by simp) (by simp) (by simp), g3, g4.mono fun k _ hk => hlx k hk⟩
  by_cases s1 : a.step = 1
  · by_cases c1 : R.bot < R.top
    · refine ⟨79, [br, bt, ba, bd], by rw [if_neg s0, if_pos s1], by decide, (take3a_any h h2 hB.r hB.a hB.d (by show a.got.length < 500; omega) c1).mono fun e w' hp => ?_⟩
      unfold NowPost
      rw [hop]
      unfold takeS
      rw [if_neg s0, if_pos s1, if_pos c1]
      obtain ⟨rfl, gv', g1, g2, g3, g4⟩ := hp
      exact ⟨_, rfl, gv', g1, hnil _ rfl, g3, g4.mono fun k _ hk => hlx k hk⟩
    by_cases c2 : R.top < R.bot
    · refine ⟨79, [br, bt, ba, bd], by rw [if_neg s0, if_pos s1], by decide, (take3b_any h h2 hB.r hB.a hB.d (by show a.got.length < 500; omega) c1 c2).mono fun e w' hp => ?_⟩
      unfold NowPost
      rw [hop]
      unfold takeS
      rw [if_neg s0, if_pos s1, if_neg c1, if_pos c2]
      obtain ⟨rfl, gv', g1, g2, g3, g4⟩ := hp
      exact ⟨_, rfl, gv', g1, hnil _ rfl, g3, g4.mono fun k _ hk => hlx k hk⟩
    · refine ⟨79, [br, bt, ba, bd], by rw [if_neg s0, if_pos s1], by decide, (take3c_any h h2 hB.r hB.a hB.d (by show a.got.length < 500; omega) c1 c2).mono fun e w' hp => ?_⟩
      unfold NowPost
      rw [hop]
      unfold takeS
      rw [if_neg s0, if_pos s1, if_neg c1, if_neg c2]
      obtain ⟨rfl, gv', g1, g2, g3, g4⟩ := hp
      exact ⟨_, rfl, gv', g1, hpend _ _ g4 g2 rfl (by simp) (fun _ => rfl) (by simp) (by simp), g3, g4.mono fun k _ hk => hlx k hk⟩
  have hs3 := hd.st
  obtain ⟨q1, q2, q3⟩ := hd.t2 h0 hx (by omega)
  have et := et (by omega)
  subst et
  by_cases s2 : a.step = 2
  · refine ⟨78, [br, bx, bs], by rw [if_neg s0, if_neg s1, if_pos s2], by decide, (take2_any h h2 hB.r hB.s (show 0 ≤ R.bot from q1)).mono fun e w' hp => ?_⟩
    unfold NowPost
    rw [hop]
    unfold takeS
    rw [if_neg s0, if_neg s1, if_pos s2]
    obtain ⟨rfl, gv', g1, g2, g3, g4⟩ := hp
    exact ⟨_, rfl, gv', g1, hpend _ _ g4 g2 rfl (by simp) (fun _ => rfl) (fun _ => rfl) (by simp), g3, g4.mono fun k _ hk => hlx k hk⟩
  have ex := ex (by omega)
  subst ex
  by_cases c1 : R.top = a.t
  · refine ⟨76, [br, bt, bx, ba], by rw [if_neg s0, if_neg s1, if_neg s2], by decide, (take1_any h h2 hB.r hB.a (by show a.got.length < 500; omega) ⟨q2, q3⟩).mono fun e w' hp => ?_⟩
    unfold NowPost
    rw [hop]
    unfold takeS
    rw [if_neg s0, if_neg s1, if_neg s2, if_pos c1]
    rw [if_pos (show (nums R a).top = a.t from c1)] at hp
    obtain ⟨rfl, gv', g1, g2, g3, g4⟩ := hp
    exact ⟨_, rfl, gv', g1, hnil _ rfl, g3, g4.mono fun k _ hk => hlx k hk⟩
  · refine ⟨76, [br, bt, bx, ba], by rw [if_neg s0, if_neg s1, if_neg s2], by decide, (take1_any h h2 hB.r hB.a (by show a.got.length < 500; omega) ⟨q2, q3⟩).mono fun e w' hp => ?_⟩
    unfold NowPost
    rw [hop]
    unfold takeS
    rw [if_neg s0, if_neg s1, if_neg s2, if_neg c1]
    rw [if_neg (show ¬ (nums R a).top = a.t from c1)] at hp
    obtain ⟨rfl, gv', g1, g2, g3, g4⟩ := hp
    exact ⟨_, rfl, gv', g1, hnil _ rfl, g3, g4.mono fun k _ hk => hlx k hk⟩
theorem StealN.now (h : Loc w F (nums R a) gv) (hl : Labs L F i gv) (hd : R.Due i a) (h0 : i ≠ 0) (hp : StealN w L F.b i F.ab a a.step nx) :
    ∃ f cs, nx = fnv f cs ∧ f ∈ stepFns ∧ Calls Try.prog f (cs.map pt).toArray w (NowPost w L F R i a gv) := by
  obtain ⟨t, x, br, ba, bt, bx, bs, bd, bk, et, ex, hB, rfl⟩ := hp
  have hd2 := hd.bot
  have hd3 := hd.got
  have hd4 := hd.top
  have h2 := box2 h hl hB.t hB.x hB.lt hB.lx
  have hpend : ∀ {w' : World} {t' x' : Int} {gv' : Value} (a' : Act) (u : Value), Stay (XT F gv bt bx) w w' → Box2 w' F gv' bt bx t' x' → a'.got = a.got → a'.step ≠ 0 → (1 ≤ a'.step → t' = a'.t) → (3 ≤ a'.step → x' = a'.x) → u = (if a'.step = 0 then fnv 87 [br, bt, bk] else if a'.step = 1 then fnv 86 [bt, br, ba, bd] else if a'.step = 2 then fnv 85 [br, bt, bx, bs] else fnv 84 [br, bt, ba, bx]) → PendAt w' L F.b R.own i F.ab a' u := fun a' u hst hbx hg hs ht' hx' hu => by
    unfold PendAt NowAt
    rw [if_neg hs, if_neg h0]
    exact ⟨_, _, br, ba, bt, bx, bs, bd, bk, ht', hx', hB.two hst hl.low2 hbx.t hbx.x, hu⟩
  have hnil : ∀ {w' : World} (a' : Act), a'.step = 0 → PendAt w' L F.b R.own i F.ab a' .nilFunc := fun a' hs => by
    unfold PendAt
    rw [if_pos hs]
  have hlx : ∀ k, XT F gv bt bx k → LX i L k := hl.lx2 hB.lt hB.lx
  have hop : opS R i a = stealS R a := by unfold opS; rw [if_neg h0]
  by_cases s0 : a.step = 0
  · refine ⟨87, [br, bt, bk], by rw [if_pos s0], by decide, (steal4_any h h2 hB.r hB.k).mono fun e w' hp => ?_⟩
    unfold NowPost
    rw [hop]
    unfold stealS
    rw [if_pos s0]
    obtain ⟨rfl, gv', g1, g2, g3, g4⟩ := hp
    exact ⟨_, rfl, gv', g1, hpend _ _ g4 g2 rfl (by simp) (fun _ => rfl) (by simp) (by simp), g3, g4.mono fun k _ hk => hlx k hk⟩
  have hs3 := hd.st
  obtain ⟨q2, q3⟩ := hd.s1 h0 (by omega)
  have et := et (by omega)
  subst et
  by_cases s1 : a.step = 1
  · by_cases c1 : R.bot ≤ a.t
    · refine ⟨86, [bt, br, ba, bd], by rw [if_neg s0, if_pos s1], by decide, (steal3_any h h2 hB.r hB.a hB.d (by show a.got.length < 500; omega)).mono fun e w' hp => ?_⟩
      unfold NowPost
      rw [hop]
      unfold stealS
      rw [if_neg s0, if_pos s1, if_pos c1]
      rw [if_pos (show (nums R a).bot ≤ a.t from c1)] at hp
      obtain ⟨rfl, gv', g1, g2, g3, g4⟩ := hp
      exact ⟨_, rfl, gv', g1, hnil _ rfl, g3, g4.mono fun k _ hk => hlx k hk⟩
    · refine ⟨86, [bt, br, ba, bd], by rw [if_neg s0, if_pos s1], by decide, (steal3_any h h2 hB.r hB.a hB.d (by show a.got.length < 500; omega)).mono fun e w' hp => ?_⟩
      unfold NowPost
      rw [hop]
      unfold stealS
      rw [if_neg s0, if_pos s1, if_neg c1]
      rw [if_neg (show ¬ (nums R a).bot ≤ a.t from c1)] at hp
      obtain ⟨rfl, gv', g1, g2, g3, g4⟩ := hp
      exact ⟨_, rfl, gv', g1, hpend _ _ g4 g2 rfl (by simp) (fun _ => rfl) (by simp) (by simp), g3, g4.mono fun k _ hk => hlx k hk⟩
  by_cases s2 : a.step = 2
  · refine ⟨85, [br, bt, bx, bs], by rw [if_neg s0, if_neg s1, if_pos s2], by decide, (steal2_any h h2 hB.r hB.s q2).mono fun e w' hp => ?_⟩
    unfold NowPost
    rw [hop]
    unfold stealS
    rw [if_neg s0, if_neg s1, if_pos s2]
    obtain ⟨rfl, gv', g1, g2, g3, g4⟩ := hp
    exact ⟨_, rfl, gv', g1, hpend _ _ g4 g2 rfl (by simp) (fun _ => rfl) (fun _ => rfl) (by simp), g3, g4.mono fun k _ hk => hlx k hk⟩
  have ex := ex (by omega)
  subst ex
  by_cases c1 : R.top = a.t
  · refine ⟨84, [br, bt, ba, bx], by rw [if_neg s0, if_neg s1, if_neg s2], by decide, (steal1_any h h2 hB.r hB.a (by show a.got.length < 500; omega) ⟨q2, q3⟩).mono fun e w' hp => ?_⟩
    unfold NowPost
    rw [hop]
    unfold stealS
    rw [if_neg s0, if_neg s1, if_neg s2, if_pos c1]
    rw [if_pos (show (nums R a).top = a.t from c1)] at hp
    obtain ⟨rfl, gv', g1, g2, g3, g4⟩ := hp
    exact ⟨_, rfl, gv', g1, hnil _ rfl, g3, g4.mono fun k _ hk => hlx k hk⟩
  · refine ⟨84, [br, bt, ba, bx], by rw [if_neg s0, if_neg s1, if_neg s2], by decide, (steal1_any h h2 hB.r hB.a (by show a.got.length < 500; omega) ⟨q2, q3⟩).mono fun e w' hp => ?_⟩
    unfold NowPost
    rw [hop]
    unfold stealS
    rw [if_neg s0, if_neg s1, if_neg s2, if_neg c1]
    rw [if_neg (show ¬ (nums R a).top = a.t from c1)] at hp
    obtain ⟨rfl, gv', g1, g2, g3, g4⟩ := hp
    exact ⟨_, rfl, gv', g1, hnil _ rfl, g3, g4.mono fun k _ hk => hlx k hk⟩
theorem NowAt.now (h : Loc w F (nums R a) gv) (hl : Labs L F i gv) (hd : R.Due i a) (hp : NowAt w L F.b R.own i F.ab a nx) :
    ∃ f cs, nx = fnv f cs ∧ f ∈ stepFns ∧ Calls Try.prog f (cs.map pt).toArray w (NowPost w L F R i a gv) := by
  unfold NowAt at hp
  split at hp
  · rename_i h0
    split at hp
    · rename_i hx
      exact hp.now h hl hd h0 hx
    · rename_i hx
      exact hp.now h hl hd h0 hx
  · rename_i h0
    exact hp.now h hl hd h0
end
def opF (i : Nat) : Nat := if i = 0 then 57 else 60
/-- The rows that Step reads beside. -/
structure Rows (w : World) (F : Fixed) (abs : List Nat) (past : List Int) (i : Nat) : Prop where
  arow : w.ownsRow 0 87 1 F.av abs.length (abs.map pt)
  prow : w.ownsRow 0 3 1 F.pv past.length (ints past)
  at' : abs[i]? = some F.ab
  al : abs.length ≤ 1000
  pl : past.length ≤ 5000
def TailPost (w1 : World) (F : Fixed) (N : Nums) (gv nx : Value) (past : List Int) (i : Int) (e : Ending) (w' : World) : Prop :=
  e = .returned (.bool true) ∧ ∃ pv', Core w' F.b N.room N.cells N.top N.bot F.cv F.av F.ov F.tv pv' ∧ AcB w' F.ab F.n N.got F.opv nx gv ∧ w'.ownsRow 0 3 1 pv' (past.length + 1) (ints (past ++ [i])) ∧ Next w1 F.pv pv' ∧ Stay (fun k => k = F.b ∨ k = F.ab ∨ F.pv.ownBlock = some k) w1 w'
end Go.Proofs.Ytfohaijdhgcneaa
