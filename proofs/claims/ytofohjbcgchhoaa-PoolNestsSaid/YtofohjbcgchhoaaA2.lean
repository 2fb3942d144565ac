/-
  TRACES, on: what is given up, what is new; a child; the release at a group's address; the acquire.
-/
import Derived.Test.YtofohjbcgchhoaaA
namespace Go.Proofs.Ytofohjbcgchhoaa
open Go.Conc

section
variable {N B : Nat} {f : Nat → Tg} {AT : Addr → Prop} {sd : Addr → Nat} {t u : Trace}

/-- No touch at a block that is not there yet. -/
theorem TInv.untouched (h : TInv N B f AT sd t) {a : Addr} (ha : B ≤ a.block) {k : Nat} {x : Touch} (hx : touchAt t k = some x) (hl : x.loc = .cell a) : False := by
  obtain ⟨op, hop, hox⟩ := touch_of hx
  have hs := h.seen op (mem_of_getElem? hop)
  cases hm : op.act with
  | access e =>
    rw [hm] at hox hs
    simp only [MemAct.touch?, Option.some.injEq] at hox
    subst hox
    simp only at hl
    simp only [MemAct.low, hl, Loc.low] at hs
    omega
  | mark m =>
    rw [hm] at hox hs
    cases m <;> simp only [MemAct.touch?, Option.some.injEq, reduceCtorEq] at hox
    · subst hox
      cases hl
      simp only [MemAct.low] at hs
      omega
    · subst hox
      cases hl
      simp only [MemAct.low] at hs
      omega
  | go _ => rw [hm] at hox; cases hox
  | start => rw [hm] at hox; cases hox
  | send _ _ => rw [hm] at hox; cases hox
  | sendDone _ _ => rw [hm] at hox; cases hox
  | recv _ _ _ => rw [hm] at hox; cases hox
  | recvDone _ _ => rw [hm] at hox; cases hox
  | close _ => rw [hm] at hox; cases hox
  | recvClosed _ => rw [hm] at hox; cases hox

/-- What is given up, frozen, new; new places that are shared from the first. -/
theorem TInv.sub (h : TInv N B f AT sd t) {B' : Nat} {f' : Nat → Tg} {AT' : Addr → Prop} {sd' : Addr → Nat} (hB : B ≤ B') (hst : ∀ i, i < N → (f' i).st = (f i).st) (hdf : ∀ i, i < N → (f' i).df = (f i).df)
    (hex : ∀ i, i < N → ∀ a, (f' i).ex a → (f i).ex a ∨ B ≤ a.block) (hrd : ∀ i, i < N → ∀ a, (f' i).rd a → (f i).rd a ∨ (f i).ex a ∨ B ≤ a.block) (hjn : ∀ i, i < N → ∀ c, (f' i).jn c → (f i).jn c)
    (hAT : ∀ a, AT' a → (AT a ∧ sd' a = sd a) ∨ B ≤ a.block) : TInv N B' f' AT' sd' t where
  clean := h.clean
  low := h.low
  norel := h.norel
  plainObj := h.plainObj
  at_ k x a hx hl hA := by
    rcases hAT a hA with ⟨h1, h2⟩ | h1
    · rw [h2]; exact h.at_ k x a hx hl h1
    · exact (h.untouched h1 hx hl).elim
  ex i hi a he k x hx hl := by
    rw [hst i hi]
    rcases hex i hi a he with h1 | h1
    · exact h.ex i hi a h1 k x hx hl
    · exact (h.untouched h1 hx hl).elim
  rd i hi a he k x hx hl hw := by
    rw [hst i hi]
    rcases hrd i hi a he with h1 | h1 | h1
    · exact h.rd i hi a h1 k x hx hl hw
    · exact h.ex i hi a h1 k x hx hl
    · exact (h.untouched h1 hx hl).elim
  jn i hi c hc k hk hcn := by rw [hst i hi]; exact h.jn i hi c (hjn i hi c hc) k hk hcn
  df i hi := by rw [hdf i hi]; exact h.df i hi
  relp i hi p a hp := h.relp i hi p a (by rw [← hst i hi]; exact hp)
  seen op hop := MemAct.low_mono hB (h.seen op hop)

/-- All that the starter knows its child knows. -/
theorem fork_kn {t : Trace} {i k : Nat} {x y : MemOp} (hx : x.g = i ∧ x.act = .go k) (hy : y.g = k ∧ y.act = .start) (h0 : Deaf t i = 0) (hk : Deaf t k = 0) {j : Nat} (h : Knows t i j) : Knows (t ++ #[x, y]) k j := by
  have hxp : (t ++ #[x, y])[t.size]? = some x := by rw [Array.getElem?_append_right (Nat.le_refl _)]; simp
  have hyp : (t ++ #[x, y])[t.size + 1]? = some y := by rw [Array.getElem?_append_right (by omega)]; simp
  have h1 : HappensBefore (t ++ #[x, y]) j t.size := h.hb_new (Nat.le_refl _) hxp hx.1
  have e0 : (t ++ #[x, y]).heard t.size := ⟨i, by simp [Trace.g?, hx.1], by rw [deaf_old (Nat.le_refl _)]; exact h0⟩
  have e1 : (t ++ #[x, y]).heard (t.size + 1) := ⟨k, by simp [Trace.g?, hy.1], by rw [deaf_succ hxp, deaf_old (Nat.le_refl _)]; simp only [deafStep, hx.2]; exact hk⟩
  exact ⟨t.size + 1, y, hyp, hy.1, .inr (h1.trans (.single (.inr ⟨.spawn (child := k) (by rw [act?_of hxp, hx.2]) (by rw [act?_of hyp, hy.2]) (by simp [Trace.g?, hy.1]), e0, e1⟩)))⟩

/-- A go statement: the child bears what the starter hands it. -/
theorem TInv.fork (h : TInv N B f AT sd t) {i : Nat} (hi : i < N) {x y : MemOp} (hx : x.g = i ∧ x.act = .go N) (hy : y.g = N ∧ y.act = .start) (ha : (f i).st = .act) (h0 : (f i).df = 0) {gi gc : Tg}
    (ei : gi.st = .act ∧ gi.df = 0 ∧ gi.jn = (f i).jn) (ec : gc.st = .act ∧ gc.df = 0 ∧ gc.jn = (· = N)) (hex : ∀ a, gi.ex a → (f i).ex a) (hexc : ∀ a, gc.ex a → (f i).ex a) (hrd : ∀ a, gi.rd a → (f i).rd a) (hrdc : ∀ a, gc.rd a → (f i).rd a) :
    TInv (N + 1) B (fun j => if j = N then gc else if j = i then gi else f j) AT sd (t ++ #[x, y]) := by
  have hne : i ≠ N := by omega
  have hN : Deaf t N = 0 := ConcN.Deaf_absent fun k op hop => by have := h.low op (mem_of_getElem? hop); omega
  have hdi : Deaf t i = 0 := by rw [h.df i hi]; exact h0
  have tx : x.act.touch? = none := by rw [hx.2]; rfl
  have ty : y.act.touch? = none := by rw [hy.2]; rfl
  have old : ∀ {k : Nat} {z : Touch}, touchAt (t ++ #[x, y]) k = some z → k < t.size ∧ touchAt t k = some z := by
    intro k z hz
    obtain ⟨op, hop, hox⟩ := touch_of hz
    rcases getElem?_append_cases hop with ⟨hk, hop'⟩ | ⟨_, hou⟩
    · exact ⟨hk, by rw [touchAt_of hop']; exact hox⟩
    · simp only [List.mem_toArray, List.mem_cons, List.not_mem_nil, or_false] at hou
      rcases hou with rfl | rfl
      · rw [tx] at hox; cases hox
      · rw [ty] at hox; cases hox
  have cold : ∀ {k : Nat}, (t ++ #[x, y]).counts k → k < t.size ∧ t.counts k := by
    intro k hk
    have hk0 := hk
    obtain ⟨z, hz, _⟩ := hk
    have := (old (k := k) (z := z) hz).1
    exact ⟨this, (counts_old this).1 hk0⟩
  have hst : ∀ j, j ≠ N → (if j = N then gc else if j = i then gi else f j).st = (f j).st := by
    intro j hj
    rw [if_neg hj]
    by_cases e : j = i
    · subst e; rw [if_pos rfl, ei.1, ha]
    · rw [if_neg e]
  have child : ∀ {k : Nat}, Kn t (f i).st i k → Kn (t ++ #[x, y]) gc.st N k := by
    intro k hk
    rw [ha] at hk
    rw [ec.1]
    exact fork_kn hx hy hdi hN hk
  have dd : ∀ j, j ≠ N → j ≠ i → Deaf (t ++ #[x, y]) j = Deaf t j := fun j hjN hji => by
    have e : t ++ #[x, y] = (t ++ #[x]) ++ #[y] := by apply Array.ext'; simp
    rw [e, Deaf_push, Deaf_push]
    simp [deafStep, hx.2, hy.2]
  have dsame : ∀ j, Deaf (t ++ #[x, y]) j = Deaf t j := fun j => by
    have e : t ++ #[x, y] = (t ++ #[x]) ++ #[y] := by apply Array.ext'; simp
    rw [e, Deaf_push, Deaf_push]
    simp [deafStep, hx.2, hy.2]
  refine ⟨fun said => ?_, ?_, ?_, ?_, ?_, ?_, ?_, ?_, ?_, ?_, seen_app h.seen fun op hop => ?_⟩
  · rintro ⟨a, b, hab, ⟨xa, xb, h1, h2, hc⟩, n1, n2⟩
    exact h.clean said ⟨a, b, hab, ⟨xa, xb, (old h1).2, (old h2).2, hc⟩, fun e => n1 (hb_app _ e), fun e => n2 (hb_app _ e)⟩
  · intro op hop
    rcases Array.mem_append.1 hop with ho | ho
    · have := h.low op ho; omega
    · simp only [List.mem_toArray, List.mem_cons, List.not_mem_nil, or_false] at ho
      rcases ho with rfl | rfl
      · rw [hx.1]; omega
      · rw [hy.1]; omega
  · intro op hop
    rcases Array.mem_append.1 hop with ho | ho
    · exact h.norel op ho
    · simp only [List.mem_toArray, List.mem_cons, List.not_mem_nil, or_false] at ho
      rcases ho with rfl | rfl
      · intro a; rw [hx.2]; simp
      · intro a; rw [hy.2]; simp
  · intro k z hz c hc; exact h.plainObj k z (old hz).2 c hc
  · intro k z a hz hl hA
    refine ⟨(h.at_ k z a (old hz).2 hl hA).1, fun e => ?_⟩
    rw [g?_old (old hz).1]; exact (h.at_ k z a (old hz).2 hl hA).2 e
  · intro j hj a he k z hz hl
    by_cases e : j = N
    · subst e
      rw [if_pos rfl] at he ⊢
      exact child (h.ex i hi a (hexc a he) k z (old hz).2 hl)
    · rw [hst j e]
      rw [if_neg e] at he
      by_cases e2 : j = i
      · subst e2
        rw [if_pos rfl] at he
        exact (h.ex j hi a (hex a he) k z (old hz).2 hl).app _
      · rw [if_neg e2] at he
        exact (h.ex j (by omega) a he k z (old hz).2 hl).app _
  · intro j hj a he k z hz hl hw
    by_cases e : j = N
    · subst e
      rw [if_pos rfl] at he ⊢
      exact child (h.rd i hi a (hrdc a he) k z (old hz).2 hl hw)
    · rw [hst j e]
      rw [if_neg e] at he
      by_cases e2 : j = i
      · subst e2
        rw [if_pos rfl] at he
        exact (h.rd j hi a (hrd a he) k z (old hz).2 hl hw).app _
      · rw [if_neg e2] at he
        exact (h.rd j (by omega) a he k z (old hz).2 hl hw).app _
  · intro j hj c hc k hk hcn
    obtain ⟨hkl, hcn'⟩ := cold hcn
    rw [g?_old hkl] at hk
    by_cases e : j = N
    · subst e
      rw [if_pos rfl, ec.2.2] at hc
      have hc : c = j := hc
      subst hc
      obtain ⟨op, hop, hog⟩ := Option.map_eq_some_iff.1 hk
      have := h.low op (mem_of_getElem? hop)
      omega
    · rw [hst j e]
      rw [if_neg e] at hc
      by_cases e2 : j = i
      · subst e2
        rw [if_pos rfl, ei.2.2] at hc
        exact (h.jn j hi c hc k hk hcn').app _
      · rw [if_neg e2] at hc
        exact (h.jn j (by omega) c hc k hk hcn').app _
  · intro j hj
    rw [dsame]
    by_cases e : j = N
    · subst e; rw [if_pos rfl, ec.2.1]; exact hN
    · rw [if_neg e]
      by_cases e2 : j = i
      · subst e2; rw [if_pos rfl, ei.2.1]; exact hdi
      · rw [if_neg e2]; exact h.df j (by omega)
  · intro j hj p a hp
    by_cases e : j = N
    · subst e; rw [if_pos rfl, ec.1] at hp; cases hp
    · rw [hst j e] at hp
      obtain ⟨h1, h2, h3⟩ := h.relp j (by omega) p a hp
      have hpl := lt_of_act? h1
      exact ⟨by rw [act?_old hpl]; exact h1, (heard_old hpl).2 h2, by rw [g?_old hpl]; exact h3⟩
  · simp only [List.mem_toArray, List.mem_cons, List.not_mem_nil, or_false] at hop
    rcases hop with rfl | rfl
    · rw [hx.2]; trivial
    · rw [hy.2]; trivial

/-- An operation that touches nothing, and is neither 'disable' nor 'enable' nor 'release'. -/
def Still (x : MemAct) : Prop := x.touch? = none ∧ x ≠ .mark .disable ∧ x ≠ .mark .enable ∧ ∀ a, x ≠ .mark (.release a)
theorem Deaf_still {x : MemOp} (h : Still x.act) (j : Nat) : Deaf (t ++ #[x]) j = Deaf t j := by
  rw [Deaf_push]
  unfold deafStep
  split
  · rename_i e; exact absurd e h.2.1
  · rename_i e; exact absurd e h.2.2.1
  · rfl
theorem still_old {x : MemOp} (h : Still x.act) {k : Nat} {z : Touch} (hz : touchAt (t ++ #[x]) k = some z) : k < t.size ∧ touchAt t k = some z := by
  obtain ⟨op, hop, hox⟩ := touch_of hz
  rcases getElem?_append_cases hop with ⟨hk, hop'⟩ | ⟨_, hou⟩
  · exact ⟨hk, by rw [touchAt_of hop']; exact hox⟩
  · simp only [List.mem_toArray, List.mem_cons, List.not_mem_nil, or_false] at hou
    subst hou
    rw [h.1] at hox; cases hox

/-- A step that touches nothing: what is known stays known; a goroutine may come to stand otherwise. -/
theorem TInv.still (h : TInv N B f AT sd t) {x : MemOp} (hxi : x.g < N) (hs : Still x.act) (hlow : x.act.low B) {f' : Nat → Tg} (hdf : ∀ j, j < N → (f' j).df = (f j).df)
    (hrel : ∀ j, j < N → ∀ p a, (f' j).st = .rel p a → (f j).st = .rel p a ∨ (p = t.size ∧ x.act = .mark (.releaseMerge a) ∧ x.g = j ∧ (f j).df = 0))
    (hkn : ∀ j, j < N → ∀ k, k < t.size → ((∃ a, (f' j).ex a ∧ ∃ z, touchAt t k = some z ∧ z.loc = .cell a) → Kn (t ++ #[x]) (f' j).st j k) ∧ ((∃ a, (f' j).rd a ∧ ∃ z, touchAt t k = some z ∧ z.loc = .cell a ∧ z.write = true) → Kn (t ++ #[x]) (f' j).st j k) ∧ ((∃ c, (f' j).jn c ∧ t.g? k = some c ∧ t.counts k) → Kn (t ++ #[x]) (f' j).st j k)) :
    TInv N B f' AT sd (t ++ #[x]) := by
  have old := @still_old t x hs
  refine ⟨fun said => ?_, ?_, ?_, ?_, ?_, ?_, ?_, ?_, ?_, ?_, seen_app h.seen fun op hop => ?_⟩
  · rintro ⟨a, b, hab, ⟨xa, xb, h1, h2, hc⟩, n1, n2⟩
    exact h.clean said ⟨a, b, hab, ⟨xa, xb, (old h1).2, (old h2).2, hc⟩, fun e => n1 (hb_app _ e), fun e => n2 (hb_app _ e)⟩
  · intro op hop
    rcases Array.mem_append.1 hop with ho | ho
    · exact h.low op ho
    · have : op = x := by simpa using ho
      rw [this]; exact hxi
  · intro op hop
    rcases Array.mem_append.1 hop with ho | ho
    · exact h.norel op ho
    · have : op = x := by simpa using ho
      rw [this]; exact hs.2.2.2
  · intro k z hz c hc; exact h.plainObj k z (old hz).2 c hc
  · intro k z a hz hl hA
    refine ⟨(h.at_ k z a (old hz).2 hl hA).1, fun e => ?_⟩
    rw [g?_old (old hz).1]; exact (h.at_ k z a (old hz).2 hl hA).2 e
  · intro j hj a he k z hz hl
    exact (hkn j hj k (old hz).1).1 ⟨a, he, z, (old hz).2, hl⟩
  · intro j hj a he k z hz hl hw
    exact (hkn j hj k (old hz).1).2.1 ⟨a, he, z, (old hz).2, hl, hw⟩
  · intro j hj c hc k hk hcn
    have hkl : k < t.size := by
      obtain ⟨z, hz, _⟩ := hcn
      exact (old (k := k) (z := z) hz).1
    exact (hkn j hj k hkl).2.2 ⟨c, hc, by rw [← g?_old (u := #[x]) hkl]; exact hk, (counts_old hkl).1 hcn⟩
  · intro j hj; rw [Deaf_still hs, hdf j hj]; exact h.df j hj
  · intro j hj p a hp
    rcases hrel j hj p a hp with h1 | ⟨rfl, h2, h3, h4⟩
    · obtain ⟨h1, h2, h3⟩ := h.relp j hj p a h1
      have hpl := lt_of_act? h1
      exact ⟨by rw [act?_old hpl]; exact h1, (heard_old hpl).2 h2, by rw [g?_old hpl]; exact h3⟩
    · have hxp : (t ++ #[x])[t.size]? = some x := by rw [Array.getElem?_append_right (Nat.le_refl _)]; simp
      exact ⟨by rw [act?_of hxp, h2], ⟨j, by simp [Trace.g?, h3], by rw [deaf_old (Nat.le_refl _)]; show Deaf t j = 0; rw [h.df j hj]; exact h4⟩, by simp [Trace.g?, h3]⟩
  · have : op = x := by simpa using hop
    rw [this]; exact hlow

/-- The release: what the goroutine has stands before it. -/
theorem TInv.release (h : TInv N B f AT sd t) {i : Nat} (hi : i < N) {x : MemOp} {a : Addr} (hx : x.g = i ∧ x.act = .mark (.releaseMerge a)) (ha : (f i).st = .act) (h0 : (f i).df = 0) (hb : a.block < B) :
    TInv N B (fun j => if j = i then { f i with st := .rel t.size a } else f j) AT sd (t ++ #[x]) := by
  have hxp : (t ++ #[x])[t.size]? = some x := by rw [Array.getElem?_append_right (Nat.le_refl _)]; simp
  have key : ∀ k, Kn t (f i).st i k → Kn (t ++ #[x]) (.rel t.size a) i k := fun k hk => by
    rw [ha] at hk
    exact .inr (Knows.hb_new hk (Nat.le_refl _) hxp hx.1)
  refine h.still (by rw [hx.1]; exact hi) ⟨by rw [hx.2]; rfl, by rw [hx.2]; simp, by rw [hx.2]; simp, by rw [hx.2]; simp⟩ (by rw [hx.2]; exact hb) (fun j hj => ?_) (fun j hj p a' hp => ?_) (fun j hj k hk => ?_)
  · by_cases e : j = i <;> simp [e]
  · by_cases e : j = i
    · subst e
      simp only [if_true] at hp
      cases hp
      exact .inr ⟨rfl, hx.2, hx.1, h0⟩
    · rw [if_neg e] at hp; exact .inl hp
  · by_cases e : j = i
    · subst e
      simp only [if_true]
      exact ⟨fun ⟨a', he, z, hz, hl⟩ => key k (h.ex j hj a' he k z hz hl), fun ⟨a', he, z, hz, hl, hw⟩ => key k (h.rd j hj a' he k z hz hl hw), fun ⟨c, hc, hg, hcn⟩ => key k (h.jn j hj c hc k hg hcn)⟩
    · simp only [if_neg e]
      exact ⟨fun ⟨a', he, z, hz, hl⟩ => (h.ex j hj a' he k z hz hl).app _, fun ⟨a', he, z, hz, hl, hw⟩ => (h.rd j hj a' he k z hz hl hw).app _, fun ⟨c, hc, hg, hcn⟩ => (h.jn j hj c hc k hg hcn).app _⟩

/-- The acquire: what was released at the address is the goroutine's. -/
theorem TInv.acquire (h : TInv N B f AT sd t) {i : Nat} (hi : i < N) {x : MemOp} {a : Addr} (hx : x.g = i ∧ x.act = .mark (.acquire a)) (ha : (f i).st = .act) (h0 : (f i).df = 0) (hb : a.block < B) (C : Nat → Prop) (hC : ∀ c, C c → c ≠ i ∧ c < N ∧ ∃ p, (f c).st = .rel p a)
    {gi : Tg} (ei : gi.st = .act ∧ gi.df = 0) (hex : ∀ b, gi.ex b → (f i).ex b ∨ ∃ c, C c ∧ (f c).ex b) (hrd : ∀ b, gi.rd b → (f i).rd b ∨ ∃ c, C c ∧ (f c).rd b) (hjn : ∀ b, gi.jn b → (f i).jn b ∨ ∃ c, C c ∧ (f c).jn b) [DecidablePred C] :
    TInv N B (fun j => if j = i then gi else if C j then { st := .gone, ex := fun _ => False, rd := fun _ => False, jn := fun _ => False, df := (f j).df } else f j) AT sd (t ++ #[x]) := by
  have hxp : (t ++ #[x])[t.size]? = some x := by rw [Array.getElem?_append_right (Nat.le_refl _)]; simp
  have hd : (t ++ #[x]).heard t.size := ⟨i, by simp [Trace.g?, hx.1], by rw [deaf_old (Nat.le_refl _)]; show Deaf t i = 0; rw [h.df i hi]; exact h0⟩
  have own : ∀ k, Kn t (f i).st i k → Kn (t ++ #[x]) gi.st i k := fun k hk => by rw [ei.1]; rw [ha] at hk; exact Knows.app _ hk
  have his : ∀ c, C c → ∀ k, Kn t (f c).st c k → Kn (t ++ #[x]) gi.st i k := fun c hc k hk => by
    obtain ⟨_, hcN, p, hp⟩ := hC c hc
    rw [hp] at hk
    obtain ⟨h1, h2, h3⟩ := h.relp c hcN p a hp
    have hpl := lt_of_act? h1
    have edge : HappensBefore (t ++ #[x]) p t.size := .single (.inr ⟨.marked hpl (.inr (by rw [act?_old hpl]; exact h1)) (by rw [act?_of hxp, hx.2]) (fun q _ hq e => by
      rw [act?_old hq] at e
      obtain ⟨op, ho, hoa⟩ := Option.map_eq_some_iff.1 e
      exact h.norel op (mem_of_getElem? ho) a hoa), (heard_old hpl).2 h2, hd⟩)
    rw [ei.1]
    exact ⟨t.size, x, hxp, hx.1, .inr ((Before.app #[x] hk).hb edge)⟩
  refine h.still (by rw [hx.1]; exact hi) ⟨by rw [hx.2]; rfl, by rw [hx.2]; simp, by rw [hx.2]; simp, by rw [hx.2]; simp⟩ (by rw [hx.2]; exact hb) (fun j hj => ?_) (fun j hj p a' hp => ?_) (fun j hj k hk => ?_)
  · by_cases e : j = i
    · subst e; simp only [if_true]; rw [ei.2, h0]
    · simp only [if_neg e]; by_cases e2 : C j <;> simp [e2]
  · by_cases e : j = i
    · subst e; simp only [if_true] at hp; rw [ei.1] at hp; cases hp
    · simp only [if_neg e] at hp
      by_cases e2 : C j
      · simp only [if_pos e2] at hp; cases hp
      · simp only [if_neg e2] at hp; exact .inl hp
  · by_cases e : j = i
    · subst e
      simp only [if_true]
      refine ⟨fun ⟨b, he, z, hz, hl⟩ => ?_, fun ⟨b, he, z, hz, hl, hw⟩ => ?_, fun ⟨c, hc, hg, hcn⟩ => ?_⟩
      · rcases hex b he with h1 | ⟨c, hc, h1⟩
        · exact own k (h.ex j hj b h1 k z hz hl)
        · exact his c hc k (h.ex c (hC c hc).2.1 b h1 k z hz hl)
      · rcases hrd b he with h1 | ⟨c, hc, h1⟩
        · exact own k (h.rd j hj b h1 k z hz hl hw)
        · exact his c hc k (h.rd c (hC c hc).2.1 b h1 k z hz hl hw)
      · rcases hjn c hc with h1 | ⟨c', hc', h1⟩
        · exact own k (h.jn j hj c h1 k hg hcn)
        · exact his c' hc' k (h.jn c' (hC c' hc').2.1 c h1 k hg hcn)
    · simp only [if_neg e]
      by_cases e2 : C j
      · simp only [if_pos e2]
        exact ⟨fun _ => trivial, fun _ => trivial, fun _ => trivial⟩
      · simp only [if_neg e2]
        exact ⟨fun ⟨a', he, z, hz, hl⟩ => (h.ex j hj a' he k z hz hl).app _, fun ⟨a', he, z, hz, hl, hw⟩ => (h.rd j hj a' he k z hz hl hw).app _, fun ⟨c, hc, hg, hcn⟩ => (h.jn j hj c hc k hg hcn).app _⟩

/-- All is handed over, where goroutine 0 knows all that the others did. -/
theorem TInv.over (h : TInv N B f AT sd t) (h0 : 0 < N) (ha : (f 0).st = .act) (hj : ∀ i, i < N → i ≠ 0 → (f 0).jn i) : t.HandedOver := by
  intro k g hg hne hc
  obtain ⟨op, hop, hog⟩ := Option.map_eq_some_iff.1 hg
  have hlow := h.low op (mem_of_getElem? hop)
  rw [hog] at hlow
  have hk := h.jn 0 h0 g (hj g hlow hne) k hg hc
  rw [ha] at hk
  obtain ⟨q, z, h1, h2, h3⟩ := hk
  rcases h3 with rfl | h3
  · rw [hop] at h1
    cases h1
    omega
  · exact ⟨q, by simp [Trace.g?, h1, h2], h3⟩
end
end Go.Proofs.Ytofohjbcgchhoaa
