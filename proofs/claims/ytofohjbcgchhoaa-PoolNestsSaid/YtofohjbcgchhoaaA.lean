/-
  TRACES: goroutines that own places, hand them to a child, release them at a group's address, acquire what was released.
-/
import Derived.Test.YtofohjbcgchhoaaRows
import Derived.Conc.Beside
import Derived.Conc.CrowdTrace
namespace Go.Proofs.Ytofohjbcgchhoaa
open Go.Conc

/-- Where a goroutine stands: it works; it has released, at this place of the trace, what it had, at this address; it has nothing any more. -/
inductive St where
  | act
  | rel (p : Nat) (a : Addr)
  | gone
/-- What the trace is asked of a goroutine: the cells that are its own; those that it may read; the goroutines whose doing it has come to know; how deaf it is. -/
structure Tg where
  st : St
  ex : Addr → Prop
  rd : Addr → Prop
  jn : Nat → Prop
  df : Nat

/-- The operation k is known to the goroutine i (or stands before its release). -/
def Kn (t : Trace) (st : St) (i k : Nat) : Prop :=
  match st with
  | .act => Knows t i k
  | .rel p _ => Before t k p
  | .gone => True
theorem Kn.app {t : Trace} (u : Trace) {st : St} {i k : Nat} (h : Kn t st i k) : Kn (t ++ u) st i k := by
  cases st with
  | act => exact Knows.app u h
  | rel p a => exact Before.app u h
  | gone => trivial

structure TInv (N B : Nat) (f : Nat → Tg) (AT : Addr → Prop) (sd : Addr → Nat) (t : Trace) : Prop where
  clean : ∀ said, ¬ Race said t
  low : ∀ op ∈ t, op.g < N
  norel : ∀ op ∈ t, ∀ a, op.act ≠ .mark (.release a)
  plainObj : ∀ k x, touchAt t k = some x → ∀ c, x.loc = .obj c → x.kind = .atomic
  at_ : ∀ k x a, touchAt t k = some x → x.loc = .cell a → AT a → x.kind ≠ .plain ∧ (x.kind = .said → t.g? k = some (sd a))
  ex : ∀ i, i < N → ∀ a, (f i).ex a → ∀ k x, touchAt t k = some x → x.loc = .cell a → Kn t (f i).st i k
  rd : ∀ i, i < N → ∀ a, (f i).rd a → ∀ k x, touchAt t k = some x → x.loc = .cell a → x.write = true → Kn t (f i).st i k
  jn : ∀ i, i < N → ∀ c, (f i).jn c → ∀ k, t.g? k = some c → t.counts k → Kn t (f i).st i k
  df : ∀ i, i < N → Deaf t i = (f i).df
  relp : ∀ i, i < N → ∀ p a, (f i).st = .rel p a → t.act? p = some (.mark (.releaseMerge a)) ∧ t.heard p ∧ t.g? p = some i
  seen : ∀ op ∈ t, op.act.low B

/-- The goroutines' cells lie apart. -/
structure Disj (N : Nat) (f : Nat → Tg) (AT : Addr → Prop) : Prop where
  ex : ∀ i j, i < N → j < N → i ≠ j → ∀ a, (f i).ex a → ¬ (f j).ex a
  rd : ∀ i j, i < N → j < N → ∀ a, (f i).ex a → ¬ (f j).rd a
  exAT : ∀ i, i < N → ∀ a, (f i).ex a → ¬ AT a
  rdAT : ∀ i, i < N → ∀ a, (f i).rd a → ¬ AT a
  self : ∀ i j, i < N → j < N → i ≠ j → (f i).st = .act → (f j).jn i → False

/-- What goroutine i may list. -/
def OkEv (g : Tg) (AT : Addr → Prop) (sd : Addr → Nat) (i B : Nat) (e : Event) : Prop :=
  match e with
  | ⟨.cell a, wr, false⟩ => a.block < B ∧ (g.ex a ∨ (wr = false ∧ g.rd a))
  | ⟨.cell a, _, true⟩ => a.block < B ∧ AT a
  | ⟨.obj c, _, true⟩ => c < B
  | ⟨.mark (.read a), _, _⟩ | ⟨.mark (.write a), _, _⟩ => a.block < B ∧ AT a ∧ sd a = i
  | ⟨.mark (.releaseMerge a), _, _⟩ | ⟨.mark (.acquire a), _, _⟩ => a.block < B
  | ⟨.mark .disable, _, _⟩ | ⟨.mark .enable, _, _⟩ | ⟨.mark .noRoom, _, _⟩ => True
  | _ => False

/-- What an operation of goroutine i's may be: as OkEv, said of the trace's entry. -/
def OkAct (g : Tg) (AT : Addr → Prop) (sd : Addr → Nat) (i B : Nat) (x : MemAct) : Prop :=
  x.low B ∧ (∀ a, x ≠ .mark (.release a)) ∧ ∀ y, x.touch? = some y →
    match y.loc with
    | .cell a => (y.kind = .plain ∧ (g.ex a ∨ (y.write = false ∧ g.rd a))) ∨ (AT a ∧ y.kind ≠ .plain ∧ (y.kind = .said → sd a = i)) ∨ (g.st = .act ∧ g.ex a)
    | .obj _ => y.kind = .atomic
    | _ => False

theorem okAct_of {g : Tg} {AT : Addr → Prop} {sd : Addr → Nat} {i B : Nat} {e : Event} (h : OkEv g AT sd i B e) : OkAct g AT sd i B (.ofEvent e) := by
  obtain ⟨loc, wr, sy⟩ := e
  cases loc with
  | cell a =>
    cases sy with
    | false => exact ⟨h.1, (fun _ => by simp [MemAct.ofEvent]), fun y hy => by
        simp only [MemAct.ofEvent, MemAct.touch?, Option.some.injEq] at hy
        subst hy
        exact .inl ⟨by simp, h.2⟩⟩
    | true => exact ⟨h.1, (fun _ => by simp [MemAct.ofEvent]), fun y hy => by
        simp only [MemAct.ofEvent, MemAct.touch?, Option.some.injEq] at hy
        subst hy
        exact .inr (.inl ⟨h.2, by simp, by simp⟩)⟩
  | obj c =>
    cases sy with
    | false => exact h.elim
    | true =>
      cases wr with
      | true => exact ⟨h, (fun _ => by simp [MemAct.ofEvent]), fun y hy => by simp [MemAct.ofEvent, MemAct.touch?] at hy⟩
      | false => exact ⟨h, (fun _ => by simp [MemAct.ofEvent]), fun y hy => by
          simp only [MemAct.ofEvent, MemAct.touch?, Option.some.injEq] at hy
          subst hy
          simp⟩
  | output => cases sy <;> exact h.elim
  | goroutines => cases sy <;> exact h.elim
  | mark m =>
    cases m with
    | read a => exact ⟨h.1, (fun _ => by simp [MemAct.ofEvent]), fun y hy => by
        simp only [MemAct.ofEvent, MemAct.touch?, Option.some.injEq] at hy
        subst hy
        exact .inr (.inl ⟨h.2.1, by simp, fun _ => h.2.2⟩)⟩
    | write a => exact ⟨h.1, (fun _ => by simp [MemAct.ofEvent]), fun y hy => by
        simp only [MemAct.ofEvent, MemAct.touch?, Option.some.injEq] at hy
        subst hy
        exact .inr (.inl ⟨h.2.1, by simp, fun _ => h.2.2⟩)⟩
    | releaseMerge a => exact ⟨h, (fun _ => by simp [MemAct.ofEvent]), fun y hy => by simp [MemAct.ofEvent, MemAct.touch?] at hy⟩
    | acquire a => exact ⟨h, (fun _ => by simp [MemAct.ofEvent]), fun y hy => by simp [MemAct.ofEvent, MemAct.touch?] at hy⟩
    | disable => exact ⟨trivial, (fun _ => by simp [MemAct.ofEvent]), fun y hy => by simp [MemAct.ofEvent, MemAct.touch?] at hy⟩
    | enable => exact ⟨trivial, (fun _ => by simp [MemAct.ofEvent]), fun y hy => by simp [MemAct.ofEvent, MemAct.touch?] at hy⟩
    | noRoom => exact ⟨trivial, (fun _ => by simp [MemAct.ofEvent]), fun y hy => by simp [MemAct.ofEvent, MemAct.touch?] at hy⟩
    | release a => exact h.elim
    | _ => exact h.elim

section
variable {N B : Nat} {f : Nat → Tg} {AT : Addr → Prop} {sd : Addr → Nat} {t u : Trace}

theorem g?_new {k : Nat} {op : MemOp} (h : (t ++ u)[k]? = some op) : (t ++ u).g? k = some op.g := by simp [Trace.g?, h]

/-- ONE GOROUTINE's OWN OPERATIONS. 'quiet': it has released already: what it still does does not count. -/
theorem TInv.own (h : TInv N B f AT sd t) (D : Disj N f AT) {i : Nat} (hi : i < N) (hg : ∀ op ∈ u, op.g = i) (hu : ∀ op ∈ u, OkAct (f i) AT sd i B op.act)
    (hs : (f i).st = .act ∨ ∀ k, t.size ≤ k → ¬ (t ++ u).counts k) {d : Nat} (hd : Deaf (t ++ u) i = d) (hpl : (f i).st = .act ∨ ∀ op ∈ u, ∀ x, op.act.touch? = some x → x.kind ≠ .plain ∧ x.kind ≠ .said) :
    TInv N B (fun j => if j = i then { f i with df := d } else f j) AT sd (t ++ u) := by
  have hst : ∀ j, (if j = i then { f i with df := d } else f j).st = (f j).st := fun j => by by_cases e : j = i <;> simp [e]
  have hex : ∀ j, (if j = i then { f i with df := d } else f j).ex = (f j).ex := fun j => by by_cases e : j = i <;> simp [e]
  have hrd : ∀ j, (if j = i then { f i with df := d } else f j).rd = (f j).rd := fun j => by by_cases e : j = i <;> simp [e]
  have hjn : ∀ j, (if j = i then { f i with df := d } else f j).jn = (f j).jn := fun j => by by_cases e : j = i <;> simp [e]
  -- a touch of the longer trace is old, or one of these
  have old : ∀ {k : Nat} {x : Touch}, touchAt (t ++ u) k = some x → (k < t.size ∧ touchAt t k = some x) ∨ (∃ op ∈ u, (t ++ u)[k]? = some op ∧ op.act.touch? = some x) := by
    intro k x hx
    obtain ⟨op, hop, hox⟩ := touch_of hx
    rcases getElem?_append_cases hop with ⟨hk, hop'⟩ | ⟨_, hou⟩
    · exact .inl ⟨hk, by rw [touchAt_of hop']; exact hox⟩
    · exact .inr ⟨op, hou, hop, hox⟩
  have mine : ∀ {k : Nat} {op : MemOp}, op ∈ u → (t ++ u)[k]? = some op → (f i).st = .act → Kn (t ++ u) (f i).st i k := by
    intro k op hou hop ha
    rw [ha]
    have := knows_own hop
    rwa [hg op hou] at this
  refine ⟨fun said => ?_, ?_, ?_, ?_, ?_, ?_, ?_, ?_, ?_, ?_, seen_app h.seen fun op hop => (hu op hop).1⟩
  · -- no race
    rintro ⟨a, b, hab, ⟨xa, xb, ha, hb, hc⟩, n1, n2⟩
    rcases old hb with ⟨hbl, hb'⟩ | ⟨op, hou, hop, hox⟩
    · rcases old ha with ⟨hal, ha'⟩ | ⟨opa, hopa, hopa', _⟩
      · exact h.clean said ⟨a, b, hab, ⟨xa, xb, ha', hb', hc⟩, fun e => n1 (hb_app u e), fun e => n2 (hb_app u e)⟩
      · rcases getElem?_append_cases hopa' with ⟨hal, _⟩ | ⟨hal, _⟩
        · obtain ⟨z, hz, hzx⟩ := touch_of ha
          have hz' : t[a]? = some z := by rw [← getElem?_append_old (u := u) hal]; exact hz
          exact h.clean said ⟨a, b, hab, ⟨xa, xb, by rw [show (t.act? a).bind (·.touch?) = touchAt t a from rfl, touchAt_of hz']; exact hzx, hb', hc⟩, fun e => n1 (hb_app u e), fun e => n2 (hb_app u e)⟩
        · omega
    · have hbg : t.size ≤ b := by
        rcases getElem?_append_cases hop with ⟨hbl, hop'⟩ | ⟨hbl, _⟩
        · exfalso
          -- an old entry: then it is old
          have hb' : touchAt t b = some xb := by rw [touchAt_of hop']; exact hox
          rcases old ha with ⟨hal, ha'⟩ | ⟨opa, _, hopa', hoax⟩
          · exact h.clean said ⟨a, b, hab, ⟨xa, xb, ha', hb', hc⟩, fun e => n1 (hb_app u e), fun e => n2 (hb_app u e)⟩
          · have hal : a < t.size := by omega
            have hz' : t[a]? = some opa := by rw [← getElem?_append_old (u := u) hal]; exact hopa'
            exact h.clean said ⟨a, b, hab, ⟨xa, xb, by rw [show (t.act? a).bind (·.touch?) = touchAt t a from rfl, touchAt_of hz']; exact hoax, hb', hc⟩, fun e => n1 (hb_app u e), fun e => n2 (hb_app u e)⟩
        · exact hbl
      rcases old ha with ⟨hal, ha'⟩ | ⟨opa, hopa, hopa', _⟩
      · -- old against new
        have hok := (hu op hou).2.2 xb hox
        obtain ⟨hloc, hmem, hw, hk⟩ := hc
        have knows : Knows t i a → False := fun hkn => n1 (hkn.hb_new hbg hop (hg op hou))
        cases hl : xb.loc with
        | cell ad =>
          rw [hl] at hok hloc
          rcases hok with ⟨hpk, hexr⟩ | ⟨hAT, hnp, hsd⟩ | ⟨hact, he⟩
          · -- plain
            have hact : (f i).st = .act := by
              rcases hpl with e | e
              · exact e
              · exact absurd hpk (e op hou xb hox).1
            rcases hexr with he | ⟨hwf, hr⟩
            · have := h.ex i hi ad he a xa ha' hloc
              rw [hact] at this
              exact knows this
            · have hwa : xa.write = true := by rcases hw with e | e <;> simp_all
              have := h.rd i hi ad hr a xa ha' hloc hwa
              rw [hact] at this
              exact knows this
          · -- atomic or said
            obtain ⟨hx1, hx2⟩ := h.at_ a xa ad ha' hloc hAT
            rcases hk with e | e | ⟨_, e1, e2⟩
            · exact hx1 e
            · exact hnp e
            · have hact : (f i).st = .act := by
                rcases hpl with e | e
                · exact e
                · exact absurd e2 (e op hou xb hox).2
              have hga := hx2 e1
              rw [hsd e2] at hga
              obtain ⟨z, hz, _⟩ := touch_of ha'
              have hzg : z.g = i := by simpa [Trace.g?, hz] using hga
              have := knows_own hz
              rw [hzg] at this
              exact knows this
          · have := h.ex i hi ad he a xa ha' hloc
            rw [hact] at this
            exact knows this
        | obj c =>
          rw [hl] at hok hloc
          have h1 := h.plainObj a xa ha' c hloc
          have h2 : xb.kind = .atomic := hok
          rcases hk with e | e | ⟨_, e1, _⟩
          · rw [h1] at e; cases e
          · rw [h2] at e; cases e
          · rw [h1] at e1; cases e1
        | output => rw [hl] at hok; exact hok
        | goroutines => rw [hl] at hok; exact hok
        | mark m => rw [hl] at hok; exact hok
      · exact n1 (hb_po hab hopa' hop ((hg opa hopa).trans (hg op hou).symm))
  · intro op hop
    rcases Array.mem_append.1 hop with ho | ho
    · exact h.low op ho
    · rw [hg op ho]; exact hi
  · intro op hop
    rcases Array.mem_append.1 hop with ho | ho
    · exact h.norel op ho
    · exact (hu op ho).2.1
  · intro k x hx c hc
    rcases old hx with ⟨_, hx'⟩ | ⟨op, hou, _, hox⟩
    · exact h.plainObj k x hx' c hc
    · have := (hu op hou).2.2 x hox
      rw [hc] at this
      exact this
  · intro k x a hx hl hA
    rcases old hx with ⟨hk, hx'⟩ | ⟨op, hou, hop, hox⟩
    · refine ⟨(h.at_ k x a hx' hl hA).1, fun e => ?_⟩
      rw [g?_old hk]; exact (h.at_ k x a hx' hl hA).2 e
    · have := (hu op hou).2.2 x hox
      rw [hl] at this
      rcases this with ⟨_, he⟩ | ⟨_, h2, h3⟩ | ⟨_, he⟩
      · rcases he with he | ⟨_, he⟩
        · exact absurd hA (D.exAT i hi a he)
        · exact absurd hA (D.rdAT i hi a he)
      · refine ⟨h2, fun e => ?_⟩
        rw [g?_new hop, hg op hou, h3 e]
      · exact absurd hA (D.exAT i hi a he)
  · intro j hj a he k x hx hl
    rw [hex] at he
    rw [hst]
    rcases old hx with ⟨_, hx'⟩ | ⟨op, hou, hop, hox⟩
    · exact (h.ex j hj a he k x hx' hl).app u
    · have := (hu op hou).2.2 x hox
      rw [hl] at this
      by_cases hji : j = i
      · subst hji
        rcases hpl with e | e
        · exact mine hou hop e
        · rcases this with ⟨hp, _⟩ | ⟨hA, _⟩ | ⟨ha, _⟩
          · exact absurd hp (e op hou x hox).1
          · exact absurd hA (D.exAT j hj a he)
          · exact mine hou hop ha
      · rcases this with ⟨_, hm⟩ | ⟨hA, _⟩ | ⟨_, hm⟩
        · rcases hm with hm | ⟨_, hm⟩
          · exact absurd hm (D.ex j i hj hi hji a he)
          · exact absurd hm (D.rd j i hj hi a he)
        · exact absurd hA (D.exAT j hj a he)
        · exact absurd hm (D.ex j i hj hi hji a he)
  · intro j hj a he k x hx hl hw
    rw [hrd] at he
    rw [hst]
    rcases old hx with ⟨_, hx'⟩ | ⟨op, hou, hop, hox⟩
    · exact (h.rd j hj a he k x hx' hl hw).app u
    · have := (hu op hou).2.2 x hox
      rw [hl] at this
      rcases this with ⟨_, hm⟩ | ⟨hA, _⟩ | ⟨_, hm⟩
      · rcases hm with hm | ⟨hwf, _⟩
        · exact absurd he (D.rd i j hi hj a hm)
        · rw [hw] at hwf; cases hwf
      · exact absurd hA (D.rdAT j hj a he)
      · exact absurd he (D.rd i j hi hj a hm)
  · intro j hj c hc k hk hcn
    rw [hjn] at hc
    rw [hst]
    by_cases hkl : k < t.size
    · exact (h.jn j hj c hc k (by rw [← g?_old (u := u) hkl]; exact hk) ((counts_old hkl).1 hcn)).app u
    · rcases hs with ha | ha
      · obtain ⟨x, hx, _⟩ := hcn
        obtain ⟨op, hop, _⟩ := touch_of hx
        have hou : op ∈ u := by
          rcases getElem?_append_cases hop with ⟨h1, _⟩ | ⟨_, h1⟩
          · exact absurd h1 hkl
          · exact h1
        have hci : c = i := by
          rw [g?_new hop, hg op hou] at hk
          cases hk; rfl
        subst hci
        by_cases hji : j = c
        · subst hji; exact mine hou hop ha
        · exact (D.self c j hi hj (fun e => hji e.symm) ha hc).elim
      · exact absurd hcn (ha k (by omega))
  · intro j hj
    by_cases e : j = i
    · subst e; simpa using hd
    · rw [if_neg e, Deaf_other t (fun e' => e e'.symm) u hg]
      exact h.df j hj
  · intro j hj p a hp
    rw [hst] at hp
    obtain ⟨h1, h2, h3⟩ := h.relp j hj p a hp
    have hpl' := lt_of_act? h1
    exact ⟨by rw [act?_old hpl']; exact h1, (heard_old hpl').2 h2, by rw [g?_old hpl']; exact h3⟩
end
end Go.Proofs.Ytofohjbcgchhoaa
