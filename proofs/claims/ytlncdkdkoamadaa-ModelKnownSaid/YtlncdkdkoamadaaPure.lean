/-
  PLAIN LAW: the pool's schedules as a machine on lists, with no program in sight: its states, its steps, what they keep (each run of n nodes ends behind 2 n - 1 moves; ahead of that some thread is ready).
-/
namespace Go.Proofs.Ytlncdkdkoamadaa

/-- A run: the number of nodes, of threads (the caller's among them), the parents as they were told, which nodes have begun, and ended, the threads' stacks (bottom first), the moves. -/
structure G where
  n : Nat
  T : Nat
  par : Nat → Int
  beg : Nat → Bool
  fin : Nat → Bool
  stk : Nat → List Nat
  mov : Nat

namespace G

/-- Is c a child of p? -/
def kid (s : G) (p c : Nat) : Bool := decide (0 < c) && decide (s.par c = (p : Int))
/-- The children of p, rising. -/
def ch (s : G) (p : Nat) : List Nat := (List.range s.n).filter (s.kid p)
/-- How many children of p have begun. -/
def nx (s : G) (p : Nat) : Nat := ((s.ch p).filter s.beg).length
/-- Which nodes are open. -/
def opn (s : G) (i : Nat) : Bool := s.beg i && !s.fin i
/-- How many children of p are open. -/
def ou (s : G) (p : Nat) : Nat := ((s.ch p).filter s.opn).length
/-- The node on top of a stack. -/
def top (s : G) (t : Nat) : Nat := (s.stk t).getLastD 0
/-- The first child that has not begun. -/
def kid? (s : G) (p : Nat) : Option Nat := (List.range s.n).find? fun c => s.kid p c && !s.beg c
/-- Is thread t ready? -/
def rdy (s : G) (t : Nat) : Bool := decide (t < s.T) && !(s.stk t).isEmpty && (decide (s.nx (s.top t) < (s.ch (s.top t)).length) || s.ou (s.top t) == 0)
/-- The least thread from 1 on that is not alive. -/
def free? (s : G) : Option Nat := (List.range s.T).find? fun t => decide (0 < t) && (s.stk t).isEmpty
/-- On whose stack a new node goes, thread t making the move. -/
def onto (s : G) (t : Nat) : Nat := s.free?.getD t

/-- Thread t's move (t is ready): the thread, the node, whether it ends. -/
def move (s : G) (t : Nat) : Nat × Nat × Bool :=
  match s.kid? (s.top t) with
  | none => (t, s.top t, true)
  | some c => (s.onto t, c, false)

/-- The state behind it. -/
def step (s : G) (t : Nat) : G :=
  match s.kid? (s.top t) with
  | none => { s with fin := fun i => if i = s.top t then true else s.fin i, stk := fun u => if u = t then (s.stk t).dropLast else s.stk u, mov := s.mov + 1 }
  | some c => { s with beg := fun i => if i = c then true else s.beg i, stk := fun u => if u = s.onto t then s.stk u ++ [c] else s.stk u, mov := s.mov + 1 }

/-- The threads that are ready. -/
def readies (s : G) : List Nat := (List.range s.T).filter s.rdy
/-- How many threads from 1 on are alive. -/
def alive (s : G) : Nat := ((List.range s.T).filter fun t => decide (0 < t) && !(s.stk t).isEmpty).length
/-- The open nodes. -/
def opens (s : G) : List Nat := (List.range s.n).filter s.opn

/-- A tree. -/
structure Tree (s : G) : Prop where
  pos : 1 ≤ s.n
  par : ∀ c, 0 < c → c < s.n → 0 ≤ s.par c ∧ s.par c < c

/-- What holds of every state that a run comes to. -/
structure Inv (s : G) : Prop where
  tree : s.Tree
  thr : 1 ≤ s.T
  begN : ∀ c, s.beg c = true → c < s.n
  beg0 : s.beg 0 = true
  begP : ∀ c (p : Nat), 0 < c → s.beg c = true → s.par c = (p : Int) → s.beg p = true
  begO : ∀ c d p, s.kid p c = true → s.kid p d = true → c < d → s.beg d = true → s.beg c = true
  finB : ∀ c, s.fin c = true → s.beg c = true
  finC : ∀ c p, c < s.n → s.kid p c = true → s.fin p = true → s.fin c = true
  stkO : ∀ t, t < s.T → ∀ i ∈ s.stk t, s.opn i = true
  stkS : ∀ t, t < s.T → (s.stk t).Pairwise (· < ·)
  stkE : ∀ i, s.opn i = true → ∃ t, t < s.T ∧ i ∈ s.stk t
  stkU : ∀ t u i, t < s.T → u < s.T → i ∈ s.stk t → i ∈ s.stk u → t = u
  cnt : s.mov + 1 = ((List.range s.n).filter s.beg).length + ((List.range s.n).filter s.fin).length

/-- A run at its beginning. -/
def init (n T : Nat) (par : Nat → Int) : G :=
  { n, T, par, beg := fun i => decide (i = 0), fin := fun _ => false, stk := fun t => if t = 0 then [0] else [], mov := 0 }

theorem top_mem {s : G} {t : Nat} (h : (s.stk t).isEmpty = false) : s.top t ∈ s.stk t := by
  have hne : s.stk t ≠ [] := by intro e; simp [e] at h
  unfold top
  rw [List.getLastD_eq_getLast?, List.getLast?_eq_some_getLast hne]
  exact List.getLast_mem hne

theorem filter_length_one {n c : Nat} (hc : c < n) : ((List.range n).filter fun i => decide (i = c)).length = 1 := by
  have h : (List.range n).filter (fun i => decide (i = c)) = [c] := by
    induction n with
    | zero => omega
    | succ n ih =>
      rw [List.range_succ, List.filter_append]
      by_cases e : c = n
      · subst e
        have h0 : (List.range c).filter (fun i => decide (i = c)) = [] := by
          rw [List.filter_eq_nil_iff]
          intro a ha
          have := List.mem_range.1 ha
          simp; omega
        rw [h0]; simp
      · rw [ih (by omega)]
        have : ¬ n = c := fun h => e h.symm
        simp [this]
  rw [h]; rfl

/-- One more that holds: one more that is counted. -/
theorem filter_set {p : Nat → Bool} {l : List Nat} {c : Nat} (hl : l.Nodup) (hc : c ∈ l) (h0 : p c = false) :
    (l.filter fun i => if i = c then true else p i).length = (l.filter p).length + 1 := by
  induction l with
  | nil => cases hc
  | cons x l ih =>
    rw [List.nodup_cons] at hl
    by_cases hx : x = c
    · subst hx
      have hsame : l.filter (fun i => if i = x then true else p i) = l.filter p := by
        apply List.filter_congr
        intro i hi
        have : i ≠ x := fun e => hl.1 (e ▸ hi)
        simp [this]
      rw [List.filter_cons, List.filter_cons, hsame]
      simp [h0]
    · have hc' : c ∈ l := by
        rcases List.mem_cons.1 hc with h | h
        · exact absurd h.symm hx
        · exact h
      have := ih hl.2 hc'
      rw [List.filter_cons, List.filter_cons]
      simp only [hx, if_false]
      split <;> simp_all

theorem filter_unset {p : Nat → Bool} {l : List Nat} {c : Nat} (hl : l.Nodup) (hc : c ∈ l) (h1 : p c = true) :
    (l.filter fun i => if i = c then false else p i).length + 1 = (l.filter p).length := by
  have h := filter_set (p := fun i => if i = c then false else p i) hl hc (by simp)
  rw [← h]
  congr 1
  apply List.filter_congr
  intro i _
  by_cases e : i = c
  · subst e; simp [h1]
  · simp [e]

theorem filter_same {p q : Nat → Bool} {l : List Nat} {c : Nat} (hc : c ∉ l) (h : ∀ i, i ≠ c → p i = q i) : l.filter p = l.filter q := by
  apply List.filter_congr
  intro i hi
  exact h i (fun e => hc (e ▸ hi))

theorem ch_nodup (s : G) (p : Nat) : (s.ch p).Nodup := List.Pairwise.filter _ List.nodup_range
theorem mem_ch {s : G} {p c : Nat} : c ∈ s.ch p ↔ c < s.n ∧ s.kid p c = true := by simp [ch]
theorem kid_lt {s : G} (ht : s.Tree) {p c : Nat} (hc : c < s.n) (h : s.kid p c = true) : p < c := by
  simp [kid] at h
  have := (ht.par c h.1 hc).2
  omega
theorem kid_pos {s : G} {p c : Nat} (h : s.kid p c = true) : 0 < c := by
  simp [kid] at h; exact h.1
theorem kid_par {s : G} {p c : Nat} (h : s.kid p c = true) : s.par c = (p : Int) := by
  simp [kid] at h; exact h.2
theorem kid_uniq {s : G} {p q c : Nat} (h : s.kid p c = true) (h' : s.kid q c = true) : p = q := by
  have := kid_par h; have := kid_par h'; omega

theorem kid?_some {s : G} {p c : Nat} (h : s.kid? p = some c) : c < s.n ∧ s.kid p c = true ∧ s.beg c = false ∧ ∀ d, s.kid p d = true → d < c → s.beg d = true := by
  unfold kid? at h
  have hm := List.mem_of_find?_eq_some h
  have hp := List.find?_some h
  simp at hp
  refine ⟨by simpa using hm, hp.1, hp.2, fun d hd hdc => ?_⟩
  rw [List.find?_eq_some_iff_append] at h
  obtain ⟨_, as, bs, hl, hall⟩ := h
  have hlen : as.length = c := by
    have h1 : (List.range s.n)[as.length]? = some c := by rw [hl]; simp
    rw [List.getElem?_range] at h1
    · simpa using h1
    · have := congrArg List.length hl
      simp at this; omega
  have hdm : d ∈ as := by
    have h1 : (List.range s.n)[d]? = some d := by
      rw [List.getElem?_range]
      have := congrArg List.length hl
      simp at this; omega
    rw [hl, List.getElem?_append_left (by omega)] at h1
    exact List.mem_of_getElem? h1
  have := hall d hdm
  simp [hd] at this
  exact this

theorem kid?_none {s : G} {p : Nat} (h : s.kid? p = none) : ∀ c, c < s.n → s.kid p c = true → s.beg c = true := by
  intro c hc hk
  unfold kid? at h
  rw [List.find?_eq_none] at h
  have := h c (by simpa using hc)
  simp [hk] at this
  exact this

/-- In a rising list, of which what holds is a beginning, the first one of which it doesn't hold stands behind all of which it does. -/
theorem prefix_get {p : Nat → Bool} : ∀ {l : List Nat}, l.Pairwise (· < ·) → (∀ c ∈ l, ∀ d ∈ l, c < d → p d = true → p c = true) →
    ∀ c ∈ l, p c = false → (∀ d ∈ l, d < c → p d = true) → l[(l.filter p).length]? = some c := by
  intro l
  induction l with
  | nil => intro _ _ c hc; cases hc
  | cons x l ih =>
    intro hs ho c hc h0 hb
    rw [List.pairwise_cons] at hs
    by_cases hx : p x = true
    · have hcx : c ≠ x := fun e => by rw [e, hx] at h0; cases h0
      have hcl : c ∈ l := by
        rcases List.mem_cons.1 hc with h | h
        · exact absurd h hcx
        · exact h
      rw [List.filter_cons, if_pos hx, List.length_cons, List.getElem?_cons_succ]
      exact ih hs.2 (fun a ha b hb' => ho a (List.mem_cons_of_mem _ ha) b (List.mem_cons_of_mem _ hb')) c hcl h0 (fun d hd => hb d (List.mem_cons_of_mem _ hd))
    · have hx' : p x = false := by simpa using hx
      have hall : l.filter p = [] := by
        rw [List.filter_eq_nil_iff]
        intro d hd hpd
        have := ho x (List.mem_cons_self) d (List.mem_cons_of_mem _ hd) (hs.1 d hd) hpd
        rw [hx'] at this; cases this
      rw [List.filter_cons, if_neg hx, hall]
      have hcx : c = x := by
        rcases List.mem_cons.1 hc with h | h
        · exact h
        · have := hb x List.mem_cons_self (hs.1 c h)
          rw [hx'] at this; cases this
      simp [hcx]

theorem ch_sorted (s : G) (p : Nat) : (s.ch p).Pairwise (· < ·) := List.Pairwise.filter _ List.pairwise_lt_range

/-- The child that begins next stands at the place that is kept for it. -/
theorem ch_nx {s : G} (hI : s.Inv) {p c : Nat} (h : s.kid? p = some c) : (s.ch p)[s.nx p]? = some c := by
  obtain ⟨hn, hk, hb, hl⟩ := kid?_some h
  exact prefix_get (s.ch_sorted p) (fun a ha b hb' => hI.begO a b p (mem_ch.1 ha).2 (mem_ch.1 hb').2) c (mem_ch.2 ⟨hn, hk⟩) hb (fun d hd => hl d (mem_ch.1 hd).2)

theorem nx_le (s : G) (p : Nat) : s.nx p ≤ (s.ch p).length := List.length_filter_le _ _
theorem ou_le (s : G) (p : Nat) : s.ou p ≤ (s.ch p).length := List.length_filter_le _ _
theorem ch_le (s : G) (p : Nat) : (s.ch p).length ≤ s.n := by
  have := List.length_filter_le (s.kid p) (List.range s.n)
  simpa [ch] using this

/-- Whether some child has not begun, as the program asks it. -/
theorem nx_lt {s : G} {p : Nat} : s.nx p < (s.ch p).length ↔ (s.kid? p).isSome = true := by
  constructor
  · intro h
    cases hk : s.kid? p with
    | some c => rfl
    | none =>
      exfalso
      have : (s.ch p).filter s.beg = s.ch p := by
        rw [List.filter_eq_self]
        intro c hc
        exact kid?_none hk c (mem_ch.1 hc).1 (mem_ch.1 hc).2
      unfold nx at h
      rw [this] at h; omega
  · intro h
    cases hk : s.kid? p with
    | none => rw [hk] at h; cases h
    | some c =>
      obtain ⟨hn, hkc, hb, _⟩ := kid?_some hk
      have h1 := filter_set (p := s.beg) (s.ch_nodup p) (mem_ch.2 ⟨hn, hkc⟩) hb
      have h2 := List.length_filter_le (fun i => if i = c then true else s.beg i) (s.ch p)
      unfold nx; omega

theorem ou_zero {s : G} {p : Nat} : s.ou p = 0 ↔ ∀ c, c < s.n → s.kid p c = true → s.opn c = false := by
  unfold ou
  rw [List.length_eq_zero_iff, List.filter_eq_nil_iff]
  constructor
  · intro h c hc hk
    simpa using h c (mem_ch.2 ⟨hc, hk⟩)
  · intro h c hc
    simpa using h c (mem_ch.1 hc).1 (mem_ch.1 hc).2

theorem rdy_spec {s : G} {t : Nat} (h : s.rdy t = true) : t < s.T ∧ (s.stk t).isEmpty = false ∧ ((s.kid? (s.top t)).isSome = true ∨ s.ou (s.top t) = 0) := by
  unfold rdy at h
  simp only [Bool.and_eq_true, Bool.or_eq_true, decide_eq_true_eq, Bool.not_eq_true', beq_iff_eq] at h
  exact ⟨h.1.1, h.1.2, h.2.imp nx_lt.1 id⟩

theorem free?_some {s : G} {u : Nat} (h : s.free? = some u) : u < s.T ∧ 0 < u ∧ s.stk u = [] := by
  unfold free? at h
  have hm := List.mem_of_find?_eq_some h
  have hp := List.find?_some h
  simp at hm hp
  exact ⟨hm, hp.1, hp.2⟩

theorem onto_lt {s : G} {t : Nat} (ht : t < s.T) : s.onto t < s.T := by
  unfold onto
  cases h : s.free? with
  | none => simpa using ht
  | some u => simpa using (free?_some h).1

theorem init_inv {n T : Nat} {par : Nat → Int} (hn : 1 ≤ n) (hT : 1 ≤ T) (hp : ∀ c, 0 < c → c < n → 0 ≤ par c ∧ par c < c) : (init n T par).Inv where
  tree := ⟨hn, hp⟩
  thr := hT
  begN := by intro c h; simp [init] at h ⊢; omega
  beg0 := by simp [init]
  begP := by intro c p hc h; simp [init] at h; omega
  begO := by intro c d p hc hd hcd h; simp [init] at h; omega
  finB := by intro c h; simp [init] at h
  finC := by intro c p _ _ h; simp [init] at h
  stkO := by
    intro t ht i hi
    simp [init] at hi
    by_cases e : t = 0 <;> simp [e] at hi
    simp [opn, init, hi]
  stkS := by
    intro t ht
    simp only [init]
    by_cases e : t = 0 <;> simp [e]
  stkE := by
    intro i h
    simp [opn, init] at h
    exact ⟨0, by simp [init]; omega, by simp [init, h]⟩
  stkU := by
    intro t u i _ _ h h'
    simp [init] at h h'
    by_cases e : t = 0 <;> by_cases e' : u = 0 <;> simp [e, e'] at h h' <;> omega
  cnt := by
    simp only [init]
    rw [filter_length_one (by omega)]
    simp

theorem dropLast_mem {l : List Nat} {i : Nat} (h : i ∈ l.dropLast) : i ∈ l := (List.dropLast_sublist _).subset h

theorem last_not_mem {l : List Nat} (hs : l.Pairwise (· < ·)) : l.getLastD 0 ∉ l.dropLast := by
  intro h
  rcases List.eq_nil_or_concat l with rfl | ⟨a, x, rfl⟩
  · simp at h
  · simp only [List.concat_eq_append, List.dropLast_concat, List.getLastD_concat] at h hs
    have := (List.pairwise_append.1 hs).2.2 x h x (by simp)
    omega

theorem mem_dropLast_or {l : List Nat} {i : Nat} (h : i ∈ l) : i ∈ l.dropLast ∨ i = l.getLastD 0 := by
  rcases List.eq_nil_or_concat l with rfl | ⟨a, x, rfl⟩
  · cases h
  · simpa [List.concat_eq_append, List.dropLast_concat, List.getLastD_concat] using h

theorem step_inv {s : G} (hI : s.Inv) {t : Nat} (hr : s.rdy t = true) : (s.step t).Inv := by
  obtain ⟨ht, hne, hdo⟩ := rdy_spec hr
  have htop := top_mem hne
  have hopn := hI.stkO t ht _ htop
  have hob : s.beg (s.top t) = true ∧ s.fin (s.top t) = false := by simpa [opn] using hopn
  unfold step
  cases hk : s.kid? (s.top t) with
  | none =>
    have hou : s.ou (s.top t) = 0 := by
      rcases hdo with h | h
      · rw [hk] at h; cases h
      · exact h
    have hclosed : ∀ c, c < s.n → s.kid (s.top t) c = true → s.fin c = true := by
      intro c hc hkc
      have h1 := kid?_none hk c hc hkc
      have h2 := ou_zero.1 hou c hc hkc
      simpa [opn, h1] using h2
    exact {
      tree := ⟨hI.tree.pos, hI.tree.par⟩
      thr := hI.thr
      begN := hI.begN
      beg0 := hI.beg0
      begP := hI.begP
      begO := hI.begO
      finB := by
        intro c h
        by_cases e : c = s.top t
        · subst e; exact hob.1
        · exact hI.finB c (by simpa [e] using h)
      finC := by
        intro c p hc hkc hp
        by_cases e : c = s.top t
        · simp [e]
        · simp only [e, if_false]
          by_cases e' : p = s.top t
          · subst e'; exact hclosed c hc hkc
          · exact hI.finC c p hc hkc (by simpa [e'] using hp)
      stkO := by
        intro u hu i hi
        have hiu : i ∈ s.stk u := by
          by_cases e : u = t
          · subst e; simp at hi; exact dropLast_mem hi
          · simpa [e] using hi
        have ho := hI.stkO u hu i hiu
        have hit : i ≠ s.top t := by
          intro e
          subst e
          have := hI.stkU u t _ hu ht hiu htop
          subst this
          simp at hi
          exact last_not_mem (hI.stkS u hu) hi
        simpa [opn, hit] using ho
      stkS := by
        intro u hu
        by_cases e : u = t
        · subst e
          simp only [if_true]
          exact (hI.stkS u hu).sublist (List.dropLast_sublist _)
        · simpa [e] using hI.stkS u hu
      stkE := by
        intro i hi
        have hit : i ≠ s.top t := by
          intro e; subst e; simp [opn] at hi
        have ho : s.opn i = true := by simpa [opn, hit] using hi
        obtain ⟨u, hu, hm⟩ := hI.stkE i ho
        refine ⟨u, hu, ?_⟩
        by_cases e : u = t
        · subst e
          simp only [if_true]
          rcases mem_dropLast_or hm with h | h
          · exact h
          · exact absurd h hit
        · simpa [e] using hm
      stkU := by
        intro u v i hu hv hiu hiv
        refine hI.stkU u v i hu hv ?_ ?_
        · by_cases e : u = t
          · subst e; simp at hiu; exact dropLast_mem hiu
          · simpa [e] using hiu
        · by_cases e : v = t
          · subst e; simp at hiv; exact dropLast_mem hiv
          · simpa [e] using hiv
      cnt := by
        have h1 := filter_set (p := s.fin) (l := List.range s.n) List.nodup_range (List.mem_range.2 (hI.begN _ hob.1)) hob.2
        have := hI.cnt
        show s.mov + 1 + 1 = _
        simp only
        rw [h1]
        omega }
  | some c =>
    obtain ⟨hcn, hkc, hcb, hcl⟩ := kid?_some hk
    have hcf : s.fin c = false := by
      cases h : s.fin c with
      | false => rfl
      | true => have := hI.finB c h; rw [hcb] at this; cases this
    have hpc := kid_lt hI.tree hcn hkc
    have hcno : s.opn c = false := by simp [opn, hcb]
    have hcs : ∀ u, u < s.T → c ∉ s.stk u := by
      intro u hu h
      have := hI.stkO u hu c h
      rw [hcno] at this; cases this
    have hon : s.onto t < s.T := onto_lt ht
    have hlast : ∀ x ∈ s.stk (s.onto t), x < c := by
      intro x hx
      unfold onto at hx
      cases hf : s.free? with
      | some u =>
        rw [hf] at hx
        simp [(free?_some hf).2.2] at hx
      | none =>
        rw [hf] at hx
        simp at hx
        rcases mem_dropLast_or hx with h | h
        · have hs := hI.stkS t ht
          have hx2 : x < s.top t := by
            rcases List.eq_nil_or_concat (s.stk t) with e | ⟨a, y, e⟩
            · rw [e] at hx; cases hx
            · rw [e] at hs h
              simp only [List.concat_eq_append, List.dropLast_concat] at h hs
              have := (List.pairwise_append.1 hs).2.2 x h y (by simp)
              unfold top; rw [e]; simpa using this
          omega
        · have : x = s.top t := h
          omega
    exact {
      tree := ⟨hI.tree.pos, hI.tree.par⟩
      thr := hI.thr
      begN := by
        intro d h
        by_cases e : d = c
        · subst e; exact hcn
        · exact hI.begN d (by simpa [e] using h)
      beg0 := by
        have := kid_pos hkc
        simp [show ¬ 0 = c by omega, hI.beg0]
      begP := by
        intro d p hd h hp
        have hp : s.par d = (p : Int) := hp
        have goal : s.beg p = true := by
          by_cases e : d = c
          · subst e
            have : p = s.top t := by have := kid_par hkc; omega
            subst this; exact hob.1
          · exact hI.begP d p hd (by simpa [e] using h) hp
        simp [goal]
      begO := by
        intro d e p hd he hde h
        have hde' : s.kid p d = true := hd
        have hee' : s.kid p e = true := he
        by_cases e1 : d = c
        · simp [e1]
        · simp only [e1, if_false]
          by_cases e2 : e = c
          · subst e2
            have : p = s.top t := kid_uniq hee' hkc
            subst this
            exact hcl d hde' hde
          · exact hI.begO d e p hde' hee' hde (by simpa [e2] using h)
      finB := by
        intro d h
        have := hI.finB d h
        simp [this]
      finC := hI.finC
      stkO := by
        intro u hu i hi
        by_cases e : i = c
        · simp [opn, e, hcf]
        · have hiu : i ∈ s.stk u := by
            by_cases e' : u = s.onto t
            · subst e'; simpa [e] using hi
            · simpa [e'] using hi
          have := hI.stkO u hu i hiu
          simpa [opn, e] using this
      stkS := by
        intro u hu
        by_cases e : u = s.onto t
        · subst e
          simp only [if_true]
          rw [List.pairwise_append]
          exact ⟨hI.stkS _ hon, by simp, fun x hx y hy => by simp at hy; subst hy; exact hlast x hx⟩
        · simpa [e] using hI.stkS u hu
      stkE := by
        intro i hi
        by_cases e : i = c
        · exact ⟨s.onto t, hon, by simp [e]⟩
        · have ho : s.opn i = true := by simpa [opn, e] using hi
          obtain ⟨u, hu, hm⟩ := hI.stkE i ho
          refine ⟨u, hu, ?_⟩
          by_cases e' : u = s.onto t
          · subst e'; simp [hm]
          · simpa [e'] using hm
      stkU := by
        intro u v i hu hv hiu hiv
        by_cases e : i = c
        · subst e
          have h1 : u = s.onto t := by
            by_cases e' : u = s.onto t
            · exact e'
            · exact absurd (by simpa [e'] using hiu) (hcs u hu)
          have h2 : v = s.onto t := by
            by_cases e' : v = s.onto t
            · exact e'
            · exact absurd (by simpa [e'] using hiv) (hcs v hv)
          rw [h1, h2]
        · refine hI.stkU u v i hu hv ?_ ?_
          · by_cases e' : u = s.onto t
            · subst e'; simpa [e] using hiu
            · simpa [e'] using hiu
          · by_cases e' : v = s.onto t
            · subst e'; simpa [e] using hiv
            · simpa [e'] using hiv
      cnt := by
        have h1 := filter_set (p := s.beg) (l := List.range s.n) List.nodup_range (List.mem_range.2 hcn) hcb
        have := hI.cnt
        show s.mov + 1 + 1 = _
        simp only
        rw [h1]
        omega }

/-- The greatest open node is on top of its stack, and its thread is ready. -/
theorem progress {s : G} (hI : s.Inv) (h0 : s.fin 0 = false) : ∃ t, s.rdy t = true := by
  -- the greatest open node
  have hex : ∃ m, s.opn m = true ∧ ∀ i, s.opn i = true → i ≤ m := by
    have key : ∀ k, (∀ i, s.opn i = true → i < k) → (∃ i, s.opn i = true) → ∃ m, s.opn m = true ∧ ∀ i, s.opn i = true → i ≤ m := by
      intro k
      induction k with
      | zero => intro h ⟨i, hi⟩; exact absurd (h i hi) (by omega)
      | succ k ih =>
        intro h hex
        by_cases hk : s.opn k = true
        · exact ⟨k, hk, fun i hi => by have := h i hi; omega⟩
        · refine ih (fun i hi => ?_) hex
          have := h i hi
          have : i ≠ k := fun e => hk (e ▸ hi)
          omega
    refine key s.n (fun i hi => hI.begN i ?_) ⟨0, by simp [opn, hI.beg0, h0]⟩
    simp [opn] at hi; exact hi.1
  obtain ⟨m, hm, hmax⟩ := hex
  obtain ⟨t, ht, hmt⟩ := hI.stkE m hm
  have hne : (s.stk t).isEmpty = false := by
    cases h : s.stk t with
    | nil => rw [h] at hmt; cases hmt
    | cons => rfl
  have htm : s.top t = m := by
    have h1 := hmax _ (hI.stkO t ht _ (top_mem hne))
    rcases mem_dropLast_or hmt with h | h
    · have hs := hI.stkS t ht
      rcases List.eq_nil_or_concat (s.stk t) with e | ⟨a, y, e⟩
      · rw [e] at hmt; cases hmt
      · rw [e] at hs h
        simp only [List.concat_eq_append, List.dropLast_concat] at h hs
        have h2 := (List.pairwise_append.1 hs).2.2 m h y (by simp)
        have h3 : s.top t = y := by unfold top; rw [e]; simp
        omega
    · exact h.symm
  refine ⟨t, ?_⟩
  have hmb : s.beg m = true := by simp [opn] at hm; exact hm.1
  unfold rdy
  rw [htm]
  cases hk : s.kid? m with
  | some c =>
    have := (nx_lt (s := s) (p := m)).2 (by rw [hk]; rfl)
    simp [ht, hne, this]
  | none =>
    have hou : s.ou m = 0 := by
      rw [ou_zero]
      intro c hc hkc
      cases ho : s.opn c with
      | false => rfl
      | true =>
        have := hmax c ho
        have := kid_lt hI.tree hc hkc
        omega
    simp [ht, hne, hou]

/-- If the root has ended, all have. -/
theorem all_fin {s : G} (hI : s.Inv) (h0 : s.fin 0 = true) : ∀ i, i < s.n → s.fin i = true := by
  intro i
  induction i using Nat.strongRecOn with
  | ind i ih =>
    intro hi
    by_cases e : i = 0
    · subst e; exact h0
    · have hp := hI.tree.par i (by omega) hi
      obtain ⟨p, hpp⟩ := Int.eq_ofNat_of_zero_le hp.1
      have hlt : p < i := by omega
      refine hI.finC i p hi ?_ (ih p hlt (by omega))
      simp [kid, hpp]; omega

theorem cnt_le (s : G) (p : Nat → Bool) : ((List.range s.n).filter p).length ≤ s.n := by
  have := List.length_filter_le p (List.range s.n); simpa using this

theorem mov_le {s : G} (hI : s.Inv) : s.mov + 1 ≤ 2 * s.n := by
  have := hI.cnt; have := s.cnt_le s.beg; have := s.cnt_le s.fin; omega

/-- Done, just if so many moves were made. -/
theorem done_iff {s : G} (hI : s.Inv) : s.fin 0 = true ↔ s.mov + 1 = 2 * s.n := by
  constructor
  · intro h
    have hf : (List.range s.n).filter s.fin = List.range s.n := by
      rw [List.filter_eq_self]; intro i hi; exact all_fin hI h i (by simpa using hi)
    have hb : (List.range s.n).filter s.beg = List.range s.n := by
      rw [List.filter_eq_self]; intro i hi; exact hI.finB i (all_fin hI h i (by simpa using hi))
    have := hI.cnt
    rw [hf, hb] at this
    simp at this; omega
  · intro h
    have := hI.cnt; have h1 := s.cnt_le s.beg; have h2 := s.cnt_le s.fin
    have h3 : ((List.range s.n).filter s.fin).length = (List.range s.n).length := by simp; omega
    have h4 := List.length_filter_eq_length_iff.1 h3
    have := hI.tree.pos
    exact h4 0 (by simp; omega)

/-- When it is done nobody is alive, nothing is open. -/
theorem done_stk {s : G} (hI : s.Inv) (h : s.fin 0 = true) : ∀ t, t < s.T → s.stk t = [] := by
  intro t ht
  cases e : s.stk t with
  | nil => rfl
  | cons x l =>
    have := hI.stkO t ht x (by simp [e])
    have hx : s.beg x = true := by simp [opn] at this; exact this.1
    have := all_fin hI h x (hI.begN x hx)
    simp_all [opn]

theorem rdy_lt {s : G} {t : Nat} (h : s.rdy t = true) : t < s.T := (rdy_spec h).1

theorem readies_nil {s : G} (hI : s.Inv) : s.readies = [] ↔ s.fin 0 = true := by
  unfold readies
  rw [List.filter_eq_nil_iff]
  constructor
  · intro h
    cases h0 : s.fin 0 with
    | true => rfl
    | false =>
      obtain ⟨t, ht⟩ := progress hI h0
      exact absurd ht (by simpa using h t (by simpa using rdy_lt ht))
  · intro h t ht
    have := done_stk hI h t (by simpa using ht)
    simp [rdy, this]

theorem step_n (s : G) (t : Nat) : (s.step t).n = s.n := by unfold step; split <;> rfl
theorem step_T (s : G) (t : Nat) : (s.step t).T = s.T := by unfold step; split <;> rfl
theorem step_par (s : G) (t : Nat) : (s.step t).par = s.par := by unfold step; split <;> rfl
theorem step_mov (s : G) (t : Nat) : (s.step t).mov = s.mov + 1 := by unfold step; split <;> rfl

theorem alive_le {s : G} : s.alive + 1 ≤ s.T ∨ s.T = 0 := by
  by_cases h : s.T = 0
  · exact .inr h
  · left
    unfold alive
    obtain ⟨k, hk⟩ : ∃ k, s.T = k + 1 := ⟨s.T - 1, by omega⟩
    rw [hk]
    rw [List.range_succ_eq_map, List.filter_cons]
    simp only [Nat.lt_irrefl, decide_false, Bool.false_and, if_false, Bool.false_eq_true]
    have := List.length_filter_le (fun t => decide (0 < t) && !(s.stk t).isEmpty) (List.map Nat.succ (List.range k))
    simp at this
    omega

theorem sorted_len : ∀ (n : Nat) {l : List Nat}, l.Pairwise (· < ·) → (∀ i ∈ l, i < n) → l.length ≤ n := by
  intro n
  induction n with
  | zero =>
    intro l _ h
    cases l with
    | nil => simp
    | cons x l => exact absurd (h x (by simp)) (by omega)
  | succ n ih =>
    intro l hs h
    rcases List.eq_nil_or_concat l with rfl | ⟨a, x, rfl⟩
    · simp
    · simp only [List.concat_eq_append] at hs h ⊢
      have h1 := List.pairwise_append.1 hs
      have := ih h1.1 (fun i hi => by
        have := h1.2.2 i hi x (by simp)
        have := h x (by simp)
        omega)
      simp; omega

theorem stk_len {s : G} (hI : s.Inv) {t : Nat} (ht : t < s.T) : (s.stk t).length ≤ s.n :=
  sorted_len s.n (hI.stkS t ht) fun i hi => by
    have := hI.stkO t ht i hi
    simp [opn] at this
    exact hI.begN i this.1

theorem top_lt {s : G} (hI : s.Inv) {t : Nat} (ht : t < s.T) (hne : (s.stk t).isEmpty = false) : s.top t < s.n := by
  have := hI.stkO t ht _ (top_mem hne)
  simp [opn] at this
  exact hI.begN _ this.1

end G
end Go.Proofs.Ytlncdkdkoamadaa
